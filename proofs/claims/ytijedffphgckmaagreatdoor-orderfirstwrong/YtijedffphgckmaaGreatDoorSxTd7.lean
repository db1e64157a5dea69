/-
  Walks: Td7, Ud4, Oq8, Ue0, Oq9, Or1, Or2, Or7, Ue1: what single functions of the program compute.
-/
import Derived.Test.YtijedffphgckmaaGreatDoorSxTd6
import Derived.Test.YtijedffphgckmaaGreatDoorSxUc2
import Derived.Test.YtijedffphgckmaaGreatDoorSxUd1
import Derived.Test.YtijedffphgckmaaGreatDoorSxUa7
set_option linter.unusedVariables false
set_option linter.unusedSimpArgs false
namespace Go.SX
open Go.Proofs
set_option maxHeartbeats 4000000
set_option maxRecDepth 100000
theorem rgoals : ∀ (j : Nat), j ≤ 3 → ∀ (x : List A5), (∀ y ∈ x, A5OK y) → (x.length : Int) ≤ 9223372036854775807 → ∀ (at_ most : Int), 0 ≤ at_ → at_ + most ≤ 1000 → 1 ≤ most → most ≤ 9 →
    Meets Tryz.prog Dc 60 [a5S x, iS at_, iS (4 - j), iS most] [] (.tuple [goalA (goalsS j x at_ most).1, iS (goalsS j x at_ most).2.1, iS (goalsS j x at_ most).2.2]) []
  | 0, hj, x, hx, hxl, at_, most, h1, h2, h3, h4 => by
    rw [goalsS]
    exact rgoals1 x hx hxl (4 - ((0 : Nat) : Int)) at_ most (by omega) (by omega) (by omega) (.inl (by omega))
  | j + 1, hj, x, hx, hxl, at_, most, h1, h2, h3, h4 => by
    have hb := pickS_bd (c := (y5 x at_).a.tdiv 144) (n := 6) (by omega)
    by_cases hc : j + 1 = 0 ∨ most < 2 ∨ (x.length : Int) ≤ at_ + 1 ∨ (5 ≤ 1 + pickS ((y5 x at_).a.tdiv 144) 6 ∧ most < 3)
    · have hk : kindS (j + 1) x at_ most = 1 := by unfold kindS; rw [if_pos hc]
      rw [goalsS]
      dsimp only
      rw [hk, if_neg (by omega), if_neg (by omega), if_neg (by omega), if_neg (by omega)]
      exact rgoals1 x hx hxl (4 - ((j + 1 : Nat) : Int)) at_ most (by omega) (by omega) (by omega) (by omega)
    · have hk : kindS (j + 1) x at_ most = 1 + pickS ((y5 x at_).a.tdiv 144) 6 := by unfold kindS; rw [if_neg hc]
      have hlen : at_ + 1 < x.length := by omega
      have e1 : y5 x at_ = x.getD at_.toNat (Cd.dflt U.arr5) := y5_in h1 (by omega)
      have e2 : y5 x (at_ + 1) = x.getD (at_ + 1).toNat (Cd.dflt U.arr5) := y5_in (by omega) hlen
      rw [goalsS]
      dsimp only
      rw [hk]
      by_cases h0 : 1 + pickS ((y5 x at_).a.tdiv 144) 6 = 1
      · rw [h0, if_neg (by omega), if_neg (by omega), if_neg (by omega), if_neg (by omega)]
        exact rgoals1 x hx hxl (4 - ((j + 1 : Nat) : Int)) at_ most (by omega) (by omega) (by omega) (by omega)
      · rw [e1] at hb h0 hc ⊢
        rw [e2]
        by_cases h5 : 5 ≤ 1 + pickS ((x.getD at_.toNat (Cd.dflt U.arr5)).a.tdiv 144) 6
        · rw [if_neg (by omega), if_neg (by omega), if_neg (by omega), if_pos (by omega)]
          exact rgoals5 j x hx hxl (4 - ((j + 1 : Nat) : Int)) at_ most (by omega) (by omega) (by omega) hlen (goalsS j x) (fun a m q1 q2 q3 q4 => by
            have := rgoals j (by omega) x hx hxl a m q1 q2 q3 q4
            rw [show 4 - ((j + 1 : Nat) : Int) + 1 = 4 - (j : Int) by omega]
            exact this) (fun a m q1 _ _ => goals_ok j x a m (by omega) q1) (by omega)
        · rcases (show 1 + pickS ((x.getD at_.toNat (Cd.dflt U.arr5)).a.tdiv 144) 6 = 2 ∨ 1 + pickS ((x.getD at_.toNat (Cd.dflt U.arr5)).a.tdiv 144) 6 = 3 ∨ 1 + pickS ((x.getD at_.toNat (Cd.dflt U.arr5)).a.tdiv 144) 6 = 4 by omega) with e | e | e
          · have := rgoals2 x hx hxl (4 - ((j + 1 : Nat) : Int)) at_ most (by omega) (by omega) (by omega) (by omega) hlen 2 (by omega) e _ rfl
            rw [if_pos rfl, e] at this
            rw [if_pos e]
            exact this
          · have := rgoals2 x hx hxl (4 - ((j + 1 : Nat) : Int)) at_ most (by omega) (by omega) (by omega) (by omega) hlen 3 (by omega) e _ rfl
            rw [if_neg (by omega), if_pos rfl, e] at this
            rw [if_neg (by omega), if_pos e]
            exact this
          · have := rgoals2 x hx hxl (4 - ((j + 1 : Nat) : Int)) at_ most (by omega) (by omega) (by omega) (by omega) hlen 4 (by omega) e _ rfl
            rw [if_neg (by omega), if_neg (by omega), e] at this
            rw [if_neg (by omega), if_neg (by omega), if_pos e]
            exact this
theorem rGoal (x : List A5) (hx : ∀ y ∈ x, A5OK y) (hxl : (x.length : Int) ≤ 9223372036854775807) : Meets Tryz.prog Dc 32 [a5S x] [] (goalA (goalS x)) [] := by
 have h : Meets Tryz.prog Dc 60 [a5S x, iS 0, iS 1, iS 9] [] (.tuple [goalA (goalsS 3 x 0 9).1, iS (goalsS 3 x 0 9).2.1, iS (goalsS 3 x 0 9).2.2]) [] := rgoals 3 (by omega) x hx hxl 0 9 (by omega) (by omega) (by omega) (by omega)
 unfold goalS
 generalize goalsS 3 x 0 9 = q at h ⊢
 refine meets_of_gx Ax tab_ok Tryz.func32 (c := _) rfl Tryz.call32 100 ?_
 (repeat' ((conv => whnf); first | (exfalso; omega) | refine cpC (h) ?_ | refine dpC (h) ?_ | refine x0C ?_ | refine spC (fun hb => ?_) fun hb => ?_ | refine nilC (fun hb => ?_) ?_ | refine taC ?_ | refine saC ?_ | exact sdV | refine side_and ?_ ?_ | refine drawX_of mixed ?_))
 all_goals exact vwV
@[reducible] def gS (l : List Goal) : SV Cd := .p (.dsl U.goal l)
theorem rshots0 : ∀ (j : Nat) (g : Goal) (d n : Int), 5 - d ≤ j → sizeG g d = some n → n ≤ 1000 → GAll g → Meets Tryz.prog Dc 48 [goalA g] [] (gS (seesG g)) [] := by
 intro j
 induction j with
 | zero =>
  intro g d n h1 hs
  have := (size_ok hs).2.1
  omega
 | succ j ih =>
  intro g d n h1 hs hn hG
  obtain ⟨hok, hd, m, hL, rfl⟩ := size_ok hs
  obtain ⟨hgl, hgk⟩ := (GAll_iff g).1 hG
  rw [seesG_eq]
  by_cases hk : g.kind = 1
  ·rw [if_pos hk]
   rw [show [g] = [etaG g] from by rw [etaG_eq]]
   refine meets_of_gx Ax tab_ok Tryz.func48 (c := _) rfl Tryz.call48 200 ?_
   (repeat' ((conv => whnf); first | (exfalso; omega) | refine x0C ?_ | refine spC (fun hb => ?_) fun hb => ?_ | refine nilC (fun hb => ?_) ?_ | refine taC ?_ | refine saC ?_ | exact sdV | refine side_and ?_ ?_ | refine drawX_of mixed ?_))
   all_goals exact vwV
  ·rw [if_neg hk]
   have hkk := hgl.kids
   refine meets_of_gx Ax tab_ok Tryz.func48 (c := _) rfl Tryz.call48 200 ?_
   (repeat' ((conv => whnf); first | (exfalso; omega) | refine x0C ?_ | refine spC (fun hb => ?_) fun hb => ?_ | refine nilC (fun hb => ?_) ?_ | refine taC ?_ | refine saC ?_ | exact sdV | refine side_and ?_ ?_ | refine drawX_of mixed ?_))
   have hkl : (g.kids.length : Int) ≤ m := by
    have key : ∀ (l : List Goal) (d m : Int), sizeL l d = some m → (l.length : Int) ≤ m := by
     intro l
     induction l with
     | nil => intro d m h; rw [sizeL] at h; injection h with h; simp; omega
     | cons a l ihl =>
      intro d m h
      rw [sizeL] at h
      split at h
      ·cases h
      ·rename_i x hx
       split at h
       ·cases h
       ·rename_i y hy
        injection h with h
        have := ihl d y hy
        have := size_pos hx
        simp; omega
    exact key _ _ _ hL
   refine loop_upT [some 0, none] (fun q : Nat × List Goal => [(3, .slice 1 0 12 0 q.2.length), (4, iS q.1)]) (fun q => [(1, .rows U.goal q.2)]) (fun q => q.1 ≤ g.kids.length ∧ q.2 = seesL (g.kids.take q.1) ∧ (q.2.length : Int) ≤ 1000) (fun q => g.kids.length - q.1) (0, []) ⟨Nat.zero_le _, by simp [seesL], by simp⟩ (by exact bkI) ?_
   rintro ⟨i, J⟩ ⟨hi, hJ, hJl⟩ K hK
   dsimp only at hi hJ hJl hK ⊢
   rcases Nat.lt_or_ge i g.kids.length with hlt | hge
   ·have hgi := getD_some (d := Cd.dflt U.goal) hlt
    have hkm := List.mem_of_getElem? hgi
    obtain ⟨a, ha, ha2⟩ := sizeL_mem4 hL hkm
    have hx := ih _ (d + 1) a (by omega) ha (by omega) (GAllL_mem hgk hkm)
    have hW : List.take J.length J ++ seesG (g.kids.getD (i : Int).toNat (Cd.dflt U.goal)) = seesL (g.kids.take (i + 1)) := by
     rw [take_getD (d := Cd.dflt U.goal) hlt, seesL_snoc, ← hJ, List.take_length]; rfl
    obtain ⟨b, hb1, hb2⟩ := sizeL_take (i + 1) hL
    have hWl : ((List.take J.length J ++ seesG (g.kids.getD (i : Int).toNat (Cd.dflt U.goal))).length : Int) ≤ 1000 := by
     rw [hW]
     have := (seesL_ok _ _ _ hb1).1
     omega
    have hsl := (seesG_ok _ _ _ ha).1
    have hsl2 := hsl
    simp at hsl2
    (repeat' ((conv => whnf); first | (exfalso; omega) | refine cpC (hx) ?_ | refine dpC (hx) ?_ | refine hK (i + 1, List.take J.length J ++ seesG (g.kids.getD (i : Int).toNat (Cd.dflt U.goal))) [some 0, some 2] _ _ ⟨⟨by dsimp only; omega, hW, hWl⟩⟩ ⟨by dsimp only; omega⟩ (by exact bkI) | refine x0C ?_ | refine spC (fun hb => ?_) fun hb => ?_ | refine nilC (fun hb => ?_) ?_ | refine taC ?_ | refine saC ?_ | exact sdV | refine side_and ?_ ?_ | refine drawX_of mixed ?_))
   ·rw [List.take_of_length_le hge] at hJ
    rw [← hJ]
    (repeat' ((conv => whnf); first | (exfalso; omega) | refine x0C ?_ | refine spC (fun hb => ?_) fun hb => ?_ | refine nilC (fun hb => ?_) ?_ | refine taC ?_ | refine saC ?_ | exact sdV | refine side_and ?_ ?_ | refine drawX_of mixed ?_))
    all_goals exact vwV
theorem rShots (g : Goal) (hG : GAll g) : Meets Tryz.prog Dc 23 [goalA g] [] (gS (shotsS g)) [] := by
 have h1 := valid13 g hG
 unfold shotsS
 cases hv : validG g with
 | false =>
  rw [hv] at h1
  refine meets_of_gx Ax tab_ok Tryz.func23 (c := _) rfl Tryz.call23 100 ?_
  (repeat' ((conv => whnf); first | (exfalso; omega) | refine cpC (h1) ?_ | refine dpC (h1) ?_ | refine x0C ?_ | refine spC (fun hb => ?_) fun hb => ?_ | refine nilC (fun hb => ?_) ?_ | refine taC ?_ | refine saC ?_ | exact sdV | refine side_and ?_ ?_ | refine drawX_of mixed ?_))
  all_goals exact vwV
 | true =>
  rw [hv] at h1
  have h2 : Meets Tryz.prog Dc 48 [goalA g] [] (gS (seesG g)) [] := by
   unfold validG at hv
   split at hv
   ·cases hv
   ·rename_i n hn
    have : n ≤ 12 := by simpa using hv
    exact rshots0 4 g 1 n (by omega) hn (by omega) hG
  refine meets_of_gx Ax tab_ok Tryz.func23 (c := _) rfl Tryz.call23 100 ?_
  (repeat' ((conv => whnf); first | (exfalso; omega) | refine cpC (h1) ?_ | refine dpC (h1) ?_ | refine cpC (h2) ?_ | refine dpC (h2) ?_ | refine x0C ?_ | refine spC (fun hb => ?_) fun hb => ?_ | refine nilC (fun hb => ?_) ?_ | refine taC ?_ | refine saC ?_ | exact sdV | refine side_and ?_ ?_ | refine drawX_of mixed ?_))
  all_goals exact vwV
mutual
theorem size_gall : ∀ (g : Goal) (d n : Int), sizeG g d = some n → GAll g
 | ⟨kind, rows, from_, to_, low, high, clear, days, times, within, cents, kids⟩, d, n, hs => by
  have hL := sizeL_gall kids
  obtain ⟨hok, hd, m, hm, rfl⟩ := size_ok hs
  rw [GAll_iff]
  refine ⟨?_, hL _ _ hm⟩
  unfold okB at hok
  simp only [Bool.and_eq_true] at hok
  obtain ⟨⟨⟨h1, h2⟩, h3⟩, h4⟩ := hok
  unfold partsB at h4
  simp only [Bool.and_eq_true, Bool.or_eq_true, decide_eq_true_eq] at h4
  obtain ⟨⟨⟨h5, h6⟩, h7⟩, h8⟩ := h4
  have hk : (kids.length : Int) ≤ 4 := by
   unfold manyB at h5
   split at h5
   ·simp only [decide_eq_true_eq] at h5; (try dsimp only at h5); omega
   ·split at h5
    ·rw [inB_iff] at h5; exact h5.2
    ·simp only [decide_eq_true_eq] at h5; (try dsimp only at h5); omega
  have hc : (cents.length : Int) ≤ 4 := by
   unfold centsB at h6
   split at h6
   ·simp only [Bool.and_eq_true, decide_eq_true_eq] at h6; (try dsimp only at h6); omega
   ·simp only [decide_eq_true_eq] at h6; (try dsimp only at h6); omega
  have hr : (rows.length : Int) ≤ 24 := by
   rcases h7 with h7 | h7
   ·unfold limB at h3
    rw [if_pos h7] at h3
    simp only [Bool.and_eq_true] at h3
    have ha := h3.1.1.1.1.1
    unfold areaB at ha
    simp only [Bool.and_eq_true, decide_eq_true_eq] at ha
    try dsimp only at ha
    omega
   ·(try dsimp only at h7); omega
  exact ⟨by dsimp only; omega, by dsimp only; omega, by dsimp only; omega⟩
theorem sizeL_gall : ∀ (l : List Goal) (d n : Int), sizeL l d = some n → GAllL l
 | [], d, n, hs => by rw [GAllL]; trivial
 | k :: l, d, n, hs => by
  rw [sizeL] at hs
  rw [GAllL]
  split at hs
  ·cases hs
  ·rename_i m hm
   split at hs
   ·cases hs
   ·rename_i q hq
    exact ⟨size_gall k d m hm, sizeL_gall l d q hq⟩
end
theorem valid_gall {g : Goal} (h : validG g = true) : GAll g := by
 unfold validG at h
 split at h
 ·cases h
 ·rename_i n hn
  exact size_gall g 1 n hn
theorem lroom (x y : List A5) (hx : ∀ z ∈ x, A5OK z) (hxl : (x.length : Int) ≤ 9223372036854775807) (hy : ∀ z ∈ y, A5OK z) (hyl : (y.length : Int) ≤ 9223372036854775807) : Meets Tryz.prog Dc 9 [a5S x, a5S y] [] (bS true) [] := by
 have ga := rGoal x hx hxl
 have gb := rGoal y hy hyl
 have va := goal_valid x
 have vb := goal_valid y
 generalize goalS x = a at *
 generalize goalS y = b at *
 obtain ⟨r1, r2⟩ := room_law a b va vb
 have ha := valid_gall va
 have hb := valid_gall vb
 obtain ⟨_, da1, ma1⟩ := (valid_law a).1 va
 obtain ⟨_, db1, mb1⟩ := (valid_law b).1 vb
 have pa := deepG_one a
 have pb := deepG_one b
 have na := manyG_pos a
 have nb := manyG_pos b
 have k1 := lmany _ a (Nat.le_refl _) (by omega)
 have k2 := lmany _ b (Nat.le_refl _) (by omega)
 have k3 := ldeep _ a (Nat.le_refl _) (by omega) ha
 have k4 := ldeep _ b (Nat.le_refl _) (by omega) hb
 have c1 := valid_meets a ha
 have c2 := valid_meets b hb
 rw [va] at c1
 rw [vb] at c2
 have gl : GAllL [a, b] := by simp [GAllL, ha, hb]
 have gl2 : GAllL [b, a] := by simp [GAllL, ha, hb]
 have c3 := valid_meets (allOf a b) (by rw [GAll_iff]; exact ⟨⟨by show (0 : Int) ≤ _; decide, by show (0 : Int) ≤ _; decide, by show (2 : Int) ≤ _; decide⟩, gl⟩)
 have c4 := valid_meets (anyOf a b) (by rw [GAll_iff]; exact ⟨⟨by show (0 : Int) ≤ _; decide, by show (2 : Int) ≤ _; decide, by show (2 : Int) ≤ _; decide⟩, gl2⟩)
 rw [r1] at c3
 rw [r2] at c4
 clear r1 r2 va vb ha hb gl gl2
 have hs := lsane
 have hmx : max (deepG a) (deepG b) ≤ 4 := by omega
 generalize manyG a = ma at *
 generalize manyG b = mb at *
 generalize deepG a = da at *
 generalize deepG b = db at *
 by_cases h1 : ma + mb ≤ 11 <;> by_cases h2 : max da db ≤ 3 <;> simp only [h1, h2, decide_true, decide_false, Bool.and_true, Bool.true_and, Bool.and_false, Bool.false_and] at c3 c4
 all_goals refine meets_of_gx Ax tab_ok Tryz.func9 (c := _) rfl Tryz.call9 400 ?_
 all_goals (repeat' ((conv => whnf); first | refine cpC (hs) ?_ | refine dpC (hs) ?_ | refine cpC (ga) ?_ | refine dpC (ga) ?_ | refine cpC (gb) ?_ | refine dpC (gb) ?_ | refine cpC (k1) ?_ | refine dpC (k1) ?_ | refine cpC (k2) ?_ | refine dpC (k2) ?_ | refine cpC (k3) ?_ | refine dpC (k3) ?_ | refine cpC (k4) ?_ | refine dpC (k4) ?_ | refine cpC (c1) ?_ | refine dpC (c1) ?_ | refine cpC (c2) ?_ | refine dpC (c2) ?_ | (refine rdC c3 ?_ (by first | ((refine ⟨?_⟩; (repeat' (first | exact trivial | exact rfl | refine And.intro ?_ ?_ | exact fzV | exact fzV rfl rfl rfl (by simp) (by simp [eta_goal, allOf, anyOf]; done) rfl)); done)) | fail) rfl) | (refine rdC c4 ?_ (by first | ((refine ⟨?_⟩; (repeat' (first | exact trivial | exact rfl | refine And.intro ?_ ?_ | exact fzV | exact fzV rfl rfl rfl (by simp) (by simp [eta_goal, allOf, anyOf]; done) rfl)); done)) | fail) rfl) | (exfalso; omega) | (refine end_fn [] (.inr rfl) ?_ ?_ rfl rfl; (focus exact vwV); exact hsV) | refine x0C ?_ | refine spC (fun hb => ?_) fun hb => ?_ | refine nilC (fun hb => ?_) ?_ | refine taC ?_ | refine saC ?_ | exact sdV | refine side_and ?_ ?_ | refine drawX_of mixed ?_))
 all_goals first | (rw [decide_eq_true h2] at hb; exact absurd hb (by decide)) | (rw [decide_eq_false h2] at hb; exact absurd hb (by decide)) | (rw [decide_eq_true h2]; exact vwV) | (rw [decide_eq_false h2]; exact vwV)
end Go.SX

/-
 Plain: the words of an order's text are those that were written.
-/
namespace Go.SX
def NB (l : List Wd) : Prop := ∀ w ∈ l, (32 : UInt8) ∉ w
theorem NB.nil : NB [] := fun w h => by cases h
theorem NB.cons {w : Wd} {l : List Wd} (h : (32 : UInt8) ∉ w) (hl : NB l) : NB (w :: l) := fun x hx => by
 rcases List.mem_cons.1 hx with rfl | hx
 ·exact h
 ·exact hl x hx
theorem NB.app {a b : List Wd} (h : NB a) (h' : NB b) : NB (a ++ b) := fun x hx => by
 rcases List.mem_append.1 hx with hx | hx
 ·exact h x hx
 ·exact h' x hx
theorem splitW_app : ∀ (w t : Wd), (32 : UInt8) ∉ w → splitW (w ++ 32 :: t) = w :: splitW t
 | [], t, _ => by rw [List.nil_append, splitW, if_pos rfl]
 | c :: w, t, h => by
  have hc : c ≠ 32 := fun e => h (by simp [e])
  rw [List.cons_append, splitW, if_neg hc, splitW_app w t (fun h2 => h (List.mem_cons_of_mem _ h2))]
theorem splitW_self : ∀ w : Wd, (32 : UInt8) ∉ w → splitW w = [w]
 | [], _ => rfl
 | c :: w, h => by
  have hc : c ≠ 32 := fun e => h (by simp [e])
  rw [splitW, if_neg hc, splitW_self w (fun h2 => h (List.mem_cons_of_mem _ h2))]
theorem splitW_joinTail : ∀ (l : List Wd) (w : Wd), NB (w :: l) → splitW (w ++ Go.Lib.joinTail [32] l) = w :: l
 | [], w, h => by
  show splitW (w ++ []) = [w]
  rw [List.append_nil]
  exact splitW_self w (h w (by simp))
 | x :: l, w, h => by
  show splitW (w ++ 32 :: (x ++ Go.Lib.joinTail [32] l)) = _
  rw [splitW_app w _ (h w (by simp)), splitW_joinTail l x fun y hy => h y (List.mem_cons_of_mem _ hy)]
theorem itoaF_nb : ∀ f n : Nat, (32 : UInt8) ∉ itoaF f n
 | 0, n => by simp [itoaF]
 | f + 1, n => by
  have hd : ∀ k : Nat, k < 10 → (32 : UInt8) ≠ UInt8.ofNat (48 + k) := by decide
  unfold itoaF
  split
  ·rename_i h
   simp only [List.mem_singleton]
   exact hd n h
  ·simp only [List.mem_append, List.mem_singleton, not_or]
   exact ⟨itoaF_nb f _, hd _ (Nat.mod_lt _ (by omega))⟩
theorem itoaW_nb (n : Int) : (32 : UInt8) ∉ itoaW n := by
 unfold itoaW
 split
 ·simp only [List.mem_cons, not_or]; exact ⟨by decide, itoaF_nb _ _⟩
 ·exact itoaF_nb _ _
theorem runW_nb (y : Nat) (p : Nat × Nat) : NB (runW y p) := .cons (by decide) (.cons (itoaW_nb _) (.cons (itoaW_nb _) (.cons (itoaW_nb _) .nil)))
theorem flat_nb {α : Type} (f : α → List Wd) (h : ∀ a, NB (f a)) : ∀ l : List α, NB (l.flatMap f)
 | [] => .nil
 | a :: l => by rw [List.flatMap_cons]; exact (h a).app (flat_nb f h l)
theorem rowsW_nb : ∀ (y : Nat) (l : List Int), NB (rowsW y l)
 | _, [] => .nil
 | y, r :: l => (flat_nb _ (runW_nb y) _).app (rowsW_nb (y + 1) l)
theorem seeW_nb (g : Goal) : NB (seeW g) := by
 unfold seeW
 refine .app (.cons (by decide) (rowsW_nb _ _)) (.cons (by decide) (.cons (itoaW_nb _) (.cons (by decide) (.cons (itoaW_nb _) (.cons (by decide) (.cons (itoaW_nb _) (.cons (by decide) (.cons (itoaW_nb _) (.cons ?_ .nil)))))))))
 split <;> decide
theorem headW_nb (g : Goal) : NB (headW g) := by
 unfold headW
 split
 ·exact .cons (by decide) (.cons (by decide) (.cons (itoaW_nb _) (.cons (by decide) (.cons (itoaW_nb _) (.cons (by decide) .nil)))))
 ·split
  ·exact .cons (by decide) (.cons (itoaW_nb _) (.cons (by decide) (.cons (itoaW_nb _) (.cons (by decide) (.cons (by decide) (.cons (itoaW_nb _) (.cons (by decide) (.cons (itoaW_nb _) (.cons (by decide) .nil)))))))))
  ·exact .cons (by decide) (.cons (by decide) (.cons (itoaW_nb _) (.cons (by decide) .nil)))
mutual
theorem goalW_nb : ∀ g : Goal, NB (goalW g)
 | ⟨kind, rows, from_, to_, low, high, clear, days, times, within, cents, kids⟩ => by
  rw [goalW]
  split
  ·exact seeW_nb _
  ·split
   ·exact (headW_nb _).app (firstW_nb kids)
   ·refine .app (.app (.cons ?_ (.cons (by decide) .nil)) (kidsW_nb _ _ _ kids)) (.cons (by decide) .nil)
    split <;> decide
theorem firstW_nb : ∀ l : List Goal, NB (firstW l)
 | [] => .nil
 | k :: _ => by rw [firstW]; exact goalW_nb k
theorem kidsW_nb : ∀ (any first : Bool) (cents : List Int) (l : List Goal), NB (kidsW any first cents l)
 | _, _, _, [] => by rw [kidsW]; exact .nil
 | any, first, cents, k :: l => by
  rw [kidsW]
  refine .app (.app (.app ?_ ?_) (goalW_nb k)) (kidsW_nb _ _ _ l)
  ·split
   ·exact .nil
   ·exact .cons (by decide) .nil
  ·split
   ·exact .cons (itoaW_nb _) .nil
   ·exact .nil
end
/-- the words ahead of the goal -/
def frontW (o : Order) : List Wd := [w_order, itoaW o.id, w_by, itoaW o.owner, w_for, itoaW o.price, w_group, if o.group < 0 then w_none else itoaW o.group, if o.urgent then w_urgent else w_plain, w_known, itoaW o.known, w_due, itoaW o.due, w_colon]
theorem frontW_len (o : Order) : (frontW o).length = 14 := rfl
theorem orderW_eq (o : Order) : orderW o = frontW o ++ goalW o.goal ++ [w_dot] := rfl
theorem frontW_nb (o : Order) : NB (frontW o) := by
 unfold frontW
 refine .cons (by decide) (.cons (itoaW_nb _) (.cons (by decide) (.cons (itoaW_nb _) (.cons (by decide) (.cons (itoaW_nb _) (.cons (by decide) (.cons ?_ (.cons ?_ (.cons (by decide) (.cons (itoaW_nb _) (.cons (by decide) (.cons (itoaW_nb _) (.cons (by decide) .nil)))))))))))))
 ·split
  ·decide
  ·exact itoaW_nb _
 ·split <;> decide
theorem orderW_nb (o : Order) : NB (orderW o) := by
 rw [orderW_eq]
 exact .app (.app (frontW_nb o) (goalW_nb _)) (.cons (by decide) .nil)
theorem tokens_join (o : Order) : tokensW (joinW (orderW o)) = orderW o := by
 have hnb := orderW_nb o
 obtain ⟨l, hl⟩ : ∃ l, orderW o = w_order :: l := ⟨_, rfl⟩
 rw [hl] at hnb ⊢
 have e : joinW (w_order :: l) = w_order ++ Go.Lib.joinTail [32] l := Go.Lib.join_cons _ _ _
 have hne : joinW (w_order :: l) ≠ [] := by rw [e]; simp
 unfold tokensW
 rw [if_neg hne, e, splitW_joinTail l _ hnb]
theorem tokens_print {o : Order} (h : ordB o = true) : tokensW (printS o).1 = orderW o ∧ (printS o).2 = 0 := by
 have e : printS o = (joinW (orderW o), 0) := by unfold printS; rw [h]; rfl
 rw [e]
 exact ⟨tokens_join o, rfl⟩
end Go.SX

namespace Go.SX
open Go.Proofs
set_option maxHeartbeats 4000000
set_option maxRecDepth 100000
theorem lstrings (a b : List Wd) (ha : (a.length : Int) ≤ 1000000) (hb : (b.length : Int) ≤ 1000000) : Meets Tryz.prog Dc 27 [wsS a, wsS b] [] (bS (decide (a = b))) [] := by
 by_cases hlen : a.length = b.length
 rotate_left
 ·rw [decide_eq_false (fun e => hlen (by rw [e]))]
  refine meets_of_gx Ax tab_ok Tryz.func27 (c := _) rfl Tryz.call27 100 ?_
  (repeat' ((conv => whnf); first | refine x0C (eB ?_ rfl) | (exfalso; omega) | refine x0C ?_ | refine spC (fun hb => ?_) fun hb => ?_ | refine nilC (fun hb => ?_) ?_ | refine taC ?_ | refine saC ?_ | exact sdV | refine side_and ?_ ?_ | refine drawX_of mixed ?_))
  all_goals rfl
 ·refine meets_of_gx Ax tab_ok Tryz.func27 (c := _) rfl Tryz.call27 100 ?_
  (repeat' ((conv => whnf); first | (exfalso; omega) | refine x0C ?_ | refine spC (fun hb => ?_) fun hb => ?_ | refine nilC (fun hb => ?_) ?_ | refine taC ?_ | refine saC ?_ | exact sdV | refine side_and ?_ ?_ | refine drawX_of mixed ?_))
  refine loop_up (fun i : Nat => [(5, iS i)]) (fun _ => []) (fun i => i ≤ a.length ∧ a.take i = b.take i) (fun i => a.length - i) 0 ⟨Nat.zero_le _, by simp⟩ (by exact bkI) ?_
  rintro i ⟨hi, he⟩ K hK
  rcases Nat.lt_or_ge i a.length with hlt | hge
  ·have t1 := take_getD (d := Cd.dflt U.str) hlt
   have t2 := take_getD (d := Cd.dflt U.str) (show i < b.length by omega)
   have hs : a.getD (i : Int).toNat (Cd.dflt U.str) = b.getD (i : Int).toNat (Cd.dflt U.str) → a.take (i + 1) = b.take (i + 1) := fun h => by
    rw [t1, t2, he, show a.getD i (Cd.dflt U.str) = b.getD i (Cd.dflt U.str) from h]
   have hn : ¬ a.getD (i : Int).toNat (Cd.dflt U.str) = b.getD (i : Int).toNat (Cd.dflt U.str) → decide (a = b) = false := fun h => decide_eq_false fun e => h (by rw [e])
   (repeat' ((conv => whnf); first | refine x0C (eB ?_ rfl) | (exfalso; omega) | refine hK (i + 1) [] _ _ ⟨⟨by omega, hs (by assumption)⟩⟩ ⟨by omega⟩ (by exact bkI) | refine x0C ?_ | refine spC (fun hb => ?_) fun hb => ?_ | refine nilC (fun hb => ?_) ?_ | refine taC ?_ | refine saC ?_ | exact sdV | refine side_and ?_ ?_ | refine drawX_of mixed ?_))
   all_goals exact (hn (by assumption)).symm
  ·rw [List.take_of_length_le hge, List.take_of_length_le (by omega)] at he
   rw [decide_eq_true he]
   (repeat' ((conv => whnf); first | refine x0C (eB ?_ rfl) | (exfalso; omega) | refine x0C ?_ | refine spC (fun hb => ?_) fun hb => ?_ | refine nilC (fun hb => ?_) ?_ | refine taC ?_ | refine saC ?_ | exact sdV | refine side_and ?_ ?_ | refine drawX_of mixed ?_))
   all_goals rfl
def madeS (l : List Int) (y : List A5) : Order := ⟨pickS (l.getD 0 0) 20, pickS (l.getD 1 0) 5, goalS y, pickS (l.getD 2 0) 100000, pickS (l.getD 3 0) 5 - 1, decide (pickS (l.getD 4 0) 3 = 0), pickS (l.getD 5 0) 3000, pickS (l.getD 5 0) 3000 + 1 + pickS (l.getD 6 0) 9000⟩
theorem made_ord (l : List Int) (y : List A5) : ordB (madeS l y) = true := by
 rw [ordB_iff]
 have h := goal_valid y
 have h0 := pickS_bd (c := l.getD 0 0) (n := 20) (by omega)
 have h1 := pickS_bd (c := l.getD 1 0) (n := 5) (by omega)
 have h2 := pickS_bd (c := l.getD 2 0) (n := 100000) (by omega)
 have h3 := pickS_bd (c := l.getD 3 0) (n := 5) (by omega)
 have h5 := pickS_bd (c := l.getD 5 0) (n := 3000) (by omega)
 have h6 := pickS_bd (c := l.getD 6 0) (n := 9000) (by omega)
 unfold madeS
 exact ⟨by dsimp only; omega, by dsimp only; omega, by dsimp only; omega, by dsimp only; omega, by dsimp only; omega, by dsimp only; omega, h⟩
@[reducible] def a7A (l : List Int) : SV Cd := .agg [.arr U.int 7 l]
theorem lmade (l : List Int) (hl : l.length = 7) (hz : ∀ z ∈ l, I64 z) (y : List A5) (hy : ∀ z ∈ y, A5OK z) (hyl : (y.length : Int) ≤ 9223372036854775807) : Meets Tryz.prog Dc 11 [a7A l, a5S y] [] (ordA (madeS l y)) [] := by
 have hg := rGoal y hy hyl
 have hI : ∀ k, k < 7 → I64 (l.getD k 0) := fun k hk => hz _ (List.mem_of_getElem? (getD_some (d := (0 : Int)) (by omega)))
 have p0 := pick13 (l.getD 0 0) 20 (hI 0 (by omega)) (by omega)
 have p1 := pick13 (l.getD 1 0) 5 (hI 1 (by omega)) (by omega)
 have p2 := pick13 (l.getD 2 0) 100000 (hI 2 (by omega)) (by omega)
 have p3 := pick13 (l.getD 3 0) 5 (hI 3 (by omega)) (by omega)
 have p4 := pick13 (l.getD 4 0) 3 (hI 4 (by omega)) (by omega)
 have p5 := pick13 (l.getD 5 0) 3000 (hI 5 (by omega)) (by omega)
 have p6 := pick13 (l.getD 6 0) 9000 (hI 6 (by omega)) (by omega)
 have h3 := pickS_bd (c := l.getD 3 0) (n := 5) (by omega)
 have h5 := pickS_bd (c := l.getD 5 0) (n := 3000) (by omega)
 have h6 := pickS_bd (c := l.getD 6 0) (n := 9000) (by omega)
 unfold madeS
 clear hI hz
 refine meets_of_gx Ax tab_ok Tryz.func11 (c := _) rfl Tryz.call11 300 ?_
 (repeat' ((conv => whnf); first | (exfalso; omega) | refine cpC (p0) ?_ | refine dpC (p0) ?_ | refine cpC (p1) ?_ | refine dpC (p1) ?_ | refine cpC (p2) ?_ | refine dpC (p2) ?_ | refine cpC (p3) ?_ | refine dpC (p3) ?_ | refine cpC (p4) ?_ | refine dpC (p4) ?_ | refine cpC (p5) ?_ | refine dpC (p5) ?_ | refine cpC (p6) ?_ | refine dpC (p6) ?_ | refine cpC (hg) ?_ | refine dpC (hg) ?_ | (refine end_fn [] (.inr rfl) ?_ ?_ rfl rfl; (focus exact vwV); exact hsV) | refine x0C ?_ | refine spC (fun hb => ?_) fun hb => ?_ | refine nilC (fun hb => ?_) ?_ | refine taC ?_ | refine saC ?_ | exact sdV | refine side_and ?_ ?_ | refine drawX_of mixed ?_))
end Go.SX

/-
 Plain: the words of the parts of an order's goal stand in its words, one behind the other.
-/
namespace Go.SX
/-- from P on, the words of the goals stand in W, one behind the other, and a word is behind them -/
def Parts (W : List Wd) : Nat → List Goal → Prop
 | P, [] => P < W.length
 | P, k :: l => ∃ p, P ≤ p ∧ (W.drop p).take (goalW k).length = goalW k ∧ Parts W (p + (goalW k).length) l
theorem Parts.mono {W : List Wd} : ∀ (l : List Goal) {P Q : Nat}, Q ≤ P → Parts W P l → Parts W Q l
 | [], P, Q, h, h1 => by unfold Parts at *; omega
 | k :: l, P, Q, h, ⟨p, h1, h2, h3⟩ => ⟨p, by omega, h2, h3⟩
theorem Parts.lt {W : List Wd} : ∀ (l : List Goal) {P : Nat}, Parts W P l → P < W.length
 | [], P, h => h
 | k :: l, P, ⟨p, h1, h2, h3⟩ => by have := Parts.lt l h3; omega
theorem parts_kids (c : Wd) : ∀ (l : List Goal) (any first : Bool) (cents : List Int) (A B : List Wd), Parts (A ++ kidsW any first cents l ++ (c :: B)) A.length l
 | [], any, first, cents, A, B => by
  unfold Parts
  rw [kidsW]; simp
 | k :: l, any, first, cents, A, B => by
  rw [kidsW]
  obtain ⟨X, hX⟩ : ∃ X, X = (if first then [] else [w_comma]) ++ (if any then [itoaW (cents.headD 0)] else []) := ⟨_, rfl⟩
  rw [← hX]
  have e : A ++ (X ++ goalW k ++ kidsW any false cents.tail l) ++ (c :: B) = (A ++ X ++ goalW k) ++ kidsW any false cents.tail l ++ (c :: B) := by simp only [List.append_assoc]
  rw [e]
  refine ⟨(A ++ X).length, by simp, ?_, ?_⟩
  ·rw [show A ++ X ++ goalW k ++ kidsW any false cents.tail l ++ (c :: B) = (A ++ X) ++ (goalW k ++ (kidsW any false cents.tail l ++ (c :: B))) by simp only [List.append_assoc]]
   rw [List.drop_left, List.take_left]
  ·have := parts_kids c l any false cents.tail (A ++ X ++ goalW k) B
   rw [show (A ++ X).length + (goalW k).length = (A ++ X ++ goalW k).length by simp only [List.length_append]]
   exact this
theorem parts_order (o : Order) (h : validG o.goal = true) : Parts (orderW o) 14 o.goal.kids := by
 obtain ⟨a1, a2, a3⟩ := (valid_law o.goal).1 h
 rw [allOK_eq, Bool.and_eq_true] at a1
 have hO := okG a1.1
 rw [orderW_eq]
 have hf := frontW_len o
 cases hg : o.goal with
 | mk kind rows from_ to_ low high clear days times within cents kids =>
  rw [hg] at hO
  show Parts _ 14 kids
  rw [goalW]
  by_cases h1 : kind = 1
  ·rw [if_pos h1]
   have hk : kids = [] := (hO.see h1).2.2.2.2.2.1
   subst hk
   unfold Parts
   simp only [List.length_append, List.length_cons]
   omega
  ·rw [if_neg h1]
   by_cases h2 : kind = 2 ∨ kind = 3 ∨ kind = 4
   ·rw [if_pos h2]
    obtain ⟨k1, _⟩ := hO.one h2
    obtain ⟨k, rfl⟩ : ∃ k, kids = [k] := by
     match kids, k1 with
     | [k], _ => exact ⟨k, rfl⟩
    rw [firstW]
    refine ⟨(frontW o ++ headW ⟨kind, rows, from_, to_, low, high, clear, days, times, within, cents, [k]⟩).length, by simp only [List.length_append]; omega, ?_, ?_⟩
    ·rw [show frontW o ++ (headW ⟨kind, rows, from_, to_, low, high, clear, days, times, within, cents, [k]⟩ ++ goalW k) ++ [w_dot] = (frontW o ++ headW ⟨kind, rows, from_, to_, low, high, clear, days, times, within, cents, [k]⟩) ++ (goalW k ++ [w_dot]) by simp only [List.append_assoc]]
     rw [List.drop_left, List.take_left]
    ·unfold Parts
     simp only [List.length_append, List.length_cons]
     omega
   ·rw [if_neg h2]
    have := parts_kids w_close kids (decide (kind = 6)) true cents (frontW o ++ [if kind = 5 then w_all else w_any, w_open]) [w_dot]
    refine Parts.mono kids (P := (frontW o ++ [if kind = 5 then w_all else w_any, w_open]).length) (by simp only [List.length_append]; omega) ?_
    simpa only [List.append_assoc, List.cons_append, List.nil_append] using this
end Go.SX

/-
 Plain: numbers and words are read as they are written; parted texts are joined again.
-/
namespace Go.SX
/-! numbers -/
theorem parse_app : ∀ (l : List UInt8) (acc v : Nat) (r : List UInt8), Go.Lib.parseUint10 acc l = .ok v → Go.Lib.parseUint10 acc (l ++ r) = Go.Lib.parseUint10 v r
 | [], acc, v, r, h => by simp only [Go.Lib.parseUint10] at h; injection h with h; subst h; rfl
 | c :: l, acc, v, r, h => by
  simp only [Go.Lib.parseUint10, List.cons_append] at h ⊢
  split at h
  ·rename_i hc
   rw [if_pos hc]
   split at h
   ·cases h
   ·rename_i h1
    rw [if_neg h1]
    split at h
    ·cases h
    ·rename_i h2
     rw [if_neg h2]
     exact parse_app l _ v r h
  ·cases h
theorem digit_nat {k : Nat} (h : k < 10) : (UInt8.ofNat (48 + k)).toNat = 48 + k := by
 rw [UInt8.toNat_ofNat']; omega
theorem parse_itoaF : ∀ (f u : Nat), u < 10 ^ (f + 1) → u < 1000000000000000 → Go.Lib.parseUint10 0 (itoaF (f + 1) u) = .ok u ∧ itoaF (f + 1) u ≠ [] ∧ ∃ c r, itoaF (f + 1) u = c :: r ∧ c.toNat ≠ 43 ∧ c.toNat ≠ 45
 | f, u, h, hb => by
  by_cases h10 : u < 10
  ·have e : itoaF (f + 1) u = [UInt8.ofNat (48 + u)] := by rw [itoaF, if_pos h10]
   rw [e]
   refine ⟨?_, by simp, _, _, rfl, ?_, ?_⟩
   ·simp only [Go.Lib.parseUint10]
    rw [digit_nat h10, if_pos (by omega), if_neg (by omega), if_neg (by omega)]
    congr 1; omega
   ·rw [digit_nat h10]; omega
   ·rw [digit_nat h10]; omega
  ·cases f with
   | zero => omega
   | succ f =>
    have e : itoaF (f + 1 + 1) u = itoaF (f + 1) (u / 10) ++ [UInt8.ofNat (48 + u % 10)] := by rw [itoaF, if_neg h10]
    obtain ⟨h1, h2, c, r, h3, h4, h5⟩ := parse_itoaF f (u / 10) (by rw [Nat.pow_succ] at h; omega) (by omega)
    rw [e]
    refine ⟨?_, by simp, c, r ++ [UInt8.ofNat (48 + u % 10)], by rw [h3]; rfl, h4, h5⟩
    rw [parse_app _ _ _ _ h1]
    simp only [Go.Lib.parseUint10]
    rw [digit_nat (Nat.mod_lt _ (by omega)), if_pos (by omega), if_neg (by omega), if_neg (by omega)]
    congr 1; omega
theorem numW_itoa {n : Int} (h0 : 0 ≤ n) (h1 : n ≤ 1000000000000) : numW (itoaW n) = some n := by
 have e : itoaW n = itoaF 20 n.toNat := by unfold itoaW; rw [if_neg (by omega)]
 obtain ⟨p1, p2, c, r, p3, p4, p5⟩ := parse_itoaF 19 n.toNat (by omega) (by omega)
 have ha : Go.Lib.atoiAll (itoaW n) = .ok n := by
  rw [e]
  rw [p3] at p1 p2 ⊢
  unfold Go.Lib.atoiAll
  simp only
  rw [if_neg (by omega)]
  unfold Go.Lib.parseMag
  rw [if_neg p2, p1]
  simp only
  rw [if_neg (by omega), if_neg (by omega), if_neg p5]
  congr 1; omega
 unfold numW
 rw [ha]
 simp
theorem numW_some {w : Wd} {n : Int} (h : numW w = some n) : itoaW n = w := by
 unfold numW at h
 split at h
 ·split at h
  ·injection h with h; subst h; assumption
  ·cases h
 ·cases h
theorem numW_blank : numW [32] = none := by decide
/-! words at a place -/
theorem peek_at {ws : List Wd} {a : Nat} {w : Wd} {r : List Wd} (h : ws.drop a = w :: r) : peekW ws a = w := by
 have hl := congrArg List.length h
 rw [List.length_drop, List.length_cons] at hl
 unfold peekW
 rw [if_neg (by omega)]
 show ws.getD a [] = w
 rw [List.getD_eq_getElem?_getD, ← List.head?_drop, h]; rfl
theorem peek_out {ws : List Wd} {a : Int} {w : Wd} (h : peekW ws a = w) (hw : w ≠ [32]) (h0 : 0 ≤ a) (h1 : a ≤ ws.length) : a < ws.length ∧ ws.drop a.toNat = w :: ws.drop (a + 1).toNat := by
 rcases Int.lt_or_eq_of_le h1 with h2 | h2
 ·refine ⟨h2, ?_⟩
  unfold peekW at h
  rw [if_neg (by omega)] at h
  have h3 : a.toNat < ws.length := by omega
  rw [List.drop_eq_getElem_cons h3]
  rw [List.getD_eq_getElem?_getD, List.getElem?_eq_getElem h3] at h
  rw [show (a + 1).toNat = a.toNat + 1 by omega, ← h]; rfl
 ·unfold peekW at h
  rw [if_pos h2] at h
  exact absurd h.symm hw
theorem drop_app {ws l r : List Wd} {a : Nat} (h : ws.drop a = l ++ r) : ws.drop (a + l.length) = r := by
 rw [← List.drop_drop, h, List.drop_left]
theorem must_at {ws : List Wd} : ∀ (l : List Wd) {r : List Wd} {a : Nat} {m : Int}, ws.drop a = l ++ r → mustW ws l a m = .ok () ((a + l.length : Nat) : Int) m
 | [], r, a, m, h => rfl
 | w :: l, r, a, m, h => by
  rw [mustW, peek_at h, if_pos rfl]
  have h2 : ws.drop (a + 1) = l ++ r := drop_app (l := [w]) h
  have := must_at l (a := a + 1) (m := m) h2
  rw [show ((a : Int) + 1) = ((a + 1 : Nat) : Int) from rfl, this, List.length_cons]
  congr 2; omega
theorem tail_at {ws r : List Wd} {a : Nat} {w : Wd} (h : ws.drop a = w :: r) : ws.drop (a + 1) = r := drop_app (l := [w]) h
theorem tail_app {ws l r : List Wd} {a : Nat} {w : Wd} (h : ws.drop a = w :: l ++ r) : ws.drop (a + 1) = l ++ r := tail_at (r := l ++ r) h
theorem must1 {ws r : List Wd} {w : Wd} {a : Nat} {m : Int} (h : ws.drop a = w :: r) : mustW ws [w] a m = .ok () ((a + 1 : Nat) : Int) m := must_at [w] h
theorem must2 {ws r : List Wd} {w v : Wd} {a : Nat} {m : Int} (h : ws.drop a = w :: v :: r) : mustW ws [w, v] a m = .ok () ((a + 1 + 1 : Nat) : Int) m := must_at [w, v] h
theorem num_at {ws r : List Wd} {a : Nat} {m n lo hi : Int} (h : ws.drop a = itoaW n :: r) (h1 : lo ≤ n) (h2 : n ≤ hi) (h0 : 0 ≤ n) (hb : n ≤ 1000000000000) : numP ws lo hi a m = .ok n ((a + 1 : Nat) : Int) m := by
 unfold numP
 rw [peek_at h, numW_itoa h0 hb]
 simp only
 rw [if_pos ⟨h1, h2⟩]
 rfl
theorem word_at {ws r : List Wd} {s t : Wd} {b : Bool} {a : Nat} {m : Int} (hst : t ≠ s) (h : ws.drop a = (if b then s else t) :: r) : wordP ws s t a m = .ok b ((a + 1 : Nat) : Int) m := by
 unfold wordP
 rw [peek_at h]
 cases b
 ·rw [if_neg (by simpa using hst), if_pos (by simp)]; rfl
 ·rw [if_pos (by simp)]; rfl
/-! what is read stands there -/
/-- from a to a' the words l stand -/
structure Reads (ws : List Wd) (a : Int) (l : List Wd) (a' : Int) : Prop where
 lo : 0 ≤ a
 hi : a' ≤ ws.length
 len : a' = a + l.length
 eq : ws.drop a.toNat = l ++ ws.drop a'.toNat
theorem Reads.app {ws l l' : List Wd} {a b c : Int} (h : Reads ws a l b) (h' : Reads ws b l' c) : Reads ws a (l ++ l') c :=
 ⟨h.lo, h'.hi, by rw [h'.len, h.len, List.length_append]; omega, by rw [h.eq, h'.eq, List.append_assoc]⟩
theorem Reads.nil {ws : List Wd} {a : Int} (h : 0 ≤ a) (h' : a ≤ ws.length) : Reads ws a [] a := ⟨h, h', by simp, rfl⟩
theorem Reads.one {ws : List Wd} {a : Int} {w : Wd} (h0 : 0 ≤ a) (h1 : a ≤ ws.length) (h : peekW ws a = w) (hw : w ≠ [32]) : Reads ws a [w] (a + 1) := by
 obtain ⟨h2, h3⟩ := peek_out h hw h0 h1
 exact ⟨h0, by omega, by simp, h3⟩
theorem Reads.lo' {ws l : List Wd} {a b : Int} (h : Reads ws a l b) : 0 ≤ b := by have := h.lo; have := h.len; omega
theorem must_ok {ws : List Wd} : ∀ (l : List Wd) {a m a' m' : Int} {u : Unit}, (∀ s ∈ l, s ≠ [32]) → 0 ≤ a → a ≤ ws.length → mustW ws l a m = .ok u a' m' → Reads ws a l a' ∧ m' = m
 | [], a, m, a', m', u, _, h0, h1, h => by
  rw [mustW] at h; injection h with _ e1 e2; subst e1 e2; exact ⟨.nil h0 h1, rfl⟩
 | w :: l, a, m, a', m', u, hl, h0, h1, h => by
  rw [mustW] at h
  split at h
  ·rename_i e
   have r1 := Reads.one h0 h1 e (hl w (by simp))
   obtain ⟨r2, e2⟩ := must_ok l (fun s hs => hl s (List.mem_cons_of_mem _ hs)) r1.lo' r1.hi h
   exact ⟨r1.app r2, e2⟩
  ·cases h
theorem num_ok {ws : List Wd} {a m a' m' n lo hi : Int} (h0 : 0 ≤ a) (h1 : a ≤ ws.length) (h : numP ws lo hi a m = .ok n a' m') : Reads ws a [itoaW n] a' ∧ m' = m ∧ lo ≤ n ∧ n ≤ hi := by
 unfold numP at h
 split at h
 ·rename_i k hk
  split at h
  ·rename_i hb
   injection h with e1 e2 e3
   subst e1 e2 e3
   have hw := numW_some hk
   refine ⟨.one h0 h1 hw.symm fun e => ?_, rfl, hb.1, hb.2⟩
   have := itoaW_nb k
   rw [e] at this
   exact this (by simp)
  ·cases h
 ·cases h
theorem word_ok {ws : List Wd} {s t : Wd} {a m a' m' : Int} {b : Bool} (hs : s ≠ [32]) (ht : t ≠ [32]) (h0 : 0 ≤ a) (h1 : a ≤ ws.length) (h : wordP ws s t a m = .ok b a' m') : Reads ws a [if b then s else t] a' ∧ m' = m := by
 unfold wordP at h
 split at h
 ·rename_i e
  injection h with e1 e2 e3; subst e1 e2 e3
  exact ⟨.one h0 h1 e hs, rfl⟩
 ·split at h
  ·rename_i e
   injection h with e1 e2 e3; subst e1 e2 e3
   exact ⟨.one h0 h1 e ht, rfl⟩
  ·cases h
theorem bind_ok {α β : Type} {x : Rs α} {k : α → Int → Int → Rs β} {z : β} {a m : Int} (h : x.bind k = .ok z a m) : ∃ y b n, x = .ok y b n ∧ k y b n = .ok z a m := by
 cases x with
 | ok y b n => exact ⟨y, b, n, rfl, h⟩
 | no b n => cases h
/-! texts -/
theorem joinTail_split : ∀ s : Wd, ∃ w l, splitW s = w :: l ∧ w ++ Go.Lib.joinTail [32] l = s
 | [] => ⟨[], [], rfl, rfl⟩
 | c :: s => by
  obtain ⟨w, l, h1, h2⟩ := joinTail_split s
  rw [splitW]
  split
  ·rename_i e
   subst e
   rw [h1]
   exact ⟨[], w :: l, rfl, by show [32] ++ (w ++ Go.Lib.joinTail [32] l) = _; rw [h2]; rfl⟩
  ·rw [h1]
   exact ⟨c :: w, l, rfl, by rw [List.cons_append, h2]⟩
theorem join_split (s : Wd) : joinW (splitW s) = s := by
 obtain ⟨w, l, h1, h2⟩ := joinTail_split s
 rw [h1]
 unfold joinW
 rw [Go.Lib.join_cons]
 exact h2
theorem join_tokens (s : Wd) : joinW (tokensW s) = s := by
 unfold tokensW
 split
 ·rename_i h; rw [h]; exact Go.Lib.join_nil _
 ·exact join_split s
/-- the words of a joined text -/
theorem tokens_joinW {w : Wd} {l : List Wd} (h : NB (w :: l)) (hw : w ≠ []) : tokensW (joinW (w :: l)) = w :: l := by
 have e : joinW (w :: l) = w ++ Go.Lib.joinTail [32] l := Go.Lib.join_cons _ _ _
 unfold tokensW
 rw [if_neg (by rw [e]; simp [hw]), e, splitW_joinTail l w h]
end Go.SX

/-
 Plain: the runs of an area are read as they are written, and what is read is written so.
-/
namespace Go.SX
/-! the runs of a row -/
abbrev Run := Nat × Nat
/-- runs from c on, apart -/
def RC : Nat → List Run → Prop
 | _, [] => True
 | c, p :: l => c ≤ p.1 ∧ p.1 ≤ p.2 ∧ p.2 ≤ 47 ∧ RC (p.2 + 2) l
def mk (p : Run) : Nat := 2 ^ p.1 * (2 ^ (p.2 - p.1 + 1) - 1)
def val : List Run → Nat
 | [] => 0
 | p :: l => mk p + val l
theorem RC.mono : ∀ {l : List Run} {c d : Nat}, d ≤ c → RC c l → RC d l
 | [], _, _, _, _ => trivial
 | p :: l, c, d, h, h1 => ⟨by have := h1.1; omega, h1.2.1, h1.2.2.1, h1.2.2.2⟩
theorem tz_mul : ∀ (x f m : Nat), x < f → m % 2 = 1 → tzF f (2 ^ x * m) = x
 | 0, f + 1, m, _, h => by unfold tzF; rw [Nat.pow_zero, Nat.one_mul, if_pos h]
 | x + 1, f + 1, m, hf, h => by
  have e : 2 ^ (x + 1) * m = 2 * (2 ^ x * m) := by rw [Nat.pow_succ, Nat.mul_comm (2 ^ x) 2, Nat.mul_assoc]
  unfold tzF
  rw [e, if_neg (by omega), Nat.mul_div_cancel_left _ (by omega), tz_mul x f m (by omega) h]; omega
theorem to_ones : ∀ (t f q : Nat), t < f → toF f (2 ^ t - 1 + 2 ^ (t + 1) * q) = t
 | 0, f + 1, q, _ => by unfold toF; rw [if_neg (by simp)]
 | t + 1, f + 1, q, hf => by
  have e : 2 ^ (t + 1) = 2 * 2 ^ t := by rw [Nat.pow_succ, Nat.mul_comm]
  have e2 : 2 ^ (t + 1 + 1) * q = 2 * (2 ^ (t + 1) * q) := by rw [Nat.pow_succ 2 (t + 1), Nat.mul_comm (2 ^ (t + 1)) 2, Nat.mul_assoc]
  have hp := Nat.two_pow_pos t
  unfold toF
  rw [e2, if_pos (by omega), show (2 ^ (t + 1) - 1 + 2 * (2 ^ (t + 1) * q)) / 2 = 2 ^ t - 1 + 2 ^ (t + 1) * q by omega, to_ones t f q (by omega)]; omega
theorem val_dvd : ∀ {l : List Run} {c : Nat}, RC c l → 2 ^ c ∣ val l
 | [], c, _ => Nat.dvd_zero _
 | p :: l, c, h => by
  unfold val mk
  exact Nat.dvd_add (Nat.dvd_trans (Nat.pow_dvd_pow 2 h.1) ⟨_, rfl⟩) (Nat.dvd_trans (Nat.pow_dvd_pow 2 (show c ≤ p.2 + 2 by have := h.1; have := h.2.1; omega)) (val_dvd h.2.2.2))
theorem mk_add {p : Run} (h : p.1 ≤ p.2) : mk p + 2 ^ p.1 = 2 ^ (p.2 + 1) := by
 unfold mk
 have h1 := Nat.two_pow_pos (p.2 - p.1 + 1)
 have h2 : 2 ^ p.1 * (2 ^ (p.2 - p.1 + 1) - 1) + 2 ^ p.1 * 1 = 2 ^ p.1 * 2 ^ (p.2 - p.1 + 1) := by rw [← Nat.mul_add]; congr 1; omega
 rw [← Nat.pow_add, show p.1 + (p.2 - p.1 + 1) = p.2 + 1 by omega] at h2
 omega
theorem val_lt : ∀ {l : List Run} {c : Nat}, RC c l → c ≤ 49 → val l + 2 ^ c ≤ 2 ^ 49
 | [], c, _, hc => by
  show 0 + 2 ^ c ≤ 2 ^ 49
  rw [Nat.zero_add]; exact Nat.pow_le_pow_right (by omega) hc
 | p :: l, c, h, hc => by
  have h1 := mk_add h.2.1
  have h2 := val_lt h.2.2.2 (by have := h.2.2.1; omega)
  have h3 : 2 ^ c ≤ 2 ^ p.1 := Nat.pow_le_pow_right (by omega) h.1
  have h4 : 2 ^ (p.2 + 1) ≤ 2 ^ (p.2 + 2) := Nat.pow_le_pow_right (by omega) (by omega)
  unfold val
  omega
theorem val_lt48 {l : List Run} {c : Nat} (h : RC c l) : val l < 2 ^ 48 := by
 induction l generalizing c with
 | nil => show 0 < 2 ^ 48; omega
 | cons p l ih =>
  cases l with
  | nil =>
   have h1 := mk_add h.2.1
   have h2 : 2 ^ (p.2 + 1) ≤ 2 ^ 48 := Nat.pow_le_pow_right (by omega) (by have := h.2.2.1; omega)
   have h3 := Nat.two_pow_pos p.1
   show mk p + 0 < 2 ^ 48
   omega
  | cons q l =>
   have h1 := mk_add h.2.1
   have h2 := mk_add h.2.2.2.2.1
   obtain ⟨k, hk⟩ := val_dvd (l := q :: l) (c := p.2 + 2) h.2.2.2
   have h3 := ih h.2.2.2
   have h4 : p.2 + 2 ≤ 47 := by have := h.2.2.2.1; have := h.2.2.2.2.1; have := h.2.2.2.2.2.1; omega
   have h5 : 2 ^ (p.2 + 2) ∣ 2 ^ 48 := Nat.pow_dvd_pow 2 (by omega)
   obtain ⟨j, hj⟩ := h5
   have h6 : 2 ^ (p.2 + 1) < 2 ^ (p.2 + 2) := Nat.pow_lt_pow_right (by omega) (by omega)
   have h7 : k + 1 ≤ j := by
    rw [hk, hj] at h3
    exact Nat.lt_of_mul_lt_mul_left h3
   have h8 := Nat.mul_le_mul_left (2 ^ (p.2 + 2)) h7
   rw [Nat.mul_add, ← hk, ← hj] at h8
   show mk p + val (q :: l) < 2 ^ 48
   have := Nat.two_pow_pos p.1
   omega
/-- the first run of a row -/
theorem run_first {p : Run} {l : List Run} {c : Nat} (h : RC c (p :: l)) : runAt (val (p :: l)) = p ∧ stepR (val (p :: l)) = val l ∧ val (p :: l) ≠ 0 := by
 obtain ⟨q, hq⟩ := val_dvd h.2.2.2
 obtain ⟨x, z⟩ := p
 have hxz : x ≤ z := h.2.1
 have hz : z ≤ 47 := h.2.2.1
 obtain ⟨t, ht⟩ : ∃ t, z = x + t := ⟨z - x, by omega⟩
 subst ht
 have hm : val ((x, x + t) :: l) = 2 ^ x * (2 ^ (t + 1) - 1 + 2 ^ (t + 1 + 1) * q) := by
  show 2 ^ x * (2 ^ (x + t - x + 1) - 1) + val l = _
  rw [show x + t - x + 1 = t + 1 by omega, Nat.mul_add, hq]
  congr 1
  rw [← Nat.mul_assoc, ← Nat.pow_add]
  congr 2
 have h1 : 2 ^ (t + 1) = 2 * 2 ^ t := by rw [Nat.pow_succ, Nat.mul_comm]
 have h2 : 2 ^ (t + 1 + 1) * q = 2 * (2 ^ (t + 1) * q) := by rw [Nat.pow_succ 2 (t + 1), Nat.mul_comm (2 ^ (t + 1)) 2, Nat.mul_assoc]
 have hp := Nat.two_pow_pos t
 have hodd : (2 ^ (t + 1) - 1 + 2 ^ (t + 1 + 1) * q) % 2 = 1 := by omega
 have htz : tzF 64 (val ((x, x + t) :: l)) = x := by rw [hm]; exact tz_mul x 64 _ (by omega) hodd
 have hlen : runLen (val ((x, x + t) :: l)) = x + (t + 1) := by
  unfold runLen
  rw [htz, hm, Nat.mul_div_cancel_left _ (Nat.two_pow_pos x), to_ones (t + 1) 64 q (by omega)]
 refine ⟨?_, ?_, ?_⟩
 ·unfold runAt; rw [htz, hlen]; rfl
 ·unfold stepR
  have hdd : ∀ N : Nat, N / 2 ^ (x + (t + 1)) = N / 2 ^ x / 2 ^ (t + 1) := fun N => by rw [Nat.pow_add, Nat.div_div_eq_div_mul]
  rw [hlen, hm, hdd, Nat.mul_div_cancel_left _ (Nat.two_pow_pos x)]
  have h5 : (2 ^ (t + 1) - 1 + 2 ^ (t + 1 + 1) * q) / 2 ^ (t + 1) = 2 * q := by
   rw [show 2 ^ (t + 1 + 1) * q = 2 ^ (t + 1) * (2 * q) by rw [Nat.pow_succ 2 (t + 1), Nat.mul_assoc], Nat.add_mul_div_left _ _ (Nat.two_pow_pos _), Nat.div_eq_of_lt (by omega), Nat.zero_add]
  rw [h5, hq]
  show 2 * q * 2 ^ (x + (t + 1)) = 2 ^ ((x + (t + 1)) + 1) * q
  rw [Nat.pow_succ 2 (x + (t + 1)), Nat.mul_assoc, Nat.mul_comm]; simp only [Nat.mul_assoc, Nat.mul_comm, Nat.mul_left_comm]
 ·rw [hm]
  exact Nat.mul_ne_zero (by have := Nat.two_pow_pos x; omega) (by omega)
theorem runs_val : ∀ (f : Nat) (l : List Run) (c : Nat), RC c l → val l ≤ f → runsF f (val l) = l
 | 0, l, c, h, hf => by
  cases l with
  | nil => rfl
  | cons p l => have := (run_first h).2.2; omega
 | f + 1, l, c, h, hf => by
  cases l with
  | nil => rfl
  | cons p l =>
   obtain ⟨h1, h2, h3⟩ := run_first h
   have h4 := stepR_lt h3 (Nat.lt_trans (val_lt48 h) (by omega))
   rw [runsF_succ, if_neg h3, h1, h2, runs_val f l _ h.2.2.2 (by omega)]
theorem runsN_val {l : List Run} {c : Nat} (h : RC c l) : runsN (val l) = l := runs_val _ l c h (Nat.le_refl _)
theorem toF_max : ∀ (f m : Nat), toF f m < f → m / 2 ^ toF f m % 2 = 0
 | 0, m, h => by omega
 | f + 1, m, h => by
  unfold toF at h ⊢
  split
  ·rename_i h1
   rw [if_pos h1] at h
   have ih := toF_max f (m / 2) (by omega)
   rw [Nat.pow_add, Nat.pow_one, ← Nat.div_div_eq_div_mul]; exact ih
  ·simp; omega
/-- every row has its runs -/
theorem val_ex : ∀ (b n : Nat), n ≤ b → n < 2 ^ 48 → ∀ c, 2 ^ c ∣ n → ∃ l, RC c l ∧ val l = n
 | b, n, hb, h, c, hc => by
  by_cases h0 : n = 0
  ·exact ⟨[], trivial, h0.symm⟩
  ·cases b with
   | zero => omega
   | succ b =>
    have h64 : n < 2 ^ 64 := by omega
    obtain ⟨a1, a2, a3⟩ := tzF_spec 64 n h0 h64
    have hs := stepR_lt h0 h64
    obtain ⟨l1, l2⟩ := runLen_le h0 h
    have ht := toF_spec 64 (n / 2 ^ tzF 64 n)
    have hmx := toF_max 64 (n / 2 ^ tzF 64 n) (by unfold runLen at l2; omega)
    have hdef : runLen n = tzF 64 n + toF 64 (n / 2 ^ tzF 64 n) := rfl
    have hq : n / 2 ^ runLen n = n / 2 ^ tzF 64 n / 2 ^ toF 64 (n / 2 ^ tzF 64 n) := by rw [hdef, Nat.pow_add, Nat.div_div_eq_div_mul]
    have hsd : 2 ^ (runLen n + 1) ∣ stepR n := by
     unfold stepR
     rw [hq, Nat.pow_succ, Nat.mul_comm]
     exact Nat.mul_dvd_mul (Nat.dvd_of_mod_eq_zero hmx) (Nat.dvd_refl _)
    obtain ⟨l, hl1, hl2⟩ := val_ex b (stepR n) (by omega) (by omega) (runLen n + 1) hsd
    have hcx : c ≤ tzF 64 n := by
     rcases Nat.lt_or_ge (tzF 64 n) c with h4 | h4
     ·exfalso
      obtain ⟨q, hq⟩ := Nat.dvd_trans (Nat.pow_dvd_pow 2 (show tzF 64 n + 1 ≤ c by omega)) hc
      have h5 : n / 2 ^ tzF 64 n = 2 * q := Nat.div_eq_of_eq_mul_right (Nat.two_pow_pos _) (by rw [← Nat.mul_assoc, ← Nat.pow_succ]; exact hq)
      omega
     ·exact h4
    refine ⟨(tzF 64 n, runLen n - 1) :: l, ⟨hcx, by show tzF 64 n ≤ runLen n - 1; omega, by show runLen n - 1 ≤ 47; omega, by show RC (runLen n - 1 + 2) l; rw [show runLen n - 1 + 2 = runLen n + 1 by omega]; exact hl1⟩, ?_⟩
    show 2 ^ tzF 64 n * (2 ^ (runLen n - 1 - tzF 64 n + 1) - 1) + val l = n
    rw [hl2, show runLen n - 1 - tzF 64 n + 1 = toF 64 (n / 2 ^ tzF 64 n) by omega, ← ht]
    have e1 := Nat.div_add_mod (n / 2 ^ tzF 64 n) (2 ^ toF 64 (n / 2 ^ tzF 64 n))
    have e2 := Nat.div_add_mod n (2 ^ tzF 64 n)
    rw [a1, Nat.add_zero] at e2
    have e3 : stepR n = 2 ^ tzF 64 n * (2 ^ toF 64 (n / 2 ^ tzF 64 n) * (n / 2 ^ tzF 64 n / 2 ^ toF 64 (n / 2 ^ tzF 64 n))) := by
     unfold stepR
     rw [hq, hdef, Nat.pow_add, Nat.mul_comm, Nat.mul_assoc]
    rw [e3, ← Nat.mul_add, Nat.add_comm, e1, e2]
theorem runsN_rc {n : Nat} (h : n < 2 ^ 48) : RC 0 (runsN n) ∧ val (runsN n) = n := by
 obtain ⟨l, h1, h2⟩ := val_ex n n (Nat.le_refl _) h 0 ⟨n, by simp⟩
 have := runsN_val h1
 rw [h2] at this
 rw [this]
 exact ⟨h1, h2⟩
/-! the runs of an area -/
def flatR : Nat → List (List Run) → List (Nat × Run)
 | _, [] => []
 | y, l :: ls => l.map (fun p => (y, p)) ++ flatR (y + 1) ls
def wordsR (L : List (Nat × Run)) : List Wd := L.flatMap fun p => runW p.1 p.2
/-- runs in their order, from a place on -/
def Chain : Nat → Nat → List (Nat × Run) → Prop
 | _, _, [] => True
 | y, c, p :: L => y ≤ p.1 ∧ p.1 ≤ 23 ∧ (p.1 = y → c ≤ p.2.1) ∧ p.2.1 ≤ p.2.2 ∧ p.2.2 ≤ 47 ∧ Chain p.1 (p.2.2 + 2) L
def orRun (rows : List Int) (p : Nat × Run) : List Int := rows.set p.1 (bitop .or .i64 (rows.getD p.1 0) (maskW p.2.1 p.2.2))
def build (rows : List Int) (L : List (Nat × Run)) : List Int := L.foldl orRun rows
theorem flatR_nil : ∀ (n y : Nat), flatR y (List.replicate n []) = []
 | 0, y => rfl
 | n + 1, y => by rw [List.replicate_succ, flatR, flatR_nil n (y + 1)]; rfl
theorem flatR_app : ∀ (a b : List (List Run)) (y : Nat), flatR y (a ++ b) = flatR y a ++ flatR (y + a.length) b
 | [], b, y => rfl
 | l :: a, b, y => by
  rw [List.cons_append, flatR, flatR, flatR_app a b (y + 1), List.append_assoc, List.length_cons]
  rw [show y + 1 + a.length = y + (a.length + 1) by omega]
theorem wordsR_rows : ∀ (rows : List Int) (y : Nat), rowsW y rows = wordsR (flatR y (rows.map fun r => runsN r.toNat))
 | [], y => rfl
 | r :: rows, y => by
  rw [rowsW, List.map_cons, flatR, wordsR_rows rows (y + 1)]
  unfold wordsR
  rw [List.flatMap_append, List.flatMap_map]
  rfl
theorem chain_row : ∀ (l : List Run) (y c : Nat) (ls : List (List Run)), y ≤ 23 → RC c l → (∀ d, Chain y d (flatR (y + 1) ls)) → Chain y c (l.map (fun p => (y, p)) ++ flatR (y + 1) ls)
 | [], y, c, ls, hy, h, h2 => h2 c
 | p :: l, y, c, ls, hy, h, h2 => ⟨Nat.le_refl _, hy, fun _ => h.1, h.2.1, h.2.2.1, chain_row l y _ ls hy h.2.2.2 h2⟩
theorem Chain.up : ∀ {L : List (Nat × Run)} {y z c d : Nat}, y < z → Chain z c L → Chain y d L
 | [], y, z, c, d, h, h1 => trivial
 | p :: L, y, z, c, d, h, h1 => ⟨by have := h1.1; omega, h1.2.1, fun e => by have := h1.1; omega, h1.2.2.2.1, h1.2.2.2.2.1, h1.2.2.2.2.2⟩
theorem chain_flat : ∀ (ls : List (List Run)) (y c : Nat), y + ls.length ≤ 24 → (∀ l ∈ ls, RC 0 l) → (∀ l, ls.head? = some l → RC c l) → Chain y c (flatR y ls)
  | [], y, c, h, _, _ => trivial
  | l :: ls, y, c, h, hl, hc => by
    rw [List.length_cons] at h
    refine chain_row l y c ls (by omega) (hc l rfl) fun d => ?_
    cases ls with
    | nil => trivial
    | cons k ls =>
      exact Chain.up (Nat.lt_succ_self y) (chain_flat (k :: ls) (y + 1) 0 (by omega) (fun x hx => hl x (List.mem_cons_of_mem _ hx)) fun x hx => by
        simp at hx; subst hx; exact hl k (by simp))
theorem chain_ex : ∀ (L : List (Nat × Run)) (y c : Nat), y ≤ 23 → Chain y c L → ∃ l ls, RC c l ∧ (∀ k ∈ ls, RC 0 k) ∧ y + 1 + ls.length = 24 ∧ L = l.map (fun p => (y, p)) ++ flatR (y + 1) ls
 | [], y, c, hy, _ => ⟨[], List.replicate (23 - y) [], trivial, fun k hk => by rw [(List.mem_replicate.1 hk).2]; trivial, by simp; omega, by rw [flatR_nil]; rfl⟩
 | (r, p) :: L, y, c, hy, h => by
  obtain ⟨l, ls, h1, h2, h3, h4⟩ := chain_ex L r (p.2 + 2) h.2.1 h.2.2.2.2.2
  rcases Nat.lt_or_eq_of_le h.1 with hr | hr
  ·have hr : y < r := hr
   refine ⟨[], List.replicate (r - y - 1) [] ++ ((p :: l) :: ls), trivial, ?_, ?_, ?_⟩
   ·intro k hk
    rcases List.mem_append.1 hk with hk | hk
    ·rw [(List.mem_replicate.1 hk).2]; trivial
    ·rcases List.mem_cons.1 hk with rfl | hk
     ·exact ⟨Nat.zero_le _, h.2.2.2.1, h.2.2.2.2.1, h1⟩
     ·exact h2 k hk
   ·simp; omega
   ·rw [flatR_app, flatR_nil, List.length_replicate, show y + 1 + (r - y - 1) = r by omega, flatR, h4]; rfl
  ·have hr : y = r := hr
   subst hr
   exact ⟨p :: l, ls, ⟨h.2.2.1 rfl, h.2.2.2.1, h.2.2.2.2.1, h1⟩, h2, h3, by rw [h4]; rfl⟩
/-! what they make -/
theorem mask_nat {p : Run} (h : p.1 ≤ p.2) : maskW p.1 p.2 = (mk p : Int) := by
 unfold maskW mk
 rw [show ((p.2 : Int) - p.1 + 1).toNat = p.2 - p.1 + 1 by omega, show ((p.1 : Nat) : Int).toNat = p.1 from rfl]
 have := Nat.two_pow_pos (p.2 - p.1 + 1)
 rw [Int.natCast_mul, Int.natCast_sub (by omega), Int.natCast_pow, Int.natCast_pow, Int.mul_comm]
 rfl
theorem mk_lt {p : Run} (h : p.1 ≤ p.2) (h' : p.2 ≤ 47) : mk p < 2 ^ 48 := by
 have h1 := mk_add h
 have h2 : 2 ^ (p.2 + 1) ≤ 2 ^ 48 := Nat.pow_le_pow_right (by omega) (by omega)
 have := Nat.two_pow_pos p.1
 omega
theorem or_run {p : Run} (h : p.1 ≤ p.2) (h' : p.2 ≤ 47) {v : Nat} (hv : v < 2 ^ p.1) : bitop .or .i64 (v : Int) (maskW p.1 p.2) = ((v + mk p : Nat) : Int) := by
 have h1 : v < 2 ^ 48 := Nat.lt_of_lt_of_le hv (Nat.pow_le_pow_right (by omega) (by omega))
 rw [mask_nat h, or_nat h1 (mk_lt h h')]
 congr 1
 rw [Nat.or_comm]
 unfold mk
 rw [← Nat.two_pow_add_eq_or_of_lt hv, Nat.add_comm]
theorem build_row : ∀ (l : List Run) (y c v : Nat) (pre post : List Int), RC c l → v < 2 ^ c → pre.length = y → build (pre ++ (v : Int) :: post) (l.map fun p => (y, p)) = pre ++ ((v + val l : Nat) : Int) :: post
 | [], y, c, v, pre, post, _, _, _ => rfl
 | p :: l, y, c, v, pre, post, h, hv, hy => by
  subst hy
  have hv1 : v < 2 ^ p.1 := Nat.lt_of_lt_of_le hv (Nat.pow_le_pow_right (by omega) h.1)
  have e : orRun (pre ++ (v : Int) :: post) (pre.length, p) = pre ++ ((v + mk p : Nat) : Int) :: post := by
   unfold orRun
   simp only
   rw [show (pre ++ (v : Int) :: post).getD pre.length 0 = (v : Int) by simp [List.getD_eq_getElem?_getD], or_run h.2.1 h.2.2.1 hv1]
   simp
  show build (orRun (pre ++ (v : Int) :: post) (pre.length, p)) (l.map fun p => (pre.length, p)) = _
  rw [e, build_row l pre.length (p.2 + 2) (v + mk p) pre post h.2.2.2 ?_ rfl]
  ·rw [val]; congr 3; omega
  ·have h1 := mk_add h.2.1
   have h2 : 2 ^ (p.2 + 1) ≤ 2 ^ (p.2 + 2) := Nat.pow_le_pow_right (by omega) (by omega)
   omega
theorem build_app (rows : List Int) (a b : List (Nat × Run)) : build rows (a ++ b) = build (build rows a) b := List.foldl_append ..
theorem build_flat : ∀ (ls : List (List Run)) (y : Nat) (pre : List Int), (∀ l ∈ ls, RC 0 l) → pre.length = y → build (pre ++ List.replicate ls.length 0) (flatR y ls) = pre ++ ls.map fun l => (val l : Int)
 | [], y, pre, _, _ => by simp [build, flatR]
 | l :: ls, y, pre, h, hy => by
  rw [flatR, build_app, List.length_cons, List.replicate_succ]
  have h1 := build_row l y 0 0 pre (List.replicate ls.length 0) (h l (by simp)) (by simp) hy
  rw [show ((0 : Nat) : Int) = 0 from rfl] at h1
  rw [h1, Nat.zero_add]
  have h2 := build_flat ls (y + 1) (pre ++ [(val l : Int)]) (fun k hk => h k (List.mem_cons_of_mem _ hk)) (by simp [hy])
  rw [List.append_assoc] at h2
  rw [show pre ++ (val l : Int) :: List.replicate ls.length 0 = pre ++ ([(val l : Int)] ++ List.replicate ls.length 0) from rfl, h2]
  simp
/-- what a valid area's runs are -/
theorem area_write {rows : List Int} (h : areaB rows = true) : ∃ L, Chain 0 0 L ∧ rowsW 0 rows = wordsR L ∧ build (List.replicate 24 0) L = rows := by
 simp only [areaB, Bool.and_eq_true, decide_eq_true_eq, List.all_eq_true] at h
 obtain ⟨hl, hr⟩ := h
 have hl : rows.length = 24 := by omega
 have hR : ∀ r ∈ rows, r.toNat < 2 ^ 48 ∧ 0 ≤ r := fun r hm => by
  have := (inB_iff _ _ _).1 (hr r hm)
  exact ⟨by omega, by omega⟩
 have h0 : ∀ l ∈ rows.map (fun r => runsN r.toNat), RC 0 l := fun l hm => by
  obtain ⟨r, h1, rfl⟩ := List.mem_map.1 hm
  exact (runsN_rc (hR r h1).1).1
 refine ⟨flatR 0 (rows.map fun r => runsN r.toNat), chain_flat _ 0 0 (by simp [hl]) h0 (fun l hm => h0 l (List.mem_of_mem_head? hm)), wordsR_rows rows 0, ?_⟩
 have := build_flat (rows.map fun r => runsN r.toNat) 0 [] h0 rfl
 rw [List.length_map, hl, List.nil_append, List.nil_append] at this
 rw [this, List.map_map]
 refine Eq.trans (b := rows.map id) (List.map_congr_left fun r hm => ?_) (List.map_id _)
 show ((val (runsN r.toNat) : Nat) : Int) = r
 rw [(runsN_rc (hR r hm).1).2]
 have := (hR r hm).2
 omega
theorem val_pos {l : List Run} (h : RC 0 l) (hl : l ≠ []) : val l ≠ 0 := by
 cases l with
 | nil => exact absurd rfl hl
 | cons p l => exact (run_first h).2.2
theorem area_read {L : List (Nat × Run)} (h : Chain 0 0 L) : rowsW 0 (build (List.replicate 24 0) L) = wordsR L ∧ areaB (build (List.replicate 24 0) L) = true ∧ (L ≠ [] → (build (List.replicate 24 0) L).any (fun r => decide (r ≠ 0)) = true) := by
 obtain ⟨l, ls, h1, h2, h3, h4⟩ := chain_ex L 0 0 (by omega) h
 have h0 : ∀ k ∈ l :: ls, RC 0 k := fun k hk => by
  rcases List.mem_cons.1 hk with rfl | hk
  ·exact h1
  ·exact h2 k hk
 have e : L = flatR 0 (l :: ls) := h4
 have hlen : (l :: ls).length = 24 := by rw [List.length_cons]; omega
 have hb := build_flat (l :: ls) 0 [] h0 rfl
 rw [hlen, List.nil_append, List.nil_append, ← e] at hb
 rw [hb]
 refine ⟨?_, ?_, ?_⟩
 ·rw [wordsR_rows, List.map_map, e]
  congr 2
  refine Eq.trans (b := (l :: ls).map id) (List.map_congr_left fun k hk => ?_) (List.map_id _)
  show runsN ((val k : Nat) : Int).toNat = k
  exact runsN_val (h0 k hk)
 ·simp only [areaB, Bool.and_eq_true, decide_eq_true_eq, List.all_eq_true]
  refine ⟨by rw [List.length_map, hlen]; rfl, fun r hr => ?_⟩
  obtain ⟨k, hk, rfl⟩ := List.mem_map.1 hr
  have := val_lt48 (h0 k hk)
  exact (inB_iff _ _ _).2 ⟨by omega, by omega⟩
 ·intro hL
  rw [List.any_eq_true]
  have : ∃ k ∈ l :: ls, k ≠ [] := by
   apply Classical.byContradiction
   intro hn
   apply hL
   have hn : ∀ k ∈ l :: ls, k = [] := fun k hk => Classical.byContradiction fun h => hn ⟨k, hk, h⟩
   rw [e, List.eq_replicate_of_mem hn, flatR_nil]
  obtain ⟨k, hk, hne⟩ := this
  refine ⟨_, List.mem_map_of_mem hk, ?_⟩
  have := val_pos (h0 k hk) hne
  simp; omega
end Go.SX

/-
 Plain: the orders that integers determine have short texts.
-/
namespace Go.SX
def pcF : Nat → Nat → Nat
 | 0, _ => 0
 | f + 1, n => n % 2 + pcF f (n / 2)
theorem pcF_zero : ∀ f, pcF f 0 = 0
 | 0 => rfl
 | f + 1 => by rw [pcF]; simp [pcF_zero f]
theorem pcF_or : ∀ (f n k : Nat), pcF f (n ||| 2 ^ k) ≤ pcF f n + 1
 | 0, n, k => by simp [pcF]
 | f + 1, n, 0 => by
  have e : (n ||| 2 ^ 0) / 2 = n / 2 := by rw [Nat.or_div_two]; simp
  rw [pcF, pcF, e]
  have := Nat.mod_lt (n ||| 2 ^ 0) (show 0 < 2 by omega)
  omega
 | f + 1, n, k + 1 => by
  have hp : 2 ^ (k + 1) = 2 * 2 ^ k := by rw [Nat.pow_succ, Nat.mul_comm]
  have e : (n ||| 2 ^ (k + 1)) / 2 = n / 2 ||| 2 ^ k := by rw [Nat.or_div_two, hp, Nat.mul_div_cancel_left _ (by omega)]
  have e2 : (n ||| 2 ^ (k + 1)) % 2 = n % 2 := by
   have h1 := Nat.testBit_or n (2 ^ (k + 1)) 0
   rw [Nat.testBit_two_pow, Nat.testBit_zero, Nat.testBit_zero, show decide (k + 1 = 0) = false from rfl, Bool.or_false, decide_eq_decide] at h1
   have h3 := Nat.mod_two_eq_zero_or_one n
   have h4 := Nat.mod_two_eq_zero_or_one (n ||| 2 ^ (k + 1))
   generalize (n ||| 2 ^ (k + 1)) = N at *
   omega
  rw [pcF, pcF, e, e2]
  have := pcF_or f (n / 2) k
  omega
theorem pc_runs : ∀ (f c : Nat) (l : List Run) (N : Nat), RC c l → (∀ q ∈ l, N.testBit q.1 = true) → c + f = 48 → l.length ≤ pcF f (N / 2 ^ c)
 | f, c, [], N, _, _, _ => by simp
 | 0, c, p :: l, N, h, _, hc => by have := h.1; have := h.2.1; have := h.2.2.1; omega
 | f + 1, c, p :: l, N, h, hN, hc => by
  have e : N / 2 ^ c / 2 = N / 2 ^ (c + 1) := by rw [Nat.pow_succ, Nat.div_div_eq_div_mul]
  rw [pcF, e]
  rcases Nat.lt_or_eq_of_le h.1 with h1 | h1
  ·have := pc_runs f (c + 1) (p :: l) N ⟨h1, h.2.1, h.2.2.1, h.2.2.2⟩ hN (by omega)
   omega
  ·have hb := hN p (by simp)
   rw [← h1, Nat.testBit_eq_decide_div_mod_eq] at hb
   have hb : N / 2 ^ c % 2 = 1 := by simpa using hb
   have := pc_runs f (c + 1) l N (h.2.2.2.mono (by have := h.2.1; omega)) (fun q hq => hN q (List.mem_cons_of_mem _ hq)) (by omega)
   rw [List.length_cons]; omega
theorem val_bit : ∀ {l : List Run} {c : Nat}, RC c l → ∀ q ∈ l, (val l).testBit q.1 = true
 | [], c, _, q, hq => by cases hq
 | p :: l, c, h, q, hq => by
  obtain ⟨k, hk⟩ := val_dvd h.2.2.2
  have h1 := mk_add h.2.1
  have h2 : 2 ^ (p.2 + 1) ≤ 2 ^ (p.2 + 2) := Nat.pow_le_pow_right (by omega) (by omega)
  have h3 := Nat.two_pow_pos p.1
  have hlt : mk p < 2 ^ (p.2 + 2) := by omega
  have e : val (p :: l) = 2 ^ (p.2 + 2) * k + mk p := by rw [val, hk, Nat.add_comm]
  rcases List.mem_cons.1 hq with rfl | hq
  ·rw [e, Nat.testBit_two_pow_mul_add _ hlt, if_pos (by have := h.2.1; omega)]
   unfold mk
   rw [Nat.testBit_two_pow_mul]
   simp
  ·have ih := val_bit h.2.2.2 q hq
   have hq2 : p.2 + 2 ≤ q.1 := by
    have : ∀ {l : List Run} {c : Nat}, RC c l → ∀ q ∈ l, c ≤ q.1 := by
     intro l
     induction l with
     | nil => intro c _ q hq; cases hq
     | cons a l ih =>
      intro c h q hq
      rcases List.mem_cons.1 hq with rfl | hq
      ·exact h.1
      ·have := ih h.2.2.2 q hq; have := h.1; have := h.2.1; omega
    exact this h.2.2.2 q hq
   rw [hk, Nat.testBit_two_pow_mul] at ih
   rw [e, Nat.testBit_two_pow_mul_add _ hlt, if_neg (by omega)]
   simp only [Bool.and_eq_true] at ih
   exact ih.2
theorem runs_pc {n : Nat} (h : n < 2 ^ 48) : (runsN n).length ≤ pcF 48 n := by
 obtain ⟨h1, h2⟩ := runsN_rc h
 have := pc_runs 48 0 (runsN n) n h1 (fun q hq => by have := val_bit h1 q hq; rwa [h2] at this) rfl
 simpa using this
/-! rows -/
def pcL : List Int → Nat
 | [] => 0
 | r :: l => pcF 48 r.toNat + pcL l
theorem rowsW_pc : ∀ (y : Nat) (l : List Int), (∀ r ∈ l, 0 ≤ r ∧ r ≤ 281474976710655) → (rowsW y l).length ≤ 4 * pcL l
 | y, [], _ => by simp [rowsW]
 | y, r :: l, h => by
  have h1 := h r (by simp)
  have h2 := rowsW_pc (y + 1) l fun x hx => h x (List.mem_cons_of_mem _ hx)
  have h3 := runs_pc (n := r.toNat) (by omega)
  rw [rowsW, List.length_append, show runsF r.toNat r.toNat = runsN r.toNat from rfl, flat_run_len, pcL]
  omega
def sumL (f : Int → Nat) : List Int → Nat
 | [] => 0
 | r :: l => f r + sumL f l
theorem sumL_set (f : Int → Nat) (k : Nat) (v : Int) : ∀ (l : List Int) (y : Nat), f v ≤ f (l.getD y 0) + k → sumL f (l.set y v) ≤ sumL f l + k
 | [], y, _ => by simp [sumL]
 | r :: l, 0, h => by
  rw [List.getD_cons_zero] at h
  rw [List.set_cons_zero, sumL, sumL]
  omega
 | r :: l, y + 1, h => by
  rw [List.getD_cons_succ] at h
  have := sumL_set f k v l y h
  rw [List.set_cons_succ, sumL, sumL]
  omega
theorem pcL_sum : ∀ l : List Int, pcL l = sumL (fun r => pcF 48 r.toNat) l
 | [] => rfl
 | r :: l => by rw [pcL, sumL, pcL_sum l]
theorem pcL_set (l : List Int) (y : Nat) (v : Int) (k : Nat) (h : pcF 48 v.toNat ≤ pcF 48 (l.getD y 0).toNat + k) : pcL (l.set y v) ≤ pcL l + k := by
 rw [pcL_sum, pcL_sum]
 exact sumL_set (fun r => pcF 48 r.toNat) k v l y h
theorem orAt_pc {rows : List Int} (h : RowsOK rows) {y : Nat} (hy : y < 24) {x : Int} (hx : 0 ≤ x ∧ x < 48) : pcL (orAt rows y x) ≤ pcL rows + 1 := by
 have hg : rows.getD y 0 ∈ rows := by
  rw [List.getD_eq_getElem?_getD, List.getElem?_eq_getElem (by rw [h.len]; exact hy)]
  exact List.getElem_mem _
 have hb := h.ok _ hg
 unfold orAt
 refine pcL_set rows y _ 1 ?_
 generalize rows.getD y 0 = a at hb ⊢
 obtain ⟨n, rfl⟩ : ∃ n : Nat, a = n := ⟨a.toNat, by omega⟩
 obtain ⟨k, rfl⟩ : ∃ k : Nat, x = k := ⟨x.toNat, by omega⟩
 have hk : k < 48 := by omega
 rw [shl_one hk, or_nat (by omega) (Nat.pow_lt_pow_right (by omega) hk)]
 exact pcF_or 48 n k
theorem cellS_pc (x : A5) (y k : Nat) {rows : List Int} (h : RowsOK rows) : pcL (cellS x y k rows) ≤ pcL rows + 1 := by
 have b1 := pickS_bd (c := x.b) (n := 24) (by omega)
 have b2 := pickS_bd (c := x.a) (n := 48) (by omega)
 unfold cellS
 refine orAt_pc h (by omega) ?_
 rw [Int.tmod_eq_emod_of_nonneg (by omega)]
 omega
theorem rowsK_pc (x : A5) (y : Nat) : ∀ (k : Nat) (r : List Int), RowsOK r → pcL (rowsK x y k r) ≤ pcL r + k
 | 0, r, h => Nat.le_refl _
 | k + 1, r, h => by
  rw [rowsK_succ]
  have := cellS_pc x y k (rowsK_ok x y k r h).1
  have := rowsK_pc x y k r h
  omega
theorem pcL_zero : ∀ n, pcL (List.replicate n 0) = 0
 | 0 => rfl
 | n + 1 => by rw [List.replicate_succ, pcL, pcL_zero n]; simp [pcF_zero]
theorem rowsY_pc (x : A5) (n : Nat) (hn : 0 < n) : ∀ y : Nat, pcL (rowsY x n y) ≤ y * n
 | 0 => by
  show pcL (List.replicate 24 0) ≤ _
  rw [pcL_zero]; omega
 | y + 1 => by
  rw [rowsY_succ]
  have := rowsK_pc x y n _ (rowsY_ok x n hn y).1
  have := rowsY_pc x n hn y
  rw [Nat.succ_mul]; omega
theorem seeRows_pc (x : A5) : pcL (seeRows x) ≤ 10 := by
 have b1 := pickS_bd (c := x.b.tdiv 24) (n := 3) (by omega)
 have b2 := pickS_bd (c := x.a.tdiv 48) (n := 3) (by omega)
 have b3 := pickS_bd (c := x.b) (n := 24) (by omega)
 have b4 := pickS_bd (c := x.c) (n := 48) (by omega)
 obtain ⟨n, hn⟩ : ∃ n, (pickS (x.a.tdiv 48) 3 + 1).toNat = n := ⟨_, rfl⟩
 obtain ⟨y, hy⟩ : ∃ y, (pickS (x.b.tdiv 24) 3 + 1).toNat = y := ⟨_, rfl⟩
 have h := rowsY_ok x n (by omega) y
 have hp := rowsY_pc x n (by omega) y
 have hm : y * n ≤ 3 * 3 := Nat.mul_le_mul (by omega) (by omega)
 unfold seeRows
 rw [hn, hy]
 split
 ·have := orAt_pc h.1 (y := (pickS x.b 24).toNat) (by omega) (x := pickS x.c 48) (by omega)
  omega
 ·omega
theorem seeS_len (x : A5) : (seeW (seeS x)).length ≤ 50 := by
 have h1 := rowsW_pc 0 (seeRows x) (seeRows_ok x).1.ok
 have h2 := seeRows_pc x
 have : (seeS x).rows = seeRows x := rfl
 simp only [seeW, this, List.length_append, List.length_cons, List.length_nil]
 omega
/-! goals -/
theorem kidsN_sees {rec : Int → Int → Goal × Int × Int} (hr : ∀ a m, ∀ s ∈ seesG (rec a m).1, ∃ x, s = seeS x) (y : A5) (at_ most : Int) : ∀ i, ∀ s ∈ seesL (kidsN rec y at_ most i).kids, ∃ x, s = seeS x
 | 0, s, h => by simp [kidsN, seesL] at h
 | i + 1, s, h => by
  simp only [kidsN] at h
  rw [seesL_snoc] at h
  rcases List.mem_append.1 h with h | h
  ·exact kidsN_sees hr y at_ most i s h
  ·exact hr _ _ s h
theorem sees_one (z : A5) : seesG (seeS z) = [seeS z] := by rw [seesG_eq]; exact if_pos rfl
theorem goals_sees : ∀ (j : Nat) (x : List A5) (at_ most : Int), ∀ s ∈ seesG (goalsS j x at_ most).1, ∃ z, s = seeS z
 | 0, x, at_, most, s, h => by
  rw [goalsS] at h
  replace h : s ∈ seesG (seeS (y5 x at_)) := h
  rw [sees_one] at h
  exact ⟨_, List.mem_singleton.1 h⟩
 | j + 1, x, at_, most, s, h => by
  have one : ∀ z : A5, s ∈ seesG (seeS z) → ∃ z, s = seeS z := fun z h => by
   rw [sees_one] at h
   exact ⟨_, List.mem_singleton.1 h⟩
  rw [goalsS] at h
  dsimp only at h
  split at h
  ·rw [seesG, if_neg (by omega), seesL, seesL, List.append_nil] at h
   exact one _ h
  ·split at h
   ·rw [seesG, if_neg (by omega), seesL, seesL, List.append_nil] at h
    exact one _ h
   ·split at h
    ·rw [seesG, if_neg (by omega), seesL, seesL, List.append_nil] at h
     exact one _ h
    ·split at h
     ·rename_i e
      rw [seesG, if_neg (by omega)] at h
      exact kidsN_sees (goals_sees j x) _ _ _ _ s h
     ·exact one _ h
mutual
theorem goalW_len2 : ∀ (g : Goal) (d n : Int), sizeG g d = some n → (∀ s ∈ seesG g, (seeW s).length ≤ 50) → ((goalW g).length : Int) ≤ 60 * n ∧ 1 ≤ n
 | ⟨kind, rows, from_, to_, low, high, clear, days, times, within, cents, kids⟩, d, n, h, hs => by
  obtain ⟨_, hok, m, hm, rfl⟩ := sizeG_parts h
  have hO := okG hok
  rw [seesG] at hs
  rw [goalW]
  by_cases h1 : kind = 1
  ·rw [if_pos h1] at hs ⊢
   have := hs _ (List.mem_singleton_self _)
   have := (goalW_len _ d _ h).2
   omega
  ·rw [if_neg h1] at hs ⊢
   have ih := kidsW_len2 kids (d + 1) m hm hs
   have hkind := hO.kind
   by_cases h2 : kind = 2 ∨ kind = 3 ∨ kind = 4
   ·rw [if_pos h2, List.length_append]
    have := headW_len ⟨kind, rows, from_, to_, low, high, clear, days, times, within, cents, kids⟩
    have := ih.2.1
    omega
   ·rw [if_neg h2]
    have := ih.1 (decide (kind = 6)) true cents
    have := (hO.many (show kind = 5 ∨ kind = 6 by have : (⟨kind, rows, from_, to_, low, high, clear, days, times, within, cents, kids⟩ : Goal).kind = kind := rfl; omega)).2.1
    have : kids.length ≤ 4 := this
    simp only [List.length_append, List.length_cons, List.length_nil]
    omega
theorem kidsW_len2 : ∀ (l : List Goal) (d m : Int), sizeL l d = some m → (∀ s ∈ seesL l, (seeW s).length ≤ 50) → (∀ (any first : Bool) (c : List Int), ((kidsW any first c l).length : Int) ≤ 60 * m + 2 * l.length) ∧ ((firstW l).length : Int) ≤ 60 * m ∧ 0 ≤ m
 | [], d, m, h, _ => by
  simp [sizeL] at h
  subst h
  refine ⟨fun a f c => by rw [kidsW]; simp, by rw [firstW]; simp, by omega⟩
 | k :: l, d, m, h, hs => by
  rw [sizeL] at h
  rw [seesL] at hs
  cases ha : sizeG k d with
  | none => rw [ha] at h; cases h
  | some x =>
   rw [ha] at h
   cases hl : sizeL l d with
   | none => rw [hl] at h; cases h
   | some y =>
    rw [hl] at h
    injection h with h
    subst h
    have h1 := goalW_len2 k d x ha fun s hm => hs s (List.mem_append_left _ hm)
    have h2 := kidsW_len2 l d y hl fun s hm => hs s (List.mem_append_right _ hm)
    refine ⟨fun a f c => ?_, by rw [firstW]; omega, by omega⟩
    rw [kidsW]
    have := h2.1 a false c.tail
    have e1 : (if f = true then ([] : List Wd) else [w_comma]).length ≤ 1 := by split <;> simp
    have e2 : (if a = true then [itoaW (c.headD 0)] else []).length ≤ 1 := by split <;> simp
    simp only [List.length_append, List.length_cons]
    omega
end
theorem goalS_len (y : List A5) : (goalW (goalS y)).length ≤ 540 := by
 have h := goals_ok 3 y 0 9 (by omega) (by omega)
 have hs := h.size
 have hl := h.le
 have := (goalW_len2 _ _ _ hs fun s hm => by
  obtain ⟨x, rfl⟩ := goals_sees 3 y 0 9 s hm
  exact seeS_len x).1
 unfold goalS
 omega
theorem made_len {o : Order} {y : List A5} (h : o.goal = goalS y) : (orderW o).length ≤ 555 ∧ (joinW (orderW o)).length ≤ 12210 := by
 have h1 := goalS_len y
 rw [← h] at h1
 have h2 := orderW_len o
 have h3 := joinW_len (orderW_sh o)
 exact ⟨by omega, by omega⟩
end Go.SX

namespace Go.SX
open Go.Proofs
set_option maxHeartbeats 4000000
set_option maxRecDepth 100000
theorem allOKL_mem : ∀ {l : List Goal} {k : Goal}, allOKL l = true → k ∈ l → allOK k = true
 | [], k, _, h => by simp at h
 | x :: l, k, ha, h => by
  rw [allOKL, Bool.and_eq_true] at ha
  rcases List.mem_cons.1 h with rfl | h
  ·exact ha.1
  ·exact allOKL_mem ha.2 h
theorem kid_valid {g k : Goal} (h : validG g = true) (hk : k ∈ g.kids) : validG k = true := by
 rw [valid_law] at h ⊢
 obtain ⟨h1, h2, h3⟩ := h
 rw [allOK_eq, Bool.and_eq_true] at h1
 rw [deepG_eq] at h2
 rw [manyG_eq] at h3
 have := manyL_mem hk
 have := deepL_mem hk
 exact ⟨allOKL_mem h1.2 hk, by omega, by omega⟩
def withG (o : Order) (g : Goal) : Order := ⟨o.id, o.owner, g, o.price, o.group, o.urgent, o.known, o.due⟩
theorem part_ord {o : Order} {k : Goal} (h : ordB o = true) (hk : validG k = true) : ordB (withG o k) = true := by
 rw [ordB_iff] at h ⊢
 exact ⟨h.id, h.owner, h.price, h.group, h.known, h.due, hk⟩
theorem front_part (o : Order) (k : Goal) : frontW (withG o k) = frontW o := rfl
theorem print_eq {o : Order} (h : ordB o = true) : printS o = (joinW (orderW o), 0) := by unfold printS; rw [h]; rfl
theorem text_len (o : Order) : (joinW (orderW o)).length ≤ 22 * (15 + (goalW o.goal).length) := by
 have h3 := joinW_len (orderW_sh o)
 rw [orderW_len] at h3
 exact h3
theorem goalW_pos (g : Goal) : 1 ≤ (goalW g).length := by
 rw [goalW_eq]
 split
 ·simp [seeW]
 ·split
  ·unfold headW
   split
   ·simp
   ·split <;> simp
  ·simp
theorem len_manyL : ∀ l : List Goal, (l.length : Int) ≤ manyL l
 | [] => by simp [manyL]
 | k :: l => by rw [manyL, List.length_cons]; have := manyG_pos k; have := len_manyL l; omega
theorem kids_len {g : Goal} (h : validG g = true) : g.kids.length ≤ 12 := by
 have h1 := ((valid_law g).1 h).2.2
 have h2 := len_manyL g.kids
 rw [manyG_eq] at h1
 omega
theorem lparts (l : List Int) (hl : l.length = 7) (hz : ∀ z ∈ l, I64 z) (y : List A5) (hy : ∀ z ∈ y, A5OK z) (hyl : (y.length : Int) ≤ 9223372036854775807) : Meets Tryz.prog Dc 7 [a7A l, a5S y] [] (bS true) [] := by
 have hs := lsane
 have hm := lmade l hl hz y hy hyl
 have ho := made_ord l y
 obtain ⟨hw1, hw2⟩ := made_len (o := madeS l y) (y := y) rfl
 generalize madeS l y = o at *
 have hv : validG o.goal = true := ((ordB_iff o).1 ho).goal
 have hG := valid_gall hv
 have hp := oprint o hG
 rw [print_eq ho] at hp
 dsimp only at hp
 have ht := otokens (joinW (orderW o)) (by omega)
 rw [tokens_join] at ht
 have hvO := ovalid o hG
 rw [ho] at hvO
 have hpar := parts_order o hv
 have hkl := kids_len hv
 refine meets_of_gx Ax tab_ok Tryz.func7 (c := _) rfl Tryz.call7 600 ?_
 (repeat' ((conv => whnf); first | (exfalso; omega) | refine cpC (hs) ?_ | refine dpC (hs) ?_ | refine cpC (hm) ?_ | refine dpC (hm) ?_ | refine cpC (hp) ?_ | refine dpC (hp) ?_ | refine cpC (ht) ?_ | refine dpC (ht) ?_ | refine cpC (hvO) ?_ | refine dpC (hvO) ?_ | refine x0C ?_ | refine spC (fun hb => ?_) fun hb => ?_ | refine nilC (fun hb => ?_) ?_ | refine taC ?_ | refine saC ?_ | exact sdV | refine side_and ?_ ?_ | refine drawX_of mixed ?_))
 refine loop_up (fun st : Nat × Nat => [(9, iS st.1), (10, iS st.2)]) (fun _ => []) (fun st => st.2 ≤ o.goal.kids.length ∧ 14 ≤ st.1 ∧ Parts (orderW o) st.1 (o.goal.kids.drop st.2)) (fun st => o.goal.kids.length - st.2) (14, 0) ⟨Nat.zero_le _, Nat.le_refl _, hpar⟩ (by exact bkI) ?_
 clear hs hm hp ht hvO hpar
 rintro ⟨at_, i⟩ ⟨hi, hat, hP⟩ K hK
 have hi : i ≤ o.goal.kids.length := hi
 have hat : 14 ≤ at_ := hat
 have hP : Parts (orderW o) at_ (o.goal.kids.drop i) := hP
 have hlt := hP.lt
 have hoL := orderW_len o
 rcases Nat.lt_or_ge i o.goal.kids.length with hik | hik
 ·rw [drop_getD (d := Cd.dflt U.goal) hik] at hP
  obtain ⟨P, hP1, hP2, hP3⟩ := hP
  have hkm : o.goal.kids.getD (i : Int).toNat (Cd.dflt U.goal) ∈ o.goal.kids := List.mem_of_getElem? (getD_some (d := Cd.dflt U.goal) hik)
  rw [show o.goal.kids.getD i (Cd.dflt U.goal) = o.goal.kids.getD (i : Int).toNat (Cd.dflt U.goal) from rfl] at hP2 hP3
  have hkv := kid_valid hv hkm
  have hkp := goalW_pos (o.goal.kids.getD (i : Int).toNat (Cd.dflt U.goal))
  have hkG := valid_gall hkv
  have hpo := part_ord ho hkv
  have hP4 := hP3.lt
  have htl := text_len (withG o (o.goal.kids.getD (i : Int).toNat (Cd.dflt U.goal)))
  have hol := orderW_len (withG o (o.goal.kids.getD (i : Int).toNat (Cd.dflt U.goal)))
  have hp := oprint (withG o (o.goal.kids.getD (i : Int).toNat (Cd.dflt U.goal))) hkG
  rw [print_eq hpo] at hp
  have hgw : (withG o (o.goal.kids.getD (i : Int).toNat (Cd.dflt U.goal))).goal = o.goal.kids.getD (i : Int).toNat (Cd.dflt U.goal) := rfl
  rw [hgw] at htl hol
  have ht := otokens (joinW (orderW (withG o (o.goal.kids.getD (i : Int).toNat (Cd.dflt U.goal))))) (by omega)
  rw [tokens_join] at ht
  have hvO := ovalid (withG o (o.goal.kids.getD (i : Int).toNat (Cd.dflt U.goal))) hkG
  rw [hpo] at hvO
  dsimp only [ordA, withG] at hp hvO
  (repeat' ((conv => whnf); first | (exfalso; omega) | refine cpC (hp) ?_ | refine dpC (hp) ?_ | refine cpC (ht) ?_ | refine dpC (ht) ?_ | refine cpC (hvO) ?_ | refine dpC (hvO) ?_ | refine x0C ?_ | refine spC (fun hb => ?_) fun hb => ?_ | refine nilC (fun hb => ?_) ?_ | refine taC ?_ | refine saC ?_ | exact sdV | refine side_and ?_ ?_ | refine drawX_of mixed ?_))
  have hW : List.drop (Int.toNat 14) (List.take ((orderW (withG o (o.goal.kids.getD (i : Int).toNat (Cd.dflt U.goal)))).length - 1 : Int).toNat (orderW (withG o (o.goal.kids.getD (i : Int).toNat (Cd.dflt U.goal))))) = goalW (o.goal.kids.getD (i : Int).toNat (Cd.dflt U.goal)) := by
   rw [show ((orderW (withG o (o.goal.kids.getD (i : Int).toNat (Cd.dflt U.goal)))).length - 1 : Int).toNat = 14 + (goalW (o.goal.kids.getD (i : Int).toNat (Cd.dflt U.goal))).length by omega, orderW_eq, hgw, List.take_left' (by rw [List.length_append, frontW_len])]
   exact List.drop_left' (frontW_len _)
  have hF : List.drop (Int.toNat 0) (List.take (Int.toNat 14) (orderW (withG o (o.goal.kids.getD (i : Int).toNat (Cd.dflt U.goal))))) = List.drop (Int.toNat 0) (List.take (Int.toNat 14) (orderW o)) := by
   rw [orderW_eq, orderW_eq, List.append_assoc, List.append_assoc]
   show List.take 14 _ = List.take 14 _
   rw [List.take_left' (frontW_len _), List.take_left' (frontW_len _), front_part]
  rw [hW]
  generalize hk : o.goal.kids.getD (i : Int).toNat (Cd.dflt U.goal) = k at *
  have hst := fun j : Nat => lstrings (List.drop (j : Int).toNat (List.take ((j : Int) + (goalW k).length).toNat (orderW o))) (goalW k) (by simp only [List.length_drop, List.length_take]; omega) (by omega)
  have hst2 := lstrings (List.drop (Int.toNat 0) (List.take (Int.toNat 14) (orderW o))) (List.drop (Int.toNat 0) (List.take (Int.toNat 14) (orderW (withG o k)))) (by simp only [List.length_drop, List.length_take]; omega) (by simp only [List.length_drop, List.length_take]; omega)
  rw [decide_eq_true hF.symm] at hst2
  refine loop_up (fun st : Int × Nat => [(16, iS st.1), (17, iS st.2)]) (fun _ => []) (fun st => (st.1 = -1 ∧ at_ ≤ st.2 ∧ st.2 ≤ P) ∨ (∃ j : Nat, st.1 = j ∧ at_ ≤ j ∧ j ≤ P ∧ st.2 = j + 1)) (fun st => P + 1 - st.2) (-1, at_) (.inl ⟨rfl, Nat.le_refl _, hP1⟩) (by exact bkI) ?_
  rintro ⟨f, j⟩ hj K2 hK2
  have hj : (f = -1 ∧ at_ ≤ j ∧ j ≤ P) ∨ (∃ z : Nat, f = z ∧ at_ ≤ z ∧ z ≤ P ∧ j = z + 1) := hj
  rcases hj with ⟨rfl, hj1, hj2⟩ | ⟨z, rfl, hj1, hj2, rfl⟩
  ·have hst := hst j
   by_cases hE : List.drop (j : Int).toNat (List.take ((j : Int) + (goalW k).length).toNat (orderW o)) = goalW k
   ·rw [decide_eq_true hE] at hst
    (repeat' ((conv => whnf); first | (exfalso; omega) | refine cpC (hst) ?_ | refine dpC (hst) ?_ | refine hK2 ((j : Int), j + 1) [some 0, some 1, some 2] _ _ ⟨.inr ⟨j, rfl, hj1, hj2, rfl⟩⟩ ⟨by omega⟩ (by exact bkI) | refine x0C ?_ | refine spC (fun hb => ?_) fun hb => ?_ | refine nilC (fun hb => ?_) ?_ | refine taC ?_ | refine saC ?_ | exact sdV | refine side_and ?_ ?_ | refine drawX_of mixed ?_))
   ·rw [decide_eq_false hE] at hst
    have hjP : j ≠ P := fun e => hE (by
     subst e
     rw [show ((j : Int) + (goalW k).length).toNat = j + (goalW k).length by omega, show (j : Int).toNat = j from rfl, ← List.take_drop]
     exact hP2)
    (repeat' ((conv => whnf); first | (exfalso; omega) | refine cpC (hst) ?_ | refine dpC (hst) ?_ | refine hK2 (-1, j + 1) [some 0, some 1, some 2] _ _ ⟨.inl ⟨rfl, by omega, by omega⟩⟩ ⟨by omega⟩ (by exact bkI) | refine x0C ?_ | refine spC (fun hb => ?_) fun hb => ?_ | refine nilC (fun hb => ?_) ?_ | refine taC ?_ | refine saC ?_ | exact sdV | refine side_and ?_ ?_ | refine drawX_of mixed ?_))
  ·have hPn : Parts (orderW o) (z + (goalW k).length) (o.goal.kids.drop (i + 1)) := hP3.mono _ (by omega)
   (repeat' ((conv => whnf); first | (exfalso; omega) | refine cpC (hst2) ?_ | refine dpC (hst2) ?_ | refine hK (z + (goalW k).length, i + 1) [some 0, some 1] _ _ ⟨⟨by omega, by omega, hPn⟩⟩ ⟨by omega⟩ (by exact bkI) | refine x0C ?_ | refine spC (fun hb => ?_) fun hb => ?_ | refine nilC (fun hb => ?_) ?_ | refine taC ?_ | refine saC ?_ | exact sdV | refine side_and ?_ ?_ | refine drawX_of mixed ?_))
 ·(repeat' ((conv => whnf); first | refine x0C (eB ?_ rfl) | (exfalso; omega) | refine x0C ?_ | refine spC (fun hb => ?_) fun hb => ?_ | refine nilC (fun hb => ?_) ?_ | refine taC ?_ | refine saC ?_ | exact sdV | refine side_and ?_ ?_ | refine drawX_of mixed ?_))
  all_goals exact decide_eq_true (by (show (at_ : Int) < ((orderW o).length : Int)); omega)
end Go.SX
