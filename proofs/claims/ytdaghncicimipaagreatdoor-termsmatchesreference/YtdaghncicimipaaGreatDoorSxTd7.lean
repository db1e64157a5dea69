/-
  Walks: Td7, Td8, Te0, Te1, Te2: what single functions of the program compute.
-/
import Derived.Test.YtdaghncicimipaaGreatDoorSxTd6
namespace Go.SX
open Go.Proofs
set_option linter.unusedSimpArgs false
set_option linter.unusedVariables false
set_option maxHeartbeats 4000000
set_option maxRecDepth 100000
theorem rgoals : ∀ (j : Nat), j ≤ 3 → ∀ (x : List A5), (∀ y ∈ x, A5OK y) → (x.length : Int) ≤ 9223372036854775807 → ∀ (at_ most : Int), 0 ≤ at_ → at_ + most ≤ 1000 → 1 ≤ most → most ≤ 9 →
    Meets Tryz.prog Dc 57 [a5S x, iS at_, iS (4 - j), iS most] [] (.tuple [goalA (goalsS j x at_ most).1, iS (goalsS j x at_ most).2.1, iS (goalsS j x at_ most).2.2]) []
  | 0, hj, x, hx, hxl, at_, most, h1, h2, h3, h4 => by
    rw [goalsS]
    exact rgoals1 x hx hxl (4 - ((0 : Nat) : Int)) at_ most (by omega) (by omega) (by omega) (.inl (by omega))
  | j + 1, hj, x, hx, hxl, at_, most, h1, h2, h3, h4 => by
    have hb := pickS_bd (c := (y5 x at_).a.tdiv 144) (n := 6) (by omega)
    by_cases hc : j + 1 = 0 ∨ most < 2 ∨ (x.length : Int) ≤ at_ + 1 ∨ (5 ≤ 1 + pickS ((y5 x at_).a.tdiv 144) 6 ∧ most < 3)
    · have hk : kindS (j + 1) x at_ most = 1 := by unfold kindS; rw [if_pos hc]
      rw [goalsS]
      dsimp only
      rw [hk, if_neg (by omega), if_neg (by omega), if_neg (by omega), if_neg (by omega)]
      exact rgoals1 x hx hxl (4 - ((j + 1 : Nat) : Int)) at_ most (by omega) (by omega) (by omega) (by omega)
    · have hk : kindS (j + 1) x at_ most = 1 + pickS ((y5 x at_).a.tdiv 144) 6 := by unfold kindS; rw [if_neg hc]
      have hlen : at_ + 1 < x.length := by omega
      have e1 : y5 x at_ = x.getD at_.toNat (Cd.dflt U.arr5) := y5_in h1 (by omega)
      have e2 : y5 x (at_ + 1) = x.getD (at_ + 1).toNat (Cd.dflt U.arr5) := y5_in (by omega) hlen
      rw [goalsS]
      dsimp only
      rw [hk]
      by_cases h0 : 1 + pickS ((y5 x at_).a.tdiv 144) 6 = 1
      · rw [h0, if_neg (by omega), if_neg (by omega), if_neg (by omega), if_neg (by omega)]
        exact rgoals1 x hx hxl (4 - ((j + 1 : Nat) : Int)) at_ most (by omega) (by omega) (by omega) (by omega)
      · rw [e1] at hb h0 hc ⊢
        rw [e2]
        by_cases h5 : 5 ≤ 1 + pickS ((x.getD at_.toNat (Cd.dflt U.arr5)).a.tdiv 144) 6
        · rw [if_neg (by omega), if_neg (by omega), if_neg (by omega), if_pos (by omega)]
          exact rgoals5 j x hx hxl (4 - ((j + 1 : Nat) : Int)) at_ most (by omega) (by omega) (by omega) hlen (goalsS j x) (fun a m q1 q2 q3 q4 => by
            have := rgoals j (by omega) x hx hxl a m q1 q2 q3 q4
            rw [show 4 - ((j + 1 : Nat) : Int) + 1 = 4 - (j : Int) by omega]
            exact this) (fun a m q1 _ _ => goals_ok j x a m (by omega) q1) (by omega)
        · rcases (show 1 + pickS ((x.getD at_.toNat (Cd.dflt U.arr5)).a.tdiv 144) 6 = 2 ∨ 1 + pickS ((x.getD at_.toNat (Cd.dflt U.arr5)).a.tdiv 144) 6 = 3 ∨ 1 + pickS ((x.getD at_.toNat (Cd.dflt U.arr5)).a.tdiv 144) 6 = 4 by omega) with e | e | e
          · have := rgoals2 x hx hxl (4 - ((j + 1 : Nat) : Int)) at_ most (by omega) (by omega) (by omega) (by omega) hlen 2 (by omega) e _ rfl
            rw [if_pos rfl, e] at this
            rw [if_pos e]
            exact this
          · have := rgoals2 x hx hxl (4 - ((j + 1 : Nat) : Int)) at_ most (by omega) (by omega) (by omega) (by omega) hlen 3 (by omega) e _ rfl
            rw [if_neg (by omega), if_pos rfl, e] at this
            rw [if_neg (by omega), if_pos e]
            exact this
          · have := rgoals2 x hx hxl (4 - ((j + 1 : Nat) : Int)) at_ most (by omega) (by omega) (by omega) (by omega) hlen 4 (by omega) e _ rfl
            rw [if_neg (by omega), if_neg (by omega), e] at this
            rw [if_neg (by omega), if_neg (by omega), if_pos e]
            exact this
theorem rGoal (x : List A5) (hx : ∀ y ∈ x, A5OK y) (hxl : (x.length : Int) ≤ 9223372036854775807) : Meets Tryz.prog Dc 36 [a5S x] [] (goalA (goalS x)) [] := by
  have h : Meets Tryz.prog Dc 57 [a5S x, iS 0, iS 1, iS 9] [] (.tuple [goalA (goalsS 3 x 0 9).1, iS (goalsS 3 x 0 9).2.1, iS (goalsS 3 x 0 9).2.2]) [] := rgoals 3 (by omega) x hx hxl 0 9 (by omega) (by omega) (by omega) (by omega)
  unfold goalS
  generalize goalsS 3 x 0 9 = q at h ⊢
  refine meets_of_gx Ax tab_ok Tryz.func36 (c := _) rfl Tryz.call36 100 ?_
  (repeat' ((conv => whnf); first | (exfalso; omega) | refine cpC (h) ?_ | refine dpC (h) ?_ | refine x0C ?_ | refine spC (fun hb => ?_) fun hb => ?_ | refine nilC (fun hb => ?_) ?_ | refine taC ?_ | refine saC ?_ | exact sdV | refine side_and ?_ ?_ | refine drawX_of mixed ?_))
  all_goals exact vwV
@[reducible] def gS (l : List Goal) : SV Cd := .p (.dsl U.goal l)
theorem rshots0 : ∀ (j : Nat) (g : Goal) (d n : Int), 5 - d ≤ j → sizeG g d = some n → n ≤ 1000 → GAll g → Meets Tryz.prog Dc 80 [goalA g] [] (gS (seesG g)) [] := by
  intro j
  induction j with
  | zero =>
    intro g d n h1 hs
    have := (size_ok hs).2.1
    omega
  | succ j ih =>
    intro g d n h1 hs hn hG
    obtain ⟨hok, hd, m, hL, rfl⟩ := size_ok hs
    obtain ⟨hgl, hgk⟩ := (GAll_iff g).1 hG
    rw [seesG_eq]
    by_cases hk : g.kind = 1
    · rw [if_pos hk]
      rw [show [g] = [etaG g] from by rw [etaG_eq]]
      refine meets_of_gx Ax tab_ok Tryz.func80 (c := _) rfl Tryz.call80 200 ?_
      (repeat' ((conv => whnf); first | (exfalso; omega) | refine x0C ?_ | refine spC (fun hb => ?_) fun hb => ?_ | refine nilC (fun hb => ?_) ?_ | refine taC ?_ | refine saC ?_ | exact sdV | refine side_and ?_ ?_ | refine drawX_of mixed ?_))
      all_goals exact vwV
    · rw [if_neg hk]
      have hkk := hgl.kids
      refine meets_of_gx Ax tab_ok Tryz.func80 (c := _) rfl Tryz.call80 200 ?_
      (repeat' ((conv => whnf); first | (exfalso; omega) | refine x0C ?_ | refine spC (fun hb => ?_) fun hb => ?_ | refine nilC (fun hb => ?_) ?_ | refine taC ?_ | refine saC ?_ | exact sdV | refine side_and ?_ ?_ | refine drawX_of mixed ?_))
      have hkl : (g.kids.length : Int) ≤ m := by
        have key : ∀ (l : List Goal) (d m : Int), sizeL l d = some m → (l.length : Int) ≤ m := by
          intro l
          induction l with
          | nil => intro d m h; rw [sizeL] at h; injection h with h; simp; omega
          | cons a l ihl =>
            intro d m h
            rw [sizeL] at h
            split at h
            · cases h
            · rename_i x hx
              split at h
              · cases h
              · rename_i y hy
                injection h with h
                have := ihl d y hy
                have := size_pos hx
                simp; omega
        exact key _ _ _ hL
      refine loop_upT [some 0, none] (fun q : Nat × List Goal => [(3, .slice 1 0 12 0 q.2.length), (4, iS q.1)]) (fun q => [(1, .rows U.goal q.2)]) (fun q => q.1 ≤ g.kids.length ∧ q.2 = seesL (g.kids.take q.1) ∧ (q.2.length : Int) ≤ 1000) (fun q => g.kids.length - q.1) (0, []) ⟨Nat.zero_le _, by simp [seesL], by simp⟩ (by exact bkI) ?_
      rintro ⟨i, J⟩ ⟨hi, hJ, hJl⟩ K hK
      dsimp only at hi hJ hJl hK ⊢
      rcases Nat.lt_or_ge i g.kids.length with hlt | hge
      · have hgi := getD_some (d := Cd.dflt U.goal) hlt
        have hkm := List.mem_of_getElem? hgi
        obtain ⟨a, ha, ha2⟩ := sizeL_mem hL hkm
        have hx := ih _ (d + 1) a (by omega) ha (by omega) (GAllL_mem hgk hkm)
        have hW : List.take J.length J ++ seesG (g.kids.getD (i : Int).toNat (Cd.dflt U.goal)) = seesL (g.kids.take (i + 1)) := by
          rw [take_getD (d := Cd.dflt U.goal) hlt, seesL_snoc, ← hJ, List.take_length]; rfl
        obtain ⟨b, hb1, hb2⟩ := sizeL_take (i + 1) hL
        have hWl : ((List.take J.length J ++ seesG (g.kids.getD (i : Int).toNat (Cd.dflt U.goal))).length : Int) ≤ 1000 := by
          rw [hW]
          have := (seesL_ok _ _ _ hb1).1
          omega
        have hsl := (seesG_ok _ _ _ ha).1
        have hsl2 := hsl
        simp at hsl2
        (repeat' ((conv => whnf); first | (exfalso; omega) | refine cpC (hx) ?_ | refine dpC (hx) ?_ | refine hK (i + 1, List.take J.length J ++ seesG (g.kids.getD (i : Int).toNat (Cd.dflt U.goal))) [some 0, some 2] _ _ ⟨⟨by dsimp only; omega, hW, hWl⟩⟩ ⟨by dsimp only; omega⟩ (by exact bkI) | refine x0C ?_ | refine spC (fun hb => ?_) fun hb => ?_ | refine nilC (fun hb => ?_) ?_ | refine taC ?_ | refine saC ?_ | exact sdV | refine side_and ?_ ?_ | refine drawX_of mixed ?_))
      · rw [List.take_of_length_le hge] at hJ
        rw [← hJ]
        (repeat' ((conv => whnf); first | (exfalso; omega) | refine x0C ?_ | refine spC (fun hb => ?_) fun hb => ?_ | refine nilC (fun hb => ?_) ?_ | refine taC ?_ | refine saC ?_ | exact sdV | refine side_and ?_ ?_ | refine drawX_of mixed ?_))
        all_goals exact vwV
theorem rShots (g : Goal) (hG : GAll g) : Meets Tryz.prog Dc 54 [goalA g] [] (gS (shotsS g)) [] := by
  have h1 := valid13 g hG
  unfold shotsS
  cases hv : validG g with
  | false =>
    rw [hv] at h1
    refine meets_of_gx Ax tab_ok Tryz.func54 (c := _) rfl Tryz.call54 100 ?_
    (repeat' ((conv => whnf); first | (exfalso; omega) | refine cpC (h1) ?_ | refine dpC (h1) ?_ | refine x0C ?_ | refine spC (fun hb => ?_) fun hb => ?_ | refine nilC (fun hb => ?_) ?_ | refine taC ?_ | refine saC ?_ | exact sdV | refine side_and ?_ ?_ | refine drawX_of mixed ?_))
    all_goals exact vwV
  | true =>
    rw [hv] at h1
    have h2 : Meets Tryz.prog Dc 80 [goalA g] [] (gS (seesG g)) [] := by
      unfold validG at hv
      split at hv
      · cases hv
      · rename_i n hn
        have : n ≤ 12 := by simpa using hv
        exact rshots0 4 g 1 n (by omega) hn (by omega) hG
    refine meets_of_gx Ax tab_ok Tryz.func54 (c := _) rfl Tryz.call54 100 ?_
    (repeat' ((conv => whnf); first | (exfalso; omega) | refine cpC (h1) ?_ | refine dpC (h1) ?_ | refine cpC (h2) ?_ | refine dpC (h2) ?_ | refine x0C ?_ | refine spC (fun hb => ?_) fun hb => ?_ | refine nilC (fun hb => ?_) ?_ | refine taC ?_ | refine saC ?_ | exact sdV | refine side_and ?_ ?_ | refine drawX_of mixed ?_))
    all_goals exact vwV
end Go.SX

namespace Go.SX
open Go.Proofs
set_option linter.unusedSimpArgs false
set_option linter.unusedVariables false
set_option maxHeartbeats 4000000
set_option maxRecDepth 100000
theorem rsorted (a b : List Event) (ha : (a.length : Int) ≤ 1000000) (hb : (b.length : Int) ≤ 1000000) : Meets Tryz.prog Dc 31 [eS a, eS b] [] (eS (sortedS a b)) [] := by
  refine meets_of_gx Ax tab_ok Tryz.func31 (c := _) rfl Tryz.call31 400 ?_
  (repeat' ((conv => whnf); first | (exfalso; omega) | refine x0C ?_ | refine spC (fun hb => ?_) fun hb => ?_ | refine nilC (fun hb => ?_) ?_ | refine taC ?_ | refine saC ?_ | exact sdV | refine side_and ?_ ?_ | refine drawX_of mixed ?_))
  refine loop_upT [some 0, some 1] (fun q : Nat × List Event => [(5, .slice 1 0 7 0 q.2.length), (6, iS q.1), (8, .any), (10, .any)]) (fun q => [(1, .rows U.event q.2)]) (fun q => q.1 ≤ b.length ∧ sortedS a b = sortedS q.2 (b.drop q.1) ∧ q.2.length ≤ a.length + q.1) (fun q => b.length - q.1) (0, List.take 0 [] ++ a) ⟨Nat.zero_le _, by simp, by simp⟩ (by exact bkI) ?_
  rintro ⟨i, out⟩ ⟨hi, he, hol⟩ K hK
  dsimp only at hi he hol hK ⊢
  rcases Nat.lt_or_ge i b.length with hlt | hge
  · have hgi := getD_some (d := Cd.dflt U.event) hlt
    have hsd : sortedS out (b.drop i) = sortedS (insE out (b.getD i (U.dflt .event))) (b.drop (i + 1)) := by
      rw [drop_getD (d := U.dflt .event) hlt]; rfl
    have hins := insE_len out (b.getD i (U.dflt .event))
    (repeat' ((conv => whnf); first | (exfalso; omega) | refine x0C ?_ | refine spC (fun hb => ?_) fun hb => ?_ | refine nilC (fun hb => ?_) ?_ | refine taC ?_ | refine saC ?_ | exact sdV | refine side_and ?_ ?_ | refine drawX_of mixed ?_))
    refine loop_upT [some 0, some 1] (fun at_ : Nat => [(7, iS at_)]) (fun _ => []) (fun at_ => at_ ≤ out.length ∧ downE out (b.getD i (U.dflt .event)) out.length = downE out (b.getD i (U.dflt .event)) at_) (fun at_ => at_) out.length ⟨Nat.le_refl _, rfl⟩ (by exact bkI) ?_
    rintro at_ ⟨hat, hd⟩ K2 hK2
    have hWg : ∀ A : Nat, A ≤ out.length → (List.take ((A : Nat) : Int).toNat out ++ List.take (List.take 1 [(b.getD (i : Int).toNat (Cd.dflt U.event))] ++ List.take (((out.length : Nat) : Int).toNat - ((A : Nat) : Int).toNat) (List.drop (0 + ((A : Nat) : Int).toNat) out)).length (List.drop 0 (List.take 1 [(b.getD (i : Int).toNat (Cd.dflt U.event))] ++ List.take (((out.length : Nat) : Int).toNat - ((A : Nat) : Int).toNat) (List.drop (0 + ((A : Nat) : Int).toNat) out)))) = out.take A ++ (b.getD (i : Int).toNat (Cd.dflt U.event)) :: out.drop A := by
      intro A hA
      rw [Int.toNat_natCast, Int.toNat_natCast, Nat.zero_add, List.drop_zero, List.take_length, List.take_of_length_le (l := out.drop A) (by simp)]
      rfl
    match at_ with
    | 0 =>
      have hd0 : downE out (b.getD i (U.dflt .event)) out.length = 0 := hd
      have hie : (List.take ((0 : Nat) : Int).toNat out ++ List.take (List.take 1 [(b.getD (i : Int).toNat (Cd.dflt U.event))] ++ List.take (((out.length : Nat) : Int).toNat - ((0 : Nat) : Int).toNat) (List.drop (0 + ((0 : Nat) : Int).toNat) out)).length (List.drop 0 (List.take 1 [(b.getD (i : Int).toNat (Cd.dflt U.event))] ++ List.take (((out.length : Nat) : Int).toNat - ((0 : Nat) : Int).toNat) (List.drop (0 + ((0 : Nat) : Int).toNat) out)))) = insE out (b.getD i (U.dflt .event)) := by
        rw [hWg 0 (by omega)]
        unfold insE; rw [hd0, if_neg (by omega)]; rfl
      have hsd2 : sortedS a b = sortedS (List.take ((0 : Nat) : Int).toNat out ++ List.take (List.take 1 [(b.getD (i : Int).toNat (Cd.dflt U.event))] ++ List.take (((out.length : Nat) : Int).toNat - ((0 : Nat) : Int).toNat) (List.drop (0 + ((0 : Nat) : Int).toNat) out)).length (List.drop 0 (List.take 1 [(b.getD (i : Int).toNat (Cd.dflt U.event))] ++ List.take (((out.length : Nat) : Int).toNat - ((0 : Nat) : Int).toNat) (List.drop (0 + ((0 : Nat) : Int).toNat) out)))) (b.drop (i + 1)) := by rw [he, hsd, hie]
      have hWl : (List.take ((0 : Nat) : Int).toNat out ++ List.take (List.take 1 [(b.getD (i : Int).toNat (Cd.dflt U.event))] ++ List.take (((out.length : Nat) : Int).toNat - ((0 : Nat) : Int).toNat) (List.drop (0 + ((0 : Nat) : Int).toNat) out)).length (List.drop 0 (List.take 1 [(b.getD (i : Int).toNat (Cd.dflt U.event))] ++ List.take (((out.length : Nat) : Int).toNat - ((0 : Nat) : Int).toNat) (List.drop (0 + ((0 : Nat) : Int).toNat) out)))).length ≤ a.length + (i + 1) := by rw [hie]; omega
      (repeat' ((conv => whnf); first | (exfalso; omega) | refine hK (i + 1, (List.take ((0 : Nat) : Int).toNat out ++ List.take (List.take 1 [(b.getD (i : Int).toNat (Cd.dflt U.event))] ++ List.take (((out.length : Nat) : Int).toNat - ((0 : Nat) : Int).toNat) (List.drop (0 + ((0 : Nat) : Int).toNat) out)).length (List.drop 0 (List.take 1 [(b.getD (i : Int).toNat (Cd.dflt U.event))] ++ List.take (((out.length : Nat) : Int).toNat - ((0 : Nat) : Int).toNat) (List.drop (0 + ((0 : Nat) : Int).toNat) out))))) [some 0, some 4] _ _ ⟨⟨by dsimp only; omega, hsd2, hWl⟩⟩ ⟨by dsimp only; omega⟩ (by exact bkI) | refine x0C ?_ | refine spC (fun hb => ?_) fun hb => ?_ | refine nilC (fun hb => ?_) ?_ | refine taC ?_ | refine saC ?_ | exact sdV | refine side_and ?_ ?_ | refine drawX_of mixed ?_))
    | k + 1 =>
      have ek : 0 + (((k + 1 : Nat) : Int) - 1).toNat = k := by omega
      have ek2 : 0 + (max 0 (((k + 1 : Nat) : Int) - 1)).toNat = k := by omega
      have hb1 := before_meets (b.getD (i : Int).toNat (Cd.dflt U.event)) (out.getD (0 + (((k + 1 : Nat) : Int) - 1).toNat) (Cd.dflt U.event))
      have hb2 := before_meets (out.getD (0 + (max 0 (((k + 1 : Nat) : Int) - 1)).toNat) (Cd.dflt U.event)) (b.getD (i : Int).toNat (Cd.dflt U.event))
      cases hB : befB (b.getD (i : Int).toNat (Cd.dflt U.event)) (out.getD (0 + (((k + 1 : Nat) : Int) - 1).toNat) (Cd.dflt U.event)) with
      | true =>
        rw [hB] at hb1
        rw [ek] at hB
        have hd2 : downE out (b.getD i (U.dflt .event)) out.length = downE out (b.getD i (U.dflt .event)) k := by rw [hd, downE, if_pos (show befB (b.getD i (U.dflt .event)) (out.getD k (U.dflt .event)) = true from hB)]
        (repeat' ((conv => whnf); first | (exfalso; omega) | refine cpC (hb1) ?_ | refine dpC (hb1) ?_ | refine hK2 k [some 0, some 1] _ _ ⟨⟨by omega, hd2⟩⟩ ⟨by omega⟩ (by exact bkI) | refine x0C ?_ | refine spC (fun hb => ?_) fun hb => ?_ | refine nilC (fun hb => ?_) ?_ | refine taC ?_ | refine saC ?_ | exact sdV | refine side_and ?_ ?_ | refine drawX_of mixed ?_))
      | false =>
        rw [hB] at hb1
        rw [ek] at hB
        have hd2 : downE out (b.getD i (U.dflt .event)) out.length = k + 1 := by rw [hd, downE, if_neg (fun h => by rw [show befB (b.getD i (U.dflt .event)) (out.getD k (U.dflt .event)) = false from hB] at h; cases h)]
        cases hC : befB (out.getD (0 + (max 0 (((k + 1 : Nat) : Int) - 1)).toNat) (Cd.dflt U.event)) (b.getD (i : Int).toNat (Cd.dflt U.event)) with
        | false =>
          rw [hC] at hb2
          rw [ek2] at hC
          have hie : insE out (b.getD i (U.dflt .event)) = out := by
            unfold insE; rw [hd2, if_pos ⟨by omega, hC⟩]
          have hsd2 : sortedS a b = sortedS out (b.drop (i + 1)) := by rw [he, hsd, hie]
          (repeat' ((conv => whnf); first | (exfalso; omega) | refine cpC (hb1) ?_ | refine dpC (hb1) ?_ | refine cpC (hb2) ?_ | refine dpC (hb2) ?_ | refine hK (i + 1, out) [some 0, some 1] _ _ ⟨⟨by dsimp only; omega, hsd2, by dsimp only; omega⟩⟩ ⟨by dsimp only; omega⟩ (by exact bkI) | refine x0C ?_ | refine spC (fun hb => ?_) fun hb => ?_ | refine nilC (fun hb => ?_) ?_ | refine taC ?_ | refine saC ?_ | exact sdV | refine side_and ?_ ?_ | refine drawX_of mixed ?_))
        | true =>
          rw [hC] at hb2
          rw [ek2] at hC
          have hie : (List.take (((k + 1) : Nat) : Int).toNat out ++ List.take (List.take 1 [(b.getD (i : Int).toNat (Cd.dflt U.event))] ++ List.take (((out.length : Nat) : Int).toNat - (((k + 1) : Nat) : Int).toNat) (List.drop (0 + (((k + 1) : Nat) : Int).toNat) out)).length (List.drop 0 (List.take 1 [(b.getD (i : Int).toNat (Cd.dflt U.event))] ++ List.take (((out.length : Nat) : Int).toNat - (((k + 1) : Nat) : Int).toNat) (List.drop (0 + (((k + 1) : Nat) : Int).toNat) out)))) = insE out (b.getD i (U.dflt .event)) := by
            rw [hWg (k + 1) (by omega)]
            unfold insE; rw [hd2, if_neg (fun h => by rw [show befB (out.getD (k + 1 - 1) (U.dflt .event)) (b.getD i (U.dflt .event)) = true from hC] at h; cases h.2)]; rfl
          have hsd2 : sortedS a b = sortedS (List.take (((k + 1) : Nat) : Int).toNat out ++ List.take (List.take 1 [(b.getD (i : Int).toNat (Cd.dflt U.event))] ++ List.take (((out.length : Nat) : Int).toNat - (((k + 1) : Nat) : Int).toNat) (List.drop (0 + (((k + 1) : Nat) : Int).toNat) out)).length (List.drop 0 (List.take 1 [(b.getD (i : Int).toNat (Cd.dflt U.event))] ++ List.take (((out.length : Nat) : Int).toNat - (((k + 1) : Nat) : Int).toNat) (List.drop (0 + (((k + 1) : Nat) : Int).toNat) out)))) (b.drop (i + 1)) := by rw [he, hsd, hie]
          have hWl : (List.take (((k + 1) : Nat) : Int).toNat out ++ List.take (List.take 1 [(b.getD (i : Int).toNat (Cd.dflt U.event))] ++ List.take (((out.length : Nat) : Int).toNat - (((k + 1) : Nat) : Int).toNat) (List.drop (0 + (((k + 1) : Nat) : Int).toNat) out)).length (List.drop 0 (List.take 1 [(b.getD (i : Int).toNat (Cd.dflt U.event))] ++ List.take (((out.length : Nat) : Int).toNat - (((k + 1) : Nat) : Int).toNat) (List.drop (0 + (((k + 1) : Nat) : Int).toNat) out)))).length ≤ a.length + (i + 1) := by rw [hie]; omega
          (repeat' ((conv => whnf); first | (exfalso; omega) | refine cpC (hb1) ?_ | refine dpC (hb1) ?_ | refine cpC (hb2) ?_ | refine dpC (hb2) ?_ | refine hK (i + 1, (List.take (((k + 1) : Nat) : Int).toNat out ++ List.take (List.take 1 [(b.getD (i : Int).toNat (Cd.dflt U.event))] ++ List.take (((out.length : Nat) : Int).toNat - (((k + 1) : Nat) : Int).toNat) (List.drop (0 + (((k + 1) : Nat) : Int).toNat) out)).length (List.drop 0 (List.take 1 [(b.getD (i : Int).toNat (Cd.dflt U.event))] ++ List.take (((out.length : Nat) : Int).toNat - (((k + 1) : Nat) : Int).toNat) (List.drop (0 + (((k + 1) : Nat) : Int).toNat) out))))) [some 0, some 4] _ _ ⟨⟨by dsimp only; omega, hsd2, hWl⟩⟩ ⟨by dsimp only; omega⟩ (by exact bkI) | refine x0C ?_ | refine spC (fun hb => ?_) fun hb => ?_ | refine nilC (fun hb => ?_) ?_ | refine taC ?_ | refine saC ?_ | exact sdV | refine side_and ?_ ?_ | refine drawX_of mixed ?_))
  · rw [List.drop_of_length_le hge] at he
    rw [he]
    (repeat' ((conv => whnf); first | (exfalso; omega) | refine x0C ?_ | refine spC (fun hb => ?_) fun hb => ?_ | refine nilC (fun hb => ?_) ?_ | refine taC ?_ | refine saC ?_ | exact sdV | refine side_and ?_ ?_ | refine drawX_of mixed ?_))
    all_goals exact vwV
end Go.SX

namespace Go.SX
open Go.Proofs
set_option linter.unusedSimpArgs false
set_option linter.unusedVariables false
set_option maxHeartbeats 4000000
set_option maxRecDepth 100000
def cutR (n : Int) (l : List Int) : List Int := List.drop (Int.toNat 0) (List.take (min ((l.length : Nat) : Int) n).toNat l)
def flatS (g : Goal) : Goal := ⟨g.kind, List.drop (Int.toNat 0) (List.take (min ((g.rows.length : Nat) : Int) 25).toNat g.rows), g.from_, g.to_, g.low, g.high, g.clear, g.days, g.times, g.within, List.drop (Int.toNat 0) (List.take (min ((g.cents.length : Nat) : Int) 5).toNat g.cents), []⟩
theorem flat_all (g : Goal) : GAll (flatS g) := by
  rw [GAll_iff]
  refine ⟨⟨?_, ?_, by simp [flatS]⟩, by simp [flatS, GAllL]⟩
  · unfold flatS; dsimp only; rw [List.length_drop, List.length_take]; omega
  · unfold flatS; dsimp only; rw [List.length_drop, List.length_take]; omega
theorem lflat (g : Goal) (hg : GLen g) : Meets Tryz.prog Dc 13 [goalA g] [] (goalA (flatS g)) [] := by
  have h1 := hg.rows
  have h2 := hg.cents
  refine meets_of_gx Ax tab_ok Tryz.func13 (c := _) rfl Tryz.call13 100 ?_
  (repeat' ((conv => whnf); first | (exfalso; omega) | refine x0C ?_ | refine spC (fun hb => ?_) fun hb => ?_ | refine nilC (fun hb => ?_) ?_ | refine taC ?_ | refine saC ?_ | exact sdV | refine side_and ?_ ?_ | refine drawX_of mixed ?_))
  all_goals exact vwV
def cutE (e : Event) : Event := ⟨e.kind, e.at_, e.image, List.drop (Int.toNat 0) (List.take (min ((e.rows.length : Nat) : Int) 25).toNat e.rows), e.sun, e.look, e.clear⟩
def fewS (l : List Event) : List Event := (l.take (min l.length 6)).map cutE
theorem few_len (l : List Event) : (fewS l).length ≤ 6 := by unfold fewS; simp; omega
theorem few_elen (l : List Event) : ∀ e ∈ fewS l, ELen e := by
  intro e he
  unfold fewS at he
  obtain ⟨d, _, rfl⟩ := List.mem_map.1 he
  unfold ELen cutE
  dsimp only
  rw [List.length_drop, List.length_take]; omega
theorem lfew (l : List Event) (hl : (l.length : Int) ≤ 9223372036854775807) (hE : ∀ e ∈ l, ELen e) : Meets Tryz.prog Dc 11 [eS l] [] (eS (fewS l)) [] := by
  refine meets_of_gx Ax tab_ok Tryz.func11 (c := _) rfl Tryz.call11 300 ?_
  (repeat' ((conv => whnf); first | (exfalso; omega) | refine x0C ?_ | refine spC (fun hb => ?_) fun hb => ?_ | refine nilC (fun hb => ?_) ?_ | refine taC ?_ | refine saC ?_ | exact sdV | refine side_and ?_ ?_ | refine drawX_of mixed ?_))
  refine loop_upT [none] (fun q : Nat × List Event => [(3, .slice 0 0 7 0 q.2.length), (4, iS q.1)]) (fun q => [(0, .rows U.event q.2)]) (fun q => q.1 ≤ min l.length 6 ∧ q.2 = (l.take q.1).map cutE) (fun q => 6 - q.1) (0, []) ⟨Nat.zero_le _, by simp⟩ (by exact bkI) ?_
  rintro ⟨i, J⟩ ⟨hi, hJ⟩ K hK
  dsimp only at hi hJ hK ⊢
  have hJl : J.length ≤ i := by rw [hJ]; simp; omega
  by_cases hgo : i < l.length ∧ i < 6
  · obtain ⟨hlt, h6⟩ := hgo
    have hgi := getD_some (d := Cd.dflt U.event) hlt
    have he := hE _ (List.mem_of_getElem? hgi)
    unfold ELen at he
    have hW : List.take J.length J ++ List.take 1 (List.drop 0 [cutE (l.getD (i : Int).toNat (Cd.dflt U.event))]) = (l.take (i + 1)).map cutE := by
      rw [take_getD (d := Cd.dflt U.event) hlt, List.map_append, ← hJ, List.take_length]; rfl
    (repeat' ((conv => whnf); first | (exfalso; omega) | refine hK (i + 1, List.take J.length J ++ List.take 1 (List.drop 0 [cutE (l.getD (i : Int).toNat (Cd.dflt U.event))])) [some 3] _ _ ⟨⟨by dsimp only; omega, hW⟩⟩ ⟨by dsimp only; omega⟩ (by exact bkI) | refine x0C ?_ | refine spC (fun hb => ?_) fun hb => ?_ | refine nilC (fun hb => ?_) ?_ | refine taC ?_ | refine saC ?_ | exact sdV | refine side_and ?_ ?_ | refine drawX_of mixed ?_))
  · unfold fewS
    rw [show min l.length 6 = i by omega, ← hJ]
    (repeat' ((conv => whnf); first | (exfalso; omega) | refine x0C ?_ | refine spC (fun hb => ?_) fun hb => ?_ | refine nilC (fun hb => ?_) ?_ | refine taC ?_ | refine saC ?_ | exact sdV | refine side_and ?_ ?_ | refine drawX_of mixed ?_))
    all_goals exact vwV
def bitI (set : Int) (j : Nat) : Bool := decide ((shrop .i64 set j).tmod 2 = 1)
def ofN (l : List Event) (set : Int) (i : Nat) : List Event := ((List.range i).filter (bitI set)).map fun j => l.getD j (U.dflt .event)
theorem ofN_succ (l : List Event) (set : Int) (i : Nat) : ofN l set (i + 1) = if bitI set i then ofN l set i ++ [l.getD i (U.dflt .event)] else ofN l set i := by
  unfold ofN
  rw [List.range_succ, List.filter_append, List.map_append]
  cases h : bitI set i with
  | true => rw [if_pos rfl, List.filter_cons, if_pos h]; rfl
  | false => rw [if_neg (by simp), List.filter_cons, if_neg (by rw [h]; simp)]; simp
theorem ofN_len (l : List Event) (set : Int) (i : Nat) : (ofN l set i).length ≤ i := by
  unfold ofN
  rw [List.length_map]
  exact Nat.le_trans (List.length_filter_le _ _) (by simp)
theorem ofN_sub (l : List Event) (set : Int) : ∀ i : Nat, i ≤ l.length → (ofN l set i).Sublist (l.take i)
  | 0, _ => by simp [ofN]
  | i + 1, h => by
    rw [ofN_succ, take_getD (d := U.dflt .event) (by omega)]
    have ih := ofN_sub l set i (by omega)
    split
    · exact ih.append (List.Sublist.refl _)
    · exact ih.trans (List.sublist_append_left _ _)
def ofS (l : List Event) (set : Int) : List Event := ofN l set l.length
theorem ofS_sub (l : List Event) (set : Int) : (ofS l set).Sublist l := by
  have := ofN_sub l set l.length (Nat.le_refl _)
  rwa [List.take_length] at this
theorem lof (l : List Event) (set : Int) (hl : (l.length : Int) ≤ 120) : Meets Tryz.prog Dc 30 [eS l, iS set] [] (eS (ofS l set)) [] := by
  refine meets_of_gx Ax tab_ok Tryz.func30 (c := _) rfl Tryz.call30 100 ?_
  (repeat' ((conv => whnf); first | (exfalso; omega) | refine x0C ?_ | refine spC (fun hb => ?_) fun hb => ?_ | refine nilC (fun hb => ?_) ?_ | refine taC ?_ | refine saC ?_ | exact sdV | refine side_and ?_ ?_ | refine drawX_of mixed ?_))
  refine loop_upT [none] (fun q : Nat × List Event => [(5, .slice 0 0 7 0 q.2.length), (6, iS q.1)]) (fun q => [(0, .rows U.event q.2)]) (fun q => q.1 ≤ l.length ∧ q.2 = ofN l set q.1) (fun q => l.length - q.1) (0, []) ⟨Nat.zero_le _, by simp [ofN]⟩ (by exact bkI) ?_
  rintro ⟨i, J⟩ ⟨hi, hJ⟩ K hK
  dsimp only at hi hJ hK ⊢
  have hJl : J.length ≤ i := by rw [hJ]; exact ofN_len _ _ _
  rcases Nat.lt_or_ge i l.length with hlt | hge
  · have hs := ofN_succ l set i
    have hW : (shrop .i64 set (i : Int)).tmod 2 = 1 → List.take J.length J ++ List.take 1 (List.drop 0 [l.getD (i : Int).toNat (Cd.dflt U.event)]) = ofN l set (i + 1) := fun h => by
      rw [hs, if_pos (by unfold bitI; exact decide_eq_true h), ← hJ, List.take_length]; rfl
    have hN : ¬ (shrop .i64 set (i : Int)).tmod 2 = 1 → J = ofN l set (i + 1) := fun h => by
      rw [hs, if_neg (by unfold bitI; rw [decide_eq_false h]; simp), ← hJ]
    (repeat' ((conv => whnf); first | (exfalso; omega) | refine hK (i + 1, J) [some 0] _ _ ⟨⟨by dsimp only; omega, hN (by assumption)⟩⟩ ⟨by dsimp only; omega⟩ (by exact bkI) | refine hK (i + 1, List.take J.length J ++ List.take 1 (List.drop 0 [l.getD (i : Int).toNat (Cd.dflt U.event)])) [some 2] _ _ ⟨⟨by dsimp only; omega, hW (by assumption)⟩⟩ ⟨by dsimp only; omega⟩ (by exact bkI) | refine x0C ?_ | refine spC (fun hb => ?_) fun hb => ?_ | refine nilC (fun hb => ?_) ?_ | refine taC ?_ | refine saC ?_ | exact sdV | refine side_and ?_ ?_ | refine drawX_of mixed ?_))
  · unfold ofS
    rw [show l.length = i by omega, ← hJ]
    (repeat' ((conv => whnf); first | (exfalso; omega) | refine x0C ?_ | refine spC (fun hb => ?_) fun hb => ?_ | refine nilC (fun hb => ?_) ?_ | refine taC ?_ | refine saC ?_ | exact sdV | refine side_and ?_ ?_ | refine drawX_of mixed ?_))
    all_goals exact vwV
def exRows : List Int := (List.replicate (Int.toNat 24) 0).set (0 + Int.toNat 7) 8
def exS : Goal := ⟨1, exRows, 100, 200, 20, 60, false, 0, 0, 0, [], []⟩
def exE : Event := ⟨1, 150, 5, exRows, 30, 2, false⟩
def exF : Event := ⟨1, 160, 6, exRows, 30, -1, false⟩
theorem lexample : Meets Tryz.prog Dc 33 [] [] (.tuple [goalA exS, evA exE, evA exF]) [] := by
  refine meets_of_gx Ax tab_ok Tryz.func33 (c := _) rfl Tryz.call33 200 ?_
  (repeat' ((conv => whnf); first | (exfalso; omega) | refine x0C ?_ | refine spC (fun hb => ?_) fun hb => ?_ | refine nilC (fun hb => ?_) ?_ | refine taC ?_ | refine saC ?_ | exact sdV | refine side_and ?_ ?_ | refine drawX_of mixed ?_))
  all_goals exact vwV
theorem ldeliver (a b : Int) : Meets Tryz.prog Dc 34 [iS a, iS b] [] (evA ⟨2, a, b, [], 0, 0, false⟩) [] := by
  refine meets_of_gx Ax tab_ok Tryz.func34 (c := _) rfl Tryz.call34 100 ?_
  (repeat' ((conv => whnf); first | (exfalso; omega) | refine x0C ?_ | refine spC (fun hb => ?_) fun hb => ?_ | refine nilC (fun hb => ?_) ?_ | refine taC ?_ | refine saC ?_ | exact sdV | refine side_and ?_ ?_ | refine drawX_of mixed ?_))
  all_goals exact vwV
def metS (g : Goal) (l : List Event) (p : Int) : Bool := decide ((askS g l).2.2.2 = 0) && (askS g l).2.2.1 && decide ((askS g l).1 = p)
theorem lmet (g : Goal) (hG : GAll g) (l : List Event) (hl : (l.length : Int) ≤ 9223372036854775807) (hE : ∀ e ∈ l, ELen e) (p : Int) : Meets Tryz.prog Dc 35 [goalA g, eS l, iS p] [] (bS (metS g l p)) [] := by
  have h1 := tprice g hG l hl hE
  have h2 := tmet g hG l hl hE
  unfold metS
  generalize askS g l = q at *
  obtain ⟨a, b, c, d⟩ := q
  dsimp only at *
  refine meets_of_gx Ax tab_ok Tryz.func35 (c := _) rfl Tryz.call35 100 ?_
  (repeat' ((conv => whnf); first | refine x0C (eB ?_ rfl) | (exfalso; omega) | refine cpC (h1) ?_ | refine dpC (h1) ?_ | refine cpC (h2) ?_ | refine dpC (h2) ?_ | refine x0C ?_ | refine spC (fun hb => ?_) fun hb => ?_ | refine nilC (fun hb => ?_) ?_ | refine taC ?_ | refine saC ?_ | exact sdV | refine side_and ?_ ?_ | refine drawX_of mixed ?_))
  all_goals clear h1 h2
  all_goals (first | (simp_all []; done) | (simp_all []; omega) | (simp_all []; grind))
end Go.SX

namespace Go.SX
open Go.Proofs
set_option linter.unusedSimpArgs false
set_option linter.unusedVariables false
set_option maxHeartbeats 4000000
set_option maxRecDepth 100000
@[reducible] def shotH (g : Goal) (image : Int) : HS Cd := .vart none [iS g.kind, lS g.rows, iS g.from_, iS g.to_, iS g.low, iS g.high, bS g.clear, iS g.days, iS g.times, iS g.within, lS g.cents, .p (.dsl U.goal g.kids), iS image]
theorem tat (g : Goal) (hg : (g.rows.length : Int) ≤ 1000) (image m look : Int) (hi : 0 ≤ image ∧ image ≤ 1000000) : Meets Tryz.prog Dc 73 [.ptr 0 0, iS m, iS look] [shotH g image] (.agg [iS 1, iS m, iS image, .slice 1 0 1 0 g.rows.length, iS g.low, iS look, bS true]) [shotH g (image + 1), .rows U.int g.rows] := by
  have h := cloneInt g.rows (by omega)
  refine meets_of_gx Ax tab_ok Tryz.func73 (c := _) rfl Tryz.call73 200 ?_
  (repeat' ((conv => whnf); first | (exfalso; omega) | (refine callh [] h rfl rfl trivial ?_) | (refine dcallh [] h rfl rfl trivial ?_) | (refine end_fn [some 0, some 2] (.inr rfl) ?_ ?_ rfl rfl; (focus exact vwV); exact hsV) | refine x0C ?_ | refine spC (fun hb => ?_) fun hb => ?_ | refine nilC (fun hb => ?_) ?_ | refine taC ?_ | refine saC ?_ | exact sdV | refine side_and ?_ ?_ | refine drawX_of mixed ?_))
/-- what a finish returns -/
@[reducible] def finR (s : Option (List Event)) : SV Cd := match s with
  | none => .tuple [eS [], bS false]
  | some l => .tuple [eS l, bS true]
def shotT (g : Goal) (m image look : Int) : Event := ⟨1, m, image, g.rows, g.low, look, true⟩
def finS1 (g : Goal) (l : List Event) (now image : Int) : Option (List Event) := if (meanG g l).isSome then some [] else if max now g.from_ < g.to_ then some [shotT g (max now g.from_) image 0] else none
theorem tfinish1 (g : Goal) (hk : g.kind = 1) (hr : (g.rows.length : Int) ≤ 1000) (l : List Event) (now image : Int) (hi : 0 ≤ image ∧ image ≤ 1000000) (hs : Meets Tryz.prog Dc 58 [worldA l now, goalA g] [] (senR (meanG g l)) []) : Meets Tryz.prog Dc 50 [worldA l now, goalA g, iS image] [] (finR (finS1 g l now image)) [] := by
  unfold finS1
  cases hm : meanG g l with
  | some w =>
    obtain ⟨p, im⟩ := w
    rw [hm] at hs
    refine meets_of_gx Ax tab_ok Tryz.func50 (c := _) rfl Tryz.call50 300 ?_
    (repeat' ((conv => whnf); first | (exfalso; omega) | refine cpC (hs) ?_ | refine dpC (hs) ?_ | refine x0C ?_ | refine spC (fun hb => ?_) fun hb => ?_ | refine nilC (fun hb => ?_) ?_ | refine taC ?_ | refine saC ?_ | exact sdV | refine side_and ?_ ?_ | refine drawX_of mixed ?_))
    all_goals exact vwV
  | none =>
    rw [hm] at hs
    by_cases hlt : max now g.from_ < g.to_
    · rw [if_neg (by simp), if_pos hlt]
      have ha := tat g hr image (max now g.from_) 0 hi
      refine meets_of_gx Ax tab_ok Tryz.func50 (c := _) rfl Tryz.call50 300 ?_
      (repeat' ((conv => whnf); first | (exfalso; omega) | refine cpC (hs) ?_ | refine dpC (hs) ?_ | (refine callh [some 4] ha rfl rfl ⟨rfl, trivial⟩ ?_) | (refine frz_op [some 0, some 1, some 2, some 3, some 4, none] [(65, evA (shotT g (max now g.from_) image 0))] [(5, .rows U.int [])] (by exact bkV) ?_) | refine x0C ?_ | refine spC (fun hb => ?_) fun hb => ?_ | refine nilC (fun hb => ?_) ?_ | refine taC ?_ | refine saC ?_ | exact sdV | refine side_and ?_ ?_ | refine drawX_of mixed ?_))
      all_goals exact vwV
    · rw [if_neg (by simp), if_neg hlt]
      refine meets_of_gx Ax tab_ok Tryz.func50 (c := _) rfl Tryz.call50 300 ?_
      (repeat' ((conv => whnf); first | (exfalso; omega) | refine cpC (hs) ?_ | refine dpC (hs) ?_ | refine x0C ?_ | refine spC (fun hb => ?_) fun hb => ?_ | refine nilC (fun hb => ?_) ?_ | refine taC ?_ | refine saC ?_ | exact sdV | refine side_and ?_ ?_ | refine drawX_of mixed ?_))
      all_goals exact vwV
def lateB (now : Int) (e : Event) : Bool := decide (now ≤ e.at_) || decide (899 < e.image)
theorem tlate (now : Int) (e : Event) : Meets Tryz.prog Dc 48 [evA e, .dptr [.int .i64 now] 0] [] (bS (lateB now e)) [] := by
  refine meets_of_gx Ax tab_ok Tryz.func48 (c := _) rfl Tryz.call48 100 ?_
  (repeat' ((conv => whnf); first | refine x0C (eB ?_ rfl) | (exfalso; omega) | refine x0C ?_ | refine spC (fun hb => ?_) fun hb => ?_ | refine nilC (fun hb => ?_) ?_ | refine taC ?_ | refine saC ?_ | exact sdV | refine side_and ?_ ?_ | refine drawX_of mixed ?_))
  all_goals (first | (simp_all [lateB]; done) | (simp_all [lateB]; omega) | (simp_all [lateB]; grind))
def nextN (l : List Event) (i : Nat) : Int := (l.take i).foldl (fun m e => max m (e.image + 1)) 0
theorem nextN_succ {l : List Event} {i : Nat} (h : i < l.length) : nextN l (i + 1) = max (nextN l i) ((l.getD i (U.dflt .event)).image + 1) := by
  unfold nextN
  rw [take_getD (d := U.dflt .event) h, List.foldl_append]; rfl
theorem nextN_bd {l : List Event} (h : ∀ e ∈ l, 0 ≤ e.image ∧ e.image ≤ 999) : ∀ i : Nat, i ≤ l.length → 0 ≤ nextN l i ∧ nextN l i ≤ 1000
  | 0, _ => by simp [nextN]
  | i + 1, hi => by
    have ih := nextN_bd h i (by omega)
    rw [nextN_succ (by omega)]
    have hg := getD_some (d := U.dflt .event) (show i < l.length by omega)
    have := h _ (List.mem_of_getElem? hg)
    rw [Int.toNat_natCast] at this
    omega
def nextI (l : List Event) : Int := nextN l l.length
theorem valid_image {l : List Event} (h : validE l = true) : ∀ e ∈ l, 0 ≤ e.image ∧ e.image ≤ 999 := by
  intro e he
  unfold validE at h
  simp only [Bool.and_eq_true] at h
  have hf := ((ord_iff l).1 h.2).1 e he
  unfold formB at hf
  simp only [Bool.and_eq_true, inB_iff] at hf
  exact hf.1.2
theorem finR_cases (s : Option (List Event)) : finR s = .tuple [eS (s.getD []), bS s.isSome] := by cases s <;> rfl
def okF (g : Goal) (l : List Event) (now : Int) : Bool := !l.any (lateB now) && inB now 0 1000000 && validG g && validE l
theorem tFinish (g : Goal) (hG : GAll g) (l : List Event) (hl : (l.length : Int) ≤ 9223372036854775807) (hE : ∀ e ∈ l, ELen e) (now : Int) (F : Option (List Event)) (hf : okF g l now = true → Meets Tryz.prog Dc 50 [worldA l now, goalA g, iS (nextI l)] [] (finR F) []) :
    Meets Tryz.prog Dc 27 [goalA g, eS l, iS now] [] (if okF g l now then .tuple [eS (F.getD []), bS F.isSome, iS 0] else .tuple [eS [], bS false, iS 150]) [] := by
  have h1 := valid_meets g hG
  have h2 := tvalid_meets l hl hE
  have h3 := hasEv (f := 48) (.c1 [.int .i64 now]) l hl fun e _ => tlate now e
  have h4 := tin now 0 1000000
  cases hok : okF g l now with
  | false =>
    rw [if_neg (by simp)]
    have hno : l.any (lateB now) = true ∨ inB now 0 1000000 = false ∨ validG g = false ∨ validE l = false := by
      unfold okF at hok
      simp only [Bool.and_eq_false_iff, Bool.not_eq_false'] at hok
      rcases hok with ((h | h) | h) | h
      · exact .inl h
      · exact .inr (.inl h)
      · exact .inr (.inr (.inl h))
      · exact .inr (.inr (.inr h))
    clear hok hf
    cases q1 : l.any (lateB now) <;> cases q2 : inB now 0 1000000 <;> cases q3 : validG g <;> cases q4 : validE l <;> simp only [q1, q2, q3, q4] at h1 h2 h3 h4 hno
    case false.true.true.true => simp at hno
    all_goals (
      refine meets_of_gx Ax tab_ok Tryz.func27 (c := _) rfl Tryz.call27 300 ?_
      (repeat' ((conv => whnf); first | (exfalso; omega) | refine cpC (h1) ?_ | refine dpC (h1) ?_ | refine cpC (h2) ?_ | refine dpC (h2) ?_ | refine rdC (h3) ?_ | refine cpC (h4) ?_ | refine dpC (h4) ?_ | refine x0C ?_ | refine spC (fun hb => ?_) fun hb => ?_ | refine nilC (fun hb => ?_) ?_ | refine taC ?_ | refine saC ?_ | exact sdV | refine side_and ?_ ?_ | refine drawX_of mixed ?_))
      all_goals exact vwV)
  | true =>
    rw [if_pos rfl]
    have hf := hf hok
    have hok' := hok
    unfold okF at hok'
    simp only [Bool.and_eq_true, Bool.not_eq_true'] at hok'
    obtain ⟨⟨⟨q1, q2⟩, q3⟩, q4⟩ := hok'
    rw [q3] at h1
    rw [q4] at h2
    rw [q1] at h3
    rw [q2] at h4
    rw [finR_cases] at hf
    have hlen := (evs_valid q4 hE).2.1
    have him := valid_image q4
    refine meets_of_gx Ax tab_ok Tryz.func27 (c := _) rfl Tryz.call27 300 ?_
    (repeat' ((conv => whnf); first | (exfalso; omega) | refine cpC (h1) ?_ | refine dpC (h1) ?_ | refine cpC (h2) ?_ | refine dpC (h2) ?_ | refine rdC (h3) ?_ | refine cpC (h4) ?_ | refine dpC (h4) ?_ | refine x0C ?_ | refine spC (fun hb => ?_) fun hb => ?_ | refine nilC (fun hb => ?_) ?_ | refine taC ?_ | refine saC ?_ | exact sdV | refine side_and ?_ ?_ | refine drawX_of mixed ?_))
    refine loop_upT [some 0, some 1] (fun i : Nat => [(10, iS (nextN l i)), (36, iS i)]) (fun _ => []) (fun i => i ≤ l.length) (fun i => l.length - i) 0 (Nat.zero_le _) (by exact bkI) ?_
    intro i hi K hK
    have hnb := nextN_bd him i hi
    rcases Nat.lt_or_ge i l.length with hlt | hge
    · have hgi := getD_some (d := Cd.dflt U.event) hlt
      have hii := him _ (List.mem_of_getElem? hgi)
      have hsu := nextN_succ hlt
      have hsu2 : max (nextN l i) ((l.getD (i : Int).toNat (Cd.dflt U.event)).image + 1) = nextN l (i + 1) := hsu.symm
      (repeat' ((conv => whnf); first | (exfalso; omega) | refine hK (i + 1) [some 0, some 1] _ _ ⟨by omega⟩ ⟨by omega⟩ (by (rw [← hsu2]; exact bkI)) | refine x0C ?_ | refine spC (fun hb => ?_) fun hb => ?_ | refine nilC (fun hb => ?_) ?_ | refine taC ?_ | refine saC ?_ | exact sdV | refine side_and ?_ ?_ | refine drawX_of mixed ?_))
    · have hie : nextN l i = nextI l := by unfold nextI; rw [show l.length = i by omega]
      rw [hie]
      (repeat' ((conv => whnf); first | (exfalso; omega) | refine cpC (hf) ?_ | refine dpC (hf) ?_ | refine x0C ?_ | refine spC (fun hb => ?_) fun hb => ?_ | refine nilC (fun hb => ?_) ?_ | refine taC ?_ | refine saC ?_ | exact sdV | refine side_and ?_ ?_ | refine drawX_of mixed ?_))
      all_goals exact vwV
theorem tDoomed (g : Goal) (l : List Event) (now : Int) (a : List Event) (b : Bool) (c : Int) (h : Meets Tryz.prog Dc 27 [goalA g, eS l, iS now] [] (.tuple [eS a, bS b, iS c]) []) : Meets Tryz.prog Dc 25 [goalA g, eS l, iS now] [] (.tuple [bS (decide (c = 0) && !b), iS c]) [] := by
  by_cases hc : c = 0
  · rw [decide_eq_true hc, Bool.true_and]
    refine meets_of_gx Ax tab_ok Tryz.func25 (c := _) rfl Tryz.call25 100 ?_
    (repeat' ((conv => whnf); first | (exfalso; omega) | refine cpC (h) ?_ | refine dpC (h) ?_ | refine x0C ?_ | refine spC (fun hb => ?_) fun hb => ?_ | refine nilC (fun hb => ?_) ?_ | refine taC ?_ | refine saC ?_ | exact sdV | refine side_and ?_ ?_ | refine drawX_of mixed ?_))
    all_goals exact vwV
  · rw [decide_eq_false hc, Bool.false_and]
    refine meets_of_gx Ax tab_ok Tryz.func25 (c := _) rfl Tryz.call25 100 ?_
    (repeat' ((conv => whnf); first | (exfalso; omega) | refine cpC (h) ?_ | refine dpC (h) ?_ | refine x0C ?_ | refine spC (fun hb => ?_) fun hb => ?_ | refine nilC (fun hb => ?_) ?_ | refine taC ?_ | refine saC ?_ | exact sdV | refine side_and ?_ ?_ | refine drawX_of mixed ?_))
    all_goals exact vwV
end Go.SX

namespace Go.SX
open Go.Proofs
set_option linter.unusedSimpArgs false
set_option linter.unusedVariables false
set_option maxHeartbeats 4000000
set_option maxRecDepth 100000
def exPair : Goal := ⟨2, [], 0, 0, 3, 0, false, 0, 0, 10, [], [exS]⟩
def exNear : Goal := ⟨2, [], 0, 0, 3, 0, false, 0, 0, 9, [], [exS]⟩
def exSoon : Goal := ⟨4, [], 0, 0, 0, 0, false, 0, 0, 30, [], [exS]⟩
def exAny : Goal := ⟨6, [], 0, 0, 0, 0, false, 0, 0, 0, [7, 5], [exS, exSoon]⟩
def exD (a b : Int) : Event := ⟨2, a, b, [], 0, 0, false⟩
theorem gall_exS : GAll exS := by
  rw [GAll_iff]
  exact ⟨⟨by decide, by decide, by decide⟩, by rw [show exS.kids = [] from rfl, GAllL]; trivial⟩
theorem gall_one (g : Goal) (h : g.kids = [exS]) (h1 : g.rows = []) (h2 : g.cents = []) : GAll g := by
  rw [GAll_iff]
  refine ⟨⟨by rw [h1]; decide, by rw [h2]; decide, by rw [h]; decide⟩, ?_⟩
  rw [h, GAllL, GAllL]
  exact ⟨gall_exS, trivial⟩
theorem gall_exSoon : GAll exSoon := gall_one _ rfl rfl rfl
theorem gall_exAny : GAll exAny := by
  rw [GAll_iff]
  refine ⟨⟨by decide, by decide, by decide⟩, ?_⟩
  rw [show exAny.kids = [exS, exSoon] from rfl, GAllL, GAllL, GAllL]
  exact ⟨gall_exS, gall_exSoon, trivial⟩
theorem el_e : ELen exE := by unfold ELen; decide
theorem el_f : ELen exF := by unfold ELen; decide
theorem el_d (a b : Int) : ELen (exD a b) := by
  show ((([] : List Int).length : Nat) : Int) ≤ _
  decide
theorem ex_met (g : Goal) (hG : GAll g) (l : List Event) (hl : (l.length : Int) ≤ 9223372036854775807) (hE : ∀ e ∈ l, ELen e) (b : Bool) (c : Int) (h : (askS g l).2.2 = (b, c)) : Meets Tryz.prog Dc 14 [goalA g, eS l] [] (.tuple [bS b, iS c]) [] := by
  have := tmet g hG l hl hE
  rw [h] at this
  exact this
theorem ex_is (g : Goal) (hG : GAll g) (l : List Event) (hl : (l.length : Int) ≤ 9223372036854775807) (hE : ∀ e ∈ l, ELen e) (p : Int) (h : metS g l p = true) : Meets Tryz.prog Dc 35 [goalA g, eS l, iS p] [] (bS true) [] := by
  have := lmet g hG l hl hE p
  rw [h] at this
  exact this
theorem ex_fin (now : Int) (F : Option (List Event)) (h1 : okF exS [] now = true) (h2 : finS1 exS [] now (nextI []) = F) : Meets Tryz.prog Dc 27 [goalA exS, eS [], iS now] [] (.tuple [eS (F.getD []), bS F.isSome, iS 0]) [] := by
  have := tFinish exS gall_exS [] (by decide) (fun e h => by cases h) now F fun hok => by
    have hv : validG exS = true := by decide +kernel
    have := tfinish1 exS rfl (by decide) [] now (nextI []) (by decide) (tsense_valid gall_exS hv now ⟨by decide, fun e h => (by cases h), fun e h => (by cases h), fun e h => (by cases h)⟩)
    rw [h2] at this
    exact this
  rw [if_pos h1] at this
  exact this
@[reducible] def boxG (g : Goal) : HS Cd := .vart none [iS g.kind, lS g.rows, iS g.from_, iS g.to_, iS g.low, iS g.high, bS g.clear, iS g.days, iS g.times, iS g.within, lS g.cents, .p (.dsl U.goal g.kids)]
theorem lsane : Meets Tryz.prog Dc 9 [] [] (bS true) [] := by
  have mE : ∀ e ∈ [exE, exF], ELen e := fun e h => by simp at h; rcases h with rfl | rfl <;> first | exact el_e | exact el_f
  have u1 : Meets Tryz.prog Dc 18 [goalA exPair, eS [exE, exF]] [] (.tuple [lS [5, 6], iS 0]) [] := by
    have := tuses exPair (gall_one _ rfl rfl rfl) [exE, exF] (by decide) mE
    rw [show askS exPair [exE, exF] = (0, [5, 6], true, 0) by decide +kernel] at this
    exact this
  have f1 : Meets Tryz.prog Dc 27 [goalA exS, .p (.lit (.slice none 0 0)), iS 199] [] (.tuple [eS [shotT exS 199 0 0], bS true, iS 0]) [] := mviewC (ex_fin 199 (some [shotT exS 199 0 0]) (by decide +kernel) (by decide +kernel)) snV
  have d1 : Meets Tryz.prog Dc 25 [goalA exS, .p (.lit (.slice none 0 0)), iS 200] [] (.tuple [bS true, iS 0]) [] := mviewC (tDoomed exS [] 200 [] false 0 (ex_fin 200 none (by decide +kernel) (by decide +kernel))) snV
  have m1 := ex_met exNear (gall_one _ rfl rfl rfl) [exE, exF] (by decide) mE false 0 (by decide +kernel)
  have m2 := ex_met exSoon gall_exSoon [exE, exD 181 5] (by decide) (fun e h => by simp at h; rcases h with rfl | rfl <;> first | exact el_e | exact el_d _ _) false 0 (by decide +kernel)
  have m3 := ex_met exS gall_exS [exF, exE] (by decide) (fun e h => by simp at h; rcases h with rfl | rfl <;> first | exact el_e | exact el_f) false 150 (by decide +kernel)
  have t1 := ex_is exS gall_exS [exE] (by decide) (fun e h => by simp at h; rw [h]; exact el_e) 0 (by decide +kernel)
  have t2 := ex_is exPair (gall_one _ rfl rfl rfl) [exE, exF] (by decide) mE 0 (by decide +kernel)
  have t3 := ex_is exSoon gall_exSoon [exE, exD 180 5] (by decide) (fun e h => by simp at h; rcases h with rfl | rfl <;> first | exact el_e | exact el_d _ _) 0 (by decide +kernel)
  have t4 := ex_is exAny gall_exAny [exE] (by decide) (fun e h => by simp at h; rw [h]; exact el_e) 7 (by decide +kernel)
  have t5 := ex_is exAny gall_exAny [exE, exD 170 5] (by decide) (fun e h => by simp at h; rcases h with rfl | rfl <;> first | exact el_e | exact el_d _ _) 5 (by decide +kernel)
  have t4 : Meets Tryz.prog Dc 35 [goalA exAny, eS (List.drop (Int.toNat 0) (List.take (Int.toNat 1) [exE, exF])), iS 7] [] (bS true) [] := t4
  have t1 : Meets Tryz.prog Dc 35 [goalA exS, eS (List.drop (Int.toNat 0) (List.take (Int.toNat 1) [exE, exF])), iS 0] [] (bS true) [] := t1
  have i1 := rints [5, 6] [5, 6] (by decide) (by decide)
  have s1 : Meets Tryz.prog Dc 23 [goalA exS, evA exE] [] (bS true) [] := by
    have := sees_meets exS gall_exS exE el_e
    rw [show (decide (exS.kind = 1) && validG exS && formB exE && seesB exS exE) = true by decide +kernel] at this
    exact this
  have s2 : Meets Tryz.prog Dc 23 [goalA exS, evA (exD 150 5)] [] (bS false) [] := by
    have := sees_meets exS gall_exS (exD 150 5) (el_d _ _)
    rw [show (decide (exS.kind = 1) && validG exS && formB (exD 150 5) && seesB exS (exD 150 5)) = false by decide +kernel] at this
    exact this
  have v1 : Meets Tryz.prog Dc 21 [eS [exE, exF]] [] (bS true) [] := by
    have := tvalid_meets [exE, exF] (by decide) mE
    rw [show validE [exE, exF] = true by decide +kernel] at this
    exact this
  have v2 : Meets Tryz.prog Dc 21 [eS [exF, exE]] [] (bS false) [] := by
    have := tvalid_meets [exF, exE] (by decide) (fun e h => by simp at h; rcases h with rfl | rfl <;> first | exact el_e | exact el_f)
    rw [show validE [exF, exE] = false by decide +kernel] at this
    exact this
  rw [show decide (([5, 6] : List Int) = [5, 6]) = true by decide] at i1
  refine meets_of_gx Ax tab_ok Tryz.func9 (c := _) rfl Tryz.call9 1000 ?_
  (repeat' ((conv => whnf); first | refine cpC (lexample) ?_ | refine dpC (lexample) ?_ | refine cpC (ldeliver _ _) ?_ | refine dpC (ldeliver _ _) ?_ | refine cpC (u1) ?_ | refine dpC (u1) ?_ | refine cpC (f1) ?_ | refine dpC (f1) ?_ | refine cpC (d1) ?_ | refine dpC (d1) ?_ | refine rdC (m1) ?_ | refine rdC (m2) ?_ | refine rdC (m3) ?_ | refine cpC (t1) ?_ | refine dpC (t1) ?_ | refine cpC (t2) ?_ | refine dpC (t2) ?_ | refine rdC (i1) ?_ | refine cpC (i1) ?_ | refine dpC (i1) ?_ | refine cpC (s1) ?_ | refine dpC (s1) ?_ | refine cpC (s2) ?_ | refine dpC (s2) ?_ | refine cpC (v1) ?_ | refine dpC (v1) ?_ | (refine dcallh [some 17] (mownC (args := [.slice 0 0 7 0 2]) (H1 := [.rows U.event [exF, exE]]) v2 (by exact snV) rfl) rfl rfl ⟨rfl, trivial⟩ ?_) | (refine dcallh [some 14] (mownC (args := [lS [5, 6], .slice 0 0 1 0 2]) (H1 := [.rows U.int [5, 6]]) i1 (by exact snV) rfl) rfl rfl ⟨rfl, trivial⟩ ?_) | refine rdC (v2) ?_ | (refine dcallh [some 15] (mownC (args := [goalA exSoon, .slice 0 0 7 0 2, iS 0]) (H1 := [.rows U.event [exE, exD 180 5]]) t3 (by exact snV) rfl) rfl rfl ⟨rfl, trivial⟩ ?_) | (refine dcallh [some 10] (mownC (args := [.agg [iS 6, .p (.lit (.slice none 0 0)), iS 0, iS 0, iS 0, iS 0, bS false, iS 0, iS 0, iS 0, lS [7, 5], .slice 0 0 12 0 2], eS (List.drop (Int.toNat 0) (List.take (Int.toNat 1) [exE, exF])), iS 7]) (H1 := [.rows U.goal [exS, exSoon]]) t4 (by exact snV) rfl) rfl rfl ⟨rfl, trivial⟩ ?_) | (refine dcallh [some 10, some 16] (mownC (args := [.agg [iS 6, .p (.lit (.slice none 0 0)), iS 0, iS 0, iS 0, iS 0, bS false, iS 0, iS 0, iS 0, lS [7, 5], .slice 0 0 12 0 2], .slice 1 0 7 0 2, iS 5]) (H1 := [.rows U.goal [exS, exSoon], .rows U.event [exE, exD 170 5]]) t5 (by exact snV) rfl) rfl rfl ⟨rfl, rfl, trivial⟩ ?_) | (refine dcallh [some 12] (mownC (args := [goalA exSoon, .slice 0 0 7 0 2]) (H1 := [.rows U.event [exE, exD 181 5]]) m2 (by exact snV) rfl) rfl rfl ⟨rfl, trivial⟩ ?_) | (refine dcallh [some 13] (mownC (args := [goalA exS, .slice 0 0 7 0 2]) (H1 := [.rows U.event [exF, exE]]) m3 (by exact snV) rfl) rfl rfl ⟨rfl, trivial⟩ ?_) | (refine frz_op [some 0, some 1, some 2, none, none, some 5, some 6, none, some 8, none] [(4, eS [exE, exF]), (31, .any), (33, .any), (34, .any), (35, .any), (38, .any), (39, .any), (40, lS [7, 5]), (42, goalA exSoon)] [(3, .rows U.int []), (4, .rows U.int []), (5, boxG exPair), (6, boxG exNear), (7, .rows U.int []), (8, boxG exSoon), (9, .rows U.int [])] (by exact bkV) ?_) | refine x0C ?_ | refine spC (fun hb => ?_) fun hb => ?_ | refine nilC (fun hb => ?_) ?_ | refine taC ?_ | refine saC ?_ | exact sdV | refine side_and ?_ ?_ | refine drawX_of mixed ?_))
  all_goals clear u1 f1 d1 m1 m2 m3 t1 t2 t3 t4 t5 i1 s1 s2 v1 v2
  all_goals exact vwV
end Go.SX
