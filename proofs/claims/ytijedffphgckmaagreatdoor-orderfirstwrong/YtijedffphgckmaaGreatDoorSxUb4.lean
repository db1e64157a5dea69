/-
  Walks: Ub4, Ub5, Ub6, Ub7, Ub8, Ub9, Df, Uc0, Uc1: what single functions of the program compute.
-/
import Derived.Test.YtijedffphgckmaaGreatDoorSxUa7
import Derived.RecoverIn
set_option linter.unusedVariables false
set_option linter.unusedSimpArgs false
namespace Go.SX
open Go.Proofs
set_option maxHeartbeats 4000000
set_option maxRecDepth 100000
theorem eta_goal (x : Goal) : (⟨x.kind, x.rows, x.from_, x.to_, x.low, x.high, x.clear, x.days, x.times, x.within, x.cents, x.kids⟩ : Goal) = x := by cases x; rfl
/-- how a part is read -/
@[reducible] def GoalRM (ws : List Wd) (of dp : Int) (sub : Int → Int → Rs Goal) : Prop := ∀ a m, InW ws a m → RM 77 [.ptr 0 0, iS of, iS dp] ws a m [] (sub a m) (fun g => goalA g) (fun _ => True)
theorem pairP_bd {ws : List Wd} {sub : Int → Int → Rs Goal} (hs : ∀ a m, InW ws a m → (sub a m).Bd ws a m) {a m : Int} (h : InW ws a m) : (pairP ws sub a m).Bd ws a m := by
 unfold pairP
 refine bd_bind h (mustW_bd [w_looks] h (by decide)) fun _ _ _ _ h => ?_
 refine bd_bind h (numP_bd h) fun _ _ _ _ h => ?_
 refine bd_bind h (mustW_bd [w_within] h (by decide)) fun _ _ _ _ h => ?_
 refine bd_bind h (numP_bd h) fun _ _ _ _ h => ?_
 refine bd_bind h (mustW_bd [w_of] h (by decide)) fun _ _ _ _ h => ?_
 refine bd_bind h (hs _ _ h) fun _ _ _ _ h => ?_
 exact h.refl
theorem everyP_bd {ws : List Wd} {sub : Int → Int → Rs Goal} (hs : ∀ a m, InW ws a m → (sub a m).Bd ws a m) {a m : Int} (h : InW ws a m) : (everyP ws sub a m).Bd ws a m := by
 unfold everyP
 refine bd_bind h (numP_bd h) fun _ _ _ _ h => ?_
 refine bd_bind h (mustW_bd [w_days] h (by decide)) fun _ _ _ _ h => ?_
 refine bd_bind h (numP_bd h) fun _ _ _ _ h => ?_
 refine bd_bind h (mustW_bd [w_times, w_apart] h (by decide)) fun _ _ _ _ h => ?_
 refine bd_bind h (numP_bd h) fun _ _ _ _ h => ?_
 refine bd_bind h (mustW_bd [w_from] h (by decide)) fun _ _ _ _ h => ?_
 refine bd_bind h (numP_bd h) fun _ _ _ _ h => ?_
 refine bd_bind h (mustW_bd [w_of] h (by decide)) fun _ _ _ _ h => ?_
 refine bd_bind h (hs _ _ h) fun _ _ _ _ h => ?_
 exact h.refl
theorem delP_bd {ws : List Wd} {sub : Int → Int → Rs Goal} (hs : ∀ a m, InW ws a m → (sub a m).Bd ws a m) {a m : Int} (h : InW ws a m) : (delP ws sub a m).Bd ws a m := by
 unfold delP
 refine bd_bind h (mustW_bd [w_within] h (by decide)) fun _ _ _ _ h => ?_
 refine bd_bind h (numP_bd h) fun _ _ _ _ h => ?_
 refine bd_bind h (mustW_bd [w_of] h (by decide)) fun _ _ _ _ h => ?_
 refine bd_bind h (hs _ _ h) fun _ _ _ _ h => ?_
 exact h.refl
theorem rpair (dp : Int) (hd : 1 ≤ dp ∧ dp ≤ 4) {ws : List Wd} {sub : Int → Int → Rs Goal} (hs : GoalRM ws 2 (dp + 1) sub) {a m : Int} (hi : InW ws a m) (hn : WsOK ws) : RM 122 [.ptr 0 0, iS dp] ws a m [] (pairP ws sub a m) (fun g => goalA g) (fun _ => True) := by
 refine rm_of Tryz.func122 (c := _) rfl Tryz.call122 900 (pairP_bd (fun a m h => (hs a m h).bd) hi) (fun _ _ _ _ => trivial) ?_
 obtain ⟨S, hS⟩ : ∃ S, S = pairP ws sub a m := ⟨_, rfl⟩
 rw [← hS]
 unfold pairP at hS
 (repeat' ((conv => whnf); first | (exfalso; omega) | (refine rmX [some 0, some _] (rmust [w_looks] (by decide) (by decide) (by assumption) hn) rfl rfl ⟨rfl, rfl, trivial⟩ (fun x a1 m1 e hi hp => ?_) (fun a1 m1 e hi => ?_) (by assumption) <;> simp only [e, Rs.bind] at hS) | (refine rmX [some 0, some _] (rmust [w_within] (by decide) (by decide) (by assumption) hn) rfl rfl ⟨rfl, rfl, trivial⟩ (fun x a1 m1 e hi hp => ?_) (fun a1 m1 e hi => ?_) (by assumption) <;> simp only [e, Rs.bind] at hS) | (refine rmX [some 0, some _] (rmust [w_of] (by decide) (by decide) (by assumption) hn) rfl rfl ⟨rfl, rfl, trivial⟩ (fun x a1 m1 e hi hp => ?_) (fun a1 m1 e hi => ?_) (by assumption) <;> simp only [e, Rs.bind] at hS) | (refine rmX [some 0] (rnum _ _ (by assumption) hn) rfl rfl ⟨rfl, trivial⟩ (fun x a1 m1 e hi hp => ?_) (fun a1 m1 e hi => ?_) (by assumption) <;> simp only [e, Rs.bind] at hS) | (refine rmX [some 0] (hs _ _ (by assumption)) rfl rfl ⟨rfl, trivial⟩ (fun x a1 m1 e hi hp => ?_) (fun a1 m1 e hi => ?_) (by assumption) <;> simp only [e, Rs.bind] at hS) | (refine rno hS (die_end [some 0] ?_); exact hsW) | (refine rok hS (end_fn [some 0] (.inr rfl) ?_ ?_ rfl rfl); (focus first | exact vwV | (refine ⟨?_⟩; (repeat' (first | exact trivial | exact rfl | refine And.intro ?_ ?_ | exact fzV | exact fzV rfl rfl rfl (by simp) (by simp [eta_goal]) rfl | exact fvV)); done)); exact hsW) | refine x0C ?_ | refine spC (fun hb => ?_) fun hb => ?_ | refine nilC (fun hb => ?_) ?_ | refine taC ?_ | refine saC ?_ | exact sdV | refine side_and ?_ ?_ | refine drawX_of mixed ?_))
theorem revery (dp : Int) (hd : 1 ≤ dp ∧ dp ≤ 4) {ws : List Wd} {sub : Int → Int → Rs Goal} (hs : GoalRM ws 3 (dp + 1) sub) {a m : Int} (hi : InW ws a m) (hn : WsOK ws) : RM 123 [.ptr 0 0, iS dp] ws a m [] (everyP ws sub a m) (fun g => goalA g) (fun _ => True) := by
 refine rm_of Tryz.func123 (c := _) rfl Tryz.call123 900 (everyP_bd (fun a m h => (hs a m h).bd) hi) (fun _ _ _ _ => trivial) ?_
 obtain ⟨S, hS⟩ : ∃ S, S = everyP ws sub a m := ⟨_, rfl⟩
 rw [← hS]
 unfold everyP at hS
 (repeat' ((conv => whnf); first | (exfalso; omega) | (refine rmX [some 0, some _] (rmust [w_days] (by decide) (by decide) (by assumption) hn) rfl rfl ⟨rfl, rfl, trivial⟩ (fun x a1 m1 e hi hp => ?_) (fun a1 m1 e hi => ?_) (by assumption) <;> simp only [e, Rs.bind] at hS) | (refine rmX [some 0, some _] (rmust [w_times, w_apart] (by decide) (by decide) (by assumption) hn) rfl rfl ⟨rfl, rfl, trivial⟩ (fun x a1 m1 e hi hp => ?_) (fun a1 m1 e hi => ?_) (by assumption) <;> simp only [e, Rs.bind] at hS) | (refine rmX [some 0, some _] (rmust [w_from] (by decide) (by decide) (by assumption) hn) rfl rfl ⟨rfl, rfl, trivial⟩ (fun x a1 m1 e hi hp => ?_) (fun a1 m1 e hi => ?_) (by assumption) <;> simp only [e, Rs.bind] at hS) | (refine rmX [some 0, some _] (rmust [w_of] (by decide) (by decide) (by assumption) hn) rfl rfl ⟨rfl, rfl, trivial⟩ (fun x a1 m1 e hi hp => ?_) (fun a1 m1 e hi => ?_) (by assumption) <;> simp only [e, Rs.bind] at hS) | (refine rmX [some 0] (rnum _ _ (by assumption) hn) rfl rfl ⟨rfl, trivial⟩ (fun x a1 m1 e hi hp => ?_) (fun a1 m1 e hi => ?_) (by assumption) <;> simp only [e, Rs.bind] at hS) | (refine rmX [some 0] (hs _ _ (by assumption)) rfl rfl ⟨rfl, trivial⟩ (fun x a1 m1 e hi hp => ?_) (fun a1 m1 e hi => ?_) (by assumption) <;> simp only [e, Rs.bind] at hS) | (refine rno hS (die_end [some 0] ?_); exact hsW) | (refine rok hS (end_fn [some 0] (.inr rfl) ?_ ?_ rfl rfl); (focus first | exact vwV | (refine ⟨?_⟩; (repeat' (first | exact trivial | exact rfl | refine And.intro ?_ ?_ | exact fzV | exact fzV rfl rfl rfl (by simp) (by simp [eta_goal]) rfl | exact fvV)); done)); exact hsW) | refine x0C ?_ | refine spC (fun hb => ?_) fun hb => ?_ | refine nilC (fun hb => ?_) ?_ | refine taC ?_ | refine saC ?_ | exact sdV | refine side_and ?_ ?_ | refine drawX_of mixed ?_))
theorem rdeliver (dp : Int) (hd : 1 ≤ dp ∧ dp ≤ 4) {ws : List Wd} {sub : Int → Int → Rs Goal} (hs : GoalRM ws 4 (dp + 1) sub) {a m : Int} (hi : InW ws a m) (hn : WsOK ws) : RM 124 [.ptr 0 0, iS dp] ws a m [] (delP ws sub a m) (fun g => goalA g) (fun _ => True) := by
 refine rm_of Tryz.func124 (c := _) rfl Tryz.call124 900 (delP_bd (fun a m h => (hs a m h).bd) hi) (fun _ _ _ _ => trivial) ?_
 obtain ⟨S, hS⟩ : ∃ S, S = delP ws sub a m := ⟨_, rfl⟩
 rw [← hS]
 unfold delP at hS
 (repeat' ((conv => whnf); first | (exfalso; omega) | (refine rmX [some 0, some _] (rmust [w_within] (by decide) (by decide) (by assumption) hn) rfl rfl ⟨rfl, rfl, trivial⟩ (fun x a1 m1 e hi hp => ?_) (fun a1 m1 e hi => ?_) (by assumption) <;> simp only [e, Rs.bind] at hS) | (refine rmX [some 0, some _] (rmust [w_of] (by decide) (by decide) (by assumption) hn) rfl rfl ⟨rfl, rfl, trivial⟩ (fun x a1 m1 e hi hp => ?_) (fun a1 m1 e hi => ?_) (by assumption) <;> simp only [e, Rs.bind] at hS) | (refine rmX [some 0] (rnum _ _ (by assumption) hn) rfl rfl ⟨rfl, trivial⟩ (fun x a1 m1 e hi hp => ?_) (fun a1 m1 e hi => ?_) (by assumption) <;> simp only [e, Rs.bind] at hS) | (refine rmX [some 0] (hs _ _ (by assumption)) rfl rfl ⟨rfl, trivial⟩ (fun x a1 m1 e hi hp => ?_) (fun a1 m1 e hi => ?_) (by assumption) <;> simp only [e, Rs.bind] at hS) | (refine rno hS (die_end [some 0] ?_); exact hsW) | (refine rok hS (end_fn [some 0] (.inr rfl) ?_ ?_ rfl rfl); (focus first | exact vwV | (refine ⟨?_⟩; (repeat' (first | exact trivial | exact rfl | refine And.intro ?_ ?_ | exact fzV | exact fzV rfl rfl rfl (by simp) (by simp [eta_goal]) rfl | exact fvV)); done)); exact hsW) | refine x0C ?_ | refine spC (fun hb => ?_) fun hb => ?_ | refine nilC (fun hb => ?_) ?_ | refine taC ?_ | refine saC ?_ | exact sdV | refine side_and ?_ ?_ | refine drawX_of mixed ?_))
theorem partsP_bd {ws : List Wd} {sub : Int → Int → Rs Goal} (hs : ∀ a m, InW ws a m → (sub a m).Bd ws a m) (k : Int) : ∀ (n : Nat) (cents : List Int) (kids : List Goal) {a m : Int}, InW ws a m → (partsP ws sub k n cents kids a m).Bd ws a m
 | 0, _, _, a, m, h => by unfold partsP; exact h.refl
 | n + 1, cents, kids, a, m, h => by
  unfold partsP
  refine bd_bind h ?_ fun c a1 m1 _ h1 => ?_
  ·split
   ·exact bd_bind h (numP_bd h) fun _ _ _ _ h => h.refl
   ·exact h.refl
  refine bd_bind h1 (hs _ _ h1) fun g a2 m2 _ h2 => ?_
  split
  ·split
   ·rename_i e
    have := peekW_lt h2 e (by decide)
    have := h2.a0
    exact ⟨by omega, by omega, h2.m0, Int.le_refl _⟩
   ·split
    ·exact h2.refl
    ·rename_i hne
     have h3 : InW ws a2 (m2 - 1) := ⟨h2.a0, h2.a1, by have := h2.m0; omega, by have := h2.m1; omega⟩
     have := bd_bind h3 (mustW_bd [w_comma] h3 (by decide)) fun _ a4 m4 _ h4 => partsP_bd hs k n c (kids ++ [g]) h4
     revert this
     cases ((mustW ws [w_comma] a2 (m2 - 1)).bind fun _ a m => partsP ws sub k n c (kids ++ [g]) a m) with
     | ok z a5 m5 => intro hb; exact ⟨hb.at1, hb.at2, hb.r1, by have := hb.r2; omega⟩
     | no a5 m5 => intro hb; exact ⟨hb.at1, hb.at2, hb.r1, by have := hb.r2; omega⟩
  ·exact bd_bind h2 (mustW_bd [w_comma] h2 (by decide)) fun _ a4 m4 _ h4 => partsP_bd hs k n c (kids ++ [g]) h4
theorem listP_bd {ws : List Wd} {sub : Int → Int → Rs Goal} (hs : ∀ a m, InW ws a m → (sub a m).Bd ws a m) (k : Int) {a m : Int} (h : InW ws a m) : (listP ws sub k a m).Bd ws a m := by
 unfold listP
 exact bd_bind h (mustW_bd [w_open] h (by decide)) fun _ _ _ _ h => partsP_bd hs k 5 [] [] h
@[reducible] def nilS : SV Cd := .p (.lit (.slice none 0 0))
@[reducible] def kindA (k : Int) : SV Cd := .agg [iS k, nilS, iS 0, iS 0, iS 0, iS 0, bS false, iS 0, iS 0, iS 0, nilS, nilS]
@[reducible] def boxL (k : Int) (cents kids : SV Cd) : HS Cd := .vart none [iS k, nilS, iS 0, iS 0, iS 0, iS 0, bS false, iS 0, iS 0, iS 0, cents, kids]
structure ListI (ws : List Wd) (sub : Int → Int → Rs Goal) (k : Int) (S : Rs Goal) (g : Nat × List Int × List Goal × Int × Int) : Prop where
 len : g.2.2.1.length = g.1
 lt : g.1 ≤ 3
 inw : InW ws g.2.2.2.1 g.2.2.2.2
 eq : S = partsP ws sub k (5 - g.1) g.2.1 g.2.2.1 g.2.2.2.1 g.2.2.2.2
 cents : g.2.1.length = if k = 6 then g.1 else 0
theorem rall0 (dp : Int) (hd : 1 ≤ dp ∧ dp ≤ 4) {ws : List Wd} {sub : Int → Int → Rs Goal} (hs : GoalRM ws 5 (dp + 1) sub) {a m : Int} (hi : InW ws a m) (hn : WsOK ws) : RM 143 [.ptr 0 0, kindA 5, iS dp] ws a m [] (listP ws sub 5 a m) (fun g => goalA g) (fun _ => True) := by
 refine rm_of Tryz.func143 (c := _) rfl Tryz.call143 900 (listP_bd (fun a m h => (hs a m h).bd) 5 hi) (fun _ _ _ _ => trivial) ?_
 obtain ⟨S, hS⟩ : ∃ S, S = listP ws sub 5 a m := ⟨_, rfl⟩
 rw [← hS]
 unfold listP at hS
 (repeat' ((conv => whnf); first | (exfalso; omega) | (refine rmX [some 0, some _] (rmust [w_open] (by decide) (by decide) (by assumption) hn) rfl rfl ⟨rfl, rfl, trivial⟩ (fun x a1 m1 e hi hp => ?_) (fun a1 m1 e hi => ?_) (by assumption) <;> simp only [e, Rs.bind] at hS) | (refine rno hS (die_end [some 0] ?_); exact hsW) | refine x0C ?_ | refine spC (fun hb => ?_) fun hb => ?_ | refine nilC (fun hb => ?_) ?_ | refine taC ?_ | refine saC ?_ | exact sdV | refine side_and ?_ ?_ | refine drawX_of mixed ?_))
 conv => whnf
 refine loop_up (fun g : Nat × List Int × List Goal × Int × Int => []) (fun g => match g.1 with
  | 0 => [(0, .vart none [wsS ws, iS g.2.2.2.1, iS g.2.2.2.2])]
  | i + 1 => [(0, .vart none [wsS ws, iS g.2.2.2.1, iS g.2.2.2.2]), (1, boxL 5 nilS (.slice 4 0 12 0 (i + 1))), (4, .rows U.goal g.2.2.1)]) (ListI ws sub 5 S) (fun g => 5 - g.1) (0, [], [], _, _) ⟨rfl, by simp, by assumption, hS, rfl⟩ (by exact bkW) ?_
 clear hS
 rintro ⟨i, cents, kids, a, m⟩ ⟨hl, hlt, hi, hS, hc⟩ K hK
 dsimp only at hl hlt hi hS hc ⊢
 rw [if_neg (by decide)] at hc
 obtain rfl := List.eq_nil_of_length_eq_zero hc
 have hR := hs a m hi
 cases i with
 | zero =>
  obtain rfl := List.eq_nil_of_length_eq_zero hl
  rw [partsP, if_neg (by decide)] at hS
  simp only [Rs.bind] at hS
  cases e0 : sub a m with
  | no a1 m1 =>
   rw [e0] at hS
   (repeat' ((conv => whnf); first | (exfalso; omega) | refine x0C ?_ | refine spC (fun hb => ?_) fun hb => ?_ | refine nilC (fun hb => ?_) ?_ | refine taC ?_ | refine saC ?_ | exact sdV | refine side_and ?_ ?_))
   refine drawX_die 7 mixed ?_
   (repeat' ((conv => whnf); first | (exfalso; omega) | (refine ddieh [some 0] (hR.no _ _ e0) rfl rfl ⟨rfl, trivial⟩ ?_ ?_) | exact trivial | (refine rno hS (die_end [some 0] ?_); exact hsW) | refine x0C ?_ | refine spC (fun hb => ?_) fun hb => ?_ | refine nilC (fun hb => ?_) ?_ | refine taC ?_ | refine saC ?_ | exact sdV | refine side_and ?_ ?_))
  | ok g a1 m1 =>
   rw [e0] at hS
   have hi1 : InW ws a1 m1 := hi.step (by have := hR.bd; rw [e0] at this; exact this)
   (repeat' ((conv => whnf); first | (exfalso; omega) | refine x0C ?_ | refine spC (fun hb => ?_) fun hb => ?_ | refine nilC (fun hb => ?_) ?_ | refine taC ?_ | refine saC ?_ | exact sdV | refine side_and ?_ ?_))
   refine drawX_of mixed ?_
   have hg : List.take 1 (List.drop 0 [(⟨g.kind, g.rows, g.from_, g.to_, g.low, g.high, g.clear, g.days, g.times, g.within, g.cents, g.kids⟩ : Goal)]) = [] ++ [g] := by simp [eta_goal]
   simp only [List.length_nil, Nat.zero_add, Nat.lt_irrefl, if_false] at hS
   (repeat' ((conv => whnf); first | (exfalso; omega) | (refine dcallh [some 0] (hR.ok _ _ _ e0) rfl rfl ⟨rfl, trivial⟩ ?_) | (refine rmX [some 0, some _] (rmust [w_comma] (by decide) (by decide) (by assumption) hn) rfl rfl ⟨rfl, rfl, trivial⟩ (fun x a1 m1 e hi hp => ?_) (fun a1 m1 e hi => ?_) (by assumption) <;> simp only [e, Rs.bind] at hS) | (refine rno hS (die_end [some 0] ?_); exact hsW) | (refine hK (1, [], [] ++ [g], _, _) [some 0, some 1, some 2, some 3, some 5] _ _ ⟨⟨rfl, by simp, by assumption, hS, rfl⟩⟩ ⟨by simp⟩ (by exact bkW)) | refine x0C ?_ | refine spC (fun hb => ?_) fun hb => ?_ | refine nilC (fun hb => ?_) ?_ | refine taC ?_ | refine saC ?_ | exact sdV | refine side_and ?_ ?_))
 | succ i =>
  have hkl : kids.length = i + 1 := hl
  rw [show 5 - (i + 1) = (3 - i) + 1 by omega, partsP, if_neg (by decide)] at hS
  simp only [Rs.bind] at hS
  have h1 : 1 < kids.length + 1 := by omega
  cases e0 : sub a m with
  | no a1 m1 =>
   rw [e0] at hS
   (repeat' ((conv => whnf); first | (exfalso; omega) | refine x0C ?_ | refine spC (fun hb => ?_) fun hb => ?_ | refine nilC (fun hb => ?_) ?_ | refine taC ?_ | refine saC ?_ | exact sdV | refine side_and ?_ ?_))
   refine drawX_die 7 mixed ?_
   (repeat' ((conv => whnf); first | (exfalso; omega) | (refine ddieh [some 0] (hR.no _ _ e0) rfl rfl ⟨rfl, trivial⟩ ?_ ?_) | exact trivial | (refine rno hS (die_end [some 0] ?_); exact hsW) | refine x0C ?_ | refine spC (fun hb => ?_) fun hb => ?_ | refine nilC (fun hb => ?_) ?_ | refine taC ?_ | refine saC ?_ | exact sdV | refine side_and ?_ ?_))
  | ok g a1 m1 =>
   rw [e0] at hS
   simp only [h1, if_true] at hS
   have hi1 : InW ws a1 m1 := hi.step (by have := hR.bd; rw [e0] at this; exact this)
   (repeat' ((conv => whnf); first | (exfalso; omega) | refine x0C ?_ | refine spC (fun hb => ?_) fun hb => ?_ | refine nilC (fun hb => ?_) ?_ | refine taC ?_ | refine saC ?_ | exact sdV | refine side_and ?_ ?_))
   refine drawX_of mixed ?_
   have hg : List.take (i + 1) kids ++ List.take 1 (List.drop 0 [(⟨g.kind, g.rows, g.from_, g.to_, g.low, g.high, g.clear, g.days, g.times, g.within, g.cents, g.kids⟩ : Goal)]) = kids ++ [g] := by simp [eta_goal, ← hkl]
   obtain ⟨L, hL⟩ : ∃ L, L = kids ++ [g] := ⟨_, rfl⟩
   have hLl : L.length = i + 2 := by rw [hL]; simp; omega
   rw [← hL] at hS hg
   have hkL : kids.length + 1 = L.length := by omega
   rw [hkL] at hS
   clear hL hkL
   have hm0 := hi1.m0
   have hm1 := hi1.m1
   (repeat' ((conv => whnf); first | (exfalso; omega) | (refine dcallh [some 0] (hR.ok _ _ _ e0) rfl rfl ⟨rfl, trivial⟩ ?_) | refine x0C ?_ | refine spC (fun hb => ?_) fun hb => ?_ | refine nilC (fun hb => ?_) ?_ | refine taC ?_ | refine saC ?_ | exact sdV | refine side_and ?_ ?_))
   rotate_left
   ·rename_i hb
    rw [hg] at hb
    exact absurd (by omega) hb
   rw [hg]
   by_cases hw : peekW ws a1 = w_close
   ·rw [if_pos hw] at hS
    have q := risT w_close hi1 hn hw
    (repeat' ((conv => whnf); first | (exfalso; omega) | (refine callh [some 0] q rfl rfl ⟨rfl, trivial⟩ ?_) | (refine rok hS (end_fn [some 0] (.inr rfl) ?_ ?_ rfl rfl); (focus (refine ⟨?_⟩; (repeat' (first | exact trivial | exact rfl | refine And.intro ?_ ?_ | exact fzV | exact fzV rfl rfl rfl (by omega) (by simp [List.take_of_length_le]) rfl | exact fvV)); done)); exact hsW) | refine x0C ?_ | refine spC (fun hb => ?_) fun hb => ?_ | refine nilC (fun hb => ?_) ?_ | refine taC ?_ | refine saC ?_ | exact sdV | refine side_and ?_ ?_))
   ·rw [if_neg hw] at hS
    have q := risF w_close hi1 hn hw
    by_cases hx : L.length = 4 ∨ m1 = 0
    ·rw [if_pos hx] at hS
     (repeat' ((conv => whnf); first | (exfalso; omega) | (refine callh [some 0] q rfl rfl ⟨rfl, trivial⟩ ?_) | refine unit_in unitS ?_ | refine uface_in (ufaceS _) rfl ?_ | refine panic_in _ _ _ rfl (only_lit rfl) ?_ | (refine rno hS (die_end [some 0] ?_); exact hsW) | refine x0C ?_ | refine spC (fun hb => ?_) fun hb => ?_ | refine nilC (fun hb => ?_) ?_ | refine taC ?_ | refine saC ?_ | exact sdV | refine side_and ?_ ?_))
    ·rw [if_neg hx] at hS
     have hi2 : InW ws a1 (m1 - 1) := ⟨hi1.a0, hi1.a1, by omega, by omega⟩
     (repeat' ((conv => whnf); first | (exfalso; omega) | (refine callh [some 0] q rfl rfl ⟨rfl, trivial⟩ ?_) | (refine rmX [some 0, some _] (rmust [w_comma] (by decide) (by decide) (by assumption) hn) rfl rfl ⟨rfl, rfl, trivial⟩ (fun x a1 m1 e hi hp => ?_) (fun a1 m1 e hi => ?_) (by assumption) <;> simp only [e, Rs.bind] at hS) | (refine rno hS (die_end [some 0] ?_); exact hsW) | (refine hK (i + 2, [], L, _, _) [some 0, some 1, some 2, some 3, some 6] _ _ ⟨⟨hLl, by simp; omega, by assumption, by (rw [show 5 - (i + 2) = 3 - i by omega]; exact hS), rfl⟩⟩ ⟨by simp; omega⟩ (by exact bkW)) | refine x0C ?_ | refine spC (fun hb => ?_) fun hb => ?_ | refine nilC (fun hb => ?_) ?_ | refine taC ?_ | refine saC ?_ | exact sdV | refine side_and ?_ ?_))
theorem rany0 (dp : Int) (hd : 1 ≤ dp ∧ dp ≤ 4) {ws : List Wd} {sub : Int → Int → Rs Goal} (hs : GoalRM ws 6 (dp + 1) sub) {a m : Int} (hi : InW ws a m) (hn : WsOK ws) : RM 143 [.ptr 0 0, kindA 6, iS dp] ws a m [] (listP ws sub 6 a m) (fun g => goalA g) (fun _ => True) := by
 refine rm_of Tryz.func143 (c := _) rfl Tryz.call143 900 (listP_bd (fun a m h => (hs a m h).bd) 6 hi) (fun _ _ _ _ => trivial) ?_
 obtain ⟨S, hS⟩ : ∃ S, S = listP ws sub 6 a m := ⟨_, rfl⟩
 rw [← hS]
 unfold listP at hS
 (repeat' ((conv => whnf); first | (exfalso; omega) | (refine rmX [some 0, some _] (rmust [w_open] (by decide) (by decide) (by assumption) hn) rfl rfl ⟨rfl, rfl, trivial⟩ (fun x a1 m1 e hi hp => ?_) (fun a1 m1 e hi => ?_) (by assumption) <;> simp only [e, Rs.bind] at hS) | (refine rno hS (die_end [some 0] ?_); exact hsW) | refine x0C ?_ | refine spC (fun hb => ?_) fun hb => ?_ | refine nilC (fun hb => ?_) ?_ | refine taC ?_ | refine saC ?_ | exact sdV | refine side_and ?_ ?_ | refine drawX_of mixed ?_))
 conv => whnf
 refine loop_up (fun g : Nat × List Int × List Goal × Int × Int => []) (fun g => match g.1 with
  | 0 => [(0, .vart none [wsS ws, iS g.2.2.2.1, iS g.2.2.2.2])]
  | i + 1 => [(0, .vart none [wsS ws, iS g.2.2.2.1, iS g.2.2.2.2]), (1, boxL 6 (.slice 4 0 1 0 (i + 1)) (.slice 5 0 12 0 (i + 1))), (4, .rows U.int g.2.1), (5, .rows U.goal g.2.2.1)]) (ListI ws sub 6 S) (fun g => 5 - g.1) (0, [], [], _, _) ⟨rfl, by simp, by assumption, hS, rfl⟩ (by exact bkW) ?_
 clear hS
 rintro ⟨i, cents, kids, a, m⟩ ⟨hl, hlt, hi, hS, hc⟩ K hK
 dsimp only at hl hlt hi hS hc ⊢
 rw [if_pos rfl] at hc
 cases i with
 | zero =>
  obtain rfl := List.eq_nil_of_length_eq_zero hl
  obtain rfl := List.eq_nil_of_length_eq_zero hc
  rw [partsP, if_pos rfl] at hS
  simp only [Rs.bind] at hS
  have hN := rnum 0 1000000000 hi hn
  cases e1 : numP ws 0 1000000000 a m with
  | no a1 m1 =>
   rw [e1] at hS
   (repeat' ((conv => whnf); first | (exfalso; omega) | refine x0C ?_ | refine spC (fun hb => ?_) fun hb => ?_ | refine nilC (fun hb => ?_) ?_ | refine taC ?_ | refine saC ?_ | exact sdV | refine side_and ?_ ?_))
   refine drawX_die 3 mixed ?_
   (repeat' ((conv => whnf); first | (exfalso; omega) | (refine ddieh [some 0] (hN.no _ _ e1) rfl rfl ⟨rfl, trivial⟩ ?_ ?_) | exact trivial | (refine rno hS (die_end [some 0] ?_); exact hsW) | refine x0C ?_ | refine spC (fun hb => ?_) fun hb => ?_ | refine nilC (fun hb => ?_) ?_ | refine taC ?_ | refine saC ?_ | exact sdV | refine side_and ?_ ?_))
  | ok c a m =>
  rw [e1] at hS
  dsimp only at hS
  have hi : InW ws a m := hi.step (by have := hN.bd; rw [e1] at this; exact this)
  have hR := hs a m hi
  (repeat' ((conv => whnf); first | (exfalso; omega) | refine x0C ?_ | refine spC (fun hb => ?_) fun hb => ?_ | refine nilC (fun hb => ?_) ?_ | refine taC ?_ | refine saC ?_ | exact sdV | refine side_and ?_ ?_))
  refine drawX_of mixed ?_
  have hcc : List.take 1 (List.drop 0 [c]) = [] ++ [c] := by simp
  (repeat' ((conv => whnf); first | (exfalso; omega) | (refine dcallh [some 0] (hN.ok _ _ _ e1) rfl rfl ⟨rfl, trivial⟩ ?_) | refine x0C ?_ | refine spC (fun hb => ?_) fun hb => ?_ | refine nilC (fun hb => ?_) ?_ | refine taC ?_ | refine saC ?_ | exact sdV | refine side_and ?_ ?_))
  cases e0 : sub a m with
  | no a1 m1 =>
   rw [e0] at hS
   (repeat' ((conv => whnf); first | (exfalso; omega) | refine x0C ?_ | refine spC (fun hb => ?_) fun hb => ?_ | refine nilC (fun hb => ?_) ?_ | refine taC ?_ | refine saC ?_ | exact sdV | refine side_and ?_ ?_))
   refine drawX_die 7 mixed ?_
   (repeat' ((conv => whnf); first | (exfalso; omega) | (refine ddieh [some 0] (hR.no _ _ e0) rfl rfl ⟨rfl, trivial⟩ ?_ ?_) | exact trivial | (refine rno hS (die_end [some 0] ?_); exact hsW) | refine x0C ?_ | refine spC (fun hb => ?_) fun hb => ?_ | refine nilC (fun hb => ?_) ?_ | refine taC ?_ | refine saC ?_ | exact sdV | refine side_and ?_ ?_))
  | ok g a1 m1 =>
   rw [e0] at hS
   have hi1 : InW ws a1 m1 := hi.step (by have := hR.bd; rw [e0] at this; exact this)
   (repeat' ((conv => whnf); first | (exfalso; omega) | refine x0C ?_ | refine spC (fun hb => ?_) fun hb => ?_ | refine nilC (fun hb => ?_) ?_ | refine taC ?_ | refine saC ?_ | exact sdV | refine side_and ?_ ?_))
   refine drawX_of mixed ?_
   have hg : List.take 1 (List.drop 0 [(⟨g.kind, g.rows, g.from_, g.to_, g.low, g.high, g.clear, g.days, g.times, g.within, g.cents, g.kids⟩ : Goal)]) = [] ++ [g] := by simp [eta_goal]
   simp only [List.length_nil, Nat.zero_add, Nat.lt_irrefl, if_false] at hS
   (repeat' ((conv => whnf); first | (exfalso; omega) | (refine dcallh [some 0] (hR.ok _ _ _ e0) rfl rfl ⟨rfl, trivial⟩ ?_) | (refine rmX [some 0, some _] (rmust [w_comma] (by decide) (by decide) (by assumption) hn) rfl rfl ⟨rfl, rfl, trivial⟩ (fun x a1 m1 e hi hp => ?_) (fun a1 m1 e hi => ?_) (by assumption) <;> simp only [e, Rs.bind] at hS) | (refine rno hS (die_end [some 0] ?_); exact hsW) | (refine hK (1, [] ++ [c], [] ++ [g], _, _) [some 0, some 1, some 2, some 3, some 5, some 7] _ _ ⟨⟨rfl, by simp, by assumption, hS, rfl⟩⟩ ⟨by simp⟩ (by exact bkW)) | refine x0C ?_ | refine spC (fun hb => ?_) fun hb => ?_ | refine nilC (fun hb => ?_) ?_ | refine taC ?_ | refine saC ?_ | exact sdV | refine side_and ?_ ?_))
 | succ i =>
  have hkl : kids.length = i + 1 := hl
  rw [show 5 - (i + 1) = (3 - i) + 1 by omega, partsP, if_pos rfl] at hS
  simp only [Rs.bind] at hS
  have hN := rnum 0 1000000000 hi hn
  cases e1 : numP ws 0 1000000000 a m with
  | no a1 m1 =>
   rw [e1] at hS
   (repeat' ((conv => whnf); first | (exfalso; omega) | refine x0C ?_ | refine spC (fun hb => ?_) fun hb => ?_ | refine nilC (fun hb => ?_) ?_ | refine taC ?_ | refine saC ?_ | exact sdV | refine side_and ?_ ?_))
   refine drawX_die 3 mixed ?_
   (repeat' ((conv => whnf); first | (exfalso; omega) | (refine ddieh [some 0] (hN.no _ _ e1) rfl rfl ⟨rfl, trivial⟩ ?_ ?_) | exact trivial | (refine rno hS (die_end [some 0] ?_); exact hsW) | refine x0C ?_ | refine spC (fun hb => ?_) fun hb => ?_ | refine nilC (fun hb => ?_) ?_ | refine taC ?_ | refine saC ?_ | exact sdV | refine side_and ?_ ?_))
  | ok c a m =>
  rw [e1] at hS
  dsimp only at hS
  have hi : InW ws a m := hi.step (by have := hN.bd; rw [e1] at this; exact this)
  have hR := hs a m hi
  have hcc : List.take (i + 1) cents ++ List.take 1 (List.drop 0 [c]) = cents ++ [c] := by simp [← hc]
  obtain ⟨M, hM⟩ : ∃ M, M = cents ++ [c] := ⟨_, rfl⟩
  have hMl : M.length = i + 2 := by rw [hM]; simp; omega
  rw [← hM] at hS hcc
  clear hM
  (repeat' ((conv => whnf); first | (exfalso; omega) | refine x0C ?_ | refine spC (fun hb => ?_) fun hb => ?_ | refine nilC (fun hb => ?_) ?_ | refine taC ?_ | refine saC ?_ | exact sdV | refine side_and ?_ ?_))
  refine drawX_of mixed ?_
  (repeat' ((conv => whnf); first | (exfalso; omega) | (refine dcallh [some 0] (hN.ok _ _ _ e1) rfl rfl ⟨rfl, trivial⟩ ?_) | refine x0C ?_ | refine spC (fun hb => ?_) fun hb => ?_ | refine nilC (fun hb => ?_) ?_ | refine taC ?_ | refine saC ?_ | exact sdV | refine side_and ?_ ?_))
  rw [hcc]
  have h1 : 1 < kids.length + 1 := by omega
  cases e0 : sub a m with
  | no a1 m1 =>
   rw [e0] at hS
   (repeat' ((conv => whnf); first | (exfalso; omega) | refine x0C ?_ | refine spC (fun hb => ?_) fun hb => ?_ | refine nilC (fun hb => ?_) ?_ | refine taC ?_ | refine saC ?_ | exact sdV | refine side_and ?_ ?_))
   refine drawX_die 7 mixed ?_
   (repeat' ((conv => whnf); first | (exfalso; omega) | (refine ddieh [some 0] (hR.no _ _ e0) rfl rfl ⟨rfl, trivial⟩ ?_ ?_) | exact trivial | (refine rno hS (die_end [some 0] ?_); exact hsW) | refine x0C ?_ | refine spC (fun hb => ?_) fun hb => ?_ | refine nilC (fun hb => ?_) ?_ | refine taC ?_ | refine saC ?_ | exact sdV | refine side_and ?_ ?_))
  | ok g a1 m1 =>
   rw [e0] at hS
   simp only [h1, if_true] at hS
   have hi1 : InW ws a1 m1 := hi.step (by have := hR.bd; rw [e0] at this; exact this)
   (repeat' ((conv => whnf); first | (exfalso; omega) | refine x0C ?_ | refine spC (fun hb => ?_) fun hb => ?_ | refine nilC (fun hb => ?_) ?_ | refine taC ?_ | refine saC ?_ | exact sdV | refine side_and ?_ ?_))
   refine drawX_of mixed ?_
   have hg : List.take (i + 1) kids ++ List.take 1 (List.drop 0 [(⟨g.kind, g.rows, g.from_, g.to_, g.low, g.high, g.clear, g.days, g.times, g.within, g.cents, g.kids⟩ : Goal)]) = kids ++ [g] := by simp [eta_goal, ← hkl]
   obtain ⟨L, hL⟩ : ∃ L, L = kids ++ [g] := ⟨_, rfl⟩
   have hLl : L.length = i + 2 := by rw [hL]; simp; omega
   rw [← hL] at hS hg
   have hkL : kids.length + 1 = L.length := by omega
   rw [hkL] at hS
   clear hL hkL
   have hm0 := hi1.m0
   have hm1 := hi1.m1
   (repeat' ((conv => whnf); first | (exfalso; omega) | (refine dcallh [some 0] (hR.ok _ _ _ e0) rfl rfl ⟨rfl, trivial⟩ ?_) | refine x0C ?_ | refine spC (fun hb => ?_) fun hb => ?_ | refine nilC (fun hb => ?_) ?_ | refine taC ?_ | refine saC ?_ | exact sdV | refine side_and ?_ ?_))
   rotate_left
   ·rename_i hb
    rw [hg] at hb
    exact absurd (by omega) hb
   rw [hg]
   by_cases hw : peekW ws a1 = w_close
   ·rw [if_pos hw] at hS
    have q := risT w_close hi1 hn hw
    (repeat' ((conv => whnf); first | (exfalso; omega) | (refine callh [some 0] q rfl rfl ⟨rfl, trivial⟩ ?_) | (refine rok hS (end_fn [some 0] (.inr rfl) ?_ ?_ rfl rfl); (focus (refine ⟨?_⟩; (repeat' (first | exact trivial | exact rfl | refine And.intro ?_ ?_ | exact fzV | exact fzV rfl rfl rfl (by omega) (by simp [List.take_of_length_le]) rfl | exact fvV)); done)); exact hsW) | refine x0C ?_ | refine spC (fun hb => ?_) fun hb => ?_ | refine nilC (fun hb => ?_) ?_ | refine taC ?_ | refine saC ?_ | exact sdV | refine side_and ?_ ?_))
   ·rw [if_neg hw] at hS
    have q := risF w_close hi1 hn hw
    by_cases hx : L.length = 4 ∨ m1 = 0
    ·rw [if_pos hx] at hS
     (repeat' ((conv => whnf); first | (exfalso; omega) | (refine callh [some 0] q rfl rfl ⟨rfl, trivial⟩ ?_) | refine unit_in unitS ?_ | refine uface_in (ufaceS _) rfl ?_ | refine panic_in _ _ _ rfl (only_lit rfl) ?_ | (refine rno hS (die_end [some 0] ?_); exact hsW) | refine x0C ?_ | refine spC (fun hb => ?_) fun hb => ?_ | refine nilC (fun hb => ?_) ?_ | refine taC ?_ | refine saC ?_ | exact sdV | refine side_and ?_ ?_))
    ·rw [if_neg hx] at hS
     have hi2 : InW ws a1 (m1 - 1) := ⟨hi1.a0, hi1.a1, by omega, by omega⟩
     (repeat' ((conv => whnf); first | (exfalso; omega) | (refine callh [some 0] q rfl rfl ⟨rfl, trivial⟩ ?_) | (refine rmX [some 0, some _] (rmust [w_comma] (by decide) (by decide) (by assumption) hn) rfl rfl ⟨rfl, rfl, trivial⟩ (fun x a1 m1 e hi hp => ?_) (fun a1 m1 e hi => ?_) (by assumption) <;> simp only [e, Rs.bind] at hS) | (refine rno hS (die_end [some 0] ?_); exact hsW) | (refine hK (i + 2, M, L, _, _) [some 0, some 1, some 2, some 3, some 7, some 9] _ _ ⟨⟨hLl, by simp; omega, by assumption, by (rw [show 5 - (i + 2) = 3 - i by omega]; exact hS), by simpa using hMl⟩⟩ ⟨by simp; omega⟩ (by exact bkW)) | refine x0C ?_ | refine spC (fun hb => ?_) fun hb => ?_ | refine nilC (fun hb => ?_) ?_ | refine taC ?_ | refine saC ?_ | exact sdV | refine side_and ?_ ?_))
def formM (w : Wd) (k needs : Int) (f : Nat) (i : Nat) : MapEntry := ⟨.string ⟨⟨w⟩⟩, .agg #[.int .i64 k, .int .i64 needs, .func (.func f) #[] #[]], i⟩
def formsM : Obj := .map #[formM w_see 1 0 121 0, formM w_pair 2 1 122 1, formM w_every 3 1 123 2, formM w_deliver 4 1 124 3, formM w_all 5 2 125 4, formM w_any 6 2 126 5] 6
theorem rforms : Meets Tryz.prog Dc 104 [] [] (.mapp 0) [.obj formsM] := by
 refine meets_of_gx Ax tab_ok Tryz.func104 (c := _) rfl Tryz.call104 200 ?_
 (repeat' ((conv => whnf); first | (exfalso; omega) | refine side_and ⟨rfl⟩ ?_ | (refine end_fn [some 0] (.inr rfl) ?_ ?_ rfl rfl; (focus exact vwV); exact hsV) | refine x0C ?_ | refine spC (fun hb => ?_) fun hb => ?_ | refine nilC (fun hb => ?_) ?_ | refine taC ?_ | refine saC ?_ | exact sdV | refine side_and ?_ ?_ | refine drawX_of mixed ?_))
theorem rall (dp : Int) (hd : 1 ≤ dp ∧ dp ≤ 4) {ws : List Wd} {sub : Int → Int → Rs Goal} (hs : GoalRM ws 5 (dp + 1) sub) {a m : Int} (hi : InW ws a m) (hn : WsOK ws) : RM 125 [.ptr 0 0, iS dp] ws a m [] (listP ws sub 5 a m) (fun g => goalA g) (fun _ => True) := by
 refine rm_of Tryz.func125 (c := _) rfl Tryz.call125 900 (listP_bd (fun a m h => (hs a m h).bd) 5 hi) (fun _ _ _ _ => trivial) ?_
 obtain ⟨S, hS⟩ : ∃ S, S = listP ws sub 5 a m := ⟨_, rfl⟩
 rw [← hS]
 have hR := rall0 dp hd hs hi hn
 rw [← hS] at hR
 (repeat' ((conv => whnf); first | (exfalso; omega) | (refine rmX [some 0] hR rfl rfl ⟨rfl, trivial⟩ (fun x a1 m1 e hi hp => ?_) (fun a1 m1 e hi => ?_) (by assumption)) | (refine rno e (die_end [some 0] ?_); exact hsW) | (refine rok e (end_fn [some 0] (.inr rfl) ?_ ?_ rfl rfl); (focus exact vwV); exact hsW) | refine x0C ?_ | refine spC (fun hb => ?_) fun hb => ?_ | refine nilC (fun hb => ?_) ?_ | refine taC ?_ | refine saC ?_ | exact sdV | refine side_and ?_ ?_ | refine drawX_of mixed ?_))
theorem rany (dp : Int) (hd : 1 ≤ dp ∧ dp ≤ 4) {ws : List Wd} {sub : Int → Int → Rs Goal} (hs : GoalRM ws 6 (dp + 1) sub) {a m : Int} (hi : InW ws a m) (hn : WsOK ws) : RM 126 [.ptr 0 0, iS dp] ws a m [] (listP ws sub 6 a m) (fun g => goalA g) (fun _ => True) := by
 refine rm_of Tryz.func126 (c := _) rfl Tryz.call126 900 (listP_bd (fun a m h => (hs a m h).bd) 6 hi) (fun _ _ _ _ => trivial) ?_
 obtain ⟨S, hS⟩ : ∃ S, S = listP ws sub 6 a m := ⟨_, rfl⟩
 rw [← hS]
 have hR := rany0 dp hd hs hi hn
 rw [← hS] at hR
 (repeat' ((conv => whnf); first | (exfalso; omega) | (refine rmX [some 0] hR rfl rfl ⟨rfl, trivial⟩ (fun x a1 m1 e hi hp => ?_) (fun a1 m1 e hi => ?_) (by assumption)) | (refine rno e (die_end [some 0] ?_); exact hsW) | (refine rok e (end_fn [some 0] (.inr rfl) ?_ ?_ rfl rfl); (focus exact vwV); exact hsW) | refine x0C ?_ | refine spC (fun hb => ?_) fun hb => ?_ | refine nilC (fun hb => ?_) ?_ | refine taC ?_ | refine saC ?_ | exact sdV | refine side_and ?_ ?_ | refine drawX_of mixed ?_))
theorem bd_in {ws : List Wd} {α : Type} {S : Rs α} {a m a1 m1 : Int} (h : BdR ws a m a1 m1) (hb : S.Bd ws a1 m1) : S.Bd ws a m := by
 cases S with
 | ok z a5 m5 => exact ⟨Int.le_trans h.at1 hb.at1, hb.at2, hb.r1, Int.le_trans hb.r2 h.r2⟩
 | no a5 m5 => exact ⟨Int.le_trans h.at1 hb.at1, hb.at2, hb.r1, Int.le_trans hb.r2 h.r2⟩
theorem formW_word {w : Wd} {k needs : Int} (h : formW w = some (k, needs)) : w ≠ [32] ∧ 0 ≤ needs := by
 unfold formW at h
 repeat' (split at h)
 all_goals first | (cases h; rename_i e; rw [e]; decide) | cases h
theorem goalP_bd {ws : List Wd} : ∀ (n : Nat) (of_ dp : Int) {a m : Int}, InW ws a m → (goalP ws n of_ dp a m).Bd ws a m
 | 0, _, _, a, m, h => by unfold goalP; exact h.refl
 | n + 1, of_, dp, a, m, h => by
  unfold goalP
  split
  ·exact h.refl
  ·rename_i k needs hf
   obtain ⟨hne, h0⟩ := formW_word hf
   have hlt := peekW_lt h rfl hne
   split
   ·exact h.refl
   ·rename_i hc
    have ha0 := h.a0
    have hm1 := h.m1
    have hi : InW ws (a + 1) (m - needs) := ⟨by omega, by omega, by omega, by omega⟩
    have hb : BdR ws a m (a + 1) (m - needs) := ⟨by omega, by omega, by omega, by omega⟩
    refine bd_in hb ?_
    repeat' split
    ·exact seeP_bd hi
    ·exact pairP_bd (fun a m h => goalP_bd n _ _ h) hi
    ·exact everyP_bd (fun a m h => goalP_bd n _ _ h) hi
    ·exact delP_bd (fun a m h => goalP_bd n _ _ h) hi
    ·exact listP_bd (fun a m h => goalP_bd n _ _ h) _ hi
theorem same_str (a b : Wd) : Instr.sameNow (ckDesc CK.str) (.string ⟨⟨a⟩⟩) (.string ⟨⟨b⟩⟩) = some (decide (a = b)) := by
 simp only [Instr.sameNow, ckDesc]
 congr 1
 rw [Bool.eq_iff_iff]
 show ((⟨a⟩ : Array UInt8) == ⟨b⟩) = true ↔ _
 simp
theorem find_none {w : Wd} (h : formW w = none) : Instr.findNow (ckDesc CK.str) (.string ⟨⟨w⟩⟩) [formM w_see 1 0 121 0, formM w_pair 2 1 122 1, formM w_every 3 1 123 2, formM w_deliver 4 1 124 3, formM w_all 5 2 125 4, formM w_any 6 2 126 5] 0 = some none := by
 unfold formW at h
 by_cases h1 : w = w_see
 ·rw [if_pos h1] at h; cases h
 rw [if_neg h1] at h
 by_cases h2 : w = w_pair
 ·rw [if_pos h2] at h; cases h
 rw [if_neg h2] at h
 by_cases h3 : w = w_every
 ·rw [if_pos h3] at h; cases h
 rw [if_neg h3] at h
 by_cases h4 : w = w_deliver
 ·rw [if_pos h4] at h; cases h
 rw [if_neg h4] at h
 by_cases h5 : w = w_all
 ·rw [if_pos h5] at h; cases h
 rw [if_neg h5] at h
 by_cases h6 : w = w_any
 ·rw [if_pos h6] at h; cases h
 simp only [Instr.findNow, formM, same_str, decide_eq_false h1, decide_eq_false h2, decide_eq_false h3, decide_eq_false h4, decide_eq_false h5, decide_eq_false h6]
theorem rgoal_no (of_ dp : Int) (hd : 1 ≤ dp ∧ dp ≤ 4) {ws : List Wd} {a m : Int} (hi : InW ws a m) (hn : WsOK ws) (hf : formW (peekW ws a) = none) : Dies Tryz.prog Dc 77 [.ptr 0 0, iS of_, iS dp] (rdH ws a m) chS (rdH ws a m) := by
 have hp := rpeek hi hn
 generalize peekW ws a = w at *
 refine dies_of_gx Ax tab_ok Tryz.func77 (c := _) rfl Tryz.call77 600 ?_
 (repeat' ((conv => whnf); first | (exfalso; omega) | (refine callh [] rforms rfl rfl trivial ?_) | (refine callh [some 0] hp rfl rfl ⟨rfl, trivial⟩ ?_) | refine x0C ?_ | refine spC (fun hb => ?_) fun hb => ?_ | refine nilC (fun hb => ?_) ?_ | refine taC ?_ | refine saC ?_ | exact sdV | refine side_and ?_ ?_ | refine drawX_of mixed ?_))
 conv => whnf
 refine ask_in (find_none hf) ?_
 (repeat' ((conv => whnf); first | (exfalso; omega) | refine unit_in unitS ?_ | refine uface_in (ufaceS _) rfl ?_ | refine panic_in _ _ _ rfl (only_lit rfl) ?_ | (refine die_end [some 0] ?_; exact hsW) | exact ⟨[some 0], ⟨hsW, rfl, rfl⟩⟩ | refine x0C ?_ | refine spC (fun hb => ?_) fun hb => ?_ | refine nilC (fun hb => ?_) ?_ | refine taC ?_ | refine saC ?_ | exact sdV | refine side_and ?_ ?_ | refine drawX_of mixed ?_))
theorem rgoal_see (of_ dp : Int) (hd : 1 ≤ dp ∧ dp ≤ 4) {ws : List Wd} {a m : Int} (hi : InW ws a m) (hn : WsOK ws) (hw : peekW ws a = w_see) (Q : Rs Goal)
  (hR : ¬ (lastK of_ < 1 ∨ m < 0 ∨ (0 < (0 : Int) ∧ dp = 4)) → RM 121 [.ptr 0 0, iS dp] ws (a + 1) (m - 0) [] Q (fun g => goalA g) (fun _ => True)) :
  RM 77 [.ptr 0 0, iS of_, iS dp] ws a m [] (if lastK of_ < 1 ∨ m < 0 ∨ (0 < (0 : Int) ∧ dp = 4) then .no a m else Q) (fun g => goalA g) (fun _ => True) := by
 have hlt := peekW_lt hi hw (by decide)
 have ha0 := hi.a0
 have hm0 := hi.m0
 have hm1 := hi.m1
 have hb2 := hn.n
 have hp := rpeek hi hn
 rw [hw] at hp
 have hl := last_meets of_
 by_cases hc : lastK of_ < 1 ∨ m < 0 ∨ (0 < (0 : Int) ∧ dp = 4)
 ·rw [if_pos hc]
  clear hR
  refine rm_of Tryz.func77 (c := _) rfl Tryz.call77 900 hi.refl (fun _ _ _ _ => trivial) ?_
  obtain ⟨S, hS⟩ : ∃ S : Rs Goal, S = .no a m := ⟨_, rfl⟩
  rw [← hS]
  (repeat' ((conv => whnf); first | (exfalso; omega) | (refine callh [] rforms rfl rfl trivial ?_) | (refine callh [some 0] hp rfl rfl ⟨rfl, trivial⟩ ?_) | refine ask_in rfl ?_ | refine cpC (hl) ?_ | refine dpC (hl) ?_ | refine unit_in unitS ?_ | refine uface_in (ufaceS _) rfl ?_ | refine panic_in _ _ _ rfl (only_lit rfl) ?_ | (refine rno hS (die_end [some 0] ?_); exact hsW) | refine x0C ?_ | refine spC (fun hb => ?_) fun hb => ?_ | refine nilC (fun hb => ?_) ?_ | refine taC ?_ | refine saC ?_ | exact sdV | refine side_and ?_ ?_ | refine drawX_of mixed ?_))
 ·rw [if_neg hc]
  have hR := hR hc
  have hi2 : InW ws (a + 1) (m - 0) := ⟨by omega, by omega, by omega, by omega⟩
  refine rm_of Tryz.func77 (c := _) rfl Tryz.call77 900 (bd_in ⟨by omega, by omega, by omega, by omega⟩ hR.bd) (fun _ _ _ _ => trivial) ?_
  (repeat' ((conv => whnf); first | (exfalso; omega) | (refine callh [] rforms rfl rfl trivial ?_) | (refine callh [some 0] hp rfl rfl ⟨rfl, trivial⟩ ?_) | refine ask_in rfl ?_ | refine cpC (hl) ?_ | refine dpC (hl) ?_ | (refine rmX [some 0] hR rfl rfl ⟨rfl, trivial⟩ (fun x a1 m1 e hi hp => ?_) (fun a1 m1 e hi => ?_) hi2) | (refine rno e (die_end [some 0] ?_); exact hsW) | (refine rok e (end_fn [some 0] (.inr rfl) ?_ ?_ rfl rfl); (focus exact vwV); exact hsW) | refine x0C ?_ | refine spC (fun hb => ?_) fun hb => ?_ | refine nilC (fun hb => ?_) ?_ | refine taC ?_ | refine saC ?_ | exact sdV | refine side_and ?_ ?_ | refine drawX_of mixed ?_))
theorem rgoal_pair (of_ dp : Int) (hd : 1 ≤ dp ∧ dp ≤ 4) {ws : List Wd} {a m : Int} (hi : InW ws a m) (hn : WsOK ws) (hw : peekW ws a = w_pair) (Q : Rs Goal)
  (hR : ¬ (lastK of_ < 2 ∨ m < 1 ∨ (0 < (1 : Int) ∧ dp = 4)) → RM 122 [.ptr 0 0, iS dp] ws (a + 1) (m - 1) [] Q (fun g => goalA g) (fun _ => True)) :
  RM 77 [.ptr 0 0, iS of_, iS dp] ws a m [] (if lastK of_ < 2 ∨ m < 1 ∨ (0 < (1 : Int) ∧ dp = 4) then .no a m else Q) (fun g => goalA g) (fun _ => True) := by
 have hlt := peekW_lt hi hw (by decide)
 have ha0 := hi.a0
 have hm0 := hi.m0
 have hm1 := hi.m1
 have hb2 := hn.n
 have hp := rpeek hi hn
 rw [hw] at hp
 have hl := last_meets of_
 by_cases hc : lastK of_ < 2 ∨ m < 1 ∨ (0 < (1 : Int) ∧ dp = 4)
 ·rw [if_pos hc]
  clear hR
  refine rm_of Tryz.func77 (c := _) rfl Tryz.call77 900 hi.refl (fun _ _ _ _ => trivial) ?_
  obtain ⟨S, hS⟩ : ∃ S : Rs Goal, S = .no a m := ⟨_, rfl⟩
  rw [← hS]
  (repeat' ((conv => whnf); first | (exfalso; omega) | (refine callh [] rforms rfl rfl trivial ?_) | (refine callh [some 0] hp rfl rfl ⟨rfl, trivial⟩ ?_) | refine ask_in rfl ?_ | refine cpC (hl) ?_ | refine dpC (hl) ?_ | refine unit_in unitS ?_ | refine uface_in (ufaceS _) rfl ?_ | refine panic_in _ _ _ rfl (only_lit rfl) ?_ | (refine rno hS (die_end [some 0] ?_); exact hsW) | refine x0C ?_ | refine spC (fun hb => ?_) fun hb => ?_ | refine nilC (fun hb => ?_) ?_ | refine taC ?_ | refine saC ?_ | exact sdV | refine side_and ?_ ?_ | refine drawX_of mixed ?_))
 ·rw [if_neg hc]
  have hR := hR hc
  have hi2 : InW ws (a + 1) (m - 1) := ⟨by omega, by omega, by omega, by omega⟩
  refine rm_of Tryz.func77 (c := _) rfl Tryz.call77 900 (bd_in ⟨by omega, by omega, by omega, by omega⟩ hR.bd) (fun _ _ _ _ => trivial) ?_
  (repeat' ((conv => whnf); first | (exfalso; omega) | (refine callh [] rforms rfl rfl trivial ?_) | (refine callh [some 0] hp rfl rfl ⟨rfl, trivial⟩ ?_) | refine ask_in rfl ?_ | refine cpC (hl) ?_ | refine dpC (hl) ?_ | (refine rmX [some 0] hR rfl rfl ⟨rfl, trivial⟩ (fun x a1 m1 e hi hp => ?_) (fun a1 m1 e hi => ?_) hi2) | (refine rno e (die_end [some 0] ?_); exact hsW) | (refine rok e (end_fn [some 0] (.inr rfl) ?_ ?_ rfl rfl); (focus exact vwV); exact hsW) | refine x0C ?_ | refine spC (fun hb => ?_) fun hb => ?_ | refine nilC (fun hb => ?_) ?_ | refine taC ?_ | refine saC ?_ | exact sdV | refine side_and ?_ ?_ | refine drawX_of mixed ?_))
theorem rgoal_every (of_ dp : Int) (hd : 1 ≤ dp ∧ dp ≤ 4) {ws : List Wd} {a m : Int} (hi : InW ws a m) (hn : WsOK ws) (hw : peekW ws a = w_every) (Q : Rs Goal)
  (hR : ¬ (lastK of_ < 3 ∨ m < 1 ∨ (0 < (1 : Int) ∧ dp = 4)) → RM 123 [.ptr 0 0, iS dp] ws (a + 1) (m - 1) [] Q (fun g => goalA g) (fun _ => True)) :
  RM 77 [.ptr 0 0, iS of_, iS dp] ws a m [] (if lastK of_ < 3 ∨ m < 1 ∨ (0 < (1 : Int) ∧ dp = 4) then .no a m else Q) (fun g => goalA g) (fun _ => True) := by
 have hlt := peekW_lt hi hw (by decide)
 have ha0 := hi.a0
 have hm0 := hi.m0
 have hm1 := hi.m1
 have hb2 := hn.n
 have hp := rpeek hi hn
 rw [hw] at hp
 have hl := last_meets of_
 by_cases hc : lastK of_ < 3 ∨ m < 1 ∨ (0 < (1 : Int) ∧ dp = 4)
 ·rw [if_pos hc]
  clear hR
  refine rm_of Tryz.func77 (c := _) rfl Tryz.call77 900 hi.refl (fun _ _ _ _ => trivial) ?_
  obtain ⟨S, hS⟩ : ∃ S : Rs Goal, S = .no a m := ⟨_, rfl⟩
  rw [← hS]
  (repeat' ((conv => whnf); first | (exfalso; omega) | (refine callh [] rforms rfl rfl trivial ?_) | (refine callh [some 0] hp rfl rfl ⟨rfl, trivial⟩ ?_) | refine ask_in rfl ?_ | refine cpC (hl) ?_ | refine dpC (hl) ?_ | refine unit_in unitS ?_ | refine uface_in (ufaceS _) rfl ?_ | refine panic_in _ _ _ rfl (only_lit rfl) ?_ | (refine rno hS (die_end [some 0] ?_); exact hsW) | refine x0C ?_ | refine spC (fun hb => ?_) fun hb => ?_ | refine nilC (fun hb => ?_) ?_ | refine taC ?_ | refine saC ?_ | exact sdV | refine side_and ?_ ?_ | refine drawX_of mixed ?_))
 ·rw [if_neg hc]
  have hR := hR hc
  have hi2 : InW ws (a + 1) (m - 1) := ⟨by omega, by omega, by omega, by omega⟩
  refine rm_of Tryz.func77 (c := _) rfl Tryz.call77 900 (bd_in ⟨by omega, by omega, by omega, by omega⟩ hR.bd) (fun _ _ _ _ => trivial) ?_
  (repeat' ((conv => whnf); first | (exfalso; omega) | (refine callh [] rforms rfl rfl trivial ?_) | (refine callh [some 0] hp rfl rfl ⟨rfl, trivial⟩ ?_) | refine ask_in rfl ?_ | refine cpC (hl) ?_ | refine dpC (hl) ?_ | (refine rmX [some 0] hR rfl rfl ⟨rfl, trivial⟩ (fun x a1 m1 e hi hp => ?_) (fun a1 m1 e hi => ?_) hi2) | (refine rno e (die_end [some 0] ?_); exact hsW) | (refine rok e (end_fn [some 0] (.inr rfl) ?_ ?_ rfl rfl); (focus exact vwV); exact hsW) | refine x0C ?_ | refine spC (fun hb => ?_) fun hb => ?_ | refine nilC (fun hb => ?_) ?_ | refine taC ?_ | refine saC ?_ | exact sdV | refine side_and ?_ ?_ | refine drawX_of mixed ?_))
theorem rgoal_deliver (of_ dp : Int) (hd : 1 ≤ dp ∧ dp ≤ 4) {ws : List Wd} {a m : Int} (hi : InW ws a m) (hn : WsOK ws) (hw : peekW ws a = w_deliver) (Q : Rs Goal)
  (hR : ¬ (lastK of_ < 4 ∨ m < 1 ∨ (0 < (1 : Int) ∧ dp = 4)) → RM 124 [.ptr 0 0, iS dp] ws (a + 1) (m - 1) [] Q (fun g => goalA g) (fun _ => True)) :
  RM 77 [.ptr 0 0, iS of_, iS dp] ws a m [] (if lastK of_ < 4 ∨ m < 1 ∨ (0 < (1 : Int) ∧ dp = 4) then .no a m else Q) (fun g => goalA g) (fun _ => True) := by
 have hlt := peekW_lt hi hw (by decide)
 have ha0 := hi.a0
 have hm0 := hi.m0
 have hm1 := hi.m1
 have hb2 := hn.n
 have hp := rpeek hi hn
 rw [hw] at hp
 have hl := last_meets of_
 by_cases hc : lastK of_ < 4 ∨ m < 1 ∨ (0 < (1 : Int) ∧ dp = 4)
 ·rw [if_pos hc]
  clear hR
  refine rm_of Tryz.func77 (c := _) rfl Tryz.call77 900 hi.refl (fun _ _ _ _ => trivial) ?_
  obtain ⟨S, hS⟩ : ∃ S : Rs Goal, S = .no a m := ⟨_, rfl⟩
  rw [← hS]
  (repeat' ((conv => whnf); first | (exfalso; omega) | (refine callh [] rforms rfl rfl trivial ?_) | (refine callh [some 0] hp rfl rfl ⟨rfl, trivial⟩ ?_) | refine ask_in rfl ?_ | refine cpC (hl) ?_ | refine dpC (hl) ?_ | refine unit_in unitS ?_ | refine uface_in (ufaceS _) rfl ?_ | refine panic_in _ _ _ rfl (only_lit rfl) ?_ | (refine rno hS (die_end [some 0] ?_); exact hsW) | refine x0C ?_ | refine spC (fun hb => ?_) fun hb => ?_ | refine nilC (fun hb => ?_) ?_ | refine taC ?_ | refine saC ?_ | exact sdV | refine side_and ?_ ?_ | refine drawX_of mixed ?_))
 ·rw [if_neg hc]
  have hR := hR hc
  have hi2 : InW ws (a + 1) (m - 1) := ⟨by omega, by omega, by omega, by omega⟩
  refine rm_of Tryz.func77 (c := _) rfl Tryz.call77 900 (bd_in ⟨by omega, by omega, by omega, by omega⟩ hR.bd) (fun _ _ _ _ => trivial) ?_
  (repeat' ((conv => whnf); first | (exfalso; omega) | (refine callh [] rforms rfl rfl trivial ?_) | (refine callh [some 0] hp rfl rfl ⟨rfl, trivial⟩ ?_) | refine ask_in rfl ?_ | refine cpC (hl) ?_ | refine dpC (hl) ?_ | (refine rmX [some 0] hR rfl rfl ⟨rfl, trivial⟩ (fun x a1 m1 e hi hp => ?_) (fun a1 m1 e hi => ?_) hi2) | (refine rno e (die_end [some 0] ?_); exact hsW) | (refine rok e (end_fn [some 0] (.inr rfl) ?_ ?_ rfl rfl); (focus exact vwV); exact hsW) | refine x0C ?_ | refine spC (fun hb => ?_) fun hb => ?_ | refine nilC (fun hb => ?_) ?_ | refine taC ?_ | refine saC ?_ | exact sdV | refine side_and ?_ ?_ | refine drawX_of mixed ?_))
theorem rgoal_all (of_ dp : Int) (hd : 1 ≤ dp ∧ dp ≤ 4) {ws : List Wd} {a m : Int} (hi : InW ws a m) (hn : WsOK ws) (hw : peekW ws a = w_all) (Q : Rs Goal)
  (hR : ¬ (lastK of_ < 5 ∨ m < 2 ∨ (0 < (2 : Int) ∧ dp = 4)) → RM 125 [.ptr 0 0, iS dp] ws (a + 1) (m - 2) [] Q (fun g => goalA g) (fun _ => True)) :
  RM 77 [.ptr 0 0, iS of_, iS dp] ws a m [] (if lastK of_ < 5 ∨ m < 2 ∨ (0 < (2 : Int) ∧ dp = 4) then .no a m else Q) (fun g => goalA g) (fun _ => True) := by
 have hlt := peekW_lt hi hw (by decide)
 have ha0 := hi.a0
 have hm0 := hi.m0
 have hm1 := hi.m1
 have hb2 := hn.n
 have hp := rpeek hi hn
 rw [hw] at hp
 have hl := last_meets of_
 by_cases hc : lastK of_ < 5 ∨ m < 2 ∨ (0 < (2 : Int) ∧ dp = 4)
 ·rw [if_pos hc]
  clear hR
  refine rm_of Tryz.func77 (c := _) rfl Tryz.call77 900 hi.refl (fun _ _ _ _ => trivial) ?_
  obtain ⟨S, hS⟩ : ∃ S : Rs Goal, S = .no a m := ⟨_, rfl⟩
  rw [← hS]
  (repeat' ((conv => whnf); first | (exfalso; omega) | (refine callh [] rforms rfl rfl trivial ?_) | (refine callh [some 0] hp rfl rfl ⟨rfl, trivial⟩ ?_) | refine ask_in rfl ?_ | refine cpC (hl) ?_ | refine dpC (hl) ?_ | refine unit_in unitS ?_ | refine uface_in (ufaceS _) rfl ?_ | refine panic_in _ _ _ rfl (only_lit rfl) ?_ | (refine rno hS (die_end [some 0] ?_); exact hsW) | refine x0C ?_ | refine spC (fun hb => ?_) fun hb => ?_ | refine nilC (fun hb => ?_) ?_ | refine taC ?_ | refine saC ?_ | exact sdV | refine side_and ?_ ?_ | refine drawX_of mixed ?_))
 ·rw [if_neg hc]
  have hR := hR hc
  have hi2 : InW ws (a + 1) (m - 2) := ⟨by omega, by omega, by omega, by omega⟩
  refine rm_of Tryz.func77 (c := _) rfl Tryz.call77 900 (bd_in ⟨by omega, by omega, by omega, by omega⟩ hR.bd) (fun _ _ _ _ => trivial) ?_
  (repeat' ((conv => whnf); first | (exfalso; omega) | (refine callh [] rforms rfl rfl trivial ?_) | (refine callh [some 0] hp rfl rfl ⟨rfl, trivial⟩ ?_) | refine ask_in rfl ?_ | refine cpC (hl) ?_ | refine dpC (hl) ?_ | (refine rmX [some 0] hR rfl rfl ⟨rfl, trivial⟩ (fun x a1 m1 e hi hp => ?_) (fun a1 m1 e hi => ?_) hi2) | (refine rno e (die_end [some 0] ?_); exact hsW) | (refine rok e (end_fn [some 0] (.inr rfl) ?_ ?_ rfl rfl); (focus exact vwV); exact hsW) | refine x0C ?_ | refine spC (fun hb => ?_) fun hb => ?_ | refine nilC (fun hb => ?_) ?_ | refine taC ?_ | refine saC ?_ | exact sdV | refine side_and ?_ ?_ | refine drawX_of mixed ?_))
theorem rgoal_any (of_ dp : Int) (hd : 1 ≤ dp ∧ dp ≤ 4) {ws : List Wd} {a m : Int} (hi : InW ws a m) (hn : WsOK ws) (hw : peekW ws a = w_any) (Q : Rs Goal)
  (hR : ¬ (lastK of_ < 6 ∨ m < 2 ∨ (0 < (2 : Int) ∧ dp = 4)) → RM 126 [.ptr 0 0, iS dp] ws (a + 1) (m - 2) [] Q (fun g => goalA g) (fun _ => True)) :
  RM 77 [.ptr 0 0, iS of_, iS dp] ws a m [] (if lastK of_ < 6 ∨ m < 2 ∨ (0 < (2 : Int) ∧ dp = 4) then .no a m else Q) (fun g => goalA g) (fun _ => True) := by
 have hlt := peekW_lt hi hw (by decide)
 have ha0 := hi.a0
 have hm0 := hi.m0
 have hm1 := hi.m1
 have hb2 := hn.n
 have hp := rpeek hi hn
 rw [hw] at hp
 have hl := last_meets of_
 by_cases hc : lastK of_ < 6 ∨ m < 2 ∨ (0 < (2 : Int) ∧ dp = 4)
 ·rw [if_pos hc]
  clear hR
  refine rm_of Tryz.func77 (c := _) rfl Tryz.call77 900 hi.refl (fun _ _ _ _ => trivial) ?_
  obtain ⟨S, hS⟩ : ∃ S : Rs Goal, S = .no a m := ⟨_, rfl⟩
  rw [← hS]
  (repeat' ((conv => whnf); first | (exfalso; omega) | (refine callh [] rforms rfl rfl trivial ?_) | (refine callh [some 0] hp rfl rfl ⟨rfl, trivial⟩ ?_) | refine ask_in rfl ?_ | refine cpC (hl) ?_ | refine dpC (hl) ?_ | refine unit_in unitS ?_ | refine uface_in (ufaceS _) rfl ?_ | refine panic_in _ _ _ rfl (only_lit rfl) ?_ | (refine rno hS (die_end [some 0] ?_); exact hsW) | refine x0C ?_ | refine spC (fun hb => ?_) fun hb => ?_ | refine nilC (fun hb => ?_) ?_ | refine taC ?_ | refine saC ?_ | exact sdV | refine side_and ?_ ?_ | refine drawX_of mixed ?_))
 ·rw [if_neg hc]
  have hR := hR hc
  have hi2 : InW ws (a + 1) (m - 2) := ⟨by omega, by omega, by omega, by omega⟩
  refine rm_of Tryz.func77 (c := _) rfl Tryz.call77 900 (bd_in ⟨by omega, by omega, by omega, by omega⟩ hR.bd) (fun _ _ _ _ => trivial) ?_
  (repeat' ((conv => whnf); first | (exfalso; omega) | (refine callh [] rforms rfl rfl trivial ?_) | (refine callh [some 0] hp rfl rfl ⟨rfl, trivial⟩ ?_) | refine ask_in rfl ?_ | refine cpC (hl) ?_ | refine dpC (hl) ?_ | (refine rmX [some 0] hR rfl rfl ⟨rfl, trivial⟩ (fun x a1 m1 e hi hp => ?_) (fun a1 m1 e hi => ?_) hi2) | (refine rno e (die_end [some 0] ?_); exact hsW) | (refine rok e (end_fn [some 0] (.inr rfl) ?_ ?_ rfl rfl); (focus exact vwV); exact hsW) | refine x0C ?_ | refine spC (fun hb => ?_) fun hb => ?_ | refine nilC (fun hb => ?_) ?_ | refine taC ?_ | refine saC ?_ | exact sdV | refine side_and ?_ ?_ | refine drawX_of mixed ?_))
theorem rmE {α : Type} {f : FuncId} {args : List (SV Cd)} {ws : List Wd} {a m : Int} {X : List (HS Cd)} {S S' : Rs α} {ret : α → SV Cd} {Pr : α → Prop} (h : RM f args ws a m X S ret Pr) (e : S' = S) : RM f args ws a m X S' ret Pr := e ▸ h
theorem rgoal {ws : List Wd} (hn : WsOK ws) : ∀ (n : Nat) (of_ dp : Int), 1 ≤ n → 1 ≤ dp → dp + n = 5 → GoalRM ws of_ dp (goalP ws n of_ dp)
 | 0, of_, dp, h, _, _ => absurd h (by omega)
 | n + 1, of_, dp, _, h1, h5 => by
  intro a m hi
  have hd : 1 ≤ dp ∧ dp ≤ 4 := by omega
  have ih : ∀ k, ¬ dp = 4 → GoalRM ws k (dp + 1) (goalP ws n k (dp + 1)) := fun k hk => rgoal hn n k (dp + 1) (by omega) (by omega) (by omega)
  have hlt : ∀ w, w ≠ [32] → peekW ws a = w → a < ws.length := fun w hw e => peekW_lt hi e hw
  have ha0 := hi.a0
  have hm0 := hi.m0
  have hm1 := hi.m1
  by_cases w1 : peekW ws a = w_see
  ·have := hlt _ (by decide) w1
   refine rmE (rgoal_see of_ dp hd hi hn w1 (seeP ws (a + 1) (m - 0)) fun hc => rsee dp ⟨by omega, by omega, by omega, by omega⟩ hn) ?_
   rw [goalP, w1]; rfl
  by_cases w2 : peekW ws a = w_pair
  ·have := hlt _ (by decide) w2
   refine rmE (rgoal_pair of_ dp hd hi hn w2 (pairP ws (goalP ws n 2 (dp + 1)) (a + 1) (m - 1)) fun hc => rpair dp hd (ih 2 (by omega)) ⟨by omega, by omega, by omega, by omega⟩ hn) ?_
   rw [goalP, w2]; rfl
  by_cases w3 : peekW ws a = w_every
  ·have := hlt _ (by decide) w3
   refine rmE (rgoal_every of_ dp hd hi hn w3 (everyP ws (goalP ws n 3 (dp + 1)) (a + 1) (m - 1)) fun hc => revery dp hd (ih 3 (by omega)) ⟨by omega, by omega, by omega, by omega⟩ hn) ?_
   rw [goalP, w3]; rfl
  by_cases w4 : peekW ws a = w_deliver
  ·have := hlt _ (by decide) w4
   refine rmE (rgoal_deliver of_ dp hd hi hn w4 (delP ws (goalP ws n 4 (dp + 1)) (a + 1) (m - 1)) fun hc => rdeliver dp hd (ih 4 (by omega)) ⟨by omega, by omega, by omega, by omega⟩ hn) ?_
   rw [goalP, w4]; rfl
  by_cases w5 : peekW ws a = w_all
  ·have := hlt _ (by decide) w5
   refine rmE (rgoal_all of_ dp hd hi hn w5 (listP ws (goalP ws n 5 (dp + 1)) 5 (a + 1) (m - 2)) fun hc => rall dp hd (ih 5 (by omega)) ⟨by omega, by omega, by omega, by omega⟩ hn) ?_
   rw [goalP, w5]; rfl
  by_cases w6 : peekW ws a = w_any
  ·have := hlt _ (by decide) w6
   refine rmE (rgoal_any of_ dp hd hi hn w6 (listP ws (goalP ws n 6 (dp + 1)) 6 (a + 1) (m - 2)) fun hc => rany dp hd (ih 6 (by omega)) ⟨by omega, by omega, by omega, by omega⟩ hn) ?_
   rw [goalP, w6]; rfl
  have hf : formW (peekW ws a) = none := by unfold formW; rw [if_neg w1, if_neg w2, if_neg w3, if_neg w4, if_neg w5, if_neg w6]
  have e : goalP ws (n + 1) of_ dp a m = .no a m := by rw [goalP, hf]
  rw [e]
  exact ⟨fun x a' m' h => (by cases h), fun a' m' h => by injection h with h1 h2; subst h1 h2; simpa using rgoal_no of_ dp hd hi hn hf, hi.refl, fun x a' m' h => (by cases h)⟩
theorem groupP_bd {ws : List Wd} {a m : Int} (h : InW ws a m) : (groupP ws a m).Bd ws a m := by
 unfold groupP
 split
 ·rename_i e
  have := peekW_lt h e (by decide)
  have := h.a0
  exact ⟨by omega, by omega, h.m0, Int.le_refl _⟩
 ·exact numP_bd h
theorem orderP_bd {ws : List Wd} {a m : Int} (h : InW ws a m) : (orderP ws a m).Bd ws a m := by
 unfold orderP
 refine bd_bind h (mustW_bd [w_order] h (by decide)) fun _ _ _ _ h => ?_
 refine bd_bind h (numP_bd h) fun _ _ _ _ h => ?_
 refine bd_bind h (mustW_bd [w_by] h (by decide)) fun _ _ _ _ h => ?_
 refine bd_bind h (numP_bd h) fun _ _ _ _ h => ?_
 refine bd_bind h (mustW_bd [w_for] h (by decide)) fun _ _ _ _ h => ?_
 refine bd_bind h (numP_bd h) fun _ _ _ _ h => ?_
 refine bd_bind h (mustW_bd [w_group] h (by decide)) fun _ _ _ _ h => ?_
 refine bd_bind h (groupP_bd h) fun _ _ _ _ h => ?_
 refine bd_bind h (wordP_bd h (by decide) (by decide)) fun _ _ _ _ h => ?_
 refine bd_bind h (mustW_bd [w_known] h (by decide)) fun _ _ _ _ h => ?_
 refine bd_bind h (numP_bd h) fun _ _ _ _ h => ?_
 refine bd_bind h (mustW_bd [w_due] h (by decide)) fun _ _ _ _ h => ?_
 refine bd_bind h (numP_bd h) fun _ _ _ _ h => ?_
 refine bd_bind h (mustW_bd [w_colon] h (by decide)) fun _ _ _ _ h => ?_
 refine bd_bind h (goalP_bd 4 5 1 h) fun _ _ _ _ h => ?_
 refine bd_bind h (mustW_bd [w_dot] h (by decide)) fun _ _ _ _ h => ?_
 split
 ·exact h.refl
 ·exact h.refl
theorem rorder {ws : List Wd} {a m : Int} (hi : InW ws a m) (hn : WsOK ws) : RM 52 [.ptr 0 0] ws a m [] (orderP ws a m) (fun o => ordA o) (fun _ => True) := by
 refine rm_of Tryz.func52 (c := _) rfl Tryz.call52 2000 (orderP_bd hi) (fun _ _ _ _ => trivial) ?_
 obtain ⟨S, hS⟩ : ∃ S, S = orderP ws a m := ⟨_, rfl⟩
 rw [← hS]
 unfold orderP at hS
 have hg := rgoal hn 4 5 1 (by omega) (by omega) (by omega)
 have hb2 := hn.n
 (repeat' ((conv => whnf); first | (exfalso; omega) | (refine rmX [some 0, some _] (rmust [w_order] (by decide) (by decide) (by assumption) hn) rfl rfl ⟨rfl, rfl, trivial⟩ (fun x a1 m1 e hi hp => ?_) (fun a1 m1 e hi => ?_) (by assumption) <;> simp only [e, Rs.bind] at hS) | (refine rmX [some 0, some _] (rmust [w_by] (by decide) (by decide) (by assumption) hn) rfl rfl ⟨rfl, rfl, trivial⟩ (fun x a1 m1 e hi hp => ?_) (fun a1 m1 e hi => ?_) (by assumption) <;> simp only [e, Rs.bind] at hS) | (refine rmX [some 0, some _] (rmust [w_for] (by decide) (by decide) (by assumption) hn) rfl rfl ⟨rfl, rfl, trivial⟩ (fun x a1 m1 e hi hp => ?_) (fun a1 m1 e hi => ?_) (by assumption) <;> simp only [e, Rs.bind] at hS) | (refine rmX [some 0, some _] (rmust [w_group] (by decide) (by decide) (by assumption) hn) rfl rfl ⟨rfl, rfl, trivial⟩ (fun x a1 m1 e hi hp => ?_) (fun a1 m1 e hi => ?_) (by assumption) <;> simp only [e, Rs.bind] at hS) | (refine rmX [some 0, some _] (rmust [w_known] (by decide) (by decide) (by assumption) hn) rfl rfl ⟨rfl, rfl, trivial⟩ (fun x a1 m1 e hi hp => ?_) (fun a1 m1 e hi => ?_) (by assumption) <;> simp only [e, Rs.bind] at hS) | (refine rmX [some 0, some _] (rmust [w_due] (by decide) (by decide) (by assumption) hn) rfl rfl ⟨rfl, rfl, trivial⟩ (fun x a1 m1 e hi hp => ?_) (fun a1 m1 e hi => ?_) (by assumption) <;> simp only [e, Rs.bind] at hS) | (refine rmX [some 0, some _] (rmust [w_colon] (by decide) (by decide) (by assumption) hn) rfl rfl ⟨rfl, rfl, trivial⟩ (fun x a1 m1 e hi hp => ?_) (fun a1 m1 e hi => ?_) (by assumption) <;> simp only [e, Rs.bind] at hS) | (refine rmX [some 0, some _] (rmust [w_dot] (by decide) (by decide) (by assumption) hn) rfl rfl ⟨rfl, rfl, trivial⟩ (fun x a1 m1 e hi hp => ?_) (fun a1 m1 e hi => ?_) (by assumption) <;> simp only [e, Rs.bind] at hS) | (refine rmX [some 0] (rnum _ _ (by assumption) hn) rfl rfl ⟨rfl, trivial⟩ (fun x a1 m1 e hi hp => ?_) (fun a1 m1 e hi => ?_) (by assumption) <;> simp only [e, Rs.bind] at hS) | (refine rmX [some 0] (hg _ _ (by assumption)) rfl rfl ⟨rfl, trivial⟩ (fun x a1 m1 e hi hp => ?_) (fun a1 m1 e hi => ?_) (by assumption) <;> simp only [e, Rs.bind] at hS) | (refine rmX [some 0] (rword w_urgent w_plain (by decide) (by decide) (by assumption) hn) rfl rfl ⟨rfl, trivial⟩ (fun x a1 m1 e hi hp => ?_) (fun a1 m1 e hi => ?_) (by assumption) <;> simp only [e, Rs.bind] at hS) | refine unit_in unitS ?_ | refine uface_in (ufaceS _) rfl ?_ | refine panic_in _ _ _ rfl (only_lit rfl) ?_ | (refine rno hS (die_end [some 0] ?_); exact hsW) | (refine rok hS (end_fn [some 0] (.inr rfl) ?_ ?_ rfl rfl); (focus first | exact vwV | (refine ⟨?_⟩; (repeat' (first | exact trivial | exact rfl | refine And.intro ?_ ?_ | exact fzV | exact fzV rfl rfl rfl (by simp) (by simp [eta_goal]) rfl | exact fvV)); done)); exact hsW) | refine x0C ?_ | refine spC (fun hb => ?_) fun hb => ?_ | refine nilC (fun hb => ?_) ?_ | refine taC ?_ | refine saC ?_ | exact sdV | refine side_and ?_ ?_ | refine drawX_of mixed ?_))
 by_cases hgr : peekW ws a1 = w_none
 ·have hG : groupP ws a1 m1 = .ok (-1) (a1 + 1) m1 := by unfold groupP; rw [if_pos hgr]
  rw [hG] at hS
  dsimp only at hS
  have q := risT w_none hi hn hgr
  have hlt := peekW_lt hi hgr (by decide)
  have hi : InW ws (a1 + 1) m1 := ⟨by have := hi.a0; omega, by omega, hi.m0, hi.m1⟩
  (repeat' ((conv => whnf); first | (exfalso; omega) | (refine callh [some 0] q rfl rfl ⟨rfl, trivial⟩ ?_) | (refine rmX [some 0, some _] (rmust [w_known] (by decide) (by decide) (by assumption) hn) rfl rfl ⟨rfl, rfl, trivial⟩ (fun x a1 m1 e hi hp => ?_) (fun a1 m1 e hi => ?_) (by assumption) <;> simp only [e, Rs.bind] at hS) | (refine rmX [some 0, some _] (rmust [w_due] (by decide) (by decide) (by assumption) hn) rfl rfl ⟨rfl, rfl, trivial⟩ (fun x a1 m1 e hi hp => ?_) (fun a1 m1 e hi => ?_) (by assumption) <;> simp only [e, Rs.bind] at hS) | (refine rmX [some 0, some _] (rmust [w_colon] (by decide) (by decide) (by assumption) hn) rfl rfl ⟨rfl, rfl, trivial⟩ (fun x a1 m1 e hi hp => ?_) (fun a1 m1 e hi => ?_) (by assumption) <;> simp only [e, Rs.bind] at hS) | (refine rmX [some 0, some _] (rmust [w_dot] (by decide) (by decide) (by assumption) hn) rfl rfl ⟨rfl, rfl, trivial⟩ (fun x a1 m1 e hi hp => ?_) (fun a1 m1 e hi => ?_) (by assumption) <;> simp only [e, Rs.bind] at hS) | (refine rmX [some 0] (rnum _ _ (by assumption) hn) rfl rfl ⟨rfl, trivial⟩ (fun x a1 m1 e hi hp => ?_) (fun a1 m1 e hi => ?_) (by assumption) <;> simp only [e, Rs.bind] at hS) | (refine rmX [some 0] (hg _ _ (by assumption)) rfl rfl ⟨rfl, trivial⟩ (fun x a1 m1 e hi hp => ?_) (fun a1 m1 e hi => ?_) (by assumption) <;> simp only [e, Rs.bind] at hS) | (refine rmX [some 0] (rword w_urgent w_plain (by decide) (by decide) (by assumption) hn) rfl rfl ⟨rfl, trivial⟩ (fun x a1 m1 e hi hp => ?_) (fun a1 m1 e hi => ?_) (by assumption) <;> simp only [e, Rs.bind] at hS) | refine unit_in unitS ?_ | refine uface_in (ufaceS _) rfl ?_ | refine panic_in _ _ _ rfl (only_lit rfl) ?_ | (rw [if_pos (by assumption)] at hS; refine rno hS (die_end [some 0] ?_); exact hsW) | (refine rno hS (die_end [some 0] ?_); exact hsW) | (rw [if_neg (by assumption)] at hS; (refine rok hS (end_fn [some 0] (.inr rfl) ?_ ?_ rfl rfl); (focus first | exact vwV | (refine ⟨?_⟩; (repeat' (first | exact trivial | exact rfl | refine And.intro ?_ ?_ | exact fzV | exact fzV rfl rfl rfl (by simp) (by simp [eta_goal]) rfl | exact fvV)); done)); exact hsW)) | refine x0C ?_ | refine spC (fun hb => ?_) fun hb => ?_ | refine nilC (fun hb => ?_) ?_ | refine taC ?_ | refine saC ?_ | exact sdV | refine side_and ?_ ?_ | refine drawX_of mixed ?_))
 ·have hG : groupP ws a1 m1 = numP ws 0 15 a1 m1 := by unfold groupP; rw [if_neg hgr]
  rw [hG] at hS
  have q := risF w_none hi hn hgr
  (repeat' ((conv => whnf); first | (exfalso; omega) | (refine callh [some 0] q rfl rfl ⟨rfl, trivial⟩ ?_) | (refine rmX [some 0, some _] (rmust [w_known] (by decide) (by decide) (by assumption) hn) rfl rfl ⟨rfl, rfl, trivial⟩ (fun x a1 m1 e hi hp => ?_) (fun a1 m1 e hi => ?_) (by assumption) <;> simp only [e, Rs.bind] at hS) | (refine rmX [some 0, some _] (rmust [w_due] (by decide) (by decide) (by assumption) hn) rfl rfl ⟨rfl, rfl, trivial⟩ (fun x a1 m1 e hi hp => ?_) (fun a1 m1 e hi => ?_) (by assumption) <;> simp only [e, Rs.bind] at hS) | (refine rmX [some 0, some _] (rmust [w_colon] (by decide) (by decide) (by assumption) hn) rfl rfl ⟨rfl, rfl, trivial⟩ (fun x a1 m1 e hi hp => ?_) (fun a1 m1 e hi => ?_) (by assumption) <;> simp only [e, Rs.bind] at hS) | (refine rmX [some 0, some _] (rmust [w_dot] (by decide) (by decide) (by assumption) hn) rfl rfl ⟨rfl, rfl, trivial⟩ (fun x a1 m1 e hi hp => ?_) (fun a1 m1 e hi => ?_) (by assumption) <;> simp only [e, Rs.bind] at hS) | (refine rmX [some 0] (rnum _ _ (by assumption) hn) rfl rfl ⟨rfl, trivial⟩ (fun x a1 m1 e hi hp => ?_) (fun a1 m1 e hi => ?_) (by assumption) <;> simp only [e, Rs.bind] at hS) | (refine rmX [some 0] (hg _ _ (by assumption)) rfl rfl ⟨rfl, trivial⟩ (fun x a1 m1 e hi hp => ?_) (fun a1 m1 e hi => ?_) (by assumption) <;> simp only [e, Rs.bind] at hS) | (refine rmX [some 0] (rword w_urgent w_plain (by decide) (by decide) (by assumption) hn) rfl rfl ⟨rfl, trivial⟩ (fun x a1 m1 e hi hp => ?_) (fun a1 m1 e hi => ?_) (by assumption) <;> simp only [e, Rs.bind] at hS) | refine unit_in unitS ?_ | refine uface_in (ufaceS _) rfl ?_ | refine panic_in _ _ _ rfl (only_lit rfl) ?_ | (rw [if_pos (by assumption)] at hS; refine rno hS (die_end [some 0] ?_); exact hsW) | (refine rno hS (die_end [some 0] ?_); exact hsW) | (rw [if_neg (by assumption)] at hS; (refine rok hS (end_fn [some 0] (.inr rfl) ?_ ?_ rfl rfl); (focus first | exact vwV | (refine ⟨?_⟩; (repeat' (first | exact trivial | exact rfl | refine And.intro ?_ ?_ | exact fzV | exact fzV rfl rfl rfl (by simp) (by simp [eta_goal]) rfl | exact fvV)); done)); exact hsW)) | refine x0C ?_ | refine spC (fun hb => ?_) fun hb => ?_ | refine nilC (fun hb => ?_) ?_ | refine taC ?_ | refine saC ?_ | exact sdV | refine side_and ?_ ?_ | refine drawX_of mixed ?_))
end Go.SX

/-
 SX, part Df: functions that are called when another one leaves, and may recover.
-/
namespace Go.SX
open Go.RowKit
variable {C : Cod}
section
variable {P : Program} {D : Codec C} {tab : Tab C} {B : Base} {E : Env} {σ : Nat → SV C} {H : Nat → HS C} {df : List Deferred} {a : Act} {w : World} {o : Oper} {r : Option Nat}
variable {T : List (SV C)} {Hp : List (HS C)}
/-- the contract of a deferred call: how the frame that leaves stood, and stands behind it -/
structure MeetsD (P : Program) (D : Codec C) (f : FuncId) (args : List (SV C)) (H0 : List (HS C)) (u u' : FrameMode) (H1 : List (HS C)) : Prop where
 calls : ∀ w E (hm : ∀ c, H0.length ≤ c → E.β c = .fresh) vs, Sat D w E (getC H0) → DenA D w E args vs →
  CallsDIn (Fc none) 0 P f vs.toArray u w fun e u2 w' => u2 = u' ∧ ∃ E', (∃ v, e = .returned v) ∧ Sat D w' E' (getC H1) ∧ Fr ⟨w, E, fun b => ∃ c, E.β c = .loc b, H0.length, hm, [], false⟩ E' w'
def VoidPost (m0 : Nat) (H1 : List (HS C)) : Post C := fun e T Hp => (e = .normal ∨ e = .ret) ∧ ∃ θ, ViewOK Hp θ H1 m0
theorem void_end {m0 : Nat} {H1 : List (HS C)} {e : Exit} (he : e = .normal ∨ e = .ret) (θ : List (Option Nat)) (hv : ViewHs Hp θ θ H1) (hid : idO m0 0 θ = true := by rfl) (hnd : ndO θ = true := by rfl) : VoidPost m0 H1 e T Hp := ⟨he, θ, hv, hid, hnd⟩
theorem Fr.other {ds : List Deferred} {nm : Bool} (h : Fr B E w) : Fr { B with ds := ds, nm := nm } E w := ⟨h.os, h.tape, h.output, h.size, h.same, h.late, h.newF, h.newO⟩
theorem Fr.back {ds : List Deferred} {nm : Bool} (h : Fr { B with ds := ds, nm := nm } E w) : Fr B E w := ⟨h.os, h.tape, h.output, h.size, h.same, h.late, h.newF, h.newO⟩
theorem relL_set (h : RelL D B df T Hp a w) (d : Nat) {x : SV C} {v : Value} (hd : ∀ E, Den D w E x v) : RelL D B df (setT T d x) Hp (a.put (some d) v) w := by
 obtain ⟨E, hR, hsz⟩ := h
 have := hR.put hsz (some d) (.inr (hd E))
 exact ⟨E, by rw [← show setO T (some d) x = setT T d x from rfl, getT_setO]; exact this, by rw [size_put, hsz, length_setT]⟩
theorem enter_relN {vs : List Value} {n : Nat} {args : List (SV C)} {m : Nat} {hm : ∀ c, m ≤ c → E.β c = .fresh} (hs : Sat D w E (getC Hp)) (hd : DenA D w E args vs) :
  RelL D { Base.here w E m hm with nm := true } [] (args ++ anys (n - args.length)) Hp { tmps := vs.toArray ++ Array.replicate (n - vs.toArray.size) undef, defers := [] } w := by
 have hlen := denA_length _ _ hd
 refine ⟨E, ⟨fun i => ?_, hs, Fr.here.other, rfl, Marks.nil⟩, by simp [anys_length, hlen]⟩
 rw [getT_append]
 split
 ·rename_i hi
  have := denA_getT _ _ hd i hi
  have e : (vs.toArray ++ Array.replicate (n - vs.toArray.size) undef).getD i undef = vs.getD i undef := by
   rw [Array.getD_eq_getD_getElem?, Array.getElem?_append_left (by simp; omega)]
   simp [List.getD_eq_getElem?_getD]
  rw [e]; exact this
 ·rw [getT_anys]; trivial
theorem meetsD_of_gx (A : Aux C D) (hT : TabOK P D tab) {f : FuncId} {fn : Func} {id : Nat} {o1 o2 : Oper} {rest : Code} (hf : P.funcs[f]? = some fn) (hb : fn.body = some (.seq (.region id #[o1, o2] false) rest)) (hres : fn.results = #[])
  {t7 t4 : Nat} (g1 : o1.guard = none) (d1 : o1.dst = some t7) (g2 : o2.guard = none) (d2 : o2.dst = some t4) (h7 : t7 < fn.ntmps)
  (r1 : ∀ e w, (execOp e o1).run P w = .ok .recover w) (r2 : ∀ (e : Operand → Value) w, (execOp e o2).run P w = .ok (.value (e (.tmp t7))) w)
  {v : Value} {u u' : FrameMode} (hv : v.oneCell' = true)
  (hrec : ∀ (c0 : Frame) (cs : List Frame), c0.mode = u → recoverD (c0 :: cs) = some (v, { c0 with mode := u' } :: cs) ∨ (recoverD (c0 :: cs) = none ∧ v = .nilIface ∧ u' = u))
  {args : List (SV C)} {H0 H1 : List (HS C)} (n : Nat)
  (h : forceV (setT (setT (args ++ anys (fn.ntmps - args.length)) t7 (.p (.lit v))) t4 (.p (.lit v))) fun T0 => forceL H0 fun Hp0 => gx P A tab ⟨none, [], H0.length, true⟩ (VoidPost H0.length H1) n [.code rest] T0 Hp0) : MeetsD P D f args H0 u u' H1 := by
 rw [forceV_eq, forceL_eq] at h
 refine ⟨fun w E hm vs hs hd => callsDIn_of_wpSIn hf hb trivial fun c0 cs hu => ?_⟩
 have hR0 := enter_relN (n := fn.ntmps) (m := H0.length) (hm := hm) hs hd
 have hsz : (vs.toArray ++ Array.replicate (fn.ntmps - vs.toArray.size) undef : Array Value).size = (args ++ anys (fn.ntmps - args.length)).length := by obtain ⟨_, _, h⟩ := hR0; exact h
 have hlt : t7 < (vs.toArray ++ Array.replicate (fn.ntmps - vs.toArray.size) undef : Array Value).size := by simp; omega
 have hR1 := relL_set hR0 t7 (x := .p (.lit v)) (v := v) (fun _ => by simp only [Den]; exact .lit v hv)
 have hR2 := relL_set hR1 t4 (x := .p (.lit v)) (v := v) (fun _ => by simp only [Den]; exact .lit v hv)
 refine wpSIn_seq (wpSIn_region ?_)
 obtain ⟨cs1, hcs1, hrun⟩ : ∃ cs1, cs1 = { c0 with mode := u' } :: cs ∧ ∀ next : Act → List Frame → Prop, next (({ tmps := vs.toArray ++ Array.replicate (fn.ntmps - vs.toArray.size) undef, defers := [] } : Act).put (some t7) v) cs1 →
   (match recoverD (c0 :: cs) with
    | some (v, cs') => next (({ tmps := vs.toArray ++ Array.replicate (fn.ntmps - vs.toArray.size) undef, defers := [] } : Act).put (some t7) v) cs'
    | none => next (({ tmps := vs.toArray ++ Array.replicate (fn.ntmps - vs.toArray.size) undef, defers := [] } : Act).put (some t7) .nilIface) (c0 :: cs)) := by
  rcases hrec c0 cs hu with hh | ⟨hh, rfl, rfl⟩
  ·exact ⟨_, rfl, fun next hn => by rw [hh]; exact hn⟩
  ·refine ⟨c0 :: cs, by rw [← hu], fun next hn => by rw [hh]; exact hn⟩
 have hw1 : Region.wanted o1 (yielded #[o1, o2] ({ tmps := vs.toArray ++ Array.replicate (fn.ntmps - vs.toArray.size) undef, defers := [] } : Act).tmps) = true := wanted_free g1
 have hev : (({ tmps := vs.toArray ++ Array.replicate (fn.ntmps - vs.toArray.size) undef, defers := [] } : Act).put (some t7) v).eval (.tmp t7) = v := by
  simp [Act.eval, Act.put, hlt]
  intro hx
  simp at hlt
  omega
 generalize hQQ : Exit.thenS (Code.wpSIn (Fc none) 0 P rest (bodyPostS P fn c0 cs _)) (bodyPostS P fn c0 cs _) = QQ
 show wpOpsSIn _ _ _ _ QQ [0, 1] _ _ _
 simp only [wpOpsSIn, List.getElem?_toArray, List.getElem?_cons_zero, List.getElem?_cons_succ, hw1, if_true, r1, d1]
 refine ⟨fun _ _ => trivial, hrun (fun a cs => wpOpsSIn (Fc none) 0 P #[o1, o2] QQ [1] a cs w) ?_⟩
 simp only [wpOpsSIn, List.getElem?_toArray, List.getElem?_cons_zero, List.getElem?_cons_succ, wanted_free g2, if_true, r2, d2, hev]
 refine ⟨fun _ _ => trivial, ?_⟩
 rw [← hQQ]
 show Code.wpSIn _ _ _ _ _ _ _ _
 refine wpSIn_of_wpIn rfl ?_
 have hX : CtxOK D (⟨none, [], H0.length, true⟩ : Ctx C) { Base.here w E H0.length hm with nm := true } none := ⟨rfl, fun c ri hc => by simp [lkR] at hc, trivial, rfl⟩
 refine gx_sound (r := none) (Q := fun e a' w' => bodyPostS P fn c0 cs (fun e u2 w' => u2 = u' ∧ ∃ E', (∃ v, e = .returned v) ∧ Sat D w' E' (getC H1) ∧ Fr ⟨w, E, fun b => ∃ c, E.β c = .loc b, H0.length, hm, [], false⟩ E' w') e a' cs1 w') A hT hX (fun e a w' T Hp hΦ hRL => ?_) n _ _ _ h _ _ ⟨_, hR2⟩
 obtain ⟨he, θ, h3⟩ := hΦ
 obtain ⟨df, E1, hR1, _⟩ := hRL
 obtain ⟨g1, g2, g3⟩ := view_env hR1.sat hR1.fr h3
 have hdf : a.defers = [] := by
  obtain ⟨bs, e, _, _, hn⟩ := hR1.marks
  rw [hR1.defers, e, hn rfl]
  rfl
 have key : a.defers = [] ∧ ∃ u2, cs1 = { c0 with mode := u2 } :: cs ∧ ∃ v, (results fn a.tmps).run P w' = .ok v w' ∧ u2 = u' ∧ ∃ E', (∃ v', Ending.returned v = .returned v') ∧ Sat D w' E' (getC H1) ∧ Fr ⟨w, E, fun b => ∃ c, E.β c = .loc b, H0.length, hm, [], false⟩ E' w' := by
  refine ⟨hdf, u', hcs1, .tuple #[], ?_, rfl, _, ⟨_, rfl⟩, g2, g3.back⟩
  unfold results
  simp [hres]
 rcases he with rfl | rfl
 ·exact key
 ·exact key
theorem MeetsD.at {f : FuncId} {args0 args : List (SV C)} {H0 H0' H1 H1' : List (HS C)} {u u' : FrameMode} (hM : MeetsD P D f args0 H0 u u' H1) (ρ : List (Option Nat))
  (hargs : renL ρ args0 = some args) (hH0 : renHs ρ H0 = some H0') (hat : heapAt (getC Hp) ρ H0') (θ : List (Option Nat)) (hθ : θ = ρ ++ newIds (H1.length - H0.length) (hlen Hp)) (hnd : ndO θ = true) (hle : H0.length ≤ H1.length)
  (hH1 : renHs θ H1 = some H1') (hR : Rel D B E σ (getC Hp) df a w) {vs : List Value} (hd : DenA D w E args vs) :
  CallsDIn (Fc none) 0 P f vs.toArray u w fun e u2 w' => u2 = u' ∧ ∃ E1, (∃ v, e = .returned v) ∧ Rel D B E1 σ (upHs (getC Hp) (zipW θ H1')) df a w' := by
 refine (call_coreG (XX := fun w vs R => CallsDIn (Fc none) 0 P f vs.toArray u w fun e u2 w' => u2 = u' ∧ R e w') (Ω := fun e _ _ => ∃ v, e = .returned v) (fun _ _ _ _ hm h => h.mono fun e u2 w' h => ⟨h.1, hm _ _ h.2⟩)
  (fun w E hm vs hs hd => (hM.calls w E hm vs hs hd).mono fun e u2 w' ⟨h1, E', h2, h3, h4⟩ => ⟨h1, E', h2, h3, h4⟩) ρ hargs hH0 hat θ hθ (fun k _ => getC_ge Hp _ (by rw [← hlen_eq]; omega)) hnd hle hH1 B σ df a w E hR vs hd).mono ?_
 rintro e u2 w' ⟨h1, e1, E1, h2, _, _, h3⟩
 exact ⟨h1, E1, h2, h3⟩
end
end Go.SX

namespace Go.SX
open Go.Proofs
set_option maxHeartbeats 4000000
set_option maxRecDepth 100000
theorem zero84 : ∃ i, Tryz.prog.info? 84 = some i ∧ i.zero = some (.agg #[]) ∧ i.size = 0 := by
 have : (Tryz.prog.info? 84).map (fun i => (i.zero, i.size)) = some (some (.agg #[]), 0) := by kernel_rfl
 cases h : Tryz.prog.info? 84 with
 | none => rw [h] at this; cases this
 | some i =>
  rw [h] at this
  simp only [Option.map_some, Option.some.injEq, Prod.mk.injEq] at this
  exact ⟨i, rfl, this.1, this.2⟩
theorem uassertS (x : Operand) (e : Operand → Value) (o : Oper) (w : World) (ho : o.op = .typeAssert x 20 84 true) (hx : e x = .iface 84 (.agg #[])) : (execOp e o).run Tryz.prog w = .ok (.value (.tuple #[.agg #[], .bool true])) w := by
 simp only [execOp, ho, Instr.typeAssert, Sem.run_bind, run_underlying und84, Result.andThen_ok, hx]
 simp
theorem uallocS (e : Operand → Value) (o : Oper) (w : World) (ho : o.op = .alloc 84) : (execOp e o).run Tryz.prog w = .ok (.value (.pointer (some ⟨w.heap.size, 0, none⟩))) (w.alloc (.cells #[] 84)) := by
 obtain ⟨i, h1, h2, _⟩ := zero84
 simp [execOp, ho, Instr.alloc, zeroValue, typeInfo, h1, h2, newVar, newRow, Value.cells]
theorem ustoreS (x y : Operand) (e : Operand → Value) (o : Oper) (w : World) (ad : Addr) (ho : o.op = .store 84 x y) (hx : e x = .pointer (some ad)) (hy : e y = .agg #[]) : (execOp e o).run Tryz.prog w = .ok .skip w := by
 obtain ⟨i, h1, h2, h3⟩ := zero84
 simp [execOp, ho, hx, hy, Instr.storeAt, Instr.sureAddr, storeVar, storeCells, sizeOf, typeInfo, h1, h3, Value.cells]
/-- what the deferred call holds: the reader's place, the results -/
@[reducible] def capA : List (SV Cd) := [.ptr 4 0, .ptr 0 0, .ptr 1 0, .ptr 2 0]
@[reducible] def parH (o n e : List (SV Cd)) (ws : List Wd) (a m : Int) : List (HS Cd) := [.vart none o, .vart none n, .vart none e, .vart none [wsS ws, iS a, iS m], .vart none [.ptr 3 0]]
@[reducible] def ordC (o : Order) : List (SV Cd) := [iS o.id, iS o.owner, iS o.goal.kind, lS o.goal.rows, iS o.goal.from_, iS o.goal.to_, iS o.goal.low, iS o.goal.high, bS o.goal.clear, iS o.goal.days, iS o.goal.times, iS o.goal.within, lS o.goal.cents, .p (.dsl U.goal o.goal.kids), iS o.price, iS o.group, bS o.urgent, iS o.known, iS o.due]
@[reducible] def ordZ : List (SV Cd) := [iS 0, iS 0, iS 0, nilS, iS 0, iS 0, iS 0, iS 0, bS false, iS 0, iS 0, iS 0, nilS, nilS, iS 0, iS 0, bS false, iS 0, iS 0]
def chR : List PanicEntry := [{ v := .iface 84 (.agg #[]), recovered := true }]
theorem dret (o : Order) (n e : Int) (ws : List Wd) (a m : Int) : MeetsD Tryz.prog Dc 51 capA (parH (ordC o) [iS n] [iS e] ws a m) .returning .returning (parH (ordC o) [iS n] [iS e] ws a m) := by
 refine meetsD_of_gx Ax tab_ok (o1 := _) (o2 := _) (rest := _) (id := _) Tryz.func51 rfl rfl (t7 := 7) (t4 := 4) rfl rfl rfl rfl (by decide) (fun _ _ => rfl) (fun _ _ => rfl) (v := .nilIface) rfl (fun c0 cs h => .inr ⟨by simp [recoverD, h], rfl, rfl⟩) 200 ?_
 (repeat' ((conv => whnf); first | (exfalso; omega) | exact ⟨[some 0, some 1, some 2, some 3, some 4], ⟨hsW, rfl, rfl⟩⟩ | refine x0C ?_ | refine spC (fun hb => ?_) fun hb => ?_ | refine nilC (fun hb => ?_) ?_ | refine taC ?_ | refine saC ?_ | exact sdV | refine side_and ?_ ?_ | refine drawX_of mixed ?_))
theorem dpan (ws : List Wd) (a m : Int) : MeetsD Tryz.prog Dc 51 capA (parH ordZ [iS 0] [iS 0] ws a m) (.panicking chS) (.panicking chR) (parH ordZ [iS a] [iS 130] ws a m) := by
 refine meetsD_of_gx Ax tab_ok (o1 := _) (o2 := _) (rest := _) (id := _) Tryz.func51 rfl rfl (t7 := 7) (t4 := 4) rfl rfl rfl rfl (by decide) (fun _ _ => rfl) (fun _ _ => rfl) (v := .iface 84 (.agg #[])) rfl (fun c0 cs h => .inl (by simp [recoverD, h, chR])) 200 ?_
 (repeat' ((conv => whnf); first | (exfalso; omega) | refine uassert_in (uassertS _) rfl ?_ | refine ualloc_in uallocS ?_ | refine ustore_in (ustoreS _ _) rfl rfl rfl ?_ | exact ⟨[some 0, some 1, some 2, some 3, some 4], ⟨hsW, rfl, rfl⟩⟩ | refine x0C ?_ | refine spC (fun hb => ?_) fun hb => ?_ | refine nilC (fun hb => ?_) ?_ | refine taC ?_ | refine saC ?_ | exact sdV | refine side_and ?_ ?_ | refine drawX_of mixed ?_))
end Go.SX

namespace Go.SX
open Go.Proofs
open Go.RowKit
set_option maxHeartbeats 4000000
set_option maxRecDepth 100000
theorem splitW_mem : ∀ (s : Wd) (w : Wd), w ∈ splitW s → w.length ≤ s.length
 | [], w, h => by simp [splitW] at h; simp [h]
 | c :: s, w, h => by
  unfold splitW at h
  split at h
  ·rcases List.mem_cons.1 h with rfl | h
   ·simp
   ·have := splitW_mem s w h; simp; omega
  ·split at h
   ·simp at h; subst h; simp
   ·rename_i t l e
    rcases List.mem_cons.1 h with rfl | h
    ·have := splitW_mem s t (by rw [e]; simp); simp; omega
    ·have := splitW_mem s w (by rw [e]; simp [h]); simp; omega
theorem tokensW_ok {s : Wd} (h : s.length ≤ 20000) : WsOK (tokensW s) := by
 unfold tokensW
 split
 ·exact ⟨fun w h => by simp at h, by simp⟩
 ·exact ⟨fun w hw => by have := splitW_mem s w hw; omega, by have := splitW_len s; omega⟩
/-- codes one behind the other -/
def seqL : List Code → Code → Code
 | [], z => z
 | x :: l, z => .seq x (seqL l z)
theorem seqL_gx {P : Program} {D : Codec Cd} {B : Base} {Q : Exit → Act → World → Prop} {z : Code} : ∀ (l : List Code) (e : Exit) (a : Act) (w : World), postX none P D B (Exit.then (z.wpIn (Fc none) 0 P Q) Q) (l.map fun c => (It.code c : It Cd)) e a w → Exit.then ((seqL l z).wpIn (Fc none) 0 P Q) Q e a w
 | [], e, a, w, h => h
 | x :: l, e, a, w, h => by
  cases e with
  | normal =>
   refine wpIn_seq (wpIn_mono h ?_)
   exact seqL_gx l
  | exit i => exact seqL_gx l (.exit i) a w h
  | goto i => exact seqL_gx l (.goto i) a w h
  | ret => exact seqL_gx l .ret a w h
  | panic c => exact seqL_gx l (.panic c) a w h
  | outgrown => exact seqL_gx l .outgrown a w h
structure Ptrs (T : List (SV Cd)) : Prop where
 len : T.length = 22
 t2 : getT T 2 = .ptr 0 0
 t3 : getT T 3 = .ptr 1 0
 t4 : getT T 4 = .ptr 2 0
def midPost (ok : Prop) (ws : List Wd) (ret : SV Cd) (rs : List ResultVar) : Post Cd := fun e T Hp =>
 (e = .normal ∧ ok ∧ Ptrs T ∧ getT T 5 = .ptr 4 0 ∧ Hp = parH ordZ [iS 0] [iS 0] ws 0 11) ∨ (e = .ret ∧ EndPost Dc tab rs 0 ret [] e T Hp)
def endPost (ws : List Wd) (S : Rs Order) : Post Cd := fun e T Hp =>
 (∃ o n m, S = .ok o n m ∧ e = .ret ∧ Ptrs T ∧ Hp = parH (ordC o) [iS n] [iS 0] ws n m) ∨ (∃ n m, S = .no n m ∧ e = .panic chS ∧ Ptrs T ∧ Hp = parH ordZ [iS 0] [iS 0] ws n m)
def sq1 : Code → Code
 | .seq a _ => a
 | c => c
def sq2 : Code → Code
 | .seq _ b => b
 | c => c
def retP (s : Wd) : SV Cd := .tuple [ordA (parseS s).1, iS (parseS s).2.1, iS (parseS s).2.2]
theorem ktok (s : Wd) (hs : s.length ≤ 20000) : Meets Tryz.prog Dc 28 [wS s] [] (wsS (tokensW s)) [] := otokens s (by omega)
theorem par1 (s : Wd) (hs : s.length ≤ 140737488355328) : forceV ([wS s] ++ anys (22 - 1)) fun T0 => forceL ([] : List (HS Cd)) fun Hp0 =>
  gx Tryz.prog Ax tab ⟨none, [], 0, true⟩ (midPost (¬ 20000 < s.length) (tokensW s) (retP s) Tryz.f25.results.toList) 300 [.code (sq1 (Tryz.f25.body.getD .skip)), .code (sq1 (sq2 (Tryz.f25.body.getD .skip))), .code (sq1 (sq2 (sq2 (Tryz.f25.body.getD .skip))))] T0 Hp0 := by
 by_cases h : 20000 < s.length
 ·have e : parseS s = (zeroO, 0, 130) := by unfold parseS; rw [if_pos h]
  unfold retP
  rw [e]
  (repeat' ((conv => whnf); first | (exfalso; omega) | exact .inr ⟨rfl, end_fn [] (.inr rfl) (by exact vwV) (by exact hsW) rfl rfl⟩ | refine x0C ?_ | refine spC (fun hb => ?_) fun hb => ?_ | refine nilC (fun hb => ?_) ?_ | refine taC ?_ | refine saC ?_ | exact sdV | refine side_and ?_ ?_ | refine drawX_of mixed ?_))
 ·have ht := ktok s (by omega)
  clear hs
  generalize retP s = rr
  obtain ⟨ok, hok⟩ : ∃ ok : Prop, ok = (¬ 20000 < s.length) := ⟨_, rfl⟩
  rw [← hok]
  have h2 : ok := hok ▸ h
  clear hok
  generalize tokensW s = ws at *
  (repeat' ((conv => whnf); first | (exfalso; omega) | refine cpC (ht) ?_ | refine dpC (ht) ?_ | exact .inl ⟨rfl, h2, ⟨rfl, rfl, rfl, rfl⟩, rfl, rfl⟩ | refine x0C ?_ | refine spC (fun hb => ?_) fun hb => ?_ | refine nilC (fun hb => ?_) ?_ | refine taC ?_ | refine saC ?_ | exact sdV | refine side_and ?_ ?_ | refine drawX_of mixed ?_))
theorem par2 (ws : List Wd) (hn : WsOK ws) : forceV ([.any, .any, .ptr 0 0, .ptr 1 0, .ptr 2 0, .ptr 4 0] ++ anys 16) fun T0 => forceL (parH ordZ [iS 0] [iS 0] ws 0 11) fun Hp0 =>
  gx Tryz.prog Ax tab ⟨none, [], 5, true⟩ (endPost ws (orderP ws 0 11)) 300 [.code (sq2 (sq2 (sq2 (sq2 (Tryz.f25.body.getD .skip)))))] T0 Hp0 := by
 have hi : InW ws 0 11 := ⟨by omega, by omega, by omega, by omega⟩
 have hR := rorder hi hn
 cases e : orderP ws 0 11 with
 | ok o n m =>
  have hb := hR.bd
  rw [e] at hb
  have hi2 := hi.step hb
  have h1 := hi2.a1
  have h2 := hn.n
  have q := hR.ok _ _ _ e
  (repeat' ((conv => whnf); first | (exfalso; omega) | (refine callh [some 3] q rfl rfl ⟨rfl, trivial⟩ ?_) | exact .inl ⟨_, _, _, rfl, rfl, ⟨rfl, rfl, rfl, rfl⟩, rfl⟩ | refine x0C ?_ | refine spC (fun hb => ?_) fun hb => ?_ | refine nilC (fun hb => ?_) ?_ | refine taC ?_ | refine saC ?_ | exact sdV | refine side_and ?_ ?_ | refine drawX_of mixed ?_))
 | no n m =>
  have q := hR.no _ _ e
  (repeat' ((conv => whnf); first | (exfalso; omega) | (refine dieh [some 3] q rfl rfl ⟨rfl, trivial⟩ ?_) | exact .inr ⟨_, _, rfl, rfl, ⟨rfl, rfl, rfl, rfl⟩, rfl⟩ | refine x0C ?_ | refine spC (fun hb => ?_) fun hb => ?_ | refine nilC (fun hb => ?_) ?_ | refine taC ?_ | refine saC ?_ | exact sdV | refine side_and ?_ ?_ | refine drawX_of mixed ?_))
end Go.SX
