/-
  Walks: Ta7, Td7, Oq6, Oq7, Ud0, Ud1, Z2, Uf0, Ud2: what single functions of the program compute.
-/
import Derived.Test.YtijedffphgckmaaGreatDoorSxTa2
import Derived.Test.YtijedffphgckmaaGreatDoorSxUa1
import Derived.Test.YtijedffphgckmaaGreatDoorSxTd6
import Derived.Test.YtijedffphgckmaaGreatDoorSxUb9
import Derived.Test.YtijedffphgckmaaGreatDoorSxUa5
import Derived.LaidMore
import Derived.ChangeMaps5
import Derived.Lay
import Derived.SevenTiedAt
import Derived.Stop.Joined
import Derived.Test.YtijedffphgckmaaGreatDoorTie
import Derived.Test.YtijedffphgckmaaGreatDoorCards
set_option linter.unusedVariables false
set_option linter.unusedSimpArgs false
namespace Go.SX
open Go.Proofs
set_option maxHeartbeats 4000000
set_option maxRecDepth 100000
theorem bare_meets (g own : Goal) (a c : Bool) : Meets Tryz.prog Dc 49 [goalA g, goalA own, bS a, bS c] [] (bS (bareB g own a c)) [] := by
 refine meets_of_gx Ax tab_ok Tryz.func49 (c := _) rfl Tryz.call49 200 ?_
 (repeat' ((conv => whnf); first | refine x0C (eB ?_ rfl) | refine x0C ?_ | refine spC (fun hb => ?_) fun hb => ?_ | refine nilC (fun hb => ?_) ?_ | refine taC ?_ | refine saC ?_ | exact sdV | refine side_and ?_ ?_ | refine drawX_of mixed ?_))
 all_goals (first | (simp_all [bareB]; done) | (simp_all [bareB]; omega) | (simp_all [bareB]; grind))
theorem rgoals : ∀ (j : Nat), j ≤ 3 → ∀ (x : List A5), (∀ y ∈ x, A5OK y) → (x.length : Int) ≤ 9223372036854775807 → ∀ (at_ most : Int), 0 ≤ at_ → at_ + most ≤ 1000 → 1 ≤ most → most ≤ 9 →
    Meets Tryz.prog Dc 60 [a5S x, iS at_, iS (4 - j), iS most] [] (.tuple [goalA (goalsS j x at_ most).1, iS (goalsS j x at_ most).2.1, iS (goalsS j x at_ most).2.2]) []
  | 0, hj, x, hx, hxl, at_, most, h1, h2, h3, h4 => by
    rw [goalsS]
    exact rgoals1 x hx hxl (4 - ((0 : Nat) : Int)) at_ most (by omega) (by omega) (by omega) (.inl (by omega))
  | j + 1, hj, x, hx, hxl, at_, most, h1, h2, h3, h4 => by
    have hb := pickS_bd (c := (y5 x at_).a.tdiv 144) (n := 6) (by omega)
    by_cases hc : j + 1 = 0 ∨ most < 2 ∨ (x.length : Int) ≤ at_ + 1 ∨ (5 ≤ 1 + pickS ((y5 x at_).a.tdiv 144) 6 ∧ most < 3)
    · have hk : kindS (j + 1) x at_ most = 1 := by unfold kindS; rw [if_pos hc]
      rw [goalsS]
      dsimp only
      rw [hk, if_neg (by omega), if_neg (by omega), if_neg (by omega), if_neg (by omega)]
      exact rgoals1 x hx hxl (4 - ((j + 1 : Nat) : Int)) at_ most (by omega) (by omega) (by omega) (by omega)
    · have hk : kindS (j + 1) x at_ most = 1 + pickS ((y5 x at_).a.tdiv 144) 6 := by unfold kindS; rw [if_neg hc]
      have hlen : at_ + 1 < x.length := by omega
      have e1 : y5 x at_ = x.getD at_.toNat (Cd.dflt U.arr5) := y5_in h1 (by omega)
      have e2 : y5 x (at_ + 1) = x.getD (at_ + 1).toNat (Cd.dflt U.arr5) := y5_in (by omega) hlen
      rw [goalsS]
      dsimp only
      rw [hk]
      by_cases h0 : 1 + pickS ((y5 x at_).a.tdiv 144) 6 = 1
      · rw [h0, if_neg (by omega), if_neg (by omega), if_neg (by omega), if_neg (by omega)]
        exact rgoals1 x hx hxl (4 - ((j + 1 : Nat) : Int)) at_ most (by omega) (by omega) (by omega) (by omega)
      · rw [e1] at hb h0 hc ⊢
        rw [e2]
        by_cases h5 : 5 ≤ 1 + pickS ((x.getD at_.toNat (Cd.dflt U.arr5)).a.tdiv 144) 6
        · rw [if_neg (by omega), if_neg (by omega), if_neg (by omega), if_pos (by omega)]
          exact rgoals5 j x hx hxl (4 - ((j + 1 : Nat) : Int)) at_ most (by omega) (by omega) (by omega) hlen (goalsS j x) (fun a m q1 q2 q3 q4 => by
            have := rgoals j (by omega) x hx hxl a m q1 q2 q3 q4
            rw [show 4 - ((j + 1 : Nat) : Int) + 1 = 4 - (j : Int) by omega]
            exact this) (fun a m q1 _ _ => goals_ok j x a m (by omega) q1) (by omega)
        · rcases (show 1 + pickS ((x.getD at_.toNat (Cd.dflt U.arr5)).a.tdiv 144) 6 = 2 ∨ 1 + pickS ((x.getD at_.toNat (Cd.dflt U.arr5)).a.tdiv 144) 6 = 3 ∨ 1 + pickS ((x.getD at_.toNat (Cd.dflt U.arr5)).a.tdiv 144) 6 = 4 by omega) with e | e | e
          · have := rgoals2 x hx hxl (4 - ((j + 1 : Nat) : Int)) at_ most (by omega) (by omega) (by omega) (by omega) hlen 2 (by omega) e _ rfl
            rw [if_pos rfl, e] at this
            rw [if_pos e]
            exact this
          · have := rgoals2 x hx hxl (4 - ((j + 1 : Nat) : Int)) at_ most (by omega) (by omega) (by omega) (by omega) hlen 3 (by omega) e _ rfl
            rw [if_neg (by omega), if_pos rfl, e] at this
            rw [if_neg (by omega), if_pos e]
            exact this
          · have := rgoals2 x hx hxl (4 - ((j + 1 : Nat) : Int)) at_ most (by omega) (by omega) (by omega) (by omega) hlen 4 (by omega) e _ rfl
            rw [if_neg (by omega), if_neg (by omega), e] at this
            rw [if_neg (by omega), if_neg (by omega), if_pos e]
            exact this
theorem rGoal (x : List A5) (hx : ∀ y ∈ x, A5OK y) (hxl : (x.length : Int) ≤ 9223372036854775807) : Meets Tryz.prog Dc 32 [a5S x] [] (goalA (goalS x)) [] := by
 have h : Meets Tryz.prog Dc 60 [a5S x, iS 0, iS 1, iS 9] [] (.tuple [goalA (goalsS 3 x 0 9).1, iS (goalsS 3 x 0 9).2.1, iS (goalsS 3 x 0 9).2.2]) [] := rgoals 3 (by omega) x hx hxl 0 9 (by omega) (by omega) (by omega) (by omega)
 unfold goalS
 generalize goalsS 3 x 0 9 = q at h ⊢
 refine meets_of_gx Ax tab_ok Tryz.func32 (c := _) rfl Tryz.call32 100 ?_
 (repeat' ((conv => whnf); first | (exfalso; omega) | refine cpC (h) ?_ | refine dpC (h) ?_ | refine x0C ?_ | refine spC (fun hb => ?_) fun hb => ?_ | refine nilC (fun hb => ?_) ?_ | refine taC ?_ | refine saC ?_ | exact sdV | refine side_and ?_ ?_ | refine drawX_of mixed ?_))
 all_goals exact vwV
end Go.SX

/-
 Plain: how many goals a goal is, and how deep they lie; when two of them fit in one.
-/
namespace Go.SX
def maxI (a b : Int) : Int := if a ≤ b then b else a
mutual
def manyG : Goal → Int
 | ⟨_, _, _, _, _, _, _, _, _, _, _, kids⟩ => 1 + manyL kids
def manyL : List Goal → Int
 | [] => 0
 | k :: l => manyG k + manyL l
end
mutual
def deepG : Goal → Int
 | ⟨_, _, _, _, _, _, _, _, _, _, _, kids⟩ => deepL kids + 1
def deepL : List Goal → Int
 | [] => 0
 | k :: l => maxI (deepG k) (deepL l)
end
theorem manyG_eq (g : Goal) : manyG g = 1 + manyL g.kids := by cases g; rw [manyG]
theorem deepG_eq (g : Goal) : deepG g = deepL g.kids + 1 := by cases g; rw [deepG]
mutual
/-- every goal of it is of its kind -/
def allOK : Goal → Bool
 | ⟨kind, rows, from_, to_, low, high, clear, days, times, within, cents, kids⟩ => okB ⟨kind, rows, from_, to_, low, high, clear, days, times, within, cents, kids⟩ && allOKL kids
def allOKL : List Goal → Bool
 | [] => true
 | k :: l => allOK k && allOKL l
end
theorem allOK_eq (g : Goal) : allOK g = (okB g && allOKL g.kids) := by cases g; rw [allOK]
theorem maxI_le (a b c : Int) : maxI a b ≤ c ↔ a ≤ c ∧ b ≤ c := by unfold maxI; split <;> omega
mutual
theorem deepG_one : ∀ g : Goal, 1 ≤ deepG g
 | ⟨_, _, _, _, _, _, _, _, _, _, _, kids⟩ => by rw [deepG]; have := deepL_nn kids; omega
theorem deepL_nn : ∀ l : List Goal, 0 ≤ deepL l
 | [] => by simp [deepL]
 | k :: l => by rw [deepL]; have := deepL_nn l; unfold maxI; split <;> omega
end
mutual
theorem size_law : ∀ (g : Goal) (d : Int), sizeG g d = if allOK g = true ∧ d + deepG g ≤ 5 then some (manyG g) else none
  | ⟨kind, rows, from_, to_, low, high, clear, days, times, within, cents, kids⟩, d => by
    have hL := sizeL_law kids (d + 1)
    have hp := deepL_nn kids
    rw [sizeG, allOK, deepG, manyG, hL]
    cases hk : okB ⟨kind, rows, from_, to_, low, high, clear, days, times, within, cents, kids⟩ with
    | false => simp
    | true =>
      by_cases hd : 4 < d
      · rw [if_pos (by simp [hd]), if_neg (by simp; omega)]
      · rw [if_neg (by simp [hd])]
        by_cases hc : allOKL kids = true ∧ (kids = [] ∨ d + 1 + deepL kids ≤ 5)
        · rw [if_pos hc]
          simp only
          rw [if_pos ⟨by simp [hc.1], by
            rcases hc.2 with h | h
            · rw [h]; simp [deepL]; omega
            · omega⟩]
        · rw [if_neg hc]
          simp only
          rw [if_neg (fun h => hc ⟨by simpa using h.1, .inr (by omega)⟩)]
theorem sizeL_law : ∀ (l : List Goal) (d : Int), sizeL l d = if allOKL l = true ∧ (l = [] ∨ d + deepL l ≤ 5) then some (manyL l) else none
  | [], d => by simp [sizeL, allOKL, manyL]
  | k :: l, d => by
    have h1 := size_law k d
    have h2 := sizeL_law l d
    have hk := deepG_one k
    rw [sizeL, h1, allOKL, deepL, manyL, h2]
    by_cases ha : allOK k = true ∧ d + deepG k ≤ 5
    · rw [if_pos ha]
      simp only
      by_cases hb : allOKL l = true ∧ (l = [] ∨ d + deepL l ≤ 5)
      · rw [if_pos hb]
        simp only
        rw [if_pos ⟨by simp [ha.1, hb.1], .inr (by
          have : maxI (deepG k) (deepL l) ≤ 5 - d := (maxI_le _ _ _).2 ⟨by omega, by
            rcases hb.2 with h | h
            · rw [h]; simp [deepL]; omega
            · omega⟩
          omega)⟩]
      · rw [if_neg hb]
        simp only
        rw [if_neg (fun h => hb ⟨by have := h.1; simp at this; exact this.2, .inr (by
          have h3 := h.2
          simp at h3
          have : maxI (deepG k) (deepL l) ≤ 5 - d := by omega
          have := (maxI_le _ _ _).1 this
          omega)⟩)]
    · rw [if_neg ha]
      simp only
      rw [if_neg (fun h => ha ⟨by have := h.1; simp at this; exact this.1, by
        have h3 := h.2
        simp at h3
        have : maxI (deepG k) (deepL l) ≤ 5 - d := by omega
        have := (maxI_le _ _ _).1 this
        omega⟩)]
end
theorem valid_law (g : Goal) : validG g = true ↔ allOK g = true ∧ deepG g ≤ 4 ∧ manyG g ≤ 12 := by
 unfold validG
 rw [size_law]
 by_cases h : allOK g = true ∧ 1 + deepG g ≤ 5
 ·rw [if_pos h]
  simp only [decide_eq_true_eq]
  constructor
  ·intro h2; exact ⟨h.1, by omega, h2⟩
  ·intro h2; exact h2.2.2
 ·rw [if_neg h]
  simp only
  constructor
  ·intro h2; cases h2
  ·intro h2; exact absurd ⟨h2.1, by omega⟩ h
end Go.SX

/-
 Plain: the chapter's examples.
-/
namespace Go.SX
set_option maxRecDepth 100000
def seeEx : Goal := ⟨1, [0, 0, 0, 0, 0, 14, 0, 0, 0, 0, 0, 0, 0, 0, 0, 0, 0, 0, 0, 0, 0, 0, 0, 0], 100, 2000, 20, 90, true, 0, 0, 0, [], []⟩
def oEx : Order := ⟨3, 2, seeEx, 500, -1, false, 0, 9000⟩
def wantW : Wd := [111, 114, 100, 101, 114, 32, 51, 32, 98, 121, 32, 50, 32, 102, 111, 114, 32, 53, 48, 48, 32, 103, 114, 111, 117, 112, 32, 110, 111, 110, 101, 32, 112, 108, 97, 105, 110, 32, 107, 110, 111, 119, 110, 32, 48, 32, 100, 117, 101, 32, 57, 48, 48, 48, 32, 58, 32, 115, 101, 101, 32, 97, 116, 32, 53, 32, 49, 32, 51, 32, 102, 114, 111, 109, 32, 49, 48, 48, 32, 116, 111, 32, 50, 48, 48, 48, 32, 115, 117, 110, 32, 50, 48, 32, 116, 111, 32, 57, 48, 32, 99, 108, 101, 97, 114, 32, 46]
def bad1 : Wd := [111, 114, 100, 101, 114, 32, 51, 32, 98, 121, 32, 49, 54]
def bad2 : Wd := [111, 114, 100, 101, 114, 32, 51, 32, 98, 121, 32, 50, 32, 102, 111, 114, 32, 53, 48, 48, 32, 103, 114, 111, 117, 112, 32, 110, 111, 110, 101, 32, 112, 108, 97, 105, 110, 32, 107, 110, 111, 119, 110, 32, 57, 32, 100, 117, 101, 32, 57]
def bad3 : Wd := [111, 114, 100, 101, 114, 32, 51, 32, 98, 121, 32, 50]
theorem ex_print : printS oEx = (wantW, 0) := by kernel_rfl
theorem ex_parse : parseS wantW = (oEx, 29, 0) := by kernel_rfl
theorem ex_bad1 : parseS bad1 = (zeroO, 3, 130) := by kernel_rfl
theorem ex_bad2 : parseS bad2 = (zeroO, 12, 130) := by kernel_rfl
theorem ex_bad3 : parseS bad3 = (zeroO, 4, 130) := by kernel_rfl
theorem ex_tok : (tokensW wantW).length = 29 := by kernel_rfl
theorem ex_valid : validG seeEx = true := by kernel_rfl
theorem ex_ord : ordB oEx = true := by kernel_rfl
theorem ex_ord0 : ordB zeroO = false := by kernel_rfl
theorem ex_goal0 : validG (U.dflt .goal) = false := by kernel_rfl
theorem ex_same : sameO oEx oEx = true := by kernel_rfl
theorem ex_same0 : sameO oEx zeroO = false := by kernel_rfl
end Go.SX

namespace Go.SX
open Go.Proofs
set_option maxHeartbeats 4000000
set_option maxRecDepth 100000
theorem ints13 (a b : List Int) (ha : (a.length : Int) ≤ 9223372036854775807) (hb : (b.length : Int) ≤ 9223372036854775807) : Meets Tryz.prog Dc 50 [lS a, lS b] [] (bS (decide (a = b))) [] := by
 by_cases hlen : a.length = b.length
 rotate_left
 ·rw [decide_eq_false (fun e => hlen (by rw [e]))]
  refine meets_of_gx Ax tab_ok Tryz.func50 (c := _) rfl Tryz.call50 100 ?_
  (repeat' ((conv => whnf); first | refine x0C (eB ?_ rfl) | (exfalso; omega) | refine x0C ?_ | refine spC (fun hb => ?_) fun hb => ?_ | refine nilC (fun hb => ?_) ?_ | refine taC ?_ | refine saC ?_ | exact sdV | refine side_and ?_ ?_ | refine drawX_of mixed ?_))
  all_goals rfl
 ·refine meets_of_gx Ax tab_ok Tryz.func50 (c := _) rfl Tryz.call50 100 ?_
  (repeat' ((conv => whnf); first | (exfalso; omega) | refine x0C ?_ | refine spC (fun hb => ?_) fun hb => ?_ | refine nilC (fun hb => ?_) ?_ | refine taC ?_ | refine saC ?_ | exact sdV | refine side_and ?_ ?_ | refine drawX_of mixed ?_))
  refine loop_up (fun i : Nat => [(5, iS i)]) (fun _ => []) (fun i => i ≤ a.length ∧ a.take i = b.take i) (fun i => a.length - i) 0 ⟨Nat.zero_le _, by simp⟩ (by exact bkI) ?_
  rintro i ⟨hi, he⟩ K hK
  rcases Nat.lt_or_ge i a.length with hlt | hge
  ·have t1 := take_getD (d := Cd.dflt U.int) hlt
   have t2 := take_getD (d := Cd.dflt U.int) (show i < b.length by omega)
   have hs : a.getD (i : Int).toNat (Cd.dflt U.int) = b.getD (i : Int).toNat (Cd.dflt U.int) → a.take (i + 1) = b.take (i + 1) := fun h => by
    rw [t1, t2, he, show a.getD i (Cd.dflt U.int) = b.getD i (Cd.dflt U.int) from h]
   have hn : ¬ a.getD (i : Int).toNat (Cd.dflt U.int) = b.getD (i : Int).toNat (Cd.dflt U.int) → decide (a = b) = false := fun h => decide_eq_false fun e => h (by rw [e])
   (repeat' ((conv => whnf); first | refine x0C (eB ?_ rfl) | (exfalso; omega) | refine hK (i + 1) [] _ _ ⟨⟨by omega, hs (by assumption)⟩⟩ ⟨by omega⟩ (by exact bkI) | refine x0C ?_ | refine spC (fun hb => ?_) fun hb => ?_ | refine nilC (fun hb => ?_) ?_ | refine taC ?_ | refine saC ?_ | exact sdV | refine side_and ?_ ?_ | refine drawX_of mixed ?_))
   all_goals exact (hn (by assumption)).symm
  ·rw [List.take_of_length_le hge, List.take_of_length_le (by omega)] at he
   rw [decide_eq_true he]
   (repeat' ((conv => whnf); first | refine x0C (eB ?_ rfl) | (exfalso; omega) | refine x0C ?_ | refine spC (fun hb => ?_) fun hb => ?_ | refine nilC (fun hb => ?_) ?_ | refine taC ?_ | refine saC ?_ | exact sdV | refine side_and ?_ ?_ | refine drawX_of mixed ?_))
   all_goals rfl
theorem same13 : ∀ (n : Nat) (a b : Goal), SizeOf.sizeOf a ≤ n → GAll a → GAll b → Meets Tryz.prog Dc 24 [goalA a, goalA b] [] (bS (sameG a b)) []
 | 0, a, b, hn, _, _ => by cases a; simp at hn
 | n + 1, a, b, hn, hG, hH => by
  have hG' := (GAll_iff a).1 hG
  have hH' := (GAll_iff b).1 hH
  have hk : ∀ x ∈ a.kids, SizeOf.sizeOf x ≤ n := fun x hx => by
   have h1 := List.sizeOf_lt_of_mem hx
   have h2 : SizeOf.sizeOf a.kids < SizeOf.sizeOf a := by cases a; simp; omega
   omega
  have h1 := bare_meets a b true true
  have h2 := ints13 a.rows b.rows hG'.1.rows hH'.1.rows
  have h3 := ints13 a.cents b.cents hG'.1.cents hH'.1.cents
  have h4 : ∀ x ∈ a.kids, ∀ y ∈ b.kids, Meets Tryz.prog Dc 24 [goalA x, goalA y] [] (bS (sameG x y)) [] := fun x hx y hy => same13 n x y (hk x hx) (GAllL_mem hG'.2 hx) (GAllL_mem hH'.2 hy)
  have hal := hG'.1.kids
  have hbl := hH'.1.kids
  clear hG hH hG' hH' hk hn
  refine meets_of_gx Ax tab_ok Tryz.func24 (c := _) rfl Tryz.call24 300 ?_
  (repeat' ((conv => whnf); first | refine x0C (eB ?_ rfl) | (exfalso; omega) | refine cpC (h1) ?_ | refine dpC (h1) ?_ | refine cpC (h2) ?_ | refine dpC (h2) ?_ | refine cpC (h3) ?_ | refine dpC (h3) ?_ | refine x0C ?_ | refine spC (fun hb => ?_) fun hb => ?_ | refine nilC (fun hb => ?_) ?_ | refine taC ?_ | refine saC ?_ | exact sdV | refine side_and ?_ ?_ | refine drawX_of mixed ?_))
  case refine_1 => clear h1 h2 h3 h4; rw [sameG_eq]; simp [plainB, hb]
  case refine_2.refine_1 => clear h1 h2 h3 h4; rw [sameG_eq]; simp only [bareB, Bool.true_or, Bool.and_true] at hb; simp_all [plainB]
  case refine_2.refine_2.refine_1 => clear h1 h2 h3 h4; rw [sameG_eq]; simp [hb]
  case refine_2.refine_2.refine_2.refine_1 => clear h1 h2 h3 h4; rw [sameG_eq]; simp [hb]
  case refine_2.refine_2.refine_2.refine_2.refine_1 => clear h1 h2 h3 h4; rw [sameG_eq, sameL_len (by omega)]; simp
  clear h1 h2 h3
  rename_i e1 e2 e3 e4
  have hlen : a.kids.length = b.kids.length := by omega
  have hsp : sameG a b = sameL a.kids b.kids := by
   rw [sameG_eq]
   simp only [bareB, Bool.true_or, Bool.and_true] at e2
   simp_all [plainB]
  rw [hsp]
  clear hsp e1 e2 e3 e4 hb
  conv => whnf
  refine loop_up (fun i : Nat => [(5, iS i)]) (fun _ => []) (fun i => i ≤ a.kids.length ∧ ∀ j, j < i → sameG (a.kids.getD j (U.dflt .goal)) (b.kids.getD j (U.dflt .goal)) = true) (fun i => a.kids.length - i) 0 ⟨Nat.zero_le _, fun j hj => absurd hj (Nat.not_lt_zero _)⟩ (by exact bkI) ?_
  rintro i ⟨hi, he⟩ K hK
  rcases Nat.lt_or_ge i a.kids.length with hlt | hge
  ·have hm : a.kids.getD (i : Int).toNat (Cd.dflt U.goal) ∈ a.kids := List.mem_of_getElem? (getD_some (d := Cd.dflt U.goal) hlt)
   have hm2 : b.kids.getD (i : Int).toNat (Cd.dflt U.goal) ∈ b.kids := List.mem_of_getElem? (getD_some (d := Cd.dflt U.goal) (by omega))
   have hx := h4 _ hm _ hm2
   clear h4
   cases hs : sameG (a.kids.getD (i : Int).toNat (Cd.dflt U.goal)) (b.kids.getD (i : Int).toNat (Cd.dflt U.goal)) with
   | true =>
    rw [hs] at hx
    have he' : ∀ j, j < i + 1 → sameG (a.kids.getD j (U.dflt .goal)) (b.kids.getD j (U.dflt .goal)) = true := fun j hj => by
     rcases Nat.lt_or_ge j i with h1 | h1
     ·exact he j h1
     ·obtain rfl : j = i := by omega
      exact hs
    (repeat' ((conv => whnf); first | refine x0C (eB ?_ rfl) | (exfalso; omega) | refine cpC (hx) ?_ | refine dpC (hx) ?_ | refine hK (i + 1) [some 0, some 1] _ _ ⟨⟨by omega, he'⟩⟩ ⟨by omega⟩ (by exact bkI) | refine x0C ?_ | refine spC (fun hb => ?_) fun hb => ?_ | refine nilC (fun hb => ?_) ?_ | refine taC ?_ | refine saC ?_ | exact sdV | refine side_and ?_ ?_ | refine drawX_of mixed ?_))
   | false =>
    rw [hs] at hx
    rw [sameL_at (d := U.dflt .goal) hlen hlt hs]
    (repeat' ((conv => whnf); first | refine x0C (eB ?_ rfl) | (exfalso; omega) | refine cpC (hx) ?_ | refine dpC (hx) ?_ | refine x0C ?_ | refine spC (fun hb => ?_) fun hb => ?_ | refine nilC (fun hb => ?_) ?_ | refine taC ?_ | refine saC ?_ | exact sdV | refine side_and ?_ ?_ | refine drawX_of mixed ?_))
    all_goals rfl
  ·rw [sameL_all (d := U.dflt .goal) hlen fun j hj => he j (by omega)]
   (repeat' ((conv => whnf); first | refine x0C (eB ?_ rfl) | (exfalso; omega) | refine x0C ?_ | refine spC (fun hb => ?_) fun hb => ?_ | refine nilC (fun hb => ?_) ?_ | refine taC ?_ | refine saC ?_ | exact sdV | refine side_and ?_ ?_ | refine drawX_of mixed ?_))
   all_goals rfl
theorem rsameO (a b : Order) (hG : GAll a.goal) (hH : GAll b.goal) : Meets Tryz.prog Dc 21 [ordA a, ordA b] [] (bS (sameO a b)) [] := by
 have h := same13 _ a.goal b.goal (Nat.le_refl _) hG hH
 refine meets_of_gx Ax tab_ok Tryz.func21 (c := _) rfl Tryz.call21 300 ?_
 (repeat' ((conv => whnf); first | refine x0C (eB ?_ rfl) | (exfalso; omega) | refine cpC (h) ?_ | refine dpC (h) ?_ | refine x0C ?_ | refine spC (fun hb => ?_) fun hb => ?_ | refine nilC (fun hb => ?_) ?_ | refine taC ?_ | refine saC ?_ | exact sdV | refine side_and ?_ ?_ | refine drawX_of mixed ?_))
 all_goals clear h
 all_goals (first | (simp_all [sameO]; done) | (simp_all [sameO]; omega) | (simp_all [sameO]; grind))
/-! the law's own -/

theorem lsee : Meets Tryz.prog Dc 35 [] [] (goalA seeEx) [] := by
 refine meets_of_gx Ax tab_ok Tryz.func35 (c := _) rfl Tryz.call35 200 ?_
 (repeat' ((conv => whnf); first | (exfalso; omega) | (refine end_fn [] (.inr rfl) ?_ ?_ rfl rfl; (focus exact vwV); exact hsV) | refine x0C ?_ | refine spC (fun hb => ?_) fun hb => ?_ | refine nilC (fun hb => ?_) ?_ | refine taC ?_ | refine saC ?_ | exact sdV | refine side_and ?_ ?_ | refine drawX_of mixed ?_))
theorem cloneI (l : List Int) (hl : (l.length : Int) ≤ 1000000) : Meets Tryz.prog Dc 47 [lS l] [] (.slice 0 0 1 0 l.length) [.rows U.int l] := by
 refine meets_of_gx Ax tab_ok Tryz.func47 (c := _) rfl Tryz.call47 60 ?_
 (repeat' ((conv => whnf); first | (exfalso; omega) | (subst hb; (refine end_fn [none] (.inr rfl) ?_ ?_ rfl rfl; (focus exact vwV); exact hsV)) | (refine end_fn [some 1] (.inr rfl) ?_ ?_ rfl rfl; (focus exact vwV); exact hsV) | refine x0C ?_ | refine spC (fun hb => ?_) fun hb => ?_ | refine nilC (fun hb => ?_) ?_ | refine taC ?_ | refine saC ?_ | exact sdV | refine side_and ?_ ?_ | refine drawX_of mixed ?_))
theorem maxI_bd (a b : Int) : a ≤ maxI a b ∧ b ≤ maxI a b ∧ (maxI a b = a ∨ maxI a b = b) := by unfold maxI; split <;> omega
mutual
theorem manyG_pos : ∀ g : Goal, 1 ≤ manyG g
 | ⟨_, _, _, _, _, _, _, _, _, _, _, kids⟩ => by rw [manyG]; have := manyL_pos kids; omega
theorem manyL_pos : ∀ l : List Goal, 0 ≤ manyL l
 | [] => by simp [manyL]
 | k :: l => by rw [manyL]; have := manyG_pos k; have := manyL_pos l; omega
end
theorem manyL_mem : ∀ {l : List Goal} {k : Goal}, k ∈ l → manyG k ≤ manyL l
 | [], k, h => by simp at h
 | x :: l, k, h => by
  rw [manyL]
  have h1 := manyL_pos l
  have h2 := manyG_pos x
  rcases List.mem_cons.1 h with rfl | h
  ·omega
  ·have := manyL_mem h; omega
theorem deepL_mem : ∀ {l : List Goal} {k : Goal}, k ∈ l → deepG k ≤ deepL l
 | [], k, h => by simp at h
 | x :: l, k, h => by
  rw [deepL]
  have := maxI_bd (deepG x) (deepL l)
  rcases List.mem_cons.1 h with rfl | h
  ·omega
  ·have := deepL_mem h; omega
end Go.SX

/-
 SX, part Z2: one argument of a row at a time.
-/
namespace Go.SX
open Go.ChangeShapes Go.WideShapes Go.RowKit Go.Deep
variable {C : Cod} {D : Codec C} {H : Type} {enc : TypeId × Value → H} {P : Program} {W : World} {r : Reach} {b0 : Nat} {t : TypeId} {v : Value} {d : DataW H} {ps : List MemPlace}
/-- the environment at a call's beginning -/
def En (W : World) : Env := ⟨Old W, fun _ => .fresh⟩

theorem argSlice {e : TypeId} {u : C.U} {Ok : C.El u → Prop} (R : ReadsAs D enc P W e u Ok) (ht : P.underlying t = some (.slice e)) (ho : Value.okWide P W r b0 t v) (h : DataW.Trod enc P W 0 (fun _ => true) true t v d ps) :
  ∃ l : List (C.El u), Den D W (En W) (.p (.dsl u l)) v ∧ (∀ y ∈ l, Ok y) ∧ (l.length : Int) ≤ 9223372036854775807 := by
 obtain ⟨a, len, cap, rfl⟩ := okWide_slice ht ho
 obtain ⟨fuel, hf⟩ := h
 obtain ⟨v', l, hcs, hd, hok, hlen⟩ := readSlice R ht hf
 have e : v' = .slice a len cap := by simpa [Value.cells] using hcs.symm
 subst e
 have hm : maxLen = 9223372036854775807 := rfl
 exact ⟨l, by simp only [Den]; exact hd, hok, by omega⟩

theorem argA_cons {w : World} {E : Env} {x : SV C} {v : Value} {xs : List (SV C)} {vs : List Value} (hd : Den D w E x v) (h : DenA D w E xs vs) : DenA D w E (x :: xs) (v :: vs) := by
 simp only [DenA]; exact ⟨_, _, rfl, hd, h⟩
theorem argA_nil {w : World} {E : Env} : DenA D w E [] [] := by simp only [DenA]
end Go.SX

namespace Go.SX
open Go.Proofs Go.Proofs.YtijedffphgckmaaGreatDoor Go.ChangeShapes Go.WideShapes Go.ChangeAt Go.RowKit
set_option maxHeartbeats 4000000
set_option maxRecDepth 100000
theorem ownT : ownKnob Tryz.prog.godebug = none := by kernel_rfl
theorem laidT : laidOutB Tryz.prog = true := by kernel_rfl
abbrev laidL : List (String × DataW Unit) := [("math/bits.deBruijn32tab", Rows.laid_math_bits_deBruijn32tab), ("math/bits.deBruijn64tab", Rows.laid_math_bits_deBruijn64tab), ("internal/strconv.uint64pow10", Rows.laid_internal_strconv_uint64pow10), ("unicode/utf8.acceptRanges", Rows.laid_unicode_utf8_acceptRanges), ("strconv.ErrRange", Rows.laid_strconv_ErrRange), ("strconv.ErrSyntax", Rows.laid_strconv_ErrSyntax), ("unicode/utf8.first", Rows.laid_unicode_utf8_first)]
def intsOf (l : List Value) : List Int := l.map fun v => match v with | .int _ n => n | _ => 0
theorem globE1 : U.glob 1 = (intsOf (U.glob 1)).map (Value.int .u8) := by kernel_rfl
theorem globE3 : U.glob 3 = (intsOf (U.glob 3)).map (Value.int .u64) := by kernel_rfl
theorem laidE1 : (Rows.laid_math_bits_deBruijn64tab : DataW Unit) = .agg ((intsOf (U.glob 1)).map fun n => .lit (.int .u8 n)) := by kernel_rfl
theorem laidE3 : (Rows.laid_internal_strconv_uint64pow10 : DataW Unit) = .agg ((intsOf (U.glob 3)).map fun n => .lit (.int .u64 n)) := by kernel_rfl
theorem arr_cells {P : Program} {W : World} {t e : TypeId} {n : Nat} {k : IntKind} {cs : List Value} {fuel : Nat} {p : List MemPlace} {L : List Int} (ut : P.underlying t = some (.array n e)) (ue : P.underlying e = some (.int k)) (ce : P.cellsOf e = 1) (ct : P.cellsOf t = n) (hlen : L.length = n)
  (hd : DataW.trod (fun _ => ()) P W 0 (fun _ => true) false fuel t cs = some (.agg (L.map fun z => .lit (.int k z)), p)) : cs = L.map (Value.int k) := by
 obtain ⟨xs, m, _, ex, hcl, hl, hel⟩ := DataW.trod_array ut hd
 rw [ct] at hcl
 have e3 : (xs.map (·.1)) = L.map fun n => (.lit (.int k n) : DataW Unit) := (DataW.agg.inj (Prod.mk.inj ex).1).symm
 refine List.ext_getElem (by rw [hcl, List.length_map, hlen]) fun r h1 h2 => ?_
 have hr : r < n := by omega
 have hE := hel r hr
 rw [ce, Nat.mul_one, List.getElem?_eq_getElem (by omega)] at hE
 obtain ⟨z, e1, e2, _⟩ := DataW.trod_int ue hE
 have e4 : (xs.map (·.1))[r]? = (L.map fun n => (DataW.lit (.int k n) : DataW Unit))[r]? := by rw [e3]
 rw [List.getElem?_map, List.getElem?_map, List.getElem?_eq_getElem (by omega : r < xs.length), List.getElem?_eq_getElem (by omega : r < L.length), e2] at e4
 simp only [Option.map_some, Option.some.injEq, DataW.lit.injEq, Lit.int.injEq, true_and] at e4
 have e4 : z = L[r] := by first | exact e4 | exact e4.2
 have : cs[r]? = some (.int k z) := by
  have h0 : ((cs.drop r).take 1)[0]? = some (.int k z) := by rw [e1]; rfl
  simpa using h0
 rw [List.getElem?_eq_getElem h1] at this
 rw [Option.some.inj this, List.getElem_map]
 exact congrArg _ e4
theorem ifc_cells {P : Program} {W : World} {t : TypeId} {ms : Array (String × TypeId)} {cs : List Value} {fuel : Nat} {x : DataW Unit × List MemPlace} (ut : P.underlying t = some (.interface ms)) (hd : DataW.trod (fun _ => ()) P W 0 (fun _ => true) false fuel t cs = some x) : ∃ v, cs = [v] ∧ (v = .nilIface ∨ ∃ te pe, v = .iface te pe) := by
 cases fuel with
 | zero => simp [DataW.trod] at hd
 | succ n =>
  unfold DataW.trod at hd
  rw [ut] at hd
  split at hd <;> first | (rename_i h; cases h; done) | (exact ⟨_, rfl, .inl rfl⟩) | (exact ⟨_, rfl, .inr ⟨_, _, rfl⟩⟩) | (cases hd; done) | skip
  all_goals simp_all
theorem var_at_heap {P : Program} {W : World} {name : String} {g : Nat} {cs : Array Value} (hg : P.globalNamed name = some g) (hv : W.var? P name = some cs) : (∃ T z, W.heap[g]? = some (.cells cs T z)) ∧ g < W.heap.size := by
 unfold World.var? at hv
 rw [hg] at hv
 simp only [Option.bind_some] at hv
 split at hv
 ·rename_i c T z hh
  obtain rfl := Option.some.inj hv
  refine ⟨⟨T, z, hh⟩, ?_⟩
  rcases Nat.lt_or_ge g W.heap.size with h' | h'
  ·exact h'
  ·rw [Array.getElem?_eq_none h'] at hh; cases hh
 ·cases hv
theorem glob_ok {W : World} (h : laidMetH Tryz.prog laidL W) : GlobOK Cd W ⟨Old W, fun _ => .fresh⟩ := by
 rw [MakeChecks.laidMetH_plain _ _ _ (by kernel_rfl)] at h
 obtain ⟨ps, ⟨_, _, _, _, _, _, _, _, _, _, ⟨g1, t1, cs1, fu1, p1, q1, hg1, ht1, hv1, hd1, ⟨g3, t3, cs3, fu3, p3, q3, hg3, ht3, hv3, hd3, ⟨_, _, _, _, _, _, _, _, _, _, ⟨g5, t5, cs5, fu5, p5, q5, hg5, ht5, hv5, hd5, ⟨g4, t4, cs4, fu4, p4, q4, hg4, ht4, hv4, hd4, _, _⟩, _⟩, _⟩, _⟩, _⟩, _⟩, _, _⟩ := h
 obtain rfl := Option.some.inj ((show Tryz.prog.globalNamed "math/bits.deBruijn64tab" = some 1 by kernel_rfl).symm.trans hg1)
 obtain rfl := Option.some.inj ((show (Tryz.prog.globals[1]?).map (·.type) = some 170 by kernel_rfl).symm.trans ht1)
 obtain rfl := Option.some.inj ((show Tryz.prog.globalNamed "internal/strconv.uint64pow10" = some 3 by kernel_rfl).symm.trans hg3)
 obtain rfl := Option.some.inj ((show (Tryz.prog.globals[3]?).map (·.type) = some 180 by kernel_rfl).symm.trans ht3)
 obtain rfl := Option.some.inj ((show Tryz.prog.globalNamed "strconv.ErrRange" = some 5 by kernel_rfl).symm.trans hg5)
 obtain rfl := Option.some.inj ((show (Tryz.prog.globals[5]?).map (·.type) = some 107 by kernel_rfl).symm.trans ht5)
 obtain rfl := Option.some.inj ((show Tryz.prog.globalNamed "strconv.ErrSyntax" = some 4 by kernel_rfl).symm.trans hg4)
 obtain rfl := Option.some.inj ((show (Tryz.prog.globals[4]?).map (·.type) = some 107 by kernel_rfl).symm.trans ht4)
 rw [laidE1] at hd1
 rw [laidE3] at hd3
 have k1 := arr_cells (Tryz.underlying170) Tryz.underlying5 (by kernel_rfl) (by kernel_rfl) (by kernel_rfl) hd1
 have k3 := arr_cells (Tryz.underlying180) Tryz.underlying12 (by kernel_rfl) (by kernel_rfl) (by kernel_rfl) hd3
 obtain ⟨v5, e5, k5⟩ := ifc_cells Tryz.underlying107 hd5
 obtain ⟨v4, e4, k4⟩ := ifc_cells Tryz.underlying107 hd4
 obtain ⟨⟨T1, z1, a1⟩, b1⟩ := var_at_heap (by kernel_rfl) hv1
 obtain ⟨⟨T3, z3, a3⟩, b3⟩ := var_at_heap (by kernel_rfl) hv3
 obtain ⟨⟨T5, z5, a5⟩, b5⟩ := var_at_heap (by kernel_rfl) hv5
 obtain ⟨⟨T4, z4, a4⟩, b4⟩ := var_at_heap (by kernel_rfl) hv4
 refine ⟨fun g hgl => ?_, fun g hgl => ?_⟩
 ·match g, hgl with
  | 0, h => exact absurd rfl h
  | 1, _ =>
   refine ⟨b1, ⟨_, _, _, a1, k1.trans globE1.symm⟩, fun v hv => ?_⟩
   have hv3 : v ∈ U.glob 1 := hv
   rw [globE1] at hv3
   obtain ⟨n, _, rfl⟩ := List.mem_map.1 hv3
   rfl
  | 2, h => exact absurd rfl h
  | 3, _ =>
   refine ⟨b3, ⟨_, _, _, a3, k3.trans globE3.symm⟩, fun v hv => ?_⟩
   have hv3 : v ∈ U.glob 3 := hv
   rw [globE3] at hv3
   obtain ⟨n, _, rfl⟩ := List.mem_map.1 hv3
   rfl
  | g + 4, h => exact absurd rfl h
 ·have one : ∀ {cs : Array Value} {v : Value}, cs.toList = [v] → cs = #[v] := fun h => Array.toList_inj.1 h
  match g, hgl with
  | 0, h => cases h
  | 1, h => cases h
  | 2, h => cases h
  | 3, h => cases h
  | 4, _ => rw [one e4] at a4; exact ⟨b4, v4, _, _, a4, k4⟩
  | 5, _ => rw [one e5] at a5; exact ⟨b5, v5, _, _, a5, k5⟩
  | g + 6, h => cases h
variable {H : Type} {enc : TypeId × Value → H} {W : World}
theorem rarr5 : ReadsAs (C := Cd) Dc enc Tryz.prog W 121 U.arr5 A5OK := by
 refine ⟨by kernel_rfl, fun fuel cs x h => ?_⟩
 obtain ⟨zs, hlen, rfl, hz⟩ := trod_array_ints Tryz.underlying121 (by kernel_rfl) (by kernel_rfl) h
 match zs, hlen, hz with
 | [a, b, c, d, e], _, hz => exact ⟨⟨a, b, c, d, e⟩, pdenL_ints Dc W (Old W) [a, b, c, d, e], ⟨(hz a (by simp)).h, (hz b (by simp)).h, (hz c (by simp)).h, (hz d (by simp)).h, (hz e (by simp)).h⟩⟩
end Go.SX

namespace Go.SX
open Go.Proofs
set_option maxHeartbeats 4000000
set_option maxRecDepth 100000
@[reducible] def shF : SV Cd := .fn (.func 46) [] [.ptr 0 0, .ptr 1 0]
@[reducible] def gsS (l : List Goal) : SV Cd := .p (.dsl U.goal l)
theorem oshot1 (r : List Int) (f t lo hi : Int) (c : Bool) (dy tm wi : Int) (ce : List Int) (hr : (r.length : Int) ≤ 1000) : Meets Tryz.prog Dc 46 [goalA ⟨1, r, f, t, lo, hi, c, dy, tm, wi, ce, []⟩, .ptr 0 0, .ptr 1 0] [.vart none [nilS], .vart none [shF]] (.tuple []) [.vart none [.slice 2 0 12 0 1], .vart none [shF], .rows U.goal [⟨1, r, f, t, lo, hi, c, dy, tm, wi, ce, []⟩]] := by
 have hc := cloneI r (by omega)
 refine meets_of_gx Ax tab_ok Tryz.func46 (c := _) rfl Tryz.call46 300 ?_
 (repeat' ((conv => whnf); first | (exfalso; omega) | (refine callh [] hc rfl rfl trivial ?_) | refine x0C ?_ | refine spC (fun hb => ?_) fun hb => ?_ | refine nilC (fun hb => ?_) ?_ | refine taC ?_ | refine saC ?_ | exact sdV | refine side_and ?_ ?_))
 conv => whnf
 refine frz_draw [some 0, some 1, some 2, none] [(0, .any), (12, .any)] [(2, .vart none [iS 1, lS r, iS f, iS t, iS lo, iS hi, bS c, iS dy, iS tm, iS wi, lS ce, gsS []]), (3, .rows U.int [])] (by exact bkV) ?_
 conv => whnf
 refine drawX_of mixed ?_
 (repeat' ((conv => whnf); first | (exfalso; omega) | refine x0C ?_ | refine spC (fun hb => ?_) fun hb => ?_ | refine nilC (fun hb => ?_) ?_ | refine taC ?_ | refine saC ?_ | exact sdV | refine side_and ?_ ?_))
 conv => whnf
 refine loop_up (fun _ : Unit => [(24, iS 0)]) (fun _ => []) (fun _ => True) (fun _ => 0) () trivial (by exact bkW) ?_
 intro _ _ K hK
 (repeat' ((conv => whnf); first | (exfalso; omega) | (refine end_fn [some 0, some 1, some 5] (.inl rfl) ?_ ?_ rfl rfl; (focus exact vwV); exact hsW) | refine x0C ?_ | refine spC (fun hb => ?_) fun hb => ?_ | refine nilC (fun hb => ?_) ?_ | refine taC ?_ | refine saC ?_ | exact sdV | refine side_and ?_ ?_))
theorem oshots (r : List Int) (f t lo hi : Int) (c : Bool) (dy tm wi : Int) (ce : List Int) (hr : (r.length : Int) ≤ 1000) (hv : Meets Tryz.prog Dc 18 [goalA ⟨1, r, f, t, lo, hi, c, dy, tm, wi, ce, []⟩] [] (bS true) []) : Meets Tryz.prog Dc 22 [goalA ⟨1, r, f, t, lo, hi, c, dy, tm, wi, ce, []⟩] [] (gsS [⟨1, r, f, t, lo, hi, c, dy, tm, wi, ce, []⟩]) [] := by
 have h1 := oshot1 r f t lo hi c dy tm wi ce hr
 refine meets_of_gx Ax tab_ok Tryz.func22 (c := _) rfl Tryz.call22 300 ?_
 (repeat' ((conv => whnf); first | (exfalso; omega) | refine cpC (hv) ?_ | refine dpC (hv) ?_ | (refine callh [some 1, some 2] h1 rfl rfl ⟨rfl, rfl, trivial⟩ ?_) | (refine end_fn [] (.inr rfl) ?_ ?_ rfl rfl; (focus exact vwV); exact hsV) | refine x0C ?_ | refine spC (fun hb => ?_) fun hb => ?_ | refine nilC (fun hb => ?_) ?_ | refine taC ?_ | refine saC ?_ | exact sdV | refine side_and ?_ ?_ | refine drawX_of mixed ?_))
end Go.SX
