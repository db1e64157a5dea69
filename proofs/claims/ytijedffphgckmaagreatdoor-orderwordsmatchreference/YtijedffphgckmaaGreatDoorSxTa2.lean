/-
  Walks: Ta2, Ta3, Ta4, Ta5, Oq0, Oq1, V9, Ua0, Z: what single functions of the program compute.
-/
import Derived.Test.YtijedffphgckmaaGreatDoorSxV6
import Derived.Lib.ItoaNum
import Derived.Lib.AtoiAll
import Derived.Lib.Join
import Derived.ProofKit
import Derived.OpenShut
import Derived.ShutString
import Derived.ChangeOld
import Derived.Below
import Derived.Carry
import Derived.Deep.Slices
set_option linter.unusedVariables false
set_option linter.unusedSimpArgs false
namespace Go.SX
open Go.Proofs
set_option maxHeartbeats 4000000
set_option maxRecDepth 100000
theorem any_not {α : Type} (p : α → Bool) (l : List α) : (l.any fun x => !p x) = !l.all p := by
 induction l with
 | nil => rfl
 | cons a l ih => simp [ih]
theorem gvalid1 (r : Int) : Meets Tryz.prog Dc 113 [iS r] [] (bS (!rowOK r)) [] := by
 have h := gin r 0 281474976710655
 refine meets_of_gx Ax tab_ok Tryz.func113 (c := _) rfl Tryz.call113 60 ?_
 (repeat' ((conv => whnf); first | refine cpC (h) ?_ | refine dpC (h) ?_ | refine x0C (eB rfl rfl) | refine x0C ?_ | refine spC (fun hb => ?_) fun hb => ?_ | refine nilC (fun hb => ?_) ?_ | refine taC ?_ | refine saC ?_ | exact sdV | refine side_and ?_ ?_ | refine drawX_of mixed ?_))
theorem gvalid (rows : List Int) (hl : (rows.length : Int) ≤ 9223372036854775807) : Meets Tryz.prog Dc 91 [areaA rows] [] (bS (areaB rows)) [] := by
 have h := hasInt (f := 113) (.c0) rows hl fun x _ => gvalid1 x
 rw [any_not] at h
 refine meets_of_gx Ax tab_ok Tryz.func91 (c := _) rfl Tryz.call91 100 ?_
 (repeat' ((conv => whnf); first | (exfalso; omega) | refine cpC (h) ?_ | refine dpC (h) ?_ | refine x0C (eB ?_ rfl) | refine x0C ?_ | refine spC (fun hb => ?_) fun hb => ?_ | refine nilC (fun hb => ?_) ?_ | refine taC ?_ | refine saC ?_ | exact sdV | refine side_and ?_ ?_ | refine drawX_of mixed ?_))
 all_goals (first | (simp_all [areaB]; done) | (simp_all [areaB]; omega) | (simp_all [areaB]; grind))
theorem parts1 (n : Int) : Meets Tryz.prog Dc 94 [iS n] [] (bS (!inB n 0 1000000000)) [] := by
 have h := oin n 0 1000000000
 refine meets_of_gx Ax tab_ok Tryz.func94 (c := _) rfl Tryz.call94 60 ?_
 (repeat' ((conv => whnf); first | refine cpC (h) ?_ | refine dpC (h) ?_ | refine x0C (eB rfl rfl) | refine x0C ?_ | refine spC (fun hb => ?_) fun hb => ?_ | refine nilC (fun hb => ?_) ?_ | refine taC ?_ | refine saC ?_ | exact sdV | refine side_and ?_ ?_ | refine drawX_of mixed ?_))
@[reducible] def goalC (g : Goal) : List (PV Cd) := [.int .i64 g.kind, .dsl U.int g.rows, .int .i64 g.from_, .int .i64 g.to_, .int .i64 g.low, .int .i64 g.high, .bool g.clear, .int .i64 g.days, .int .i64 g.times, .int .i64 g.within, .dsl U.int g.cents, .dsl U.goal g.kids]
theorem parts2 (g k : Goal) : Meets Tryz.prog Dc 95 [goalA k, .dptr (goalC g) 0] [] (bS (decide (lastK g.kind < k.kind))) [] := by
 have h := last_meets g.kind
 refine meets_of_gx Ax tab_ok Tryz.func95 (c := _) rfl Tryz.call95 60 ?_
 (repeat' ((conv => whnf); first | refine cpC (h) ?_ | refine dpC (h) ?_ | refine x0C (eB rfl rfl) | refine x0C ?_ | refine spC (fun hb => ?_) fun hb => ?_ | refine nilC (fun hb => ?_) ?_ | refine taC ?_ | refine saC ?_ | exact sdV | refine side_and ?_ ?_ | refine drawX_of mixed ?_))
/-- what a value that came in says of its lists' lengths -/
structure GLen (g : Goal) : Prop where
 rows : (g.rows.length : Int) ≤ 9223372036854775807
 cents : (g.cents.length : Int) ≤ 9223372036854775807
 kids : (g.kids.length : Int) ≤ 9223372036854775807
theorem parts_meets (g : Goal) (hg : GLen g) : Meets Tryz.prog Dc 69 [goalA g] [] (bS (partsB g)) [] := by
 obtain ⟨hl1, hl2, hl3⟩ := hg
 have h1 := hasInt (f := 94) (.c0) g.cents hl2 fun x _ => parts1 x
 have h2 := hasGoal (f := 95) (.c1 _) g.kids hl3 fun x _ => parts2 g x
 have h3 := oin g.kids.length 2 4
 refine meets_of_gx Ax tab_ok Tryz.func69 (c := _) rfl Tryz.call69 400 ?_
 (repeat' ((conv => whnf); first | (exfalso; omega) | refine cpC (h1) ?_ | refine dpC (h1) ?_ | refine cpC (h3) ?_ | refine dpC (h3) ?_ | refine rdC (h2) ?_ | refine x0C (eB ?_ rfl) | refine x0C ?_ | refine spC (fun hb => ?_) fun hb => ?_ | refine nilC (fun hb => ?_) ?_ | refine taC ?_ | refine saC ?_ | exact sdV | refine side_and ?_ ?_ | refine drawX_of mixed ?_))
 all_goals clear h1 h2 h3
 all_goals (first | (simp_all [partsB, manyB, centsB]; done) | (simp_all [partsB, manyB, centsB]; omega) | (simp_all [partsB, manyB, centsB]; grind))
theorem area_len {rows : List Int} (h : areaB rows = true) : rows.length = 24 := by
 simp only [areaB, Bool.and_eq_true, decide_eq_true_eq] at h
 omega
theorem shr58 (n : Int) : 0 ≤ shrop .u64 (IntKind.u64.wrap n) 58 ∧ shrop .u64 (IntKind.u64.wrap n) 58 < 64 := by
 have h : 0 ≤ IntKind.u64.wrap n ∧ IntKind.u64.wrap n < 18446744073709551616 := by
  simp only [IntKind.wrap, IntKind.signed, IntKind.bits]
  simp
  omega
 generalize IntKind.u64.wrap n = m at *
 unfold shrop
 have e : (2 : Int) ^ (min (58 : Int).toNat IntKind.u64.bits) = 288230376151711744 := by decide
 rw [e, Int.fdiv_eq_ediv_of_nonneg _ (by omega)]
 omega
def tzL : List (PV Cd) := (U.glob 1).map pvOf
def tzI (n : Int) : Int := shrop .u64 (IntKind.u64.wrap (bitop .and .u64 n (IntKind.u64.wrap (0 - n)) * 285870213051353865)) 58
def tzN (n : Int) : Int := if n = 0 then 64 else intAt tzL (0 + (tzI n).toNat)
theorem tzN_range (n : Int) : 0 ≤ tzN n ∧ tzN n ≤ 64 := by
 unfold tzN
 split
 ·omega
 ·have h : ∀ i : Fin 64, 0 ≤ intAt tzL i ∧ intAt tzL i ≤ 63 := by decide
  have h1 := shr58 (bitop .and .u64 n (IntKind.u64.wrap (0 - n)) * 285870213051353865)
  have := h ⟨0 + (tzI n).toNat, by unfold tzI; omega⟩
  simp only at this
  omega
theorem tz64 (n : Int) : Meets Tryz.prog Dc 110 [.p (.int .u64 n)] [] (iS (tzN n)) [] := by
 have h1 := shr58 (bitop .and .u64 n (IntKind.u64.wrap (0 - n)) * 285870213051353865)
 have h2 := tzN_range n
 have h3 : n ≠ 0 → tzN n = intAt tzL (0 + (tzI n).toNat) := fun h => by unfold tzN; rw [if_neg h]
 have hr : ¬ n = 0 → InR .i64 (intAt tzL (0 + (tzI n).toNat)) := fun h => by rw [← h3 h]; exact inR_i64 (by omega) (by omega)
 have h4 : n = 0 → tzN n = 64 := fun h => by unfold tzN; rw [if_pos h]
 refine meets_of_gx Ax tab_ok Tryz.func110 (c := _) rfl Tryz.call110 60 ?_
 (repeat' ((conv => whnf); first | (exfalso; omega) | refine side_and ⟨hr (by assumption)⟩ ?_ | refine x0C (eI ?_ rfl) | refine x0C ?_ | refine spC (fun hb => ?_) fun hb => ?_ | refine nilC (fun hb => ?_) ?_ | refine taC ?_ | refine saC ?_ | exact sdV | refine side_and ?_ ?_ | refine drawX_of mixed ?_))
 ·exact (h4 (by assumption)).symm
 ·exact (h3 (by assumption)).symm
theorem tz (n : Int) : Meets Tryz.prog Dc 88 [.p (.int .u64 n)] [] (iS (tzN n)) [] := by
 have h := tz64 n
 have h2 := tzN_range n
 refine meets_of_gx Ax tab_ok Tryz.func88 (c := _) rfl Tryz.call88 60 ?_
 (repeat' ((conv => whnf); first | (exfalso; omega) | refine cpC (h) ?_ | refine dpC (h) ?_ | refine x0C (eI rfl rfl) | refine x0C ?_ | refine spC (fun hb => ?_) fun hb => ?_ | refine nilC (fun hb => ?_) ?_ | refine taC ?_ | refine saC ?_ | exact sdV | refine side_and ?_ ?_ | refine drawX_of mixed ?_))
def cntR : Nat → Int → Int
 | 0, _ => 0
 | f + 1, r => if r = 0 then 0 else 1 + cntR f (bitop .and .i64 r (r - 1))
def cntRow (r : Int) : Int := cntR r.toNat r
theorem low_bit {r : Int} (h0 : 0 < r) (h1 : r ≤ 281474976710655) : 0 ≤ bitop .and .i64 r (r - 1) ∧ bitop .and .i64 r (r - 1) < r := by
 obtain ⟨m, rfl⟩ : ∃ m : Nat, r = m := ⟨r.toNat, by omega⟩
 have e : (BitVec.ofInt 64 (m : Int) &&& BitVec.ofInt 64 ((m : Int) - 1)).toNat = m &&& (m - 1) := by
  rw [BitVec.toNat_and]
  have a : (BitVec.ofInt 64 (m : Int)).toNat = m := by simp; omega
  have b : (BitVec.ofInt 64 ((m : Int) - 1)).toNat = m - 1 := by
   rw [show (m : Int) - 1 = ((m - 1 : Nat) : Int) by omega]
   simp; omega
  rw [a, b]
 have hle : m &&& (m - 1) ≤ m - 1 := Nat.and_le_right
 have hw : bitop .and .i64 (m : Int) ((m : Int) - 1) = ((m &&& (m - 1) : Nat) : Int) := by
  show IntKind.i64.wrap (((BitVec.ofInt 64 (m : Int) &&& BitVec.ofInt 64 ((m : Int) - 1)).toNat : Nat) : Int) = _
  rw [e]
  exact inR_i64 (by omega) (by omega)
 rw [hw]
 omega
theorem cntR_stable : ∀ (f f' : Nat) (r : Int), 0 ≤ r → r ≤ 281474976710655 → r.toNat ≤ f → r.toNat ≤ f' → cntR f r = cntR f' r
 | 0, 0, r, _, _, _, _ => rfl
 | 0, f' + 1, r, h0, h1, h2, h3 => by
  have : r = 0 := by omega
  subst this; simp [cntR]
 | f + 1, 0, r, h0, h1, h2, h3 => by
  have : r = 0 := by omega
  subst this; simp [cntR]
 | f + 1, f' + 1, r, h0, h1, h2, h3 => by
  simp only [cntR]
  split
  ·rfl
  ·have := low_bit (r := r) (by omega) h1
   rw [cntR_stable f f' _ (by omega) (by omega) (by omega) (by omega)]
theorem cntRow_zero : cntRow 0 = 0 := rfl
theorem cntRow_step {r : Int} (h0 : 0 < r) (h1 : r ≤ 281474976710655) : cntRow r = 1 + cntRow (bitop .and .i64 r (r - 1)) := by
 have := low_bit h0 h1
 unfold cntRow
 rw [show r.toNat = (r.toNat - 1) + 1 by omega]
 simp only [cntR]
 rw [if_neg (by omega), cntR_stable _ (bitop .and .i64 r (r - 1)).toNat _ (by omega) (by omega) (by omega) (by omega)]
theorem cntR_range : ∀ (f : Nat) (r : Int), 0 ≤ cntR f r ∧ cntR f r ≤ f
 | 0, r => by simp [cntR]
 | f + 1, r => by
  simp only [cntR]
  have := cntR_range f (bitop .and .i64 r (r - 1))
  split <;> omega
def cntA (rows : List Int) : Int := rows.foldl (fun n r => n + cntRow r) 0
theorem cntA_snoc (l : List Int) (r : Int) : cntA (l ++ [r]) = cntA l + cntRow r := by simp [cntA]
theorem cntA_take {rows : List Int} {i : Nat} {r : Int} (h : rows[i]? = some r) : cntA (rows.take (i + 1)) = cntA (rows.take i) + cntRow r := by
 rw [List.take_add_one, h]; exact cntA_snoc _ _
theorem cntA_range {rows : List Int} (h : areaB rows = true) : ∀ i : Nat, i ≤ 24 → 0 ≤ cntA (rows.take i) ∧ cntA (rows.take i) ≤ i * 281474976710655
 | 0, _ => by simp [cntA]
 | i + 1, hi => by
  have ih := cntA_range h i (by omega)
  have hlen := area_len h
  have hg := getD_some (d := (0 : Int)) (show i < rows.length by omega)
  simp only [areaB, Bool.and_eq_true] at h
  have hr := List.all_eq_true.1 h.2 _ (List.mem_of_getElem? hg)
  rw [cntA_take hg]
  generalize rows.getD (i : Int).toNat (0 : Int) = r at *
  have h2 := (inB_iff _ _ _).1 hr
  have h3 := cntR_range r.toNat r
  unfold cntRow
  omega
theorem count_meets (rows : List Int) (hl : (rows.length : Int) ≤ 9223372036854775807) : Meets Tryz.prog Dc 92 [areaA rows] [] (iS (if areaB rows then cntA rows else 0)) [] := by
 have h := gvalid rows hl
 cases ha : areaB rows with
 | false =>
  rw [ha] at h
  refine meets_of_gx Ax tab_ok Tryz.func92 (c := _) rfl Tryz.call92 200 ?_
  (repeat' ((conv => whnf); first | (exfalso; omega) | refine cpC (h) ?_ | refine dpC (h) ?_ | refine x0C (eI rfl rfl) | refine x0C ?_ | refine spC (fun hb => ?_) fun hb => ?_ | refine nilC (fun hb => ?_) ?_ | refine taC ?_ | refine saC ?_ | exact sdV | refine side_and ?_ ?_ | refine drawX_of mixed ?_))
 | true =>
  rw [ha] at h
  have hlen := area_len ha
  refine meets_of_gx Ax tab_ok Tryz.func92 (c := _) rfl Tryz.call92 200 ?_
  (repeat' ((conv => whnf); first | (exfalso; omega) | refine cpC (h) ?_ | refine dpC (h) ?_ | (refine call_in Ax tab_ok Tryz.func115 (c := _) rfl Tryz.call115 60 ?_) | (refine range_in Ax tab_ok rfl Tryz.func135 (c := _) rfl Tryz.call135 rfl rfl 300 ?_) | refine x0C ?_ | refine spC (fun hb => ?_) fun hb => ?_ | refine nilC (fun hb => ?_) ?_ | refine taC ?_ | refine saC ?_ | exact sdV | refine side_and ?_ ?_ | refine drawX_of mixed ?_))
  intro gn tmps bd
  (repeat' ((conv => whnf); first | (exfalso; omega) | refine x0C ?_ | refine spC (fun hb => ?_) fun hb => ?_ | refine nilC (fun hb => ?_) ?_ | refine taC ?_ | refine saC ?_ | exact sdV | refine side_and ?_ ?_ | refine drawX_of mixed ?_))
  refine loop_up (fun i : Nat => [(9, iS i)]) (fun i => [(1, .var [iS (cntA (rows.take i))])]) (fun i => i ≤ 24) (fun i => 24 - i) 0 (Nat.zero_le _) (by exact bkV) ?_
  intro i hi K hK
  rcases Nat.lt_or_ge i 24 with hlt | hge
  ·have hg := getD_some (d := Cd.dflt U.int) (show i < rows.length by omega)
   have h1 := cntA_take hg
   have h2 := cntA_range ha (i + 1) (by omega)
   have h5 := cntA_range ha i (by omega)
   have hr : rowOK (rows.getD (i : Int).toNat (Cd.dflt U.int)) = true := by
    have h' := ha
    simp only [areaB, Bool.and_eq_true] at h'
    exact List.all_eq_true.1 h'.2 _ (List.mem_of_getElem? hg)
   have h3 := (inB_iff _ _ _).1 hr
   (repeat' ((conv => whnf); first | (exfalso; omega) | refine x0C ?_ | refine spC (fun hb => ?_) fun hb => ?_ | refine nilC (fun hb => ?_) ?_ | refine taC ?_ | refine saC ?_ | exact sdV | refine side_and ?_ ?_ | refine drawX_of mixed ?_))
   refine loop_up (fun r : Int => [(4, iS r)]) (fun r => [(1, .var [iS (cntA (rows.take (i + 1)) - cntRow r)])]) (fun r => 0 ≤ r ∧ r ≤ 281474976710655 ∧ 0 ≤ cntA (rows.take (i + 1)) - cntRow r) (fun r => r.toNat) (rows.getD (i : Int).toNat (Cd.dflt U.int)) ⟨h3.1, h3.2, by rw [h1]; omega⟩ (by (rw [h1, Int.add_sub_cancel]; exact bkV)) ?_
   intro r hr K' hK'
   obtain ⟨hr1, hr2, hr4⟩ := hr
   have hz := tz (IntKind.u64.wrap r)
   have hz2 := tzN_range (IntKind.u64.wrap r)
   by_cases hr0 : r = 0
   ·subst hr0
    rw [show cntA (rows.take (i + 1)) - cntRow 0 = cntA (rows.take (i + 1)) by rw [cntRow_zero]; omega]
    (repeat' ((conv => whnf); first | (exfalso; omega) | refine hK (i + 1) [some 0, some 1, some 2, some 3] _ _ ⟨by omega⟩ ⟨by omega⟩ (by exact bkV) | refine x0C ?_ | refine spC (fun hb => ?_) fun hb => ?_ | refine nilC (fun hb => ?_) ?_ | refine taC ?_ | refine saC ?_ | exact sdV | refine side_and ?_ ?_ | refine drawX_of mixed ?_))
   ·have hs := cntRow_step (r := r) (by omega) hr2
    have hl := low_bit (r := r) (by omega) hr2
    have h4 := (cntR_range (bitop .and .i64 r (r - 1)).toNat (bitop .and .i64 r (r - 1))).1
    change 0 ≤ cntRow _ at h4
    rw [hs] at hr4 ⊢
    (repeat' ((conv => whnf); first | (exfalso; omega) | refine cpC (hz) ?_ | refine dpC (hz) ?_ | (refine yield_in Ax tab_ok rfl rfl rfl 200 200 ?_) | refine x0C ?_ | refine spC (fun hb => ?_) fun hb => ?_ | refine nilC (fun hb => ?_) ?_ | refine taC ?_ | refine saC ?_ | exact sdV | refine side_and ?_ ?_ | refine drawX_of mixed ?_))
    conv => whnf
    refine hK' (bitop .and .i64 r (r - 1)) [some 0, some 1, some 2, some 3] _ _ ⟨by omega⟩ ⟨by omega⟩ (by (dsimp only; rw [show cntA (rows.take (i + 1)) - cntRow (bitop .and .i64 r (r - 1)) = cntA (rows.take (i + 1)) - (1 + cntRow (bitop .and .i64 r (r - 1))) + 1 by omega]; exact bkV))
  ·rw [show rows.take i = rows by exact List.take_of_length_le (by omega)]
   (repeat' ((conv => whnf); first | (exfalso; omega) | refine x0C (eI rfl rfl) | refine x0C ?_ | refine spC (fun hb => ?_) fun hb => ?_ | refine nilC (fun hb => ?_) ?_ | refine taC ?_ | refine saC ?_ | exact sdV | refine side_and ?_ ?_ | refine drawX_of mixed ?_))
theorem cntRow_pos {r : Int} (h : rowOK r = true) : 0 ≤ cntRow r ∧ (0 < cntRow r ↔ r ≠ 0) := by
 have h1 := (inB_iff _ _ _).1 h
 have h2 := (cntR_range r.toNat r).1
 change 0 ≤ cntRow r at h2
 refine ⟨h2, ?_⟩
 by_cases h0 : r = 0
 ·subst h0; simp [cntRow_zero]
 ·have h3 := cntRow_step (r := r) (by omega) h1.2
  have h4 := (cntR_range (bitop .and .i64 r (r - 1)).toNat (bitop .and .i64 r (r - 1))).1
  change 0 ≤ cntRow _ at h4
  omega
theorem cntA_cons (l : List Int) (r : Int) : cntA (r :: l) = cntRow r + cntA l := by
 have key : ∀ (l : List Int) (a : Int), l.foldl (fun n r => n + cntRow r) a = a + l.foldl (fun n r => n + cntRow r) 0 := by
  intro l
  induction l with
  | nil => intro a; simp
  | cons x l ih => intro a; simp only [List.foldl_cons]; rw [ih, ih (0 + cntRow x)]; omega
 unfold cntA
 rw [List.foldl_cons, key]; omega
theorem cntA_pos : ∀ (l : List Int), l.all rowOK = true → 0 ≤ cntA l ∧ decide (0 < cntA l) = l.any (fun r => decide (r ≠ 0))
 | [], _ => by simp [cntA]
 | r :: l, h => by
  simp only [List.all_cons, Bool.and_eq_true] at h
  obtain ⟨h1, h2⟩ := cntA_pos l h.2
  obtain ⟨h3, h4⟩ := cntRow_pos h.1
  rw [cntA_cons, List.any_cons, ← h2]
  refine ⟨by omega, ?_⟩
  rw [Bool.eq_iff_iff]
  simp only [Bool.or_eq_true, decide_eq_true_eq]
  omega
theorem area_pos (rows : List Int) : (areaB rows && decide (0 < (if areaB rows then cntA rows else 0))) = (areaB rows && rows.any (fun r => decide (r ≠ 0))) := by
 cases h : areaB rows with
 | false => rfl
 | true =>
  have h' := h
  simp only [areaB, Bool.and_eq_true] at h'
  simp [(cntA_pos rows h'.2).2]
theorem limits_meets (g : Goal) (hg : GLen g) : Meets Tryz.prog Dc 68 [goalA g] [] (bS (limB g)) [] := by
 have ha := area_pos g.rows
 have h0 := gvalid g.rows hg.rows
 have h1 := count_meets g.rows hg.rows
 have h2 := oin g.from_ 0 1000000
 have h3 := oin g.to_ (g.from_ + 1) 1000000
 have h4 := oin g.low 0 90
 have h5 := oin g.high g.low 90
 have h6 := oin g.low 1 8
 have h7 := oin g.within 1 1000000
 have h8 := oin g.days 1 60
 have h9 := oin g.times 1 6
 have ha1 := oin g.within 0 (1440 * g.days)
 have ha2 := oin g.within 0 1000000
 have i1 := fun h => (inB_iff g.from_ 0 1000000).1 h
 have i2 := fun h => (inB_iff g.days 1 60).1 h
 unfold limB
 generalize (if areaB g.rows then cntA g.rows else 0) = n at *
 generalize areaB g.rows = ar at *
 generalize (g.rows.any fun r => decide (r ≠ 0)) = nz at *
 refine meets_of_gx Ax tab_ok Tryz.func68 (c := _) rfl Tryz.call68 300 ?_
 (repeat' ((conv => whnf); first | refine x0C (eB ?_ rfl) | (exfalso; omega) | (have := i1 (by assumption); refine saC ?_) | (have := i2 (by assumption); refine saC ?_) | refine cpC (h0) ?_ | refine dpC (h0) ?_ | refine cpC (h1) ?_ | refine dpC (h1) ?_ | refine cpC (h2) ?_ | refine dpC (h2) ?_ | refine cpC (h3) ?_ | refine dpC (h3) ?_ | refine cpC (h4) ?_ | refine dpC (h4) ?_ | refine cpC (h5) ?_ | refine dpC (h5) ?_ | refine cpC (h6) ?_ | refine dpC (h6) ?_ | refine cpC (h7) ?_ | refine dpC (h7) ?_ | refine cpC (h8) ?_ | refine dpC (h8) ?_ | refine cpC (h9) ?_ | refine dpC (h9) ?_ | refine cpC (ha1) ?_ | refine dpC (ha1) ?_ | refine cpC (ha2) ?_ | refine dpC (ha2) ?_ | refine x0C ?_ | refine spC (fun hb => ?_) fun hb => ?_ | refine nilC (fun hb => ?_) ?_ | refine taC ?_ | refine saC ?_ | exact sdV | refine side_and ?_ ?_ | refine drawX_of mixed ?_))
 all_goals clear h0 h1 h2 h3 h4 h5 h6 h7 h8 h9 ha1 ha2
 all_goals (first | (simp_all []; done) | (simp_all []; omega) | (simp_all []; grind))
theorem okB_kind {g : Goal} (h : okB g = true) : g.kids.length ≤ 4 := by
 simp only [okB, Bool.and_eq_true, partsB, manyB] at h
 obtain ⟨_, ⟨⟨hm, _⟩, _⟩, _⟩ := h
 split at hm
 ·simp at hm; simp [hm]
 ·split at hm
  ·have := (inB_iff _ _ _).1 hm; omega
  ·simp at hm; omega
mutual
/-- every goal's lists are short enough -/
def GAll : Goal → Prop
 | ⟨kind, rows, from_, to_, low, high, clear, days, times, within, cents, kids⟩ => GLen ⟨kind, rows, from_, to_, low, high, clear, days, times, within, cents, kids⟩ ∧ GAllL kids
def GAllL : List Goal → Prop
 | [] => True
 | k :: l => GAll k ∧ GAllL l
end
theorem GAll_iff (g : Goal) : GAll g ↔ GLen g ∧ GAllL g.kids := by cases g; rw [GAll]
theorem GAllL_mem : ∀ {l : List Goal} {k : Goal}, GAllL l → k ∈ l → GAll k
 | x :: l, k, h, hk => by
  rw [GAllL] at h
  rcases List.mem_cons.1 hk with rfl | hk
  ·exact h.1
  ·exact GAllL_mem h.2 hk
theorem sizeL_snoc : ∀ (l : List Goal) (k : Goal) (d : Int), sizeL (l ++ [k]) d = match sizeL l d with | none => none | some m => match sizeG k d with | none => none | some n => some (m + n)
 | [], k, d => by
  simp only [List.nil_append, sizeL]
  cases sizeG k d <;> simp
 | x :: l, k, d => by
  simp only [List.cons_append, sizeL, sizeL_snoc l k d]
  cases sizeG x d with
  | none => rfl
  | some a =>
   simp only
   cases sizeL l d with
   | none => rfl
   | some b =>
    simp only
    cases sizeG k d with
    | none => rfl
    | some c => simp only [Option.some.injEq]; omega
theorem sizeL_bound {B : Int} (hB : 0 ≤ B) : ∀ (l : List Goal) (d : Int) (m : Int), (∀ k ∈ l, ∀ n, sizeG k d = some n → 0 ≤ n ∧ n ≤ B) → sizeL l d = some m → 0 ≤ m ∧ m ≤ l.length * B
 | [], d, m, h, e => by simp [sizeL] at e; subst e; simp
 | k :: l, d, m, h, e => by
  rw [sizeL] at e
  cases hk : sizeG k d with
  | none => simp [hk] at e
  | some a =>
   cases hl : sizeL l d with
   | none => simp [hk, hl] at e
   | some b =>
    simp [hk, hl] at e
    have h1 := h k (List.mem_cons_self ..) a hk
    have h2 := sizeL_bound hB l d b (fun x hx => h x (List.mem_cons_of_mem _ hx)) hl
    have : (((k :: l).length : Nat) : Int) * B = l.length * B + B := by
     simp only [List.length_cons, Int.natCast_add, Int.add_mul]; simp
    omega
theorem sizeG_bound : ∀ (j : Nat) (g : Goal) (d n : Int), 4 ≤ d + j → sizeG g d = some n → 1 ≤ n ∧ n ≤ 5 ^ j
 | j, g, d, n, hj, e => by
  rw [sizeG_eq] at e
  split at e
  ·cases e
  ·rename_i hc
   simp only [Bool.or_eq_true, decide_eq_true_eq, Bool.not_eq_true', not_or, Bool.not_eq_false] at hc
   cases hs : sizeL g.kids (d + 1) with
   | none => simp [hs] at e
   | some m =>
    simp [hs] at e
    have hk := okB_kind hc.2
    cases j with
    | zero =>
     have h0 : g.kids = [] := by
      cases hk : g.kids with
      | nil => rfl
      | cons k l =>
       have : sizeL g.kids (d + 1) = none := sizeL_bad _ _ ⟨k, by simp [hk], by rw [sizeG_eq]; simp; omega⟩
       rw [this] at hs; cases hs
     rw [h0, sizeL] at hs
     injection hs with hs
     simp
     omega
    | succ j =>
     have hp : (0 : Int) ≤ 5 ^ j := Int.le_of_lt (Int.pow_pos (by omega))
     have := sizeL_bound hp g.kids (d + 1) m (fun k _ n hn => by have := sizeG_bound j k (d + 1) n (by omega) hn; omega) hs
     have h4 : (g.kids.length : Int) * 5 ^ j ≤ 4 * 5 ^ j := Int.mul_le_mul_of_nonneg_right (by omega) hp
     rw [Int.pow_succ]
     have h1 : (1 : Int) ≤ 5 ^ j := Int.pow_pos (by omega)
     omega
theorem sizeL_range {g : Goal} {d : Int} {i : Nat} {m : Int} (hd : 1 ≤ d) (hok : okB g = true) (h : sizeL (g.kids.take i) (d + 1) = some m) : 0 ≤ m ∧ m ≤ 1000 := by
 have hp := sizeL_bound (B := 25) (by omega) (g.kids.take i) (d + 1) m (fun k _ n hn => by have := sizeG_bound 2 k (d + 1) n (by omega) hn; omega) h
 have hk := okB_kind hok
 have : (g.kids.take i).length ≤ 4 := by simp; omega
 omega
def sizeR (o : Option Int) : SV Cd := .tuple [iS (match o with | none => 0 | some n => n), bS (match o with | none => false | some _ => true)]
theorem size_meets : ∀ (j : Nat) (g : Goal) (d : Int), d + j = 5 → 1 ≤ d → GAll g → Meets Tryz.prog Dc 43 [goalA g, iS d] [] (sizeR (sizeG g d)) [] := by
 intro j
 induction j with
 | zero =>
  intro g d hj hd hG
  rw [show sizeG g d = none by rw [sizeG_eq]; simp; omega]
  refine meets_of_gx Ax tab_ok Tryz.func43 (c := _) rfl Tryz.call43 400 ?_
  (repeat' ((conv => whnf); first | (exfalso; omega) | refine x0C ?_ | refine spC (fun hb => ?_) fun hb => ?_ | refine nilC (fun hb => ?_) ?_ | refine taC ?_ | refine saC ?_ | exact sdV | refine side_and ?_ ?_ | refine drawX_of mixed ?_))
  all_goals exact vwV
 | succ j ih =>
  intro g d hj hd hG
  have hgl := ((GAll_iff g).1 hG).1
  have hkl := hgl.kids
  have hkk := ((GAll_iff g).1 hG).2
  have h1 := oin g.kind 1 6
  have h2 := rest_meets g
  have h3 := plain_meets g (restG g)
  have h4 := limits_meets g hgl
  have h5 := parts_meets g hgl
  rw [sizeG_eq, show decide (4 < d) = false by simp; omega, Bool.false_or]
  cases hok : okB g with
  | false =>
   simp only [Bool.not_false, if_true]
   unfold okB at hok
   generalize inB g.kind 1 6 = b1 at *
   generalize plainB g (restG g) = b2 at *
   generalize limB g = b3 at *
   generalize partsB g = b4 at *
   refine meets_of_gx Ax tab_ok Tryz.func43 (c := _) rfl Tryz.call43 400 ?_
   (repeat' ((conv => whnf); first | (exfalso; omega) | (exfalso; simp_all; done) | refine cpC (h1) ?_ | refine dpC (h1) ?_ | refine cpC (h2) ?_ | refine dpC (h2) ?_ | refine cpC (h3) ?_ | refine dpC (h3) ?_ | refine cpC (h4) ?_ | refine dpC (h4) ?_ | refine cpC (h5) ?_ | refine dpC (h5) ?_ | refine x0C ?_ | refine spC (fun hb => ?_) fun hb => ?_ | refine nilC (fun hb => ?_) ?_ | refine taC ?_ | refine saC ?_ | exact sdV | refine side_and ?_ ?_ | refine drawX_of mixed ?_))
   all_goals exact vwV
  | true =>
   simp only [Bool.not_true]
   have hok' := hok
   unfold okB at hok'
   simp only [Bool.and_eq_true] at hok'
   rw [hok'.1.1.1] at h1
   rw [hok'.1.1.2] at h3
   rw [hok'.1.2] at h4
   rw [hok'.2] at h5
   refine meets_of_gx Ax tab_ok Tryz.func43 (c := _) rfl Tryz.call43 400 ?_
   (repeat' ((conv => whnf); first | (exfalso; omega) | (exfalso; simp_all; done) | refine cpC (h1) ?_ | refine dpC (h1) ?_ | refine cpC (h2) ?_ | refine dpC (h2) ?_ | refine cpC (h3) ?_ | refine dpC (h3) ?_ | refine cpC (h4) ?_ | refine dpC (h4) ?_ | refine cpC (h5) ?_ | refine dpC (h5) ?_ | refine x0C ?_ | refine spC (fun hb => ?_) fun hb => ?_ | refine nilC (fun hb => ?_) ?_ | refine taC ?_ | refine saC ?_ | exact sdV | refine side_and ?_ ?_ | refine drawX_of mixed ?_))
   clear h1 h2 h3 h4 h5 hok'
   refine loop_up (fun q : Nat × Int => [(6, iS (1 + q.2)), (39, iS q.1)]) (fun _ => []) (fun q => q.1 ≤ g.kids.length ∧ sizeL (g.kids.take q.1) (d + 1) = some q.2) (fun q => g.kids.length - q.1) (0, 0) ⟨Nat.zero_le _, by simp [sizeL]⟩ (by exact bkV) ?_
   rintro ⟨i, m⟩ hi K hK
   obtain ⟨hi, hm⟩ := hi
   dsimp only at hi hm hK ⊢
   have hr := sizeL_range hd hok hm
   rcases Nat.lt_or_ge i g.kids.length with hlt | hge
   ·have hg := getD_some (d := Cd.dflt U.goal) hlt
    have hx := ih _ (d + 1) (by omega) (by omega) (GAllL_mem hkk (List.mem_of_getElem? hg))
    have hsn := sizeL_snoc (g.kids.take i) (g.kids.getD (i : Int).toNat (Cd.dflt U.goal)) (d + 1)
    cases hs : sizeG (g.kids.getD (i : Int).toNat (Cd.dflt U.goal)) (d + 1) with
    | none =>
     rw [sizeL_bad g.kids (d + 1) ⟨_, List.mem_of_getElem? hg, hs⟩]
     rw [hs] at hx
     (repeat' ((conv => whnf); first | (exfalso; omega) | refine cpC (hx) ?_ | refine dpC (hx) ?_ | refine x0C ?_ | refine spC (fun hb => ?_) fun hb => ?_ | refine nilC (fun hb => ?_) ?_ | refine taC ?_ | refine saC ?_ | exact sdV | refine side_and ?_ ?_ | refine drawX_of mixed ?_))
     all_goals exact vwV
    | some n =>
     rw [hs] at hx hsn
     rw [hm] at hsn
     dsimp only [sizeR] at hx
     have hb := sizeG_bound 4 _ (d + 1) n (by omega) hs
     rw [show (5 : Int) ^ 4 = 625 by decide] at hb
     have ht : g.kids.take (i + 1) = g.kids.take i ++ [g.kids.getD (i : Int).toNat (Cd.dflt U.goal)] := by rw [List.take_add_one, hg]; rfl
     rw [← ht] at hsn
     (repeat' ((conv => whnf); first | (exfalso; omega) | refine cpC (hx) ?_ | refine dpC (hx) ?_ | refine hK (i + 1, m + n) [some 0] _ _ ⟨by dsimp only; omega, hsn⟩ ⟨by dsimp only; omega⟩ (by (dsimp only; rw [← Int.add_assoc]; exact bkV)) | refine x0C ?_ | refine spC (fun hb => ?_) fun hb => ?_ | refine nilC (fun hb => ?_) ?_ | refine taC ?_ | refine saC ?_ | exact sdV | refine side_and ?_ ?_ | refine drawX_of mixed ?_))
   ·rw [List.take_of_length_le hge] at hm
    rw [hm]
    (repeat' ((conv => whnf); first | (exfalso; omega) | refine x0C ?_ | refine spC (fun hb => ?_) fun hb => ?_ | refine nilC (fun hb => ?_) ?_ | refine taC ?_ | refine saC ?_ | exact sdV | refine side_and ?_ ?_ | refine drawX_of mixed ?_))
    all_goals exact vwV
theorem valid_meets (g : Goal) (hG : GAll g) : Meets Tryz.prog Dc 18 [goalA g] [] (bS (validG g)) [] := by
 have h := size_meets 4 g 1 (by omega) (by omega) hG
 unfold validG
 cases hs : sizeG g 1 with
 | none =>
  rw [hs] at h
  refine meets_of_gx Ax tab_ok Tryz.func18 (c := _) rfl Tryz.call18 100 ?_
  (repeat' ((conv => whnf); first | refine x0C (eB ?_ rfl) | (exfalso; omega) | refine cpC (h) ?_ | refine dpC (h) ?_ | refine x0C ?_ | refine spC (fun hb => ?_) fun hb => ?_ | refine nilC (fun hb => ?_) ?_ | refine taC ?_ | refine saC ?_ | exact sdV | refine side_and ?_ ?_ | refine drawX_of mixed ?_))
  all_goals rfl
 | some n =>
  rw [hs] at h
  refine meets_of_gx Ax tab_ok Tryz.func18 (c := _) rfl Tryz.call18 100 ?_
  (repeat' ((conv => whnf); first | refine x0C (eB ?_ rfl) | (exfalso; omega) | refine cpC (h) ?_ | refine dpC (h) ?_ | refine x0C ?_ | refine spC (fun hb => ?_) fun hb => ?_ | refine nilC (fun hb => ?_) ?_ | refine taC ?_ | refine saC ?_ | exact sdV | refine side_and ?_ ?_ | refine drawX_of mixed ?_))
  all_goals rfl
end Go.SX

/-
 Plain: the words of orders: how they are written, and how they are read.
-/
namespace Go.SX
abbrev Wd := List UInt8
/-! the words -/
@[reducible] def w_order : Wd := [111, 114, 100, 101, 114]
@[reducible] def w_by : Wd := [98, 121]
@[reducible] def w_for : Wd := [102, 111, 114]
@[reducible] def w_group : Wd := [103, 114, 111, 117, 112]
@[reducible] def w_none : Wd := [110, 111, 110, 101]
@[reducible] def w_plain : Wd := [112, 108, 97, 105, 110]
@[reducible] def w_urgent : Wd := [117, 114, 103, 101, 110, 116]
@[reducible] def w_known : Wd := [107, 110, 111, 119, 110]
@[reducible] def w_due : Wd := [100, 117, 101]
@[reducible] def w_colon : Wd := [58]
@[reducible] def w_see : Wd := [115, 101, 101]
@[reducible] def w_at : Wd := [97, 116]
@[reducible] def w_from : Wd := [102, 114, 111, 109]
@[reducible] def w_to : Wd := [116, 111]
@[reducible] def w_sun : Wd := [115, 117, 110]
@[reducible] def w_clear : Wd := [99, 108, 101, 97, 114]
@[reducible] def w_any : Wd := [97, 110, 121]
@[reducible] def w_pair : Wd := [112, 97, 105, 114]
@[reducible] def w_looks : Wd := [108, 111, 111, 107, 115]
@[reducible] def w_within : Wd := [119, 105, 116, 104, 105, 110]
@[reducible] def w_of : Wd := [111, 102]
@[reducible] def w_every : Wd := [101, 118, 101, 114, 121]
@[reducible] def w_days : Wd := [100, 97, 121, 115]
@[reducible] def w_times : Wd := [116, 105, 109, 101, 115]
@[reducible] def w_apart : Wd := [97, 112, 97, 114, 116]
@[reducible] def w_deliver : Wd := [100, 101, 108, 105, 118, 101, 114]
@[reducible] def w_all : Wd := [97, 108, 108]
@[reducible] def w_open : Wd := [40]
@[reducible] def w_close : Wd := [41]
@[reducible] def w_comma : Wd := [44]
@[reducible] def w_dot : Wd := [46]
/-! numbers as words -/
def itoaF : Nat → Nat → Wd
 | 0, _ => []
 | f + 1, u => if u < 10 then [UInt8.ofNat (48 + u)] else itoaF f (u / 10) ++ [UInt8.ofNat (48 + u % 10)]
def itoaW (n : Int) : Wd := if n < 0 then 45 :: itoaF 20 n.natAbs else itoaF 20 n.toNat
theorem itoaF_eq : ∀ (f u : Nat), u < 10 ^ (f + 1) → itoaF (f + 1) u = Go.Lib.decDigits u
 | 0, u, h => by
  rw [itoaF, Go.Lib.decDigits, if_pos (by simpa using h), dif_pos (by simpa using h)]
 | f + 1, u, h => by
  rw [itoaF, Go.Lib.decDigits]
  by_cases h10 : u < 10
  ·rw [if_pos h10, dif_pos h10]
  ·rw [if_neg h10, dif_neg h10, itoaF_eq f (u / 10) (by rw [Nat.pow_succ] at h; omega)]
theorem itoaW_eq (n : Int) (h : -9223372036854775808 ≤ n ∧ n ≤ 9223372036854775807) : Go.Lib.itoa n = itoaW n := by
 unfold Go.Lib.itoa itoaW
 split
 ·rw [itoaF_eq 19 _ (by omega)]
 ·rw [itoaF_eq 19 _ (by omega)]
/-- the number that a word is -/
def numW (s : Wd) : Option Int := match Go.Lib.atoiAll s with
 | .ok n => if itoaW n = s then some n else none
 | _ => none
/-! runs of a row -/
def tzF : Nat → Nat → Nat
 | 0, _ => 0
 | f + 1, n => if n % 2 = 1 then 0 else 1 + tzF f (n / 2)
def toF : Nat → Nat → Nat
 | 0, _ => 0
 | f + 1, n => if n % 2 = 1 then 1 + toF f (n / 2) else 0
def runsF : Nat → Nat → List (Nat × Nat)
 | 0, _ => []
 | f + 1, n => if n = 0 then [] else
  (tzF 64 n, tzF 64 n + toF 64 (n / 2 ^ tzF 64 n) - 1) :: runsF f (n / 2 ^ (tzF 64 n + toF 64 (n / 2 ^ tzF 64 n)) * 2 ^ (tzF 64 n + toF 64 (n / 2 ^ tzF 64 n)))
/-! how orders are written -/
def runW (y : Nat) (p : Nat × Nat) : List Wd := [w_at, itoaW y, itoaW p.1, itoaW p.2]
def rowsW : Nat → List Int → List Wd
 | _, [] => []
 | y, r :: l => (runsF r.toNat r.toNat).flatMap (runW y) ++ rowsW (y + 1) l
def seeW (g : Goal) : List Wd := w_see :: rowsW 0 g.rows ++ [w_from, itoaW g.from_, w_to, itoaW g.to_, w_sun, itoaW g.low, w_to, itoaW g.high, if g.clear then w_clear else w_any]
def headW (g : Goal) : List Wd :=
 if g.kind = 2 then [w_pair, w_looks, itoaW g.low, w_within, itoaW g.within, w_of]
 else if g.kind = 3 then [w_every, itoaW g.days, w_days, itoaW g.times, w_times, w_apart, itoaW g.within, w_from, itoaW g.from_, w_of]
 else [w_deliver, w_within, itoaW g.within, w_of]
mutual
def goalW : Goal → List Wd
 | ⟨kind, rows, from_, to_, low, high, clear, days, times, within, cents, kids⟩ =>
  if kind = 1 then seeW ⟨kind, rows, from_, to_, low, high, clear, days, times, within, cents, kids⟩
  else if kind = 2 ∨ kind = 3 ∨ kind = 4 then headW ⟨kind, rows, from_, to_, low, high, clear, days, times, within, cents, kids⟩ ++ firstW kids
  else [if kind = 5 then w_all else w_any, w_open] ++ kidsW (decide (kind = 6)) true cents kids ++ [w_close]
def firstW : List Goal → List Wd
 | [] => []
 | k :: _ => goalW k
def kidsW : Bool → Bool → List Int → List Goal → List Wd
 | _, _, _, [] => []
 | any, first, cents, k :: l => (if first then [] else [w_comma]) ++ (if any then [itoaW (cents.headD 0)] else []) ++ goalW k ++ kidsW any false cents.tail l
end
def orderW (o : Order) : List Wd :=
 [w_order, itoaW o.id, w_by, itoaW o.owner, w_for, itoaW o.price, w_group, if o.group < 0 then w_none else itoaW o.group, if o.urgent then w_urgent else w_plain, w_known, itoaW o.known, w_due, itoaW o.due, w_colon] ++ goalW o.goal ++ [w_dot]
def joinW (l : List Wd) : Wd := Go.Lib.join l [32]
def ordB (o : Order) : Bool := inB o.id 0 63 && inB o.owner 0 15 && inB o.price 0 1000000000 && inB o.group (-1) 15 && inB o.known 0 1000000 && inB o.due (o.known + 1) 1000000 && validG o.goal
def printS (o : Order) : Wd × Int := if ordB o then (joinW (orderW o), 0) else ([], 130)
/-! how texts are parted -/
def splitW : Wd → List Wd
 | [] => [[]]
 | c :: s => if c = 32 then [] :: splitW s else match splitW s with
  | [] => [[c]]
  | t :: l => (c :: t) :: l
def tokensW (s : Wd) : List Wd := if s = [] then [] else splitW s
/-! how orders are read: the value, the place and the room behind it; or only these, where it gives up -/
inductive Rs (α : Type) where
 | ok (x : α) (at_ room : Int)
 | no (at_ room : Int)
@[reducible] def Rs.bind {α β : Type} (x : Rs α) (k : α → Int → Int → Rs β) : Rs β := match x with
 | .ok x a m => k x a m
 | .no a m => .no a m
def peekW (ws : List Wd) (a : Int) : Wd := if a = ws.length then [32] else ws.getD a.toNat []
def mustW (ws : List Wd) : List Wd → Int → Int → Rs Unit
 | [], a, m => .ok () a m
 | s :: l, a, m => if peekW ws a = s then mustW ws l (a + 1) m else .no a m
def numP (ws : List Wd) (lo hi a m : Int) : Rs Int := match numW (peekW ws a) with
 | some n => if lo ≤ n ∧ n ≤ hi then .ok n (a + 1) m else .no a m
 | none => .no a m
def wordP (ws : List Wd) (s t : Wd) (a m : Int) : Rs Bool := if peekW ws a = s then .ok true (a + 1) m else if peekW ws a = t then .ok false (a + 1) m else .no a m
def maskW (x y : Int) : Int := (2 ^ (y - x + 1).toNat - 1) * 2 ^ x.toNat
def areaP (ws : List Wd) : Nat → Int → Int → List Int → Int → Int → Rs (List Int)
 | 0, _, _, _, a, m => .no a m
 | n + 1, y, free, rows, a, m =>
  if 48 ≤ free ∧ y = 23 then .ok rows a m else
  (mustW ws [w_at] a m).bind fun _ a m =>
  (numP ws (if 48 ≤ free then y + 1 else y) 23 a m).bind fun row a m =>
  (numP ws (if row > (if 48 ≤ free then y + 1 else y) ∨ 48 ≤ free then 0 else free) 47 a m).bind fun x a m =>
  (numP ws x 47 a m).bind fun z a m =>
  if peekW ws a = w_at then areaP ws n row (z + 2) (rows.set row.toNat (bitop .or .i64 (rows.getD row.toNat 0) (maskW x z))) a m
  else .ok (rows.set row.toNat (bitop .or .i64 (rows.getD row.toNat 0) (maskW x z))) a m
def seeP (ws : List Wd) (a m : Int) : Rs Goal :=
 (areaP ws 1200 0 0 (List.replicate 24 0) a m).bind fun rows a m =>
 (mustW ws [w_from] a m).bind fun _ a m => (numP ws 0 999999 a m).bind fun f a m =>
 (mustW ws [w_to] a m).bind fun _ a m => (numP ws (f + 1) 1000000 a m).bind fun t a m =>
 (mustW ws [w_sun] a m).bind fun _ a m => (numP ws 0 90 a m).bind fun lo a m =>
 (mustW ws [w_to] a m).bind fun _ a m => (numP ws lo 90 a m).bind fun hi a m =>
 (wordP ws w_clear w_any a m).bind fun c a m => .ok ⟨1, rows, f, t, lo, hi, c, 0, 0, 0, [], []⟩ a m
def pairP (ws : List Wd) (sub : Int → Int → Rs Goal) (a m : Int) : Rs Goal :=
 (mustW ws [w_looks] a m).bind fun _ a m => (numP ws 1 8 a m).bind fun lo a m =>
 (mustW ws [w_within] a m).bind fun _ a m => (numP ws 1 1000000 a m).bind fun wi a m =>
 (mustW ws [w_of] a m).bind fun _ a m => (sub a m).bind fun k a m => .ok ⟨2, [], 0, 0, lo, 0, false, 0, 0, wi, [], [k]⟩ a m
def everyP (ws : List Wd) (sub : Int → Int → Rs Goal) (a m : Int) : Rs Goal :=
 (numP ws 1 60 a m).bind fun d a m => (mustW ws [w_days] a m).bind fun _ a m => (numP ws 1 6 a m).bind fun t a m =>
 (mustW ws [w_times, w_apart] a m).bind fun _ a m => (numP ws 0 (1440 * d) a m).bind fun wi a m =>
 (mustW ws [w_from] a m).bind fun _ a m => (numP ws 0 1000000 a m).bind fun f a m =>
 (mustW ws [w_of] a m).bind fun _ a m => (sub a m).bind fun k a m => .ok ⟨3, [], f, 0, 0, 0, false, d, t, wi, [], [k]⟩ a m
def delP (ws : List Wd) (sub : Int → Int → Rs Goal) (a m : Int) : Rs Goal :=
 (mustW ws [w_within] a m).bind fun _ a m => (numP ws 0 1000000 a m).bind fun wi a m =>
 (mustW ws [w_of] a m).bind fun _ a m => (sub a m).bind fun k a m => .ok ⟨4, [], 0, 0, 0, 0, false, 0, 0, wi, [], [k]⟩ a m
def partsP (ws : List Wd) (sub : Int → Int → Rs Goal) (k : Int) : Nat → List Int → List Goal → Int → Int → Rs Goal
 | 0, _, _, a, m => .no a m
 | n + 1, cents, kids, a, m =>
  (if k = 6 then (numP ws 0 1000000000 a m).bind fun c a m => .ok (cents ++ [c]) a m else .ok cents a m).bind fun cents a m =>
  (sub a m).bind fun g a m =>
  if 1 < kids.length + 1 then
   if peekW ws a = w_close then .ok ⟨k, [], 0, 0, 0, 0, false, 0, 0, 0, cents, kids ++ [g]⟩ (a + 1) m
   else if kids.length + 1 = 4 ∨ m = 0 then .no a m
   else (mustW ws [w_comma] a (m - 1)).bind fun _ a m => partsP ws sub k n cents (kids ++ [g]) a m
  else (mustW ws [w_comma] a m).bind fun _ a m => partsP ws sub k n cents (kids ++ [g]) a m
def listP (ws : List Wd) (sub : Int → Int → Rs Goal) (k : Int) (a m : Int) : Rs Goal :=
 (mustW ws [w_open] a m).bind fun _ a m => partsP ws sub k 5 [] [] a m
def formW (w : Wd) : Option (Int × Int) :=
 if w = w_see then some (1, 0) else if w = w_pair then some (2, 1) else if w = w_every then some (3, 1) else if w = w_deliver then some (4, 1) else if w = w_all then some (5, 2) else if w = w_any then some (6, 2) else none
def goalP (ws : List Wd) : Nat → Int → Int → Int → Int → Rs Goal
 | 0, _, _, a, m => .no a m
 | f + 1, of_, deep, a, m => match formW (peekW ws a) with
  | none => .no a m
  | some (k, needs) => if lastK of_ < k ∨ m < needs ∨ (0 < needs ∧ deep = 4) then .no a m else
   if k = 1 then seeP ws (a + 1) (m - needs)
   else if k = 2 then pairP ws (goalP ws f 2 (deep + 1)) (a + 1) (m - needs)
   else if k = 3 then everyP ws (goalP ws f 3 (deep + 1)) (a + 1) (m - needs)
   else if k = 4 then delP ws (goalP ws f 4 (deep + 1)) (a + 1) (m - needs)
   else listP ws (goalP ws f k (deep + 1)) k (a + 1) (m - needs)
def groupP (ws : List Wd) (a m : Int) : Rs Int := if peekW ws a = w_none then .ok (-1) (a + 1) m else numP ws 0 15 a m
def orderP (ws : List Wd) (a m : Int) : Rs Order :=
 (mustW ws [w_order] a m).bind fun _ a m => (numP ws 0 63 a m).bind fun id a m =>
 (mustW ws [w_by] a m).bind fun _ a m => (numP ws 0 15 a m).bind fun owner a m =>
 (mustW ws [w_for] a m).bind fun _ a m => (numP ws 0 1000000000 a m).bind fun price a m =>
 (mustW ws [w_group] a m).bind fun _ a m => (groupP ws a m).bind fun group a m =>
 (wordP ws w_urgent w_plain a m).bind fun urgent a m =>
 (mustW ws [w_known] a m).bind fun _ a m => (numP ws 0 999999 a m).bind fun known a m =>
 (mustW ws [w_due] a m).bind fun _ a m => (numP ws (known + 1) 1000000 a m).bind fun due a m =>
 (mustW ws [w_colon] a m).bind fun _ a m => (goalP ws 4 5 1 a m).bind fun goal a m =>
 (mustW ws [w_dot] a m).bind fun _ a m => if a < ws.length then .no a m else .ok ⟨id, owner, goal, price, group, urgent, known, due⟩ a m
def zeroO : Order := U.dflt .order
def parseS (s : Wd) : Order × Int × Int := if 20000 < s.length then (zeroO, 0, 130) else match orderP (tokensW s) 0 11 with
 | .ok o a _ => (o, a, 0)
 | .no a _ => (zeroO, a, 130)
/-! what stays within bounds -/
structure BdR (ws : List Wd) (a m a' m' : Int) : Prop where
 at1 : a ≤ a'
 at2 : a' ≤ ws.length
 r1 : 0 ≤ m'
 r2 : m' ≤ m
def Rs.Bd {α : Type} (ws : List Wd) (a m : Int) : Rs α → Prop
 | .ok _ a' m' => BdR ws a m a' m'
 | .no a' m' => BdR ws a m a' m'
structure InW (ws : List Wd) (a m : Int) : Prop where
 a0 : 0 ≤ a
 a1 : a ≤ ws.length
 m0 : 0 ≤ m
 m1 : m ≤ 1000
theorem InW.step {ws : List Wd} {a m a' m' : Int} (h : InW ws a m) (hb : BdR ws a m a' m') : InW ws a' m' := ⟨by have := hb.at1; have := h.a0; omega, hb.at2, hb.r1, Int.le_trans hb.r2 h.m1⟩
theorem bd_bind {α β : Type} {ws : List Wd} {a m : Int} {x : Rs α} {k : α → Int → Int → Rs β} (h : InW ws a m) (hx : x.Bd ws a m) (hk : ∀ y a' m', x = .ok y a' m' → InW ws a' m' → (k y a' m').Bd ws a' m') : (x.bind k).Bd ws a m := by
 cases x with
 | no a' m' => exact hx
 | ok y a' m' =>
  have hi := h.step hx
  have h2 := hk y a' m' rfl hi
  show (k y a' m').Bd ws a m
  cases hz : k y a' m' with
  | ok z a2 m2 => rw [hz] at h2; exact ⟨Int.le_trans hx.at1 h2.at1, h2.at2, h2.r1, Int.le_trans h2.r2 hx.r2⟩
  | no a2 m2 => rw [hz] at h2; exact ⟨Int.le_trans hx.at1 h2.at1, h2.at2, h2.r1, Int.le_trans h2.r2 hx.r2⟩
theorem InW.refl {ws : List Wd} {a m : Int} (h : InW ws a m) : BdR ws a m a m := ⟨Int.le_refl _, h.a1, h.m0, Int.le_refl _⟩
theorem peekW_lt {ws : List Wd} {a m : Int} (h : InW ws a m) {s : Wd} (e : peekW ws a = s) (hs : s ≠ [32]) : a < ws.length := by
 have := h.a1
 rcases Int.lt_or_eq_of_le this with h1 | h1
 ·exact h1
 ·unfold peekW at e; rw [if_pos h1] at e; exact absurd e.symm hs
theorem mustW_bd {ws : List Wd} : ∀ (l : List Wd) {a m : Int}, InW ws a m → (∀ s ∈ l, s ≠ [32]) → (mustW ws l a m).Bd ws a m
 | [], a, m, h, _ => h.refl
 | s :: l, a, m, h, hl => by
  unfold mustW
  split
  ·rename_i e
   have h1 := peekW_lt h e (hl s (List.mem_cons_self ..))
   have h2 : InW ws (a + 1) m := ⟨by have := h.a0; omega, by omega, h.m0, h.m1⟩
   have h3 := mustW_bd l h2 fun x hx => hl x (List.mem_cons_of_mem _ hx)
   cases hz : mustW ws l (a + 1) m with
   | ok z a2 m2 => rw [hz] at h3; exact ⟨by have := h3.at1; omega, h3.at2, h3.r1, h3.r2⟩
   | no a2 m2 => rw [hz] at h3; exact ⟨by have := h3.at1; omega, h3.at2, h3.r1, h3.r2⟩
  ·exact h.refl
theorem numP_ok {ws : List Wd} {lo hi a m n a' m' : Int} (h : InW ws a m) (e : numP ws lo hi a m = .ok n a' m') : lo ≤ n ∧ n ≤ hi ∧ a' = a + 1 ∧ m' = m ∧ a < ws.length := by
 unfold numP at e
 split at e
 ·rename_i k hk
  split at e
  ·rename_i hb
   injection e with e1 e2 e3
   subst e1 e2 e3
   refine ⟨hb.1, hb.2, rfl, rfl, ?_⟩
   rcases Int.lt_or_eq_of_le h.a1 with h1 | h1
   ·exact h1
   ·unfold peekW at hk
    rw [if_pos h1] at hk
    have : numW [32] = none := by decide
    rw [this] at hk; cases hk
  ·cases e
 ·cases e
theorem numP_bd {ws : List Wd} {lo hi a m : Int} (h : InW ws a m) : (numP ws lo hi a m).Bd ws a m := by
 cases e : numP ws lo hi a m with
 | ok n a' m' =>
  obtain ⟨_, _, rfl, rfl, h1⟩ := numP_ok h e
  exact ⟨by omega, by omega, h.m0, Int.le_refl _⟩
 | no a' m' =>
  unfold numP at e
  split at e
  ·split at e
   ·cases e
   ·injection e with e1 e2; subst e1 e2; exact h.refl
  ·injection e with e1 e2; subst e1 e2; exact h.refl
end Go.SX

/-
 Plain: equality of goals and orders.
-/
namespace Go.SX
theorem take_getD {α : Type} {d : α} {l : List α} {i : Nat} (h : i < l.length) : l.take (i + 1) = l.take i ++ [l.getD i d] := by
 rw [List.take_add_one, List.getElem?_eq_getElem h, List.getD_eq_getElem?_getD, List.getElem?_eq_getElem h]; rfl
theorem drop_getD {α : Type} {d : α} {l : List α} {i : Nat} (h : i < l.length) : l.drop i = l.getD i d :: l.drop (i + 1) := by
 rw [List.drop_eq_getElem_cons h, List.getD_eq_getElem?_getD, List.getElem?_eq_getElem h]; rfl
mutual
def sameG : Goal → Goal → Bool
 | ⟨kind, rows, from_, to_, low, high, clear, days, times, within, cents, kids⟩, b =>
  plainB ⟨kind, rows, from_, to_, low, high, clear, days, times, within, cents, kids⟩ b && decide (rows = b.rows) && decide (cents = b.cents) && sameL kids b.kids
def sameL : List Goal → List Goal → Bool
 | [], [] => true
 | a :: l, b :: m => sameG a b && sameL l m
 | _, _ => false
end
theorem sameG_eq (a b : Goal) : sameG a b = (plainB a b && decide (a.rows = b.rows) && decide (a.cents = b.cents) && sameL a.kids b.kids) := by cases a; rw [sameG]
theorem plainB_iff {a b : Goal} : plainB a b = true ↔ a.kind = b.kind ∧ a.from_ = b.from_ ∧ a.to_ = b.to_ ∧ a.low = b.low ∧ a.high = b.high ∧ a.clear = b.clear ∧ a.days = b.days ∧ a.times = b.times ∧ a.within = b.within := by
 simp [plainB, and_assoc]
mutual
theorem sameG_iff : ∀ a b : Goal, sameG a b = true ↔ a = b
 | ⟨kind, rows, from_, to_, low, high, clear, days, times, within, cents, kids⟩, b => by
  rw [sameG]
  simp only [Bool.and_eq_true, decide_eq_true_eq, plainB_iff, sameL_iff kids b.kids]
  cases b
  simp only [Goal.mk.injEq]
  constructor
  ·rintro ⟨⟨⟨⟨h1, h2, h3, h4, h5, h6, h7, h8, h9⟩, h10⟩, h11⟩, h12⟩; exact ⟨h1, h10, h2, h3, h4, h5, h6, h7, h8, h9, h11, h12⟩
  ·rintro ⟨h1, h10, h2, h3, h4, h5, h6, h7, h8, h9, h11, h12⟩; exact ⟨⟨⟨⟨h1, h2, h3, h4, h5, h6, h7, h8, h9⟩, h10⟩, h11⟩, h12⟩
theorem sameL_iff : ∀ l m : List Goal, sameL l m = true ↔ l = m
 | [], [] => by simp [sameL]
 | [], b :: m => by simp [sameL]
 | a :: l, [] => by simp [sameL]
 | a :: l, b :: m => by rw [sameL]; simp only [Bool.and_eq_true, sameG_iff a b, sameL_iff l m, List.cons.injEq]
end
theorem sameL_len {l m : List Goal} (h : l.length ≠ m.length) : sameL l m = false := by
 cases hs : sameL l m with
 | false => rfl
 | true => exact absurd (by rw [(sameL_iff l m).1 hs]) h
theorem sameL_at {l m : List Goal} {i : Nat} {d : Goal} (h : l.length = m.length) (hi : i < l.length) (hn : sameG (l.getD i d) (m.getD i d) = false) : sameL l m = false := by
 cases hs : sameL l m with
 | false => rfl
 | true =>
  rw [(sameL_iff l m).1 hs] at hn
  rw [(sameG_iff _ _).2 rfl] at hn
  cases hn
theorem sameL_all {l m : List Goal} {d : Goal} (h : l.length = m.length) (ha : ∀ i, i < l.length → sameG (l.getD i d) (m.getD i d) = true) : sameL l m = true := by
 rw [sameL_iff]
 refine List.ext_getElem h fun i h1 h2 => ?_
 have := (sameG_iff _ _).1 (ha i h1)
 rw [List.getD_eq_getElem?_getD, List.getD_eq_getElem?_getD, List.getElem?_eq_getElem h1, List.getElem?_eq_getElem h2] at this
 exact this
def sameO (a b : Order) : Bool := decide (a.id = b.id) && decide (a.owner = b.owner) && decide (a.price = b.price) && decide (a.group = b.group) && (a.urgent == b.urgent) && decide (a.known = b.known) && decide (a.due = b.due) && sameG a.goal b.goal
theorem sameO_iff (a b : Order) : sameO a b = true ↔ a = b := by
 unfold sameO
 simp only [Bool.and_eq_true, decide_eq_true_eq, sameG_iff, beq_iff_eq]
 cases a; cases b
 simp only [Order.mk.injEq]
 constructor
 ·rintro ⟨⟨⟨⟨⟨⟨⟨h1, h2⟩, h3⟩, h4⟩, h5⟩, h6⟩, h7⟩, h8⟩; exact ⟨h1, h2, h8, h3, h4, h5, h6, h7⟩
 ·rintro ⟨h1, h2, h8, h3, h4, h5, h6, h7⟩; exact ⟨⟨⟨⟨⟨⟨⟨h1, h2⟩, h3⟩, h4⟩, h5⟩, h6⟩, h7⟩, h8⟩
end Go.SX

/-
 SX, part V9: views in which numbers and rows may be spelled otherwise.
-/
namespace Go.SX
variable {C : Cod}
section
variable {Hp : List (HS C)} {θ : List (Option Nat)} {T T' : List (SV C)} {Hp' : List (HS C)} {m0 : Nat} {ret : SV C}
theorem intV {k : IntKind} {a b : Int} (h : a = b := by omega) : View Hp θ (.p (.int k a)) (.p (.int k b)) := by subst h; rfl
theorem rowV {u : C.U} {xs ys : List (C.El u)} (h : xs = ys) : ViewH Hp θ (.rows u xs) (.rows u ys) := by subst h; rfl
theorem slV {c o n off len len' d off' : Nat} (h : len = len') (h2 : off = off') (h1 : View Hp θ (.slice d o n off' len') (.slice c o n off' len')) : View Hp θ (.slice d o n off len) (.slice c o n off' len') := by subst h; subst h2; exact h1
theorem bkI {m0 : Nat} (h1 : ViewL Hp θ T T' := by first | ((repeat' (first | exact trivial | exact rfl | refine And.intro ?_ ?_ | exact intV | exact fzV | exact fvV)); done) | fail) (h2 : ViewHs Hp θ θ Hp' := by
    first | ((repeat' (first | exact trivial | exact rfl | refine And.intro ?_ ?_ | exact ⟨_, rfl⟩ | exact intV | (refine rowV ?_; assumption) | (refine rowV ?_; (apply Eq.symm); assumption) | exact fzV | exact fvV)); done) | fail) (h3 : idO m0 0 θ = true := by rfl) (h4 : ndO θ = true := by rfl) : Back m0 θ T Hp T' Hp' := ⟨h1, h2, h3, h4⟩
end
end Go.SX
namespace Go.SX
variable {C : Cod}
theorem loop_upT {D : Codec C} {m0 : Nat} {R : Kont C} {body : Code} {k : List (It C)} {T : List (SV C)} {Hp : List (HS C)} {γ : Type} (θ0 : List (Option Nat)) (I : γ → List (Nat × SV C)) (U : γ → List (Nat × HS C)) (good : γ → Prop) (μ : γ → Nat) (g0 : γ) (h0 : good g0) (hent : Back m0 θ0 T Hp (headT body T (I g0)) (setCs Hp (U g0)))
  (hround : ∀ g, good g → ∀ K : List (SV C) → List (HS C) → Prop, (∀ g' θ T' Hp', Side (good g') → Side (μ g' < μ g) → Back m0 θ T' Hp' (headT body T (I g')) (setCs Hp (U g')) → K T' Hp') →
   forceV (headT body T (I g)) fun T1 => setCsK Hp (U g) fun Hp1 => R (.code body :: .endLoop K :: k) T1 Hp1) : LoopX D m0 R body k T Hp := by
 refine loop_inv I (fun g => setCs Hp (U g)) good μ g0 h0 θ0 hent fun g hg K hK => ?_
 have := hround g hg K hK
 rw [forceV_eq, setCsK_eq] at this
 rw [forceV_eq, forceL_eq]
 exact this
end Go.SX

namespace Go.SX
open Go.Proofs
set_option maxHeartbeats 4000000
set_option maxRecDepth 100000
@[reducible] def ordA (o : Order) : SV Cd := .agg [iS o.id, iS o.owner, iS o.goal.kind, lS o.goal.rows, iS o.goal.from_, iS o.goal.to_, iS o.goal.low, iS o.goal.high, bS o.goal.clear, iS o.goal.days, iS o.goal.times, iS o.goal.within, lS o.goal.cents, .p (.dsl U.goal o.goal.kids), iS o.price, iS o.group, bS o.urgent, iS o.known, iS o.due]
theorem ovalid (o : Order) (hG : GAll o.goal) : Meets Tryz.prog Dc 16 [ordA o] [] (bS (ordB o)) [] := by
 have h := oin
 have h1 := valid_meets o.goal hG
 refine meets_of_gx Ax tab_ok Tryz.func16 (c := _) rfl Tryz.call16 200 ?_
 (repeat' ((conv => whnf); first | refine x0C (eB ?_ rfl) | (exfalso; omega) | refine cpC (h _ _ _) ?_ | refine dpC (h _ _ _) ?_ | refine cpC (h1) ?_ | refine dpC (h1) ?_ | refine x0C ?_ | refine spC (fun hb => ?_) fun hb => ?_ | refine nilC (fun hb => ?_) ?_ | refine taC ?_ | refine saC ?_ | exact sdV | refine side_and ?_ ?_ | refine drawX_of mixed ?_))
 all_goals clear h h1
 all_goals first | (refine ⟨?_⟩; simp only [inB_iff] at *; exact inR_i64 (by omega) (by omega)) | (simp_all [ordB]; done)
theorem sEqual (a b : List Int) (ha : (a.length : Int) ≤ 9223372036854775807) : Meets Tryz.prog Dc 71 [lS a, lS b] [] (bS (decide (a = b))) [] := by
 by_cases hlen : a.length = b.length
 rotate_left
 ·rw [decide_eq_false (fun e => hlen (by rw [e]))]
  refine meets_of_gx Ax tab_ok Tryz.func71 (c := _) rfl Tryz.call71 100 ?_
  (repeat' ((conv => whnf); first | refine x0C (eB ?_ rfl) | (exfalso; omega) | refine x0C ?_ | refine spC (fun hb => ?_) fun hb => ?_ | refine nilC (fun hb => ?_) ?_ | refine taC ?_ | refine saC ?_ | exact sdV | refine side_and ?_ ?_ | refine drawX_of mixed ?_))
  all_goals rfl
 ·refine meets_of_gx Ax tab_ok Tryz.func71 (c := _) rfl Tryz.call71 100 ?_
  (repeat' ((conv => whnf); first | (exfalso; omega) | refine x0C ?_ | refine spC (fun hb => ?_) fun hb => ?_ | refine nilC (fun hb => ?_) ?_ | refine taC ?_ | refine saC ?_ | exact sdV | refine side_and ?_ ?_ | refine drawX_of mixed ?_))
  refine loop_up (fun i : Nat => [(13, iS i)]) (fun _ => []) (fun i => i ≤ a.length ∧ a.take i = b.take i) (fun i => a.length - i) 0 ⟨Nat.zero_le _, by simp⟩ (by exact bkI) ?_
  rintro i ⟨hi, he⟩ K hK
  rcases Nat.lt_or_ge i a.length with hlt | hge
  ·have t1 := take_getD (d := Cd.dflt U.int) hlt
   have t2 := take_getD (d := Cd.dflt U.int) (show i < b.length by omega)
   have hs : a.getD (i : Int).toNat (Cd.dflt U.int) = b.getD (i : Int).toNat (Cd.dflt U.int) → a.take (i + 1) = b.take (i + 1) := fun h => by
    rw [t1, t2, he, show a.getD i (Cd.dflt U.int) = b.getD i (Cd.dflt U.int) from h]
   have hn : ¬ a.getD (i : Int).toNat (Cd.dflt U.int) = b.getD (i : Int).toNat (Cd.dflt U.int) → decide (a = b) = false := fun h => decide_eq_false fun e => h (by rw [e])
   (repeat' ((conv => whnf); first | refine x0C (eB ?_ rfl) | (exfalso; omega) | refine hK (i + 1) [] _ _ ⟨⟨by omega, hs (by assumption)⟩⟩ ⟨by omega⟩ (by exact bkI) | refine x0C ?_ | refine spC (fun hb => ?_) fun hb => ?_ | refine nilC (fun hb => ?_) ?_ | refine taC ?_ | refine saC ?_ | exact sdV | refine side_and ?_ ?_ | refine drawX_of mixed ?_))
   all_goals exact (hn (by assumption)).symm
  ·rw [List.take_of_length_le hge, List.take_of_length_le (by omega)] at he
   rw [decide_eq_true he]
   (repeat' ((conv => whnf); first | refine x0C (eB ?_ rfl) | (exfalso; omega) | refine x0C ?_ | refine spC (fun hb => ?_) fun hb => ?_ | refine nilC (fun hb => ?_) ?_ | refine taC ?_ | refine saC ?_ | exact sdV | refine side_and ?_ ?_ | refine drawX_of mixed ?_))
   all_goals rfl
theorem sEqualF (a b : List Goal) (ha : (a.length : Int) ≤ 9223372036854775807) (h : ∀ x ∈ a, ∀ y, Meets Tryz.prog Dc 45 [goalA x, goalA y] [] (bS (sameG x y)) []) :
  Meets Tryz.prog Dc 72 [.p (.dsl U.goal a), .p (.dsl U.goal b), .fn (.func 45) [] []] [] (bS (sameL a b)) [] := by
 by_cases hlen : a.length = b.length
 rotate_left
 ·rw [sameL_len hlen]
  refine meets_of_gx Ax tab_ok Tryz.func72 (c := _) rfl Tryz.call72 100 ?_
  (repeat' ((conv => whnf); first | refine x0C (eB ?_ rfl) | (exfalso; omega) | refine x0C ?_ | refine spC (fun hb => ?_) fun hb => ?_ | refine nilC (fun hb => ?_) ?_ | refine taC ?_ | refine saC ?_ | exact sdV | refine side_and ?_ ?_ | refine drawX_of mixed ?_))
  all_goals rfl
 ·refine meets_of_gx Ax tab_ok Tryz.func72 (c := _) rfl Tryz.call72 100 ?_
  (repeat' ((conv => whnf); first | (exfalso; omega) | refine x0C ?_ | refine spC (fun hb => ?_) fun hb => ?_ | refine nilC (fun hb => ?_) ?_ | refine taC ?_ | refine saC ?_ | exact sdV | refine side_and ?_ ?_ | refine drawX_of mixed ?_))
  refine loop_up (fun i : Nat => [(17, iS i)]) (fun _ => []) (fun i => i ≤ a.length ∧ ∀ j, j < i → sameG (a.getD j (U.dflt .goal)) (b.getD j (U.dflt .goal)) = true) (fun i => a.length - i) 0 ⟨Nat.zero_le _, fun j hj => absurd hj (Nat.not_lt_zero _)⟩ (by exact bkI) ?_
  rintro i ⟨hi, he⟩ K hK
  rcases Nat.lt_or_ge i a.length with hlt | hge
  ·have hm : a.getD (i : Int).toNat (Cd.dflt U.goal) ∈ a := List.mem_of_getElem? (getD_some (d := Cd.dflt U.goal) hlt)
   have hx := h _ hm (b.getD (i : Int).toNat (Cd.dflt U.goal))
   cases hs : sameG (a.getD (i : Int).toNat (Cd.dflt U.goal)) (b.getD (i : Int).toNat (Cd.dflt U.goal)) with
   | true =>
    rw [hs] at hx
    have he' : ∀ j, j < i + 1 → sameG (a.getD j (U.dflt .goal)) (b.getD j (U.dflt .goal)) = true := fun j hj => by
     rcases Nat.lt_or_ge j i with h1 | h1
     ·exact he j h1
     ·obtain rfl : j = i := by omega
      exact hs
    (repeat' ((conv => whnf); first | refine x0C (eB ?_ rfl) | (exfalso; omega) | refine cpC (hx) ?_ | refine dpC (hx) ?_ | refine hK (i + 1) [] _ _ ⟨⟨by omega, he'⟩⟩ ⟨by omega⟩ (by exact bkI) | refine x0C ?_ | refine spC (fun hb => ?_) fun hb => ?_ | refine nilC (fun hb => ?_) ?_ | refine taC ?_ | refine saC ?_ | exact sdV | refine side_and ?_ ?_ | refine drawX_of mixed ?_))
   | false =>
    rw [hs] at hx
    rw [sameL_at (d := U.dflt .goal) hlen hlt hs]
    (repeat' ((conv => whnf); first | refine x0C (eB ?_ rfl) | (exfalso; omega) | refine cpC (hx) ?_ | refine dpC (hx) ?_ | refine x0C ?_ | refine spC (fun hb => ?_) fun hb => ?_ | refine nilC (fun hb => ?_) ?_ | refine taC ?_ | refine saC ?_ | exact sdV | refine side_and ?_ ?_ | refine drawX_of mixed ?_))
    all_goals rfl
  ·rw [sameL_all (d := U.dflt .goal) hlen fun j hj => he j (by omega)]
   (repeat' ((conv => whnf); first | refine x0C (eB ?_ rfl) | (exfalso; omega) | refine x0C ?_ | refine spC (fun hb => ?_) fun hb => ?_ | refine nilC (fun hb => ?_) ?_ | refine taC ?_ | refine saC ?_ | exact sdV | refine side_and ?_ ?_ | refine drawX_of mixed ?_))
   all_goals rfl
theorem same_meets : ∀ (n : Nat) (a b : Goal), SizeOf.sizeOf a ≤ n → GAll a → Meets Tryz.prog Dc 45 [goalA a, goalA b] [] (bS (sameG a b)) []
 | 0, a, b, hn, _ => by cases a; simp at hn
 | n + 1, a, b, hn, hG => by
  have hG' := (GAll_iff a).1 hG
  have hk : ∀ x ∈ a.kids, SizeOf.sizeOf x ≤ n := fun x hx => by
   have h1 := List.sizeOf_lt_of_mem hx
   have h2 : SizeOf.sizeOf a.kids < SizeOf.sizeOf a := by cases a; simp; omega
   omega
  have h1 := plain_meets a b
  have h2 := sEqual a.rows b.rows hG'.1.rows
  have h3 := sEqual a.cents b.cents hG'.1.cents
  have h4 := sEqualF a.kids b.kids hG'.1.kids fun x hx y => same_meets n x y (hk x hx) (GAllL_mem hG'.2 hx)
  rw [sameG_eq]
  refine meets_of_gx Ax tab_ok Tryz.func45 (c := _) rfl Tryz.call45 200 ?_
  (repeat' ((conv => whnf); first | refine x0C (eB ?_ rfl) | (exfalso; omega) | refine cpC (h1) ?_ | refine dpC (h1) ?_ | refine cpC (h2) ?_ | refine dpC (h2) ?_ | refine cpC (h3) ?_ | refine dpC (h3) ?_ | refine cpC (h4) ?_ | refine dpC (h4) ?_ | refine x0C ?_ | refine spC (fun hb => ?_) fun hb => ?_ | refine nilC (fun hb => ?_) ?_ | refine taC ?_ | refine saC ?_ | exact sdV | refine side_and ?_ ?_ | refine drawX_of mixed ?_))
  all_goals clear h1 h2 h3 h4
  all_goals (first | (simp_all []; done) | (simp_all []; omega) | (simp_all []; grind))
theorem osame (a b : Order) (hG : GAll a.goal) : Meets Tryz.prog Dc 20 [ordA a, ordA b] [] (bS (sameO a b)) [] := by
 have h := same_meets _ a.goal b.goal (Nat.le_refl _) hG
 refine meets_of_gx Ax tab_ok Tryz.func20 (c := _) rfl Tryz.call20 200 ?_
 (repeat' ((conv => whnf); first | refine x0C (eB ?_ rfl) | (exfalso; omega) | refine cpC (h) ?_ | refine dpC (h) ?_ | refine x0C ?_ | refine spC (fun hb => ?_) fun hb => ?_ | refine nilC (fun hb => ?_) ?_ | refine taC ?_ | refine saC ?_ | exact sdV | refine side_and ?_ ?_ | refine drawX_of mixed ?_))
 all_goals clear h
 all_goals (first | (simp_all [sameO]; done) | (simp_all [sameO]; omega) | (simp_all [sameO]; grind))
end Go.SX

/-
 SX, part Z: arguments that are read as data, as symbolic values; from a contract to the end of a row's call.
-/
namespace Go.SX
open Go.ChangeShapes Go.WideShapes Go.RowKit Go.Deep
variable {C : Cod} {D : Codec C} {H : Type} {enc : TypeId × Value → H} {P : Program} {W : World}

/-- the blocks that were there -/
def Old (W : World) : Nat → Prop := fun b => b < W.heap.size
/-- The cells of type e, wherever they read, are those of an element of u. -/
structure ReadsAs (D : Codec C) (enc : TypeId × Value → H) (P : Program) (W : World) (e : TypeId) (u : C.U) (Ok : C.El u → Prop) : Prop where
 n : P.cellsOf e = C.n u
 el : ∀ fuel cs x, DataW.trod enc P W 0 (fun _ => true) true fuel e cs = some x → ∃ y : C.El u, PDenL D W (Old W) (D.enc u y) cs ∧ Ok y

theorem cell_old {a : Addr} {v : Value} (h : W.cell? a = some v) : a.block < W.heap.size := by
 unfold World.cell? at h
 rcases Nat.lt_or_ge a.block W.heap.size with h' | h'
 ·exact h'
 ·rw [Array.getElem?_eq_none h'] at h
  simp at h

theorem add_none (b o i : Nat) : (⟨b, o, none⟩ : Addr).add i = ⟨b, o + i, none⟩ := by
 unfold Addr.add
 split <;> simp_all

theorem readSlice {t e : TypeId} {u : C.U} {Ok : C.El u → Prop} (R : ReadsAs D enc P W e u Ok) (ht : P.underlying t = some (.slice e)) {fuel : Nat} {cs : List Value} {x : DataW H × List MemPlace}
  (h : DataW.trod enc P W 0 (fun _ => true) true fuel t cs = some x) :
  ∃ (v : Value) (l : List (C.El u)), cs = [v] ∧ PDen D W (Old W) (.dsl u l) v ∧ (∀ y ∈ l, Ok y) ∧ l.length ≤ maxLen := by
 rcases open_slice ht h with ⟨rfl, _⟩ | ⟨a, len, cap, m, n, Dd, Pl, rfl, _, hl, hm, hmm, _, hx⟩
 ·exact ⟨_, [], rfl, .dslNil u none 0, by simp, by simp⟩
 ·have hlm : len ≤ m := by rw [hmm]; split <;> omega
  by_cases h0 : len = 0
  ·subst h0; exact ⟨_, [], rfl, .dslNil u (some a) cap, by simp, by simp⟩
  haveI : Inhabited (C.El u) := ⟨C.dflt u⟩
  obtain ⟨f, hf⟩ := choose_lt (n := len) (p := fun i (y : C.El u) => ∃ cs', W.cells? 0 (a.add (i * P.cellsOf e)) (P.cellsOf e) = some cs' ∧ PDenL D W (Old W) (D.enc u y) cs' ∧ Ok y) (fun i hi => by
   obtain ⟨cs', h1, h2⟩ := hx i (by omega)
   obtain ⟨y, h3, h4⟩ := R.el n cs' _ h2
   exact ⟨y, cs', h1, h3, h4⟩)
  have hn := R.n
  have hnp := D.n_pos u
  -- the address is a plain one
  have hspot : a.spot = none := by
   obtain ⟨cs', h1, h2, _⟩ := hf 0 (by omega)
   obtain ⟨_, hlen, hc⟩ := World.cells?_some h1
   have := hc 0 (by omega)
   have hv : ∃ v, cs'[0]? = some v := ⟨cs'[0]'(by omega), by rw [List.getElem?_eq_getElem]⟩
   obtain ⟨v, hv⟩ := hv
   rw [hv] at this
   have hs := World.cell?_spot this
   simpa [Addr.add] using hs
  obtain ⟨b, o, sp⟩ := a
  simp only at hspot
  subst hspot
  have hcell : ∀ i, i < len → ∀ j, j < C.n u → ∃ v, W.cell? ⟨b, o + i * C.n u + j, none⟩ = some v ∧ ∀ pv, (D.enc u (f i))[j]? = some pv → PDen D W (Old W) pv v := by
   intro i hi j hj
   obtain ⟨cs', h1, h2, _⟩ := hf i hi
   rw [hn, add_none] at h1
   obtain ⟨_, hlen, hc⟩ := World.cells?_some h1
   have := hc j hj
   rw [add_none] at this
   have hv : cs'[j]? = some (cs'[j]'(by omega)) := by rw [List.getElem?_eq_getElem]
   rw [hv] at this
   exact ⟨_, this, fun pv hp => h2.2 j pv _ hp hv⟩
  have hen : ∀ y, (D.enc u y).length = C.n u := D.enc_len u
  refine ⟨_, (List.range len).map f, rfl, ?_, ?_, ?_⟩
  ·have key := PDen.dsl (D := D) (w := W) (F := Old W) u ((List.range len).map f) b o cap (fun i j => (W.cell? ⟨b, o + i * C.n u + j, none⟩).getD (.bool false)) ?_ (by simpa using hl) ?_ ?_
   ·simpa using key
   ·intro _
    obtain ⟨v, hv, _⟩ := hcell 0 (by omega) 0 hnp
    exact cell_old hv
   ·intro i x hx j pv hp
    have hi : i < len := by
     rcases Nat.lt_or_ge i len with h' | h'
     ·exact h'
     ·rw [List.getElem?_eq_none (by simpa using h')] at hx; cases hx
    have hxe : x = f i := by simpa [hi] using hx.symm
    subst hxe
    have hj : j < C.n u := by
     rw [← hen (f i)]
     rcases Nat.lt_or_ge j (D.enc u (f i)).length with h' | h'
     ·exact h'
     ·rw [List.getElem?_eq_none h'] at hp; cases hp
    obtain ⟨v, hv, _⟩ := hcell i hi j hj
    rw [hv]; rfl
   ·intro i x hx j pv hp
    have hi : i < len := by
     rcases Nat.lt_or_ge i len with h' | h'
     ·exact h'
     ·rw [List.getElem?_eq_none (by simpa using h')] at hx; cases hx
    have hxe : x = f i := by simpa [hi] using hx.symm
    subst hxe
    have hj : j < C.n u := by
     rw [← hen (f i)]
     rcases Nat.lt_or_ge j (D.enc u (f i)).length with h' | h'
     ·exact h'
     ·rw [List.getElem?_eq_none h'] at hp; cases hp
    obtain ⟨v, hv, hd⟩ := hcell i hi j hj
    rw [hv]; exact hd pv hp
  ·intro y hy
   obtain ⟨i, hi, rfl⟩ := List.mem_map.1 hy
   obtain ⟨_, _, _, hok⟩ := hf i (List.mem_range.1 hi)
   exact hok
  ·simp only [List.length_map, List.length_range]; omega

/-! ### Cells that are integers -/
def i64B (P : Program) (t : TypeId) : Bool := (match P.underlying t with | some (.int .i64) => true | _ => false) && P.cellsOf t == 1
theorem i64_of {t : TypeId} (h : i64B P t = true) : P.underlying t = some (.int .i64) ∧ P.cellsOf t = 1 := by
 unfold i64B at h
 simp only [Bool.and_eq_true, beq_iff_eq] at h
 refine ⟨?_, h.2⟩
 have h1 := h.1
 split at h1
 ·assumption
 ·cases h1
structure Z64 (n : Int) : Prop where
 h : -9223372036854775808 ≤ n ∧ n ≤ 9223372036854775807
theorem i64_wf {n : Int} (h : (Lit.int .i64 n).wf = true) : Z64 n := by
 simp only [Lit.wf, Bool.and_eq_true, decide_eq_true_eq] at h
 exact ⟨⟨h.1, h.2⟩⟩

theorem trod_i64 {t : TypeId} (ht : P.underlying t = some (.int .i64)) {fuel : Nat} {cs : List Value} {x : DataW H × List MemPlace} (h : DataW.trod enc P W 0 (fun _ => true) true fuel t cs = some x) :
  ∃ n, cs = [.int .i64 n] ∧ Z64 n := by
 obtain ⟨n, h1, _, h2⟩ := DataW.trod_int ht h
 exact ⟨n, h1, i64_wf h2⟩

theorem ints_of {n : Nat} {cs : List Value} (hlen : cs.length = n) (h : ∀ i, i < n → ∃ z, (cs.drop i).take 1 = [.int .i64 z] ∧ Z64 z) :
  ∃ zs : List Int, zs.length = n ∧ cs = zs.map (Value.int .i64) ∧ ∀ z ∈ zs, Z64 z := by
 induction cs generalizing n with
 | nil => exact ⟨[], by simpa using hlen, rfl, by simp⟩
 | cons c cs ih =>
  cases n with
  | zero => simp at hlen
  | succ n =>
   obtain ⟨zs, h1, h2, h3⟩ := ih (n := n) (by simpa using hlen) (fun i hi => by simpa using h (i + 1) (by omega))
   obtain ⟨z, hz, hz'⟩ := h 0 (by omega)
   simp at hz
   refine ⟨z :: zs, by simp [h1], by simp [hz, h2], ?_⟩
   intro y hy
   rcases List.mem_cons.1 hy with rfl | hy
   ·exact hz'
   ·exact h3 y hy

theorem trod_array_ints {t e : TypeId} {n : Nat} (ht : P.underlying t = some (.array n e)) (he : i64B P e = true) (hn : P.cellsOf t = n) {fuel : Nat} {cs : List Value} {x : DataW H × List MemPlace}
  (h : DataW.trod enc P W 0 (fun _ => true) true fuel t cs = some x) : ∃ zs : List Int, zs.length = n ∧ cs = zs.map (Value.int .i64) ∧ ∀ z ∈ zs, Z64 z := by
 obtain ⟨xs, m, _, _, hlen, hxs, hel⟩ := DataW.trod_array ht h
 obtain ⟨hu, hc⟩ := i64_of he
 refine ints_of (hlen.trans hn) fun i hi => ?_
 have := hel i hi
 rw [List.getElem?_eq_getElem (by omega), hc, Nat.mul_one] at this
 exact trod_i64 hu this

theorem pdenL_ints (D : Codec C) (w : World) (F : Nat → Prop) (zs : List Int) : PDenL D w F (zs.map (PV.int .i64)) (zs.map (Value.int .i64)) := by
 refine ⟨by simp, fun j pv v hp hv => ?_⟩
 simp only [List.getElem?_map, Option.map_eq_some_iff] at hp hv
 obtain ⟨z, hz, rfl⟩ := hp
 obtain ⟨z', hz', rfl⟩ := hv
 rw [hz] at hz'
 injection hz' with e
 subst e
 exact .int _ _

/-! ### The call's end -/
/-- A law's call: it returns true, and nothing that was there has turned. -/
theorem calls_true {f : FuncId} {svs : List (SV C)} (hM : Meets P D f svs [] (.p (.bool true)) []) {args : Array Value} (hG : GlobOK C W ⟨Old W, fun _ => .fresh⟩) (hd : DenA D W ⟨Old W, fun _ => .fresh⟩ svs args.toList) :
  Calls P f args W fun e W' => e = .returned (.bool true) ∧ Below W.heap.size W W' := by
 have hs : Sat D W ⟨Old W, fun _ => .fresh⟩ (getC ([] : List (HS C))) := ⟨fun c => (by simp [getC, HS.ok]), fun c b e => (by cases e), fun c c' b e => (by cases e), fun b hb => hb, hG⟩
 refine ((hM.calls W ⟨Old W, fun _ => .fresh⟩ (fun c _ => rfl) args.toList hs hd).calls (fun k => by simp [Fence.room, Fc])).mono ?_
 rintro e w' ⟨v, E', rfl, hv, _, hfr⟩
 simp only [Den] at hv
 cases hv
 exact ⟨rfl, hfr.os, hfr.tape, hfr.output, hfr.size, fun b hb => hfr.same b hb (by rintro ⟨c, hc⟩; cases hc)⟩
end Go.SX
