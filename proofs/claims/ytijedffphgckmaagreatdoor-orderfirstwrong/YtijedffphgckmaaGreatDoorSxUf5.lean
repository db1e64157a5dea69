/-
  Walks: Uf5, Os0, Ug0, Ug1, Ug2, Ug3, Or3, Ug4, Or4: what single functions of the program compute.
-/
import Derived.Test.YtijedffphgckmaaGreatDoorSxZ2
import Derived.ChangeMaps
import Derived.Test.YtijedffphgckmaaGreatDoorSxTd7
set_option linter.unusedVariables false
set_option linter.unusedSimpArgs false
namespace Go.SX
open Go.Proofs Go.Proofs.YtijedffphgckmaaGreatDoor Go.ChangeShapes Go.WideShapes Go.ChangeAt Go.RowKit
set_option maxHeartbeats 4000000
set_option maxRecDepth 100000
variable {H : Type} {enc : TypeId × Value → H} {W : World} {r : Reach} {b0' : Nat} {v : Value} {d : DataW H} {ps : List MemPlace}
theorem argStr (ho : Value.okWide Tryz.prog W r b0' 9 v) (h : DataW.Trod enc Tryz.prog W 0 (fun _ => true) true 9 v d ps) : ∃ s : Wd, Den Dc W (En W) (wS s) v ∧ (s.length : Int) ≤ 9223372036854775807 := by
 obtain ⟨s, rfl, _, _, hs⟩ := Go.ChangeMaps.open_string Tryz.underlying9 ho h
 have hm : maxLen = 9223372036854775807 := rfl
 refine ⟨s.data.toList, by simp only [wS, Den]; exact .str _, ?_⟩
 have : s.data.toList.length = s.size := Array.length_toList
 omega
theorem argByte (ho : Value.okWide Tryz.prog W r b0' 5 v) (h : DataW.Trod enc Tryz.prog W 0 (fun _ => true) true 5 v d ps) : ∃ n : Int, Den Dc W (En W) (.p (.int .u8 n)) v ∧ 0 ≤ n ∧ n ≤ 255 := by
 obtain ⟨n, rfl, _, _, hw⟩ := open_int Tryz.underlying5 ho h
 refine ⟨n, by simp only [Den]; exact .int _ _, ?_⟩
 simp only [Lit.wf, Bool.and_eq_true, decide_eq_true_eq] at hw
 exact ⟨hw.1, hw.2⟩
end Go.SX

/-
 Plain: numbers by their digits; the runs of a row by its bits.
-/
namespace Go.SX
theorem itoaF_fuel : ∀ (f g u : Nat), u < 10 ^ (f + 1) → u < 10 ^ (g + 1) → itoaF (f + 1) u = itoaF (g + 1) u := fun f g u h h' => by rw [itoaF_eq f u h, itoaF_eq g u h']
theorem itoaW_dig {n : Int} (h0 : 0 ≤ n) (h : n < 10) : itoaW n = [UInt8.ofNat (48 + n.toNat)] := by
 unfold itoaW
 rw [if_neg (by omega)]
 show itoaF (19 + 1) _ = _
 rw [itoaF, if_pos (by omega)]
theorem itoaW_step {n : Int} (h0 : 10 ≤ n) (h : n < 1000000000000000) : itoaW n = itoaW (n.tdiv 10) ++ itoaW (n.tmod 10) := by
 have e1 : n.tdiv 10 = n / 10 := Int.tdiv_eq_ediv_of_nonneg (by omega)
 have e2 : n.tmod 10 = n % 10 := Int.tmod_eq_emod_of_nonneg (by omega)
 rw [e1, e2, itoaW_dig (n := n % 10) (by omega) (by omega)]
 unfold itoaW
 rw [if_neg (by omega), if_neg (by omega)]
 have h1 : itoaF 20 n.toNat = itoaF 19 (n.toNat / 10) ++ [UInt8.ofNat (48 + n.toNat % 10)] := by
  show itoaF (19 + 1) _ = _
  rw [itoaF, if_neg (by omega)]
 rw [h1, show (n / 10).toNat = n.toNat / 10 by omega, show (n % 10).toNat = n.toNat % 10 by omega, itoaF_fuel 18 19 (n.toNat / 10) (by omega) (by omega)]
/-! runs by bits -/
theorem mk_bit {p : Run} (h : p.1 ≤ p.2) (i : Nat) : (mk p).testBit i = (decide (p.1 ≤ i) && decide (i ≤ p.2)) := by
 unfold mk
 rw [Nat.testBit_two_pow_mul, Nat.testBit_two_pow_sub_one]
 by_cases h1 : p.1 ≤ i
 ·simp [h1]; omega
 ·simp [h1]
theorem rc_lo {l : List Run} : ∀ {c : Nat}, RC c l → ∀ q ∈ l, c ≤ q.1 ∧ q.1 ≤ q.2 ∧ q.2 ≤ 47 := by
 induction l with
 | nil => intro c _ q hq; cases hq
 | cons a l ih =>
  intro c h q hq
  rcases List.mem_cons.1 hq with rfl | hq
  ·exact ⟨h.1, h.2.1, h.2.2.1⟩
  ·have := ih h.2.2.2 q hq; have := h.1; have := h.2.1; omega
theorem val_bits : ∀ {l : List Run} {c : Nat}, RC c l → ∀ i, (val l).testBit i = true ↔ ∃ q ∈ l, q.1 ≤ i ∧ i ≤ q.2
 | [], c, _, i => by simp [val]
 | p :: l, c, h, i => by
  obtain ⟨k, hk⟩ := val_dvd h.2.2.2
  have h1 := mk_add h.2.1
  have h2 : 2 ^ (p.2 + 1) ≤ 2 ^ (p.2 + 2) := Nat.pow_le_pow_right (by omega) (by omega)
  have h3 := Nat.two_pow_pos p.1
  have hlt : mk p < 2 ^ (p.2 + 2) := by omega
  have e : val (p :: l) = 2 ^ (p.2 + 2) * k + mk p := by rw [val, hk, Nat.add_comm]
  have ih := val_bits h.2.2.2 i
  rw [hk, Nat.testBit_two_pow_mul] at ih
  rw [e, Nat.testBit_two_pow_mul_add _ hlt]
  by_cases hi : i < p.2 + 2
  ·rw [if_pos hi, mk_bit h.2.1]
   simp only [Bool.and_eq_true, decide_eq_true_eq, List.mem_cons, exists_eq_or_imp]
   constructor
   ·intro h; exact .inl h
   ·rintro (h | ⟨q, hq, h4, h5⟩)
    ·exact h
    ·have := (rc_lo h.2.2.2 q hq).1; omega
  ·rw [if_neg hi]
   simp only [List.mem_cons, exists_eq_or_imp]
   simp only [Bool.and_eq_true, decide_eq_true_eq] at ih
   constructor
   ·intro h; exact .inr (ih.1 ⟨by omega, h⟩)
   ·rintro (h | h)
    ·omega
    ·exact (ih.2 h).2
/-- the runs that begin ahead of x -/
def ahead (x : Nat) (l : List Run) : List Run := l.filter fun p => decide (p.1 < x)
theorem ahead_zero (l : List Run) : ahead 0 l = [] := by unfold ahead; simp
theorem ahead_all {l : List Run} {c : Nat} (h : RC c l) : ahead 48 l = l := by
 unfold ahead
 rw [List.filter_eq_self]
 intro q hq
 have := rc_lo h q hq
 simp; omega
theorem ahead_none {l : List Run} {x : Nat} (h : ∀ q ∈ l, q.1 ≠ x) : ahead (x + 1) l = ahead x l := by
 unfold ahead
 refine List.filter_congr fun q hq => ?_
 have := h q hq
 simp; omega
theorem ahead_here : ∀ {l : List Run} {c x : Nat}, RC c l → ∀ p ∈ l, p.1 = x → ahead (x + 1) l = ahead x l ++ [p]
 | [], c, x, _, p, hp, _ => by cases hp
 | a :: l, c, x, h, p, hp, e => by
  rcases List.mem_cons.1 hp with rfl | hp
  ·have hn : ∀ z, z ≤ p.2 + 2 → ahead z l = [] := fun z hz => by
    unfold ahead
    rw [List.filter_eq_nil_iff]
    intro q hq
    have := (rc_lo h.2.2.2 q hq).1
    simp; omega
   have h21 := h.2.1
   have e1 := hn (x + 1) (by omega)
   have e2 := hn x (by omega)
   unfold ahead at e1 e2 ⊢
   rw [List.filter_cons_of_pos (by simp; omega), List.filter_cons_of_neg (by simp; omega), e1, e2]; rfl
  ·have ih := ahead_here h.2.2.2 p hp e
   have := (rc_lo h.2.2.2 p hp).1
   have h21 := h.2.1
   unfold ahead at ih ⊢
   rw [List.filter_cons_of_pos (by simp; omega), List.filter_cons_of_pos (by simp; omega), ih]; rfl
/-- does a run begin at x? -/
def begB (n x : Nat) : Bool := n.testBit x && (decide (x = 0) || !n.testBit (x - 1))
theorem rc_same : ∀ {l : List Run} {c : Nat}, RC c l → ∀ p ∈ l, ∀ q ∈ l, p.1 ≤ q.2 + 1 → q.1 ≤ p.2 + 1 → p = q
 | [], c, _, p, hp, _, _, _, _ => by cases hp
 | a :: l, c, h, p, hp, q, hq, h1, h2 => by
  have hlo := rc_lo h.2.2.2
  rcases List.mem_cons.1 hp with e | hp'
  ·rcases List.mem_cons.1 hq with e2 | hq'
   ·rw [e, e2]
   ·have := (hlo q hq').1; subst e; omega
  ·rcases List.mem_cons.1 hq with e2 | hq'
   ·have := (hlo p hp').1; subst e2; omega
   ·exact rc_same h.2.2.2 p hp' q hq' h1 h2
theorem beg_true {n x : Nat} (h : n < 2 ^ 48) (hb : begB n x = true) : ∃ p ∈ runsN n, p.1 = x ∧ x ≤ p.2 ∧ p.2 ≤ 47 ∧ (∀ i, x ≤ i → i ≤ p.2 → n.testBit i = true) ∧ n.testBit (p.2 + 1) = false := by
 obtain ⟨h1, h2⟩ := runsN_rc h
 have hB := val_bits h1
 rw [h2] at hB
 unfold begB at hb
 simp only [Bool.and_eq_true, Bool.or_eq_true, decide_eq_true_eq, Bool.not_eq_true'] at hb
 obtain ⟨p, hp, p1, p2⟩ := (hB x).1 hb.1
 have hlo := rc_lo h1 p hp
 have hpx : p.1 = x := by
  rcases Nat.lt_or_eq_of_le p1 with h3 | h3
  ·exfalso
   rcases hb.2 with h4 | h4
   ·omega
   ·have := (hB (x - 1)).2 ⟨p, hp, by omega, by omega⟩
    rw [h4] at this; cases this
  ·exact h3
 refine ⟨p, hp, hpx, p2, hlo.2.2, fun i hi hi2 => (hB i).2 ⟨p, hp, by omega, hi2⟩, ?_⟩
 cases hn : n.testBit (p.2 + 1) with
 | false => rfl
 | true =>
  obtain ⟨q, hq, q1, q2⟩ := (hB _).1 hn
  have := rc_same h1 p hp q hq (by omega) (by omega)
  subst this
  omega
theorem beg_false {n x : Nat} (h : n < 2 ^ 48) (hb : begB n x = false) : ∀ p ∈ runsN n, p.1 ≠ x := by
 obtain ⟨h1, h2⟩ := runsN_rc h
 have hB := val_bits h1
 rw [h2] at hB
 intro p hp e
 have hlo := rc_lo h1 p hp
 have e1 : n.testBit x = true := (hB x).2 ⟨p, hp, by omega, by omega⟩
 unfold begB at hb
 rw [e1, Bool.true_and] at hb
 simp only [Bool.or_eq_false_iff, decide_eq_false_iff_not, Bool.not_eq_false'] at hb
 obtain ⟨q, hq, q1, q2⟩ := (hB (x - 1)).1 hb.2
 have := rc_same h1 p hp q hq (by omega) (by omega)
 subst this
 omega
end Go.SX

namespace Go.SX
open Go.Proofs
set_option maxHeartbeats 4000000
set_option maxRecDepth 100000
/-- the reference's numbers -/
theorem rfnum : ∀ (f : Nat) (n : Int), 0 ≤ n → n < 10 ^ (f + 1) → n < 1000000000000 → Meets Tryz.prog Dc 58 [iS n] [] (wS (itoaW n)) [] := by
 intro f
 induction f with
 | zero =>
  intro n h0 h1 h2
  have h1 : n < 10 := by simpa using h1
  rw [itoaW_dig h0 h1]
  have key : ∀ k : Nat, k < 10 → List.drop (k : Int).toNat (List.take ((k : Int) + 1).toNat [48, 49, 50, 51, 52, 53, 54, 55, 56, 57]) = [UInt8.ofNat (48 + k)] := by decide
  have hk := key n.toNat (by omega)
  rw [show ((n.toNat : Nat) : Int) = n by omega] at hk
  refine meets_of_gx Ax tab_ok Tryz.func58 (c := _) rfl Tryz.call58 60 ?_
  (repeat' ((conv => whnf); first | (exfalso; omega) | refine x0C ?_ | refine spC (fun hb => ?_) fun hb => ?_ | refine nilC (fun hb => ?_) ?_ | refine taC ?_ | refine saC ?_ | exact sdV | refine side_and ?_ ?_ | refine drawX_of mixed ?_))
  all_goals (rw [← hk]; exact vwV)
 | succ f ih =>
  intro n h0 h1 h2
  by_cases h10 : n < 10
  ·exact ih n h0 (by
    have : (10 : Int) ≤ 10 ^ (f + 1) := by
     have := Nat.one_le_two_pow (n := f)
     have h := Nat.pow_le_pow_right (n := 10) (by omega) (show 1 ≤ f + 1 by omega)
     exact_mod_cast h
    omega) h2
  ·have e1 : n.tdiv 10 = n / 10 := Int.tdiv_eq_ediv_of_nonneg (by omega)
   have e2 : n.tmod 10 = n % 10 := Int.tmod_eq_emod_of_nonneg (by omega)
   have q1 := ih (n.tdiv 10) (by omega) (by rw [e1]; rw [Int.pow_succ] at h1; omega) (by omega)
   have hp : (10 : Int) ≤ 10 ^ (f + 1) := by
    have h := Nat.pow_le_pow_right (n := 10) (by omega) (show 1 ≤ f + 1 by omega)
    exact_mod_cast h
   have q2 := ih (n.tmod 10) (by omega) (by omega) (by omega)
   rw [itoaW_step (by omega) (by omega)]
   have l1 := itoaW_len (n.tdiv 10)
   have l2 := itoaW_len (n.tmod 10)
   refine meets_of_gx Ax tab_ok Tryz.func58 (c := _) rfl Tryz.call58 60 ?_
   (repeat' ((conv => whnf); first | (exfalso; omega) | refine cpC (q1) ?_ | refine dpC (q1) ?_ | refine cpC (q2) ?_ | refine dpC (q2) ?_ | refine x0C ?_ | refine spC (fun hb => ?_) fun hb => ?_ | refine nilC (fun hb => ?_) ?_ | refine taC ?_ | refine saC ?_ | exact sdV | refine side_and ?_ ?_ | refine drawX_of mixed ?_))
   all_goals exact vwV
theorem bit_tmod {r : Int} {x : Nat} (h0 : 0 ≤ r) (hx : x < 48) : (shrop .i64 r x).tmod 2 = if r.toNat.testBit x then 1 else 0 := by
 have h := shr_bit h0 hx
 cases hb : r.toNat.testBit x with
 | true => rw [hb] at h; simpa using h
 | false =>
  rw [hb] at h
  have h := of_decide_eq_false h
  have h2 : (0 : Int) ≤ (shrop .i64 r x).tmod 2 ∧ (shrop .i64 r x).tmod 2 ≤ 1 := by
   obtain ⟨m, rfl⟩ : ∃ m : Nat, r = m := ⟨r.toNat, by omega⟩
   unfold shrop
   have hp : (0 : Int) ≤ ((2 ^ x : Nat) : Int) := Int.natCast_nonneg _
   rw [pow_min hx, Int.fdiv_eq_ediv_of_nonneg _ hp]
   rw [show ((m : Int) / ((2 ^ x : Nat) : Int)) = ((m / 2 ^ x : Nat) : Int) from (Int.natCast_ediv _ _).symm]
   rw [show (((m / 2 ^ x : Nat) : Int).tmod 2) = (((m / 2 ^ x) % 2 : Nat) : Int) from rfl]
   omega
  simp only [Bool.false_eq_true, if_false]
  omega
theorem rfarea (rows : List Int) (hr : areaB rows = true) : Meets Tryz.prog Dc 84 [areaA rows] [] (wsS (rowsW 0 rows)) [] := by
 simp only [areaB, Bool.and_eq_true, decide_eq_true_eq, List.all_eq_true] at hr
 obtain ⟨hl, hro⟩ := hr
 have hl : rows.length = 24 := by omega
 have hR : ∀ y : Nat, y < 24 → 0 ≤ rows.getD (y : Int).toNat (Cd.dflt U.int) ∧ rows.getD (y : Int).toNat (Cd.dflt U.int) ≤ 281474976710655 := fun y hy => (inB_iff _ _ _).1 (hro _ (List.mem_of_getElem? (getD_some (d := Cd.dflt U.int) (show y < rows.length by omega))))
 clear hro
 refine meets_of_gx Ax tab_ok Tryz.func84 (c := _) rfl Tryz.call84 200 ?_
 (repeat' ((conv => whnf); first | (exfalso; omega) | refine x0C ?_ | refine spC (fun hb => ?_) fun hb => ?_ | refine nilC (fun hb => ?_) ?_ | refine taC ?_ | refine saC ?_ | exact sdV | refine side_and ?_ ?_ | refine drawX_of mixed ?_))
 refine loop_upT [some 0, none] (fun q : Nat × List Wd => [(3, .slice 1 0 1 0 q.2.length), (4, iS q.1)]) (fun q => [(1, .rows U.str q.2)]) (fun q => q.1 ≤ 24 ∧ q.2 = rowsW 0 (rows.take q.1) ∧ q.2.length ≤ 192 * q.1) (fun q => 24 - q.1) (0, []) ⟨Nat.zero_le _, by simp [rowsW], by simp⟩ (by exact bkI) ?_
 rintro ⟨y, J⟩ ⟨hy, hJ, hJl⟩ K hK
 dsimp only at hy hJ hJl hK ⊢
 rcases Nat.lt_or_ge y 24 with hlt | hge
 ·have hRy := hR y hlt
  (repeat' ((conv => whnf); first | (exfalso; omega) | refine x0C ?_ | refine spC (fun hb => ?_) fun hb => ?_ | refine nilC (fun hb => ?_) ?_ | refine taC ?_ | refine saC ?_ | exact sdV | refine side_and ?_ ?_ | refine drawX_of mixed ?_))
  have hr : rows.getD (y : Int).toNat (Cd.dflt U.int) = rows.getD y 0 := rfl
  obtain ⟨n, hn⟩ : ∃ n, n = (rows.getD (y : Int).toNat (Cd.dflt U.int)).toNat := ⟨_, rfl⟩
  have hn48 : n < 2 ^ 48 := by omega
  obtain ⟨hrc, hval⟩ := runsN_rc hn48
  have hbit := fun x (hx : x < 48) => bit_tmod (r := rows.getD (y : Int).toNat (Cd.dflt U.int)) (x := x) hRy.1 hx
  rw [← hn] at hbit
  have hlen := runsN_le hn48
  have hnext : rowsW 0 (rows.take (y + 1)) = rowsW 0 (rows.take y) ++ (runsN n).flatMap (runW y) := by
   rw [take_getD (d := Cd.dflt U.int) (show y < rows.length by omega), rowsW_snoc, List.length_take, Nat.min_eq_left (by omega), Nat.zero_add, hn]; rfl
  refine loop_upT [some 0, some 1] (fun q : Nat × List Wd => [(3, .slice 1 0 1 0 q.2.length), (5, iS q.1)]) (fun q => [(1, .rows U.str q.2)]) (fun q => q.1 ≤ 48 ∧ q.2 = J ++ (ahead q.1 (runsN n)).flatMap (runW y)) (fun q => 48 - q.1) (0, J) ⟨Nat.zero_le _, by simp [ahead_zero]⟩ (by exact bkI) ?_
  rintro ⟨x, J2⟩ ⟨hx, hJ2⟩ K2 hK2
  dsimp only at hx hJ2 hK2 ⊢
  have hJ2l : J2.length ≤ 192 * y + 192 := by
   rw [hJ2, List.length_append, flat_run_len]
   have : (ahead x (runsN n)).length ≤ (runsN n).length := List.length_filter_le _ _
   omega
  rcases Nat.lt_or_ge x 48 with hxl | hxg
  ·have hb0 := hbit x hxl
   have hb1 : 0 < x → (shrop .i64 (rows.getD (y : Int).toNat (Cd.dflt U.int)) ((x : Int) - 1)).tmod 2 = if n.testBit (x - 1) then 1 else 0 := fun h => by
    have := hbit (x - 1) (by omega)
    rw [show ((x - 1 : Nat) : Int) = (x : Int) - 1 by omega] at this
    exact this
   cases hbeg : begB n x with
   | true =>
    obtain ⟨p, hp, p1, p2, p3, p4, p5⟩ := beg_true hn48 hbeg
    have hnew := ahead_here hrc p hp p1
    have hbx := p4 x (Nat.le_refl _) p2
    rw [hbx] at hb0
    have hb2 : 0 < x → n.testBit (x - 1) = false := fun h => by
     unfold begB at hbeg
     simp only [Bool.and_eq_true, Bool.or_eq_true, decide_eq_true_eq, Bool.not_eq_true'] at hbeg
     rcases hbeg.2 with h1 | h1
     ·omega
     ·exact h1
    have hb3 : 0 < x → (shrop .i64 (rows.getD (y : Int).toNat (Cd.dflt U.int)) ((x : Int) - 1)).tmod 2 = 0 := fun h => by rw [hb1 h, hb2 h]; rfl
    rw [if_pos rfl] at hb0
    clear hb1 hb2 hbx
    rcases Nat.eq_zero_or_pos x with hx0 | hx0
    ·clear hb3
     (repeat' ((conv => whnf); first | (exfalso; omega) | refine x0C ?_ | refine spC (fun hb => ?_) fun hb => ?_ | refine nilC (fun hb => ?_) ?_ | refine taC ?_ | refine saC ?_ | exact sdV | refine side_and ?_ ?_ | refine drawX_of mixed ?_))
     conv => whnf
     refine loop_up (fun t : Nat => [(6, iS t)]) (fun _ => []) (fun t => x ≤ t ∧ t ≤ p.2) (fun t => p.2 - t) x ⟨Nat.le_refl _, p2⟩ (by exact bkI) ?_
     rintro t ⟨ht1, ht2⟩ K3 hK3
     rcases Nat.lt_or_eq_of_le ht2 with ht | ht
     ·have hb4 := hbit (t + 1) (by omega)
      rw [p4 (t + 1) (by omega) (by omega), if_pos rfl, show ((t + 1 : Nat) : Int) = (t : Int) + 1 from rfl] at hb4
      (repeat' ((conv => whnf); first | (exfalso; omega) | refine hK3 (t + 1) [some 0, some 1] _ _ ⟨⟨by omega, by omega⟩⟩ ⟨by omega⟩ (by exact bkI) | refine x0C ?_ | refine spC (fun hb => ?_) fun hb => ?_ | refine nilC (fun hb => ?_) ?_ | refine taC ?_ | refine saC ?_ | exact sdV | refine side_and ?_ ?_ | refine drawX_of mixed ?_))
     ·have hb4 : p.2 + 1 < 48 → (shrop .i64 (rows.getD (y : Int).toNat (Cd.dflt U.int)) ((t : Int) + 1)).tmod 2 = 0 := fun h => by
       have := hbit (p.2 + 1) h
       rw [p5, ← ht] at this
       exact this
      have q1 := rfnum 3 y (by omega) (by omega) (by omega)
      have q2 := rfnum 3 x (by omega) (by omega) (by omega)
      have q3 := rfnum 3 t (by omega) (by omega) (by omega)
      have hRun : runW y p = [w_at, itoaW y, itoaW x, itoaW t] := by rw [ht]; unfold runW; rw [p1]
      have hJ3 : List.take J2.length J2 ++ List.take 4 (List.drop 0 [w_at, itoaW y, itoaW x, itoaW t]) = J ++ (ahead (x + 1) (runsN n)).flatMap (runW y) := by
       rw [List.take_length, show List.take 4 (List.drop 0 [w_at, itoaW y, itoaW x, itoaW t]) = [w_at, itoaW y, itoaW x, itoaW t] from rfl]
       rw [hnew, List.flatMap_append, ← List.append_assoc, ← hJ2, List.flatMap_cons, hRun]; rfl
      by_cases h48 : p.2 + 1 < 48
      ·have hb4 := hb4 h48
       (repeat' ((conv => whnf); first | (exfalso; omega) | refine cpC (q1) ?_ | refine dpC (q1) ?_ | refine cpC (q2) ?_ | refine dpC (q2) ?_ | refine cpC (q3) ?_ | refine dpC (q3) ?_ | refine hK2 (x + 1, List.take J2.length J2 ++ List.take 4 (List.drop 0 [w_at, itoaW y, itoaW x, itoaW t])) [some 0, some 3] _ _ ⟨⟨by dsimp only; omega, hJ3⟩⟩ ⟨by dsimp only; omega⟩ (by exact bkI) | refine x0C ?_ | refine spC (fun hb => ?_) fun hb => ?_ | refine nilC (fun hb => ?_) ?_ | refine taC ?_ | refine saC ?_ | exact sdV | refine side_and ?_ ?_ | refine drawX_of mixed ?_))
      ·clear hb4
       (repeat' ((conv => whnf); first | (exfalso; omega) | refine cpC (q1) ?_ | refine dpC (q1) ?_ | refine cpC (q2) ?_ | refine dpC (q2) ?_ | refine cpC (q3) ?_ | refine dpC (q3) ?_ | refine hK2 (x + 1, List.take J2.length J2 ++ List.take 4 (List.drop 0 [w_at, itoaW y, itoaW x, itoaW t])) [some 0, some 3] _ _ ⟨⟨by dsimp only; omega, hJ3⟩⟩ ⟨by dsimp only; omega⟩ (by exact bkI) | refine x0C ?_ | refine spC (fun hb => ?_) fun hb => ?_ | refine nilC (fun hb => ?_) ?_ | refine taC ?_ | refine saC ?_ | exact sdV | refine side_and ?_ ?_ | refine drawX_of mixed ?_))
    ·have hb3 := hb3 hx0
     (repeat' ((conv => whnf); first | (exfalso; omega) | refine x0C ?_ | refine spC (fun hb => ?_) fun hb => ?_ | refine nilC (fun hb => ?_) ?_ | refine taC ?_ | refine saC ?_ | exact sdV | refine side_and ?_ ?_ | refine drawX_of mixed ?_))
     conv => whnf
     refine loop_up (fun t : Nat => [(6, iS t)]) (fun _ => []) (fun t => x ≤ t ∧ t ≤ p.2) (fun t => p.2 - t) x ⟨Nat.le_refl _, p2⟩ (by exact bkI) ?_
     rintro t ⟨ht1, ht2⟩ K3 hK3
     rcases Nat.lt_or_eq_of_le ht2 with ht | ht
     ·have hb4 := hbit (t + 1) (by omega)
      rw [p4 (t + 1) (by omega) (by omega), if_pos rfl, show ((t + 1 : Nat) : Int) = (t : Int) + 1 from rfl] at hb4
      (repeat' ((conv => whnf); first | (exfalso; omega) | refine hK3 (t + 1) [some 0, some 1] _ _ ⟨⟨by omega, by omega⟩⟩ ⟨by omega⟩ (by exact bkI) | refine x0C ?_ | refine spC (fun hb => ?_) fun hb => ?_ | refine nilC (fun hb => ?_) ?_ | refine taC ?_ | refine saC ?_ | exact sdV | refine side_and ?_ ?_ | refine drawX_of mixed ?_))
     ·have hb4 : p.2 + 1 < 48 → (shrop .i64 (rows.getD (y : Int).toNat (Cd.dflt U.int)) ((t : Int) + 1)).tmod 2 = 0 := fun h => by
       have := hbit (p.2 + 1) h
       rw [p5, ← ht] at this
       exact this
      have q1 := rfnum 3 y (by omega) (by omega) (by omega)
      have q2 := rfnum 3 x (by omega) (by omega) (by omega)
      have q3 := rfnum 3 t (by omega) (by omega) (by omega)
      have hRun : runW y p = [w_at, itoaW y, itoaW x, itoaW t] := by rw [ht]; unfold runW; rw [p1]
      have hJ3 : List.take J2.length J2 ++ List.take 4 (List.drop 0 [w_at, itoaW y, itoaW x, itoaW t]) = J ++ (ahead (x + 1) (runsN n)).flatMap (runW y) := by
       rw [List.take_length, show List.take 4 (List.drop 0 [w_at, itoaW y, itoaW x, itoaW t]) = [w_at, itoaW y, itoaW x, itoaW t] from rfl]
       rw [hnew, List.flatMap_append, ← List.append_assoc, ← hJ2, List.flatMap_cons, hRun]; rfl
      by_cases h48 : p.2 + 1 < 48
      ·have hb4 := hb4 h48
       (repeat' ((conv => whnf); first | (exfalso; omega) | refine cpC (q1) ?_ | refine dpC (q1) ?_ | refine cpC (q2) ?_ | refine dpC (q2) ?_ | refine cpC (q3) ?_ | refine dpC (q3) ?_ | refine hK2 (x + 1, List.take J2.length J2 ++ List.take 4 (List.drop 0 [w_at, itoaW y, itoaW x, itoaW t])) [some 0, some 3] _ _ ⟨⟨by dsimp only; omega, hJ3⟩⟩ ⟨by dsimp only; omega⟩ (by exact bkI) | refine x0C ?_ | refine spC (fun hb => ?_) fun hb => ?_ | refine nilC (fun hb => ?_) ?_ | refine taC ?_ | refine saC ?_ | exact sdV | refine side_and ?_ ?_ | refine drawX_of mixed ?_))
      ·clear hb4
       (repeat' ((conv => whnf); first | (exfalso; omega) | refine cpC (q1) ?_ | refine dpC (q1) ?_ | refine cpC (q2) ?_ | refine dpC (q2) ?_ | refine cpC (q3) ?_ | refine dpC (q3) ?_ | refine hK2 (x + 1, List.take J2.length J2 ++ List.take 4 (List.drop 0 [w_at, itoaW y, itoaW x, itoaW t])) [some 0, some 3] _ _ ⟨⟨by dsimp only; omega, hJ3⟩⟩ ⟨by dsimp only; omega⟩ (by exact bkI) | refine x0C ?_ | refine spC (fun hb => ?_) fun hb => ?_ | refine nilC (fun hb => ?_) ?_ | refine taC ?_ | refine saC ?_ | exact sdV | refine side_and ?_ ?_ | refine drawX_of mixed ?_))
   | false =>
    have hnone := ahead_none (beg_false hn48 hbeg)
    have hJ3 : J2 = J ++ (ahead (x + 1) (runsN n)).flatMap (runW y) := by rw [hnone]; exact hJ2
    unfold begB at hbeg
    by_cases hbx : n.testBit x = true
    ·rw [hbx, Bool.true_and] at hbeg
     simp only [Bool.or_eq_false_iff, decide_eq_false_iff_not, Bool.not_eq_false'] at hbeg
     have hx0 : 0 < x := by omega
     have hb3 := hb1 hx0
     rw [hbeg.2, if_pos rfl] at hb3
     rw [hbx, if_pos rfl] at hb0
     clear hb1
     (repeat' ((conv => whnf); first | (exfalso; omega) | refine hK2 (x + 1, J2) [some 0, some 1] _ _ ⟨⟨by dsimp only; omega, hJ3⟩⟩ ⟨by dsimp only; omega⟩ (by exact bkI) | refine x0C ?_ | refine spC (fun hb => ?_) fun hb => ?_ | refine nilC (fun hb => ?_) ?_ | refine taC ?_ | refine saC ?_ | exact sdV | refine side_and ?_ ?_ | refine drawX_of mixed ?_))
    ·rw [if_neg hbx] at hb0
     clear hb1
     (repeat' ((conv => whnf); first | (exfalso; omega) | refine hK2 (x + 1, J2) [some 0, some 1] _ _ ⟨⟨by dsimp only; omega, hJ3⟩⟩ ⟨by dsimp only; omega⟩ (by exact bkI) | refine x0C ?_ | refine spC (fun hb => ?_) fun hb => ?_ | refine nilC (fun hb => ?_) ?_ | refine taC ?_ | refine saC ?_ | exact sdV | refine side_and ?_ ?_ | refine drawX_of mixed ?_))
  ·have hx48 : x = 48 := by omega
   have hJ3 : J2 = rowsW 0 (rows.take (y + 1)) := by rw [hJ2, hx48, ahead_all hrc, hnext, hJ]
   have hJ4 : J2.length ≤ 192 * (y + 1) := by omega
   (repeat' ((conv => whnf); first | (exfalso; omega) | refine hK (y + 1, J2) [some 0, some 1] _ _ ⟨⟨by dsimp only; omega, hJ3, hJ4⟩⟩ ⟨by dsimp only; omega⟩ (by exact bkI) | refine x0C ?_ | refine spC (fun hb => ?_) fun hb => ?_ | refine nilC (fun hb => ?_) ?_ | refine taC ?_ | refine saC ?_ | exact sdV | refine side_and ?_ ?_ | refine drawX_of mixed ?_))
 ·rw [List.take_of_length_le (by omega)] at hJ
  rw [← hJ]
  (repeat' ((conv => whnf); first | (exfalso; omega) | refine x0C ?_ | refine spC (fun hb => ?_) fun hb => ?_ | refine nilC (fun hb => ?_) ?_ | refine taC ?_ | refine saC ?_ | exact sdV | refine side_and ?_ ?_ | refine drawX_of mixed ?_))
  all_goals exact vwV
theorem rfsee (g : Goal) (h : OkG g) (hk : g.kind = 1) : Meets Tryz.prog Dc 59 [goalA g] [] (wsS (goalW g)) [] := by
 obtain ⟨b1, b2, b3, b4, b5, _, _⟩ := h.see hk
 have q0 := rfarea g.rows b1
 have q1 := rfnum 11 g.from_ (by omega) (by omega) (by omega)
 have q2 := rfnum 11 g.to_ (by omega) (by omega) (by omega)
 have q3 := rfnum 11 g.low (by omega) (by omega) (by omega)
 have q4 := rfnum 11 g.high (by omega) (by omega) (by omega)
 have hlen := seeW_len b1
 have eW : goalW g = seeW g := by rw [goalW_eq, if_pos hk]
 rw [eW]
 have hrl : (rowsW 0 g.rows).length ≤ 4700 := by simp only [seeW, List.length_append, List.length_cons] at hlen; omega
 have eS : ∀ w : Wd, (if g.clear = true then w_clear else w_any) = w → seeW g = w_see :: (rowsW 0 g.rows ++ [w_from, itoaW g.from_, w_to, itoaW g.to_, w_sun, itoaW g.low, w_to, itoaW g.high, w]) := fun w h => by
  unfold seeW; rw [h]; rfl
 generalize rowsW 0 g.rows = R at *
 cases hc : g.clear with
 | true =>
  rw [eS w_clear (by rw [hc]; rfl)]
  refine meets_of_gx Ax tab_ok Tryz.func59 (c := _) rfl Tryz.call59 300 ?_
  (repeat' ((conv => whnf); first | (exfalso; omega) | refine cpC (q0) ?_ | refine dpC (q0) ?_ | refine cpC (q1) ?_ | refine dpC (q1) ?_ | refine cpC (q2) ?_ | refine dpC (q2) ?_ | refine cpC (q3) ?_ | refine dpC (q3) ?_ | refine cpC (q4) ?_ | refine dpC (q4) ?_ | refine x0C ?_ | refine spC (fun hb => ?_) fun hb => ?_ | refine nilC (fun hb => ?_) ?_ | refine taC ?_ | refine saC ?_ | exact sdV | refine side_and ?_ ?_ | refine drawX_of mixed ?_))
  all_goals first | exact vwV | (rw [hc] at hb; exact absurd hb (by decide))
 | false =>
  rw [eS w_any (by rw [hc]; rfl)]
  refine meets_of_gx Ax tab_ok Tryz.func59 (c := _) rfl Tryz.call59 300 ?_
  (repeat' ((conv => whnf); first | (exfalso; omega) | refine cpC (q0) ?_ | refine dpC (q0) ?_ | refine cpC (q1) ?_ | refine dpC (q1) ?_ | refine cpC (q2) ?_ | refine dpC (q2) ?_ | refine cpC (q3) ?_ | refine dpC (q3) ?_ | refine cpC (q4) ?_ | refine dpC (q4) ?_ | refine x0C ?_ | refine spC (fun hb => ?_) fun hb => ?_ | refine nilC (fun hb => ?_) ?_ | refine taC ?_ | refine saC ?_ | exact sdV | refine side_and ?_ ?_ | refine drawX_of mixed ?_))
  all_goals first | exact vwV | (rw [hc] at hb; exact absurd hb (by decide))
theorem rfone (g k : Goal) (h : OkG g) (hk : g.kind = 2 ∨ g.kind = 3 ∨ g.kind = 4) (hkid : g.kids = [k]) (hn : (goalW k).length ≤ 100000) (ih : Meets Tryz.prog Dc 59 [goalA k] [] (wsS (goalW k)) []) : Meets Tryz.prog Dc 59 [goalA g] [] (wsS (goalW g)) [] := by
 have hl : (g.kids.length : Int) = 1 := by rw [hkid]; rfl
 have hgk : g.kids.getD (Int.toNat 0) (Cd.dflt U.goal) = k := by rw [hkid]; rfl
 replace ih : Meets Tryz.prog Dc 59 [goalA (g.kids.getD (Int.toNat 0) (Cd.dflt U.goal))] [] (wsS (goalW k)) [] := by rw [hgk]; exact ih
 clear hgk
 rcases hk with hk | hk | hk
 ·obtain ⟨b1, b2⟩ := h.lim2 hk
  have eW : goalW g = [w_pair, w_looks, itoaW g.low, w_within, itoaW g.within, w_of] ++ goalW k := by rw [goalW_eq, if_neg (by omega), if_pos (.inl hk), hkid, firstW, headW, if_pos hk]
  rw [eW]
  have q1 := rfnum 11 g.low (by omega) (by omega) (by omega)
  have q2 := rfnum 11 g.within (by omega) (by omega) (by omega)
  generalize goalW k = R at *
  refine meets_of_gx Ax tab_ok Tryz.func59 (c := _) rfl Tryz.call59 300 ?_
  (repeat' ((conv => whnf); first | (exfalso; omega) | refine cpC (q1) ?_ | refine dpC (q1) ?_ | refine cpC (q2) ?_ | refine dpC (q2) ?_ | refine cpC (ih) ?_ | refine dpC (ih) ?_ | refine x0C ?_ | refine spC (fun hb => ?_) fun hb => ?_ | refine nilC (fun hb => ?_) ?_ | refine taC ?_ | refine saC ?_ | exact sdV | refine side_and ?_ ?_ | refine drawX_of mixed ?_))
  all_goals exact vwV
 ·obtain ⟨b1, b2, b3, b4⟩ := h.lim3 hk
  have eW : goalW g = [w_every, itoaW g.days, w_days, itoaW g.times, w_times, w_apart, itoaW g.within, w_from, itoaW g.from_, w_of] ++ goalW k := by rw [goalW_eq, if_neg (by omega), if_pos (.inr (.inl hk)), hkid, firstW, headW, if_neg (by omega), if_pos hk]
  rw [eW]
  have q1 := rfnum 11 g.days (by omega) (by omega) (by omega)
  have q2 := rfnum 11 g.times (by omega) (by omega) (by omega)
  have q3 := rfnum 11 g.within (by omega) (by omega) (by omega)
  have q4 := rfnum 11 g.from_ (by omega) (by omega) (by omega)
  generalize goalW k = R at *
  refine meets_of_gx Ax tab_ok Tryz.func59 (c := _) rfl Tryz.call59 300 ?_
  (repeat' ((conv => whnf); first | (exfalso; omega) | refine cpC (q1) ?_ | refine dpC (q1) ?_ | refine cpC (q2) ?_ | refine dpC (q2) ?_ | refine cpC (q3) ?_ | refine dpC (q3) ?_ | refine cpC (q4) ?_ | refine dpC (q4) ?_ | refine cpC (ih) ?_ | refine dpC (ih) ?_ | refine x0C ?_ | refine spC (fun hb => ?_) fun hb => ?_ | refine nilC (fun hb => ?_) ?_ | refine taC ?_ | refine saC ?_ | exact sdV | refine side_and ?_ ?_ | refine drawX_of mixed ?_))
  all_goals exact vwV
 ·have b1 := h.lim4 hk
  have eW : goalW g = [w_deliver, w_within, itoaW g.within, w_of] ++ goalW k := by rw [goalW_eq, if_neg (by omega), if_pos (.inr (.inr hk)), hkid, firstW, headW, if_neg (by omega), if_neg (by omega)]
  rw [eW]
  have q1 := rfnum 11 g.within (by omega) (by omega) (by omega)
  generalize goalW k = R at *
  refine meets_of_gx Ax tab_ok Tryz.func59 (c := _) rfl Tryz.call59 300 ?_
  (repeat' ((conv => whnf); first | (exfalso; omega) | refine cpC (q1) ?_ | refine dpC (q1) ?_ | refine cpC (ih) ?_ | refine dpC (ih) ?_ | refine x0C ?_ | refine spC (fun hb => ?_) fun hb => ?_ | refine nilC (fun hb => ?_) ?_ | refine taC ?_ | refine saC ?_ | exact sdV | refine side_and ?_ ?_ | refine drawX_of mixed ?_))
  all_goals exact vwV
/-- the words so far -/
def soFar (g : Goal) (i : Nat) : List Wd := [if g.kind = 5 then w_all else w_any, w_open] ++ kidsW (decide (g.kind = 6)) true g.cents (g.kids.take i)
theorem soFar_succ (g : Goal) {i : Nat} (h : i < g.kids.length) : soFar g (i + 1) = soFar g i ++ ((if i = 0 then [] else [w_comma]) ++ (if g.kind = 6 then [itoaW (g.cents.getD i 0)] else []) ++ goalW (g.kids.getD (i : Int).toNat (Cd.dflt U.goal))) := by
 unfold soFar
 rw [take_getD (d := Cd.dflt U.goal) h, kidsW_snoc, List.length_take, Nat.min_eq_left (by omega)]
 have e1 : (g.kids.take i).isEmpty = decide (i = 0) := by
  cases i with
  | zero => simp
  | succ i => cases hk : g.kids with
   | nil => rw [hk] at h; simp at h
   | cons a l => simp
 rw [e1]
 have e2 : g.kids.getD (i : Int).toNat (Cd.dflt U.goal) = g.kids.getD i (Cd.dflt U.goal) := rfl
 rw [e2]
 by_cases h0 : i = 0 <;> by_cases h6 : g.kind = 6 <;> simp [h0, h6, List.append_assoc]
theorem soFar_len (g : Goal) (h : g.kind = 5 ∨ g.kind = 6) (i : Nat) : (soFar g i).length ≤ (goalW g).length ∧ soFar g g.kids.length ++ [w_close] = goalW g := by
 constructor
 ·rw [goalW_eq, if_neg (by omega), if_neg (by omega)]
  unfold soFar
  have := kidsW_take_len (decide (g.kind = 6)) g.cents g.kids i
  simp only [List.length_append] at *
  omega
 ·rw [goalW_eq, if_neg (by omega), if_neg (by omega)]
  unfold soFar
  rw [List.take_length]
@[reducible] def apW (A B : List Wd) : List Wd := List.take A.length A ++ B
@[reducible] def tkW (x : Wd) : List Wd := List.take 1 (List.drop 0 [x])
theorem tkW_eq (x : Wd) : tkW x = [x] := rfl
theorem apW_eq (A B : List Wd) : apW A B = A ++ B := by rw [apW, List.take_length]
theorem rfmany (g : Goal) (h : OkG g) (hk : g.kind = 5 ∨ g.kind = 6) (hn : (goalW g).length ≤ 100000) (ih : ∀ k ∈ g.kids, Meets Tryz.prog Dc 59 [goalA k] [] (wsS (goalW k)) []) : Meets Tryz.prog Dc 59 [goalA g] [] (wsS (goalW g)) [] := by
 obtain ⟨k2, k4, hc6, hc5⟩ := h.many hk
 have hle := fun i => (soFar_len g hk i).1
 have hend := (soFar_len g hk 0).2
 have hs := fun i h => soFar_succ g (i := i) h
 have h0 : soFar g 0 = [if g.kind = 5 then w_all else w_any, w_open] := by unfold soFar; rw [List.take_zero, kidsW, List.append_nil]
 have hgn := hn
 rw [← hend]
 clear hn
 rcases hk with hk | hk
 ·rw [if_pos hk] at h0
  refine meets_of_gx Ax tab_ok Tryz.func59 (c := _) rfl Tryz.call59 300 ?_
  (repeat' ((conv => whnf); first | (exfalso; omega) | refine x0C ?_ | refine spC (fun hb => ?_) fun hb => ?_ | refine nilC (fun hb => ?_) ?_ | refine taC ?_ | refine saC ?_ | exact sdV | refine side_and ?_ ?_ | refine drawX_of mixed ?_))
  refine loop_upT [some 0, some 1] (fun q : Nat × List Wd => [(4, .slice 1 0 1 0 q.2.length), (5, iS q.1), (89, .any)]) (fun q => [(1, .rows U.str q.2)]) (fun q => q.1 ≤ g.kids.length ∧ q.2 = soFar g q.1) (fun q => g.kids.length - q.1) (0, [w_all, w_open]) ⟨Nat.zero_le _, h0.symm⟩ (by exact bkI) ?_
  rintro ⟨i, J⟩ ⟨hi, hJ⟩ K hK
  dsimp only at hi hJ hK ⊢
  have hJl := hle i
  rw [← hJ] at hJl
  rcases Nat.lt_or_ge i g.kids.length with hlt | hge
  ·have ihk := ih _ (List.mem_of_getElem? (getD_some (d := Cd.dflt U.goal) hlt))
   have hsi := hs i hlt
   have hl1 := hle (i + 1)
   rw [hsi] at hl1
   rw [← hJ] at hsi hl1
   simp only [List.length_append] at hl1
   rw [if_neg (show ¬ g.kind = 6 by omega)] at hsi
   generalize goalW (g.kids.getD (i : Int).toNat (Cd.dflt U.goal)) = Wk at *
   rcases Nat.eq_zero_or_pos i with hi0 | hi0
   ·have hJ2 : apW J Wk = soFar g (i + 1) := by rw [hsi, if_pos hi0]; simp only [apW_eq, tkW_eq, List.append_assoc, List.nil_append]
    clear hs hle ih hsi
    (repeat' ((conv => whnf); first | (exfalso; omega) | refine cpC (ihk) ?_ | refine dpC (ihk) ?_ | refine hK (i + 1, apW J Wk) [some 0, some 2] _ _ ⟨⟨by dsimp only; omega, hJ2⟩⟩ ⟨by dsimp only; omega⟩ (by exact bkI) | refine x0C ?_ | refine spC (fun hb => ?_) fun hb => ?_ | refine nilC (fun hb => ?_) ?_ | refine taC ?_ | refine saC ?_ | exact sdV | refine side_and ?_ ?_ | refine drawX_of mixed ?_))
   ·have hJ2 : apW (apW J (tkW w_comma)) Wk = soFar g (i + 1) := by rw [hsi, if_neg (show ¬ i = 0 by omega)]; simp only [apW_eq, tkW_eq, List.append_assoc, List.nil_append]
    clear hs hle ih hsi
    (repeat' ((conv => whnf); first | (exfalso; omega) | refine cpC (ihk) ?_ | refine dpC (ihk) ?_ | refine hK (i + 1, apW (apW J (tkW w_comma)) Wk) [some 0, some 4] _ _ ⟨⟨by dsimp only; omega, hJ2⟩⟩ ⟨by dsimp only; omega⟩ (by exact bkI) | refine x0C ?_ | refine spC (fun hb => ?_) fun hb => ?_ | refine nilC (fun hb => ?_) ?_ | refine taC ?_ | refine saC ?_ | exact sdV | refine side_and ?_ ?_ | refine drawX_of mixed ?_))
  ·have hig : i = g.kids.length := by omega
   rw [← hig, ← hJ]
   (repeat' ((conv => whnf); first | (exfalso; omega) | refine x0C ?_ | refine spC (fun hb => ?_) fun hb => ?_ | refine nilC (fun hb => ?_) ?_ | refine taC ?_ | refine saC ?_ | exact sdV | refine side_and ?_ ?_ | refine drawX_of mixed ?_))
   all_goals exact vwV
 ·rw [if_neg (show ¬ g.kind = 5 by omega)] at h0
  refine meets_of_gx Ax tab_ok Tryz.func59 (c := _) rfl Tryz.call59 300 ?_
  (repeat' ((conv => whnf); first | (exfalso; omega) | refine x0C ?_ | refine spC (fun hb => ?_) fun hb => ?_ | refine nilC (fun hb => ?_) ?_ | refine taC ?_ | refine saC ?_ | exact sdV | refine side_and ?_ ?_ | refine drawX_of mixed ?_))
  refine loop_upT [some 0, some 1, some 2] (fun q : Nat × List Wd => [(4, .slice 2 0 1 0 q.2.length), (5, iS q.1), (93, .any)]) (fun q => [(2, .rows U.str q.2)]) (fun q => q.1 ≤ g.kids.length ∧ q.2 = soFar g q.1) (fun q => g.kids.length - q.1) (0, [w_any, w_open]) ⟨Nat.zero_le _, h0.symm⟩ (by exact bkI) ?_
  rintro ⟨i, J⟩ ⟨hi, hJ⟩ K hK
  dsimp only at hi hJ hK ⊢
  have hJl := hle i
  rw [← hJ] at hJl
  rcases Nat.lt_or_ge i g.kids.length with hlt | hge
  ·have ihk := ih _ (List.mem_of_getElem? (getD_some (d := Cd.dflt U.goal) hlt))
   have hsi := hs i hlt
   have hl1 := hle (i + 1)
   rw [hsi] at hl1
   rw [← hJ] at hsi hl1
   simp only [List.length_append] at hl1
   have hcb := (hc6 hk).2 _ (List.mem_of_getElem? (getD_some (d := Cd.dflt U.int) (show i < g.cents.length by have := (hc6 hk).1; omega)))
   have hcl := (hc6 hk).1
   have qc := rfnum 11 (g.cents.getD (i : Int).toNat (Cd.dflt U.int)) (by have := hcb.1; exact this) (by have : g.cents.getD (i : Int).toNat (Cd.dflt U.int) ≤ 1000000000 := hcb.2; omega) (by have : g.cents.getD (i : Int).toNat (Cd.dflt U.int) ≤ 1000000000 := hcb.2; omega)
   have hce : g.cents.getD i 0 = g.cents.getD (i : Int).toNat (Cd.dflt U.int) := rfl
   rw [if_pos hk, hce] at hsi
   generalize goalW (g.kids.getD (i : Int).toNat (Cd.dflt U.goal)) = Wk at *
   have hCl := itoaW_len (g.cents.getD (i : Int).toNat (Cd.dflt U.int))
   generalize itoaW (g.cents.getD (i : Int).toNat (Cd.dflt U.int)) = Cw at *
   rcases Nat.eq_zero_or_pos i with hi0 | hi0
   ·have hJ2 : apW (apW J (tkW Cw)) Wk = soFar g (i + 1) := by rw [hsi, if_pos hi0]; simp only [apW_eq, tkW_eq, List.append_assoc, List.nil_append]
    clear hs hle ih hsi
    (repeat' ((conv => whnf); first | (exfalso; omega) | refine cpC (ihk) ?_ | refine dpC (ihk) ?_ | refine cpC (qc) ?_ | refine dpC (qc) ?_ | refine hK (i + 1, apW (apW J (tkW Cw)) Wk) [some 0, some 1, some 5] _ _ ⟨⟨by dsimp only; omega, hJ2⟩⟩ ⟨by dsimp only; omega⟩ (by exact bkI) | refine x0C ?_ | refine spC (fun hb => ?_) fun hb => ?_ | refine nilC (fun hb => ?_) ?_ | refine taC ?_ | refine saC ?_ | exact sdV | refine side_and ?_ ?_ | refine drawX_of mixed ?_))
   ·have hJ2 : apW (apW (apW J (tkW w_comma)) (tkW Cw)) Wk = soFar g (i + 1) := by rw [hsi, if_neg (show ¬ i = 0 by omega)]; simp only [apW_eq, tkW_eq, List.append_assoc, List.nil_append]
    clear hs hle ih hsi
    (repeat' ((conv => whnf); first | (exfalso; omega) | refine cpC (ihk) ?_ | refine dpC (ihk) ?_ | refine cpC (qc) ?_ | refine dpC (qc) ?_ | refine hK (i + 1, apW (apW (apW J (tkW w_comma)) (tkW Cw)) Wk) [some 0, some 1, some 7] _ _ ⟨⟨by dsimp only; omega, hJ2⟩⟩ ⟨by dsimp only; omega⟩ (by exact bkI) | refine x0C ?_ | refine spC (fun hb => ?_) fun hb => ?_ | refine nilC (fun hb => ?_) ?_ | refine taC ?_ | refine saC ?_ | exact sdV | refine side_and ?_ ?_ | refine drawX_of mixed ?_))
  ·have hig : i = g.kids.length := by omega
   rw [← hig, ← hJ]
   (repeat' ((conv => whnf); first | (exfalso; omega) | refine x0C ?_ | refine spC (fun hb => ?_) fun hb => ?_ | refine nilC (fun hb => ?_) ?_ | refine taC ?_ | refine saC ?_ | exact sdV | refine side_and ?_ ?_ | refine drawX_of mixed ?_))
   all_goals exact vwV
end Go.SX

/-
 Plain: goals are read as they are written.
-/
namespace Go.SX
theorem wordsR_cons (p : Nat × Run) (L : List (Nat × Run)) : wordsR (p :: L) = w_at :: itoaW p.1 :: itoaW p.2.1 :: itoaW p.2.2 :: wordsR L := rfl
theorem wordsR_len : ∀ L : List (Nat × Run), (wordsR L).length = 4 * L.length
 | [] => rfl
 | p :: L => by rw [wordsR_cons]; simp only [List.length_cons, wordsR_len L]; omega
theorem area_at {ws : List Wd} : ∀ (L : List (Nat × Run)) (y c fuel : Nat) (rows : List Int) (a : Nat) (m : Int) (w : Wd) (r : List Wd), L ≠ [] → Chain y c L → L.length ≤ fuel → ws.drop a = wordsR L ++ w :: r → w ≠ w_at → areaP ws fuel y c rows a m = .ok (build rows L) ((a + 4 * L.length : Nat) : Int) m
 | [], y, c, fuel, rows, a, m, w, r, h, _, _, _, _ => absurd rfl h
 | p :: L, y, c, 0, rows, a, m, w, r, _, _, hf, _, _ => by simp at hf
 | p :: L, y, c, fuel + 1, rows, a, m, w, r, _, hc, hf, hd, hw => by
  obtain ⟨c1, c2, c3, c4, c5, c6⟩ := hc
  rw [wordsR_cons] at hd
  have d1 := tail_at hd
  have d2 := tail_at d1
  have d3 := tail_at d2
  have d4 := tail_at d3
  rw [areaP, if_neg (by intro h; have := c3 (by omega); omega)]
  rw [must1 hd]
  dsimp only [Rs.bind]
  have q1 : (if (48 : Int) ≤ c then (y : Int) + 1 else y) ≤ p.1 := by
   by_cases h48 : (48 : Int) ≤ c
   ·rw [if_pos h48]
    rcases Nat.lt_or_eq_of_le c1 with h | h
    ·omega
    ·have := c3 h.symm; omega
   ·rw [if_neg h48]; omega
  have q2 : (if (p.1 : Int) > (if (48 : Int) ≤ c then (y : Int) + 1 else y) ∨ (48 : Int) ≤ c then (0 : Int) else c) ≤ p.2.1 := by
   by_cases h48 : (48 : Int) ≤ c
   ·rw [if_pos (.inr h48)]; omega
   ·rw [if_neg h48]
    by_cases hp : (p.1 : Int) > y
    ·rw [if_pos (.inl hp)]; omega
    ·rw [if_neg (by intro h; rcases h with h | h; exact hp h; exact h48 h)]
     have := c3 (by omega); omega
  rw [num_at d1 q1 (by omega) (by omega) (by omega)]
  dsimp only
  rw [num_at d2 q2 (by omega) (by omega) (by omega)]
  dsimp only
  rw [num_at d3 (by omega) (by omega) (by omega) (by omega)]
  dsimp only
  cases L with
  | nil =>
   rw [peek_at (w := w) (r := r) d4, if_neg hw]
   rfl
  | cons q L =>
   rw [wordsR_cons] at d4
   rw [peek_at (w := w_at) d4, if_pos rfl]
   have ih := area_at (q :: L) p.1 (p.2.2 + 2) fuel (orRun rows p) (a + 1 + 1 + 1 + 1) m w r (by simp) c6 (by simpa using hf) d4 hw
   rw [show a + 4 * (p :: q :: L).length = a + 1 + 1 + 1 + 1 + 4 * (q :: L).length by simp only [List.length_cons]; omega]
   exact ih
theorem area_ok {ws : List Wd} : ∀ (fuel y c : Nat) (rows rows' : List Int) (a m a' m' : Int), 0 ≤ a → a ≤ ws.length → areaP ws fuel y c rows a m = .ok rows' a' m' → ∃ L, Chain y c L ∧ (L = [] → 48 ≤ c) ∧ Reads ws a (wordsR L) a' ∧ m' = m ∧ rows' = build rows L
 | 0, y, c, rows, rows', a, m, a', m', h0, h1, h => by rw [areaP] at h; cases h
 | fuel + 1, y, c, rows, rows', a, m, a', m', h0, h1, h => by
  rw [areaP] at h
  split at h
  ·rename_i hc
   injection h with e1 e2 e3
   subst e1 e2 e3
   exact ⟨[], trivial, fun _ => by omega, .nil h0 h1, rfl, rfl⟩
  ·rename_i hc
   replace h := bind_ok h
   obtain ⟨_, a1, m1, h2, h⟩ := h
   obtain ⟨r1, rfl⟩ := must_ok [w_at] (by decide) h0 h1 h2
   replace h := bind_ok h
   obtain ⟨row, a2, m2, h2, h⟩ := h
   obtain ⟨r2, rfl, b1, b2⟩ := num_ok r1.lo' r1.hi h2
   replace h := bind_ok h
   obtain ⟨x, a3, m3, h2, h⟩ := h
   obtain ⟨r3, rfl, b3, b4⟩ := num_ok r2.lo' r2.hi h2
   replace h := bind_ok h
   obtain ⟨z, a4, m4, h2, h⟩ := h
   obtain ⟨r4, rfl, b5, b6⟩ := num_ok r3.lo' r3.hi h2
   have hrow : (y : Int) ≤ row := by split at b1 <;> omega
   obtain ⟨row, rfl⟩ := Int.eq_ofNat_of_zero_le (show 0 ≤ row by omega)
   have hx : 0 ≤ x := by split at b3 <;> omega
   obtain ⟨x, rfl⟩ := Int.eq_ofNat_of_zero_le hx
   obtain ⟨z, rfl⟩ := Int.eq_ofNat_of_zero_le (show 0 ≤ z by omega)
   have hcx : row = y → c ≤ x := fun e => by
    subst e
    have h48 : ¬ (48 : Int) ≤ c := fun h => by rw [if_pos h] at b1; omega
    rw [if_neg h48, if_neg (by omega)] at b3
    omega
   have rr := (r1.app (r2.app (r3.app r4)))
   split at h
   ·obtain ⟨L, k1, k2, k3, k4, k5⟩ := area_ok fuel row (z + 2) _ rows' a4 _ a' m' r4.lo' r4.hi h
    refine ⟨(row, (x, z)) :: L, ⟨by show y ≤ row; omega, by show row ≤ 23; omega, hcx, by show x ≤ z; omega, by show z ≤ 47; omega, k1⟩, (by simp), ?_, k4, k5⟩
    have := rr.app k3
    exact this
   ·injection h with e1 e2 e3
    subst e1 e2 e3
    refine ⟨[(row, (x, z))], ⟨by show y ≤ row; omega, by show row ≤ 23; omega, hcx, by show x ≤ z; omega, by show z ≤ 47; omega, trivial⟩, (by simp), ?_, rfl, rfl⟩
    exact rr
/-! see -/
theorem plain_see {g : Goal} (h : OkG g) (hk : g.kind = 1) : g = ⟨1, g.rows, g.from_, g.to_, g.low, g.high, g.clear, 0, 0, 0, [], []⟩ := by
 have h1 := plainB_iff.1 h.plain
 obtain ⟨_, _, _, _, _, k1, k2⟩ := h.see hk
 unfold restG at h1
 rw [if_pos hk] at h1
 cases g
 simp only at *
 simp [h1, k1, k2, hk]
theorem plain_one {g : Goal} (h : OkG g) (hk : g.kind = 2 ∨ g.kind = 3 ∨ g.kind = 4) : ∃ k, g.kids = [k] ∧ k.kind ≤ lastK g.kind ∧ g = (if g.kind = 2 then ⟨2, [], 0, 0, g.low, 0, false, 0, 0, g.within, [], [k]⟩ else if g.kind = 3 then ⟨3, [], g.from_, 0, 0, 0, false, g.days, g.times, g.within, [], [k]⟩ else ⟨4, [], 0, 0, 0, 0, false, 0, 0, g.within, [], [k]⟩) := by
 have h1 := plainB_iff.1 h.plain
 obtain ⟨k1, k2⟩ := h.one hk
 have h3 := h.parts
 simp only [partsB, Bool.and_eq_true, Bool.or_eq_true, decide_eq_true_eq, Bool.not_eq_true', List.any_eq_false] at h3
 obtain ⟨⟨⟨_, _⟩, h4⟩, h5⟩ := h3
 have hr : g.rows = [] := by
  rcases h4 with h4 | h4
  ·omega
  ·exact List.eq_nil_of_length_eq_zero (by omega)
 unfold restG at h1
 obtain ⟨k, hk1⟩ : ∃ k, g.kids = [k] := by
  match hg : g.kids, k1 with
  | [k], _ => exact ⟨k, rfl⟩
 have h6 := h5 k (by rw [hk1]; simp)
 refine ⟨k, hk1, by simpa using h6, ?_⟩
 rw [if_neg (by omega)] at h1
 cases g
 simp only at *
 subst hr hk1 k2
 rcases hk with hk | hk | hk <;> subst hk <;> simp at h1 ⊢ <;> simp [h1]
theorem plain_many {g : Goal} (h : OkG g) (hk : g.kind = 5 ∨ g.kind = 6) : (∀ k ∈ g.kids, k.kind ≤ 6) ∧ g = ⟨g.kind, [], 0, 0, 0, 0, false, 0, 0, 0, g.cents, g.kids⟩ := by
 have h1 := plainB_iff.1 h.plain
 have h3 := h.parts
 simp only [partsB, Bool.and_eq_true, Bool.or_eq_true, decide_eq_true_eq, Bool.not_eq_true', List.any_eq_false] at h3
 obtain ⟨⟨⟨_, _⟩, h4⟩, h5⟩ := h3
 have hr : g.rows = [] := by
  rcases h4 with h4 | h4
  ·omega
  ·exact List.eq_nil_of_length_eq_zero (by omega)
 have hl : lastK g.kind = 6 := by unfold lastK; rw [if_neg (by omega), if_neg (by omega)]
 refine ⟨fun k hk => ?_, ?_⟩
 ·have := h5 k hk
  rw [hl] at this
  simpa using this
 ·unfold restG at h1
  rw [if_neg (by omega), if_neg (by omega), if_neg (by omega), if_neg (by omega)] at h1
  cases g
  simp only at *
  subst hr
  simp [h1]
theorem see_at {ws r : List Wd} {g : Goal} (h : OkG g) (hk : g.kind = 1) {a : Nat} {m : Int} (hd : ws.drop a = goalW g ++ r) : seeP ws ((a + 1 : Nat) : Int) m = .ok g ((a + (goalW g).length : Nat) : Int) m := by
 obtain ⟨b1, b2, b3, b4, b5, _, _⟩ := h.see hk
 obtain ⟨L, l1, l2, l3⟩ := area_write b1
 have hne : L ≠ [] := fun e => by
  have h1 := h.lim
  unfold limB at h1
  rw [if_pos hk] at h1
  simp only [Bool.and_eq_true, List.any_eq_true, decide_eq_true_eq] at h1
  obtain ⟨x, hx, hx0⟩ := h1.1.1.1.1.2
  rw [← l3, e] at hx
  exact hx0 (List.mem_replicate.1 hx).2
 have hlen := rowsW_len 0 g.rows (by simp only [areaB, Bool.and_eq_true] at b1; exact b1.2)
 have hrl : g.rows.length = 24 := by simp only [areaB, Bool.and_eq_true, decide_eq_true_eq] at b1; omega
 rw [l2, wordsR_len] at hlen
 have eW : goalW g = w_see :: (wordsR L ++ [w_from, itoaW g.from_, w_to, itoaW g.to_, w_sun, itoaW g.low, w_to, itoaW g.high, if g.clear then w_clear else w_any]) := by
  rw [goalW_eq, if_pos hk, seeW, l2]; rfl
 have hlW : (goalW g).length = 1 + 4 * L.length + 9 := by rw [eW]; simp [wordsR_len]; omega
 rw [eW] at hd
 have d0 := tail_app hd
 rw [List.append_assoc] at d0
 have d1 := drop_app d0
 rw [wordsR_len] at d1
 have ha := area_at L 0 0 1200 (List.replicate 24 0) (a + 1) m w_from _ hne l1 (by omega) d0 (by decide)
 rw [l3] at ha
 unfold seeP
 rw [show areaP ws 1200 0 0 (List.replicate 24 0) ((a + 1 : Nat) : Int) m = _ from ha]
 dsimp only [Rs.bind]
 have d2 := tail_at d1
 have d3 := tail_at d2
 have d4 := tail_at d3
 have d5 := tail_at d4
 have d6 := tail_at d5
 have d7 := tail_at d6
 have d8 := tail_at d7
 have d9 := tail_at d8
 rw [must1 d1]
 dsimp only
 rw [num_at d2 (by omega) (by omega) (by omega) (by omega)]
 dsimp only
 rw [must1 d3]
 dsimp only
 rw [num_at d4 (by omega) (by omega) (by omega) (by omega)]
 dsimp only
 rw [must1 d5]
 dsimp only
 rw [num_at d6 (by omega) (by omega) (by omega) (by omega)]
 dsimp only
 rw [must1 d7]
 dsimp only
 rw [num_at d8 (by omega) (by omega) (by omega) (by omega)]
 dsimp only
 rw [word_at (by decide) d9]
 dsimp only
 rw [← plain_see h hk, hlW]
 congr 2
 omega
end Go.SX

namespace Go.SX
open Go.Proofs
set_option maxHeartbeats 4000000
set_option maxRecDepth 100000
theorem rfgoal : ∀ (N : Nat) (g : Goal), manyG g ≤ N → validG g = true → Meets Tryz.prog Dc 59 [goalA g] [] (wsS (goalW g)) []
 | 0, g, hN, _ => by have := manyG_pos g; omega
 | N + 1, g, hN, hv => by
  have hv2 := ((valid_law g).1 hv).1
  rw [allOK_eq, Bool.and_eq_true] at hv2
  have hO := okG hv2.1
  rw [manyG_eq] at hN
  have ih : ∀ k ∈ g.kids, Meets Tryz.prog Dc 59 [goalA k] [] (wsS (goalW k)) [] := fun k hk => by
   have := manyL_mem hk
   exact rfgoal N k (by omega) (kid_valid hv hk)
  have hlen := goalW_valid hv
  rcases (show g.kind = 1 ∨ (g.kind = 2 ∨ g.kind = 3 ∨ g.kind = 4) ∨ g.kind = 5 ∨ g.kind = 6 by have := hO.kind; omega) with h | h | h
  ·exact rfsee g hO h
  ·obtain ⟨k, hkid, _, _⟩ := plain_one hO h
   have hkm : k ∈ g.kids := by rw [hkid]; simp
   have := goalW_valid (kid_valid hv hkm)
   exact rfone g k hO h hkid (by omega) (ih k hkm)
  ·exact rfmany g hO h (by omega) ih
/-- the reference's words of an order, which the caller owns -/
theorem rfwords (o : Order) (ho : ordB o = true) : Meets Tryz.prog Dc 30 [ordA o] [] (.slice 0 0 1 0 (orderW o).length) [.rows U.str (orderW o)] := by
 obtain ⟨b1, b2, b3, b4, b5, b6, b7⟩ := (ordB_iff o).1 ho
 have hg := rfgoal (manyG o.goal).toNat o.goal (by have := manyG_pos o.goal; omega) b7
 have hlen := goalW_valid b7
 have q1 := rfnum 11 o.id (by omega) (by omega) (by omega)
 have q2 := rfnum 11 o.owner (by omega) (by omega) (by omega)
 have q3 := rfnum 11 o.price (by omega) (by omega) (by omega)
 have q4 : ¬ o.group < 0 → Meets Tryz.prog Dc 58 [iS o.group] [] (wS (itoaW o.group)) [] := fun h => rfnum 11 o.group (by omega) (by omega) (by omega)
 have q5 := rfnum 11 o.known (by omega) (by omega) (by omega)
 have q6 := rfnum 11 o.due (by omega) (by omega) (by omega)
 have eW : orderW o = [w_order, itoaW o.id, w_by, itoaW o.owner, w_for, itoaW o.price, w_group, if o.group < 0 then w_none else itoaW o.group, if o.urgent then w_urgent else w_plain, w_known, itoaW o.known, w_due, itoaW o.due, w_colon] ++ goalW o.goal ++ [w_dot] := rfl
 rw [eW]
 clear eW
 generalize goalW o.goal = R at *
 have hV : ∀ L : List Wd, List.take (List.take 14 L ++ R).length (List.take 14 L ++ R) ++ List.take 1 (List.drop 0 [w_dot]) = List.take 14 L ++ R ++ [w_dot] := fun L => by rw [List.take_length]; rfl
 by_cases hgr : o.group < 0
 ·rw [if_pos hgr]
  clear q4
  cases hu : o.urgent with
  | true =>
   rw [if_pos rfl]
   rw [show [w_order, itoaW o.id, w_by, itoaW o.owner, w_for, itoaW o.price, w_group, w_none, w_urgent, w_known, itoaW o.known, w_due, itoaW o.due, w_colon] ++ R ++ [w_dot] = _ from (hV [w_order, itoaW o.id, w_by, itoaW o.owner, w_for, itoaW o.price, w_group, w_none, w_urgent, w_known, itoaW o.known, w_due, itoaW o.due, w_colon]).symm]
   refine meets_of_gx Ax tab_ok Tryz.func30 (c := _) rfl Tryz.call30 300 ?_
   (repeat' ((conv => whnf); first | (exfalso; omega) | (rw [hu] at hb; exact absurd hb (by decide)) | refine cpC (q1) ?_ | refine dpC (q1) ?_ | refine cpC (q2) ?_ | refine dpC (q2) ?_ | refine cpC (q3) ?_ | refine dpC (q3) ?_ | refine cpC (q5) ?_ | refine dpC (q5) ?_ | refine cpC (q6) ?_ | refine dpC (q6) ?_ | refine cpC (hg) ?_ | refine dpC (hg) ?_ | (refine end_fn [some 4] (.inr rfl) ?_ ?_ rfl rfl; (focus exact vwV); exact hsV) | refine x0C ?_ | refine spC (fun hb => ?_) fun hb => ?_ | refine nilC (fun hb => ?_) ?_ | refine taC ?_ | refine saC ?_ | exact sdV | refine side_and ?_ ?_ | refine drawX_of mixed ?_))
  | false =>
   rw [if_neg (by decide)]
   rw [show [w_order, itoaW o.id, w_by, itoaW o.owner, w_for, itoaW o.price, w_group, w_none, w_plain, w_known, itoaW o.known, w_due, itoaW o.due, w_colon] ++ R ++ [w_dot] = _ from (hV [w_order, itoaW o.id, w_by, itoaW o.owner, w_for, itoaW o.price, w_group, w_none, w_plain, w_known, itoaW o.known, w_due, itoaW o.due, w_colon]).symm]
   refine meets_of_gx Ax tab_ok Tryz.func30 (c := _) rfl Tryz.call30 300 ?_
   (repeat' ((conv => whnf); first | (exfalso; omega) | (rw [hu] at hb; exact absurd hb (by decide)) | refine cpC (q1) ?_ | refine dpC (q1) ?_ | refine cpC (q2) ?_ | refine dpC (q2) ?_ | refine cpC (q3) ?_ | refine dpC (q3) ?_ | refine cpC (q5) ?_ | refine dpC (q5) ?_ | refine cpC (q6) ?_ | refine dpC (q6) ?_ | refine cpC (hg) ?_ | refine dpC (hg) ?_ | (refine end_fn [some 4] (.inr rfl) ?_ ?_ rfl rfl; (focus exact vwV); exact hsV) | refine x0C ?_ | refine spC (fun hb => ?_) fun hb => ?_ | refine nilC (fun hb => ?_) ?_ | refine taC ?_ | refine saC ?_ | exact sdV | refine side_and ?_ ?_ | refine drawX_of mixed ?_))
 ·rw [if_neg hgr]
  have q4 := q4 hgr
  cases hu : o.urgent with
  | true =>
   rw [if_pos rfl]
   rw [show [w_order, itoaW o.id, w_by, itoaW o.owner, w_for, itoaW o.price, w_group, itoaW o.group, w_urgent, w_known, itoaW o.known, w_due, itoaW o.due, w_colon] ++ R ++ [w_dot] = _ from (hV [w_order, itoaW o.id, w_by, itoaW o.owner, w_for, itoaW o.price, w_group, itoaW o.group, w_urgent, w_known, itoaW o.known, w_due, itoaW o.due, w_colon]).symm]
   refine meets_of_gx Ax tab_ok Tryz.func30 (c := _) rfl Tryz.call30 300 ?_
   (repeat' ((conv => whnf); first | (exfalso; omega) | (rw [hu] at hb; exact absurd hb (by decide)) | refine cpC (q4) ?_ | refine dpC (q4) ?_ | refine cpC (q1) ?_ | refine dpC (q1) ?_ | refine cpC (q2) ?_ | refine dpC (q2) ?_ | refine cpC (q3) ?_ | refine dpC (q3) ?_ | refine cpC (q5) ?_ | refine dpC (q5) ?_ | refine cpC (q6) ?_ | refine dpC (q6) ?_ | refine cpC (hg) ?_ | refine dpC (hg) ?_ | (refine end_fn [some 4] (.inr rfl) ?_ ?_ rfl rfl; (focus exact vwV); exact hsV) | refine x0C ?_ | refine spC (fun hb => ?_) fun hb => ?_ | refine nilC (fun hb => ?_) ?_ | refine taC ?_ | refine saC ?_ | exact sdV | refine side_and ?_ ?_ | refine drawX_of mixed ?_))
  | false =>
   rw [if_neg (by decide)]
   rw [show [w_order, itoaW o.id, w_by, itoaW o.owner, w_for, itoaW o.price, w_group, itoaW o.group, w_plain, w_known, itoaW o.known, w_due, itoaW o.due, w_colon] ++ R ++ [w_dot] = _ from (hV [w_order, itoaW o.id, w_by, itoaW o.owner, w_for, itoaW o.price, w_group, itoaW o.group, w_plain, w_known, itoaW o.known, w_due, itoaW o.due, w_colon]).symm]
   refine meets_of_gx Ax tab_ok Tryz.func30 (c := _) rfl Tryz.call30 300 ?_
   (repeat' ((conv => whnf); first | (exfalso; omega) | (rw [hu] at hb; exact absurd hb (by decide)) | refine cpC (q4) ?_ | refine dpC (q4) ?_ | refine cpC (q1) ?_ | refine dpC (q1) ?_ | refine cpC (q2) ?_ | refine dpC (q2) ?_ | refine cpC (q3) ?_ | refine dpC (q3) ?_ | refine cpC (q5) ?_ | refine dpC (q5) ?_ | refine cpC (q6) ?_ | refine dpC (q6) ?_ | refine cpC (hg) ?_ | refine dpC (hg) ?_ | (refine end_fn [some 4] (.inr rfl) ?_ ?_ rfl rfl; (focus exact vwV); exact hsV) | refine x0C ?_ | refine spC (fun hb => ?_) fun hb => ?_ | refine nilC (fun hb => ?_) ?_ | refine taC ?_ | refine saC ?_ | exact sdV | refine side_and ?_ ?_ | refine drawX_of mixed ?_))
end Go.SX

/-
 Plain: goals and orders are read as they are written; what is read is written so.
-/
namespace Go.SX
/-! forms -/
theorem form_at (g : Goal) (h : OkG g) : ∃ w l, goalW g = w :: l ∧ formW w = some (g.kind, if g.kind = 1 then 0 else if g.kind = 5 ∨ g.kind = 6 then 2 else 1) := by
 have hk := h.kind
 rw [goalW_eq]
 by_cases h1 : g.kind = 1
 ·rw [if_pos h1, h1]
  exact ⟨w_see, _, rfl, rfl⟩
 ·rw [if_neg h1]
  by_cases h2 : g.kind = 2 ∨ g.kind = 3 ∨ g.kind = 4
  ·rw [if_pos h2]
   unfold headW
   rcases h2 with h2 | h2 | h2
   ·rw [if_pos h2, h2]; exact ⟨w_pair, _, rfl, rfl⟩
   ·rw [if_neg (by omega), if_pos h2, h2]; exact ⟨w_every, _, rfl, rfl⟩
   ·rw [if_neg (by omega), if_neg (by omega), h2]; exact ⟨w_deliver, _, rfl, rfl⟩
  ·rw [if_neg h2]
   rcases (show g.kind = 5 ∨ g.kind = 6 by omega) with h3 | h3
   ·rw [if_pos h3, h3]; exact ⟨w_all, _, rfl, rfl⟩
   ·rw [if_neg (by omega), h3]; exact ⟨w_any, _, rfl, rfl⟩
theorem sizeG_pos {g : Goal} {d n : Int} (h : sizeG g d = some n) : 1 ≤ n := (goalW_len g d n h).2
/-- a goal is read as it is written -/
def ReadG (ws : List Wd) (f : Nat) (d : Int) : Prop := ∀ (g : Goal) (of_ : Int) (n : Int) (a : Nat) (m : Int) (r : List Wd), sizeG g d = some n → g.kind ≤ lastK of_ → n - 1 ≤ m → ws.drop a = goalW g ++ r → goalP ws f of_ d a m = .ok g ((a + (goalW g).length : Nat) : Int) (m - (n - 1))
theorem pair_at {ws r : List Wd} {g k : Goal} {f : Nat} {d : Int} (ih : ReadG ws f (d + 1)) (h : OkG g) (hk : g.kind = 2) (hkid : g.kids = [k]) (hkk : k.kind ≤ lastK g.kind) (hg : g = ⟨2, [], 0, 0, g.low, 0, false, 0, 0, g.within, [], [k]⟩) {n : Int} (hn : sizeG k (d + 1) = some n) {a : Nat} {m : Int} (hm : n - 1 ≤ m) (hd : ws.drop a = goalW g ++ r) : pairP ws (goalP ws f 2 (d + 1)) ((a + 1 : Nat) : Int) m = .ok g ((a + (goalW g).length : Nat) : Int) (m - (n - 1)) := by
 obtain ⟨b1, b2⟩ := h.lim2 hk
 have eW : goalW g = [w_pair, w_looks, itoaW g.low, w_within, itoaW g.within, w_of] ++ goalW k := by
  rw [goalW_eq, if_neg (by omega), if_pos (.inl hk), hkid, firstW, headW, if_pos hk]
 rw [eW] at hd
 have d1 := tail_at hd
 have d2 := tail_at d1
 have d3 := tail_at d2
 have d4 := tail_at d3
 have d5 := tail_at d4
 have d6 := tail_at d5
 unfold pairP
 rw [must1 d1]
 dsimp only [Rs.bind]
 rw [num_at d2 (by omega) (by omega) (by omega) (by omega)]
 dsimp only
 rw [must1 d3]
 dsimp only
 rw [num_at d4 (by omega) (by omega) (by omega) (by omega)]
 dsimp only
 rw [must1 d5]
 dsimp only
 rw [ih k 2 n _ m r hn (by rw [hk] at hkk; exact hkk) hm d6]
 dsimp only
 rw [← hg, eW]
 congr 2
 simp only [List.length_append, List.length_cons, List.length_nil]
 omega
theorem every_at {ws r : List Wd} {g k : Goal} {f : Nat} {d : Int} (ih : ReadG ws f (d + 1)) (h : OkG g) (hk : g.kind = 3) (hkid : g.kids = [k]) (hkk : k.kind ≤ lastK g.kind) (hg : g = ⟨3, [], g.from_, 0, 0, 0, false, g.days, g.times, g.within, [], [k]⟩) {n : Int} (hn : sizeG k (d + 1) = some n) {a : Nat} {m : Int} (hm : n - 1 ≤ m) (hd : ws.drop a = goalW g ++ r) : everyP ws (goalP ws f 3 (d + 1)) ((a + 1 : Nat) : Int) m = .ok g ((a + (goalW g).length : Nat) : Int) (m - (n - 1)) := by
 obtain ⟨b1, b2, b3, b4⟩ := h.lim3 hk
 have eW : goalW g = [w_every, itoaW g.days, w_days, itoaW g.times, w_times, w_apart, itoaW g.within, w_from, itoaW g.from_, w_of] ++ goalW k := by
  rw [goalW_eq, if_neg (by omega), if_pos (.inr (.inl hk)), hkid, firstW, headW, if_neg (by omega), if_pos hk]
 rw [eW] at hd
 have d1 := tail_at hd
 have d2 := tail_at d1
 have d3 := tail_at d2
 have d4 := tail_at d3
 have d5 := tail_at d4
 have d6 := tail_at d5
 have d7 := tail_at d6
 have d8 := tail_at d7
 have d9 := tail_at d8
 have d10 := tail_at d9
 unfold everyP
 rw [num_at d1 (by omega) (by omega) (by omega) (by omega)]
 dsimp only [Rs.bind]
 rw [must1 d2]
 dsimp only
 rw [num_at d3 (by omega) (by omega) (by omega) (by omega)]
 dsimp only
 rw [must2 d4]
 dsimp only
 rw [num_at d6 (by omega) (by omega) (by omega) (by omega)]
 dsimp only
 rw [must1 d7]
 dsimp only
 rw [num_at d8 (by omega) (by omega) (by omega) (by omega)]
 dsimp only
 rw [must1 d9]
 dsimp only
 rw [ih k 3 n _ m r hn (by rw [hk] at hkk; exact hkk) hm d10]
 dsimp only
 rw [← hg, eW]
 congr 2
 simp only [List.length_append, List.length_cons, List.length_nil]
 omega
theorem del_at {ws r : List Wd} {g k : Goal} {f : Nat} {d : Int} (ih : ReadG ws f (d + 1)) (h : OkG g) (hk : g.kind = 4) (hkid : g.kids = [k]) (hkk : k.kind ≤ lastK g.kind) (hg : g = ⟨4, [], 0, 0, 0, 0, false, 0, 0, g.within, [], [k]⟩) {n : Int} (hn : sizeG k (d + 1) = some n) {a : Nat} {m : Int} (hm : n - 1 ≤ m) (hd : ws.drop a = goalW g ++ r) : delP ws (goalP ws f 4 (d + 1)) ((a + 1 : Nat) : Int) m = .ok g ((a + (goalW g).length : Nat) : Int) (m - (n - 1)) := by
 have b1 := h.lim4 hk
 have eW : goalW g = [w_deliver, w_within, itoaW g.within, w_of] ++ goalW k := by
  rw [goalW_eq, if_neg (by omega), if_pos (.inr (.inr hk)), hkid, firstW, headW, if_neg (by omega), if_neg (by omega)]
 rw [eW] at hd
 have d1 := tail_at hd
 have d2 := tail_at d1
 have d3 := tail_at d2
 have d4 := tail_at d3
 unfold delP
 rw [must1 d1]
 dsimp only [Rs.bind]
 rw [num_at d2 (by omega) (by omega) (by omega) (by omega)]
 dsimp only
 rw [must1 d3]
 dsimp only
 rw [ih k 4 n _ m r hn (by rw [hk] at hkk; exact hkk) hm d4]
 dsimp only
 rw [← hg, eW]
 congr 2
 simp only [List.length_append, List.length_cons, List.length_nil]
 omega
theorem sizeL_cons {k : Goal} {l : List Goal} {d n : Int} (h : sizeL (k :: l) d = some n) : ∃ x y, sizeG k d = some x ∧ sizeL l d = some y ∧ n = x + y := by
 rw [sizeL] at h
 cases ha : sizeG k d with
 | none => rw [ha] at h; cases h
 | some x =>
  rw [ha] at h
  cases hl : sizeL l d with
  | none => rw [hl] at h; cases h
  | some y => rw [hl] at h; injection h with h; exact ⟨x, y, rfl, rfl, h.symm⟩
theorem sizeL_len : ∀ {l : List Goal} {d n : Int}, sizeL l d = some n → (l.length : Int) ≤ n
 | [], d, n, h => by rw [sizeL] at h; injection h with h; subst h; simp
 | k :: l, d, n, h => by
  obtain ⟨x, y, h1, h2, rfl⟩ := sizeL_cons h
  have := sizeG_pos h1
  have := sizeL_len h2
  rw [List.length_cons]; omega
/-- the parts behind the first ones -/
theorem parts_at {ws : List Wd} {f : Nat} {d k : Int} (hk : k = 5 ∨ k = 6) (ih : ReadG ws f d) : ∀ (l : List Goal) (g : Goal) (fuel : Nat) (cents cs : List Int) (kids : List Goal) (a : Nat) (m n : Int) (r : List Wd),
  l.length < fuel → kids.length + 1 + l.length ≤ 4 → 2 ≤ kids.length + 1 + l.length → (∀ x ∈ g :: l, x.kind ≤ 6) → sizeL (g :: l) d = some n → n - 1 - (if kids = [] then 1 else 0) ≤ m → (k = 6 → cs.length = l.length + 1 ∧ ∀ c ∈ cs, 0 ≤ c ∧ c ≤ 1000000000) → (k = 5 → cs = []) →
  ws.drop a = (if k = 6 then [itoaW (cs.headD 0)] else []) ++ goalW g ++ kidsW (decide (k = 6)) false cs.tail l ++ w_close :: r →
  partsP ws (goalP ws f k d) k fuel cents kids a m = .ok ⟨k, [], 0, 0, 0, 0, false, 0, 0, 0, cents ++ cs, kids ++ g :: l⟩ ((a + ((if k = 6 then [itoaW (cs.headD 0)] else []) ++ goalW g ++ kidsW (decide (k = 6)) false cs.tail l).length + 1 : Nat) : Int) (m - (n - 1 - (if kids = [] then 1 else 0)))
 | l, g, 0, cents, cs, kids, a, m, n, r, hf, _, _, _, _, _, _, _, _ => by omega
 | l, g, fuel + 1, cents, cs, kids, a, m, n, r, hf, h4, h2, hkd, hn, hm, hc6, hc5, hd => by
  obtain ⟨x, y, n1, n2, rfl⟩ := sizeL_cons hn
  have hx := sizeG_pos n1
  have hy := sizeL_len n2
  have hlk : lastK k = 6 := by unfold lastK; rw [if_neg (by omega), if_neg (by omega)]
  have hi0 : (0 : Int) ≤ (if kids = [] then 1 else 0) ∧ (if kids = [] then (1 : Int) else 0) ≤ 1 := by split <;> omega
  -- the number ahead
  obtain ⟨b, hb, hbd, hbn⟩ : ∃ b : Nat, b = a + (if k = 6 then [itoaW (cs.headD 0)] else []).length ∧ ws.drop b = goalW g ++ (kidsW (decide (k = 6)) false cs.tail l ++ w_close :: r) ∧ (if k = 6 then (numP ws 0 1000000000 a m).bind fun c a m => .ok (cents ++ [c]) a m else .ok cents a m : Rs (List Int)) = .ok (cents ++ cs.take 1) b m := by
   refine ⟨_, rfl, ?_, ?_⟩
   ·rw [List.append_assoc, List.append_assoc] at hd
    exact drop_app hd
   ·rcases hk with hk | hk
    ·subst hk
     rw [if_neg (by decide), hc5 rfl]
     simp
    ·subst hk
     obtain ⟨c1, c2⟩ := hc6 rfl
     cases cs with
     | nil => simp at c1
     | cons c cs =>
      have := c2 c (by simp)
      simp only [if_pos, List.headD_cons, List.cons_append, List.nil_append] at hd
      rw [if_pos rfl, num_at hd (by omega) (by omega) (by omega) (by omega)]
      simp
  rw [partsP, hbn]
  dsimp only [Rs.bind]
  have hsub : x - 1 ≤ m := by
   by_cases hkn : kids = []
   ·rw [if_pos hkn] at hm
    have : kids.length = 0 := by rw [hkn]; rfl
    omega
   ·rw [if_neg hkn] at hm; omega
  rw [ih g k x b m _ n1 (by rw [hlk]; exact hkd g (by simp)) hsub hbd]
  dsimp only
  have d1 := drop_app hbd
  cases l with
  | nil =>
   have hy0 : y = 0 := by rw [sizeL] at n2; injection n2 with n2; exact n2.symm
   rw [kidsW, List.nil_append] at d1
   have hkn : kids ≠ [] := fun e => by rw [e] at h2; simp at h2
   have hkl : 1 < kids.length + 1 := by cases kids with | nil => exact absurd rfl hkn | cons _ _ => simp
   have hcs : cs.take 1 = cs := by
    rcases hk with hk | hk
    ·rw [hc5 hk]; rfl
    ·exact List.take_of_length_le (by have := (hc6 hk).1; simp at this; omega)
   rw [if_pos hkl, peek_at d1, if_pos rfl, if_neg hkn, hcs]
   rw [kidsW, List.append_nil, List.length_append, hb]
   congr 1
   ·show ((_ : Nat) : Int) + 1 = _
    omega
   ·omega
  | cons q l =>
   obtain ⟨x2, y2, n3, n4, rfl⟩ := sizeL_cons n2
   have hx2 := sizeG_pos n3
   have hy2 := sizeL_len n4
   rw [kidsW] at d1
   have d2 := tail_at d1
   have hnc : peekW ws ((b + (goalW g).length : Nat) : Int) = w_comma := peek_at d1
   have ihl := fun cents kids a m => parts_at hk ih l q fuel cents cs.tail kids a m (x2 + y2) r
   have hc6' : k = 6 → cs.tail.length = l.length + 1 ∧ ∀ c ∈ cs.tail, 0 ≤ c ∧ c ≤ 1000000000 := fun h => by
    obtain ⟨c1, c2⟩ := hc6 h
    exact ⟨by rw [List.length_tail, c1]; simp, fun c hc => c2 c (List.mem_of_mem_tail hc)⟩
   have hc5' : k = 5 → cs.tail = [] := fun h => by rw [hc5 h]; rfl
   have d3 : ws.drop (b + (goalW g).length + 1) = (if k = 6 then [itoaW (cs.tail.headD 0)] else []) ++ goalW q ++ kidsW (decide (k = 6)) false cs.tail.tail l ++ w_close :: r := by
    rw [d2]
    by_cases h6 : k = 6
    ·simp [h6, List.append_assoc]
    ·simp [h6, List.append_assoc]
   have hcs : cents ++ cs.take 1 ++ cs.tail = cents ++ cs := by rw [List.append_assoc]; congr 1; cases cs <;> simp
   have hks : kids ++ [g] ++ q :: l = kids ++ g :: q :: l := by simp
   have hlen : ((if k = 6 then [itoaW (cs.headD 0)] else []) ++ goalW g ++ kidsW (decide (k = 6)) false cs.tail (q :: l)).length = (if k = 6 then [itoaW (cs.headD 0)] else []).length + (goalW g).length + 1 + ((if k = 6 then [itoaW (cs.tail.headD 0)] else []) ++ goalW q ++ kidsW (decide (k = 6)) false cs.tail.tail l).length := by
    rw [kidsW]
    by_cases h6 : k = 6
    ·simp [h6]; omega
    ·simp [h6]; omega
   rw [List.length_cons] at h4 hf hy
   by_cases hkn : kids = []
   ·subst hkn
    rw [if_neg (by simp), must1 d1]
    dsimp only
    rw [ihl _ _ _ _ (by omega) (by simp; simp at h4; omega) (by simp) (fun z hz => hkd z (List.mem_cons_of_mem _ hz)) n2 (by simp at hm ⊢; omega) hc6' hc5' d3, hcs, hks, hlen, hb]
    congr 1
    ·congr 1; omega
    ·simp; omega
   ·have hkl : 1 < kids.length + 1 := by cases kids with | nil => exact absurd rfl hkn | cons _ _ => simp
    rw [if_neg hkn] at hm
    rw [if_pos hkl, hnc, if_neg (by decide), if_neg (by simp only [not_or]; constructor <;> omega), must1 d1]
    dsimp only
    rw [ihl _ _ _ _ (by omega) (by simp; omega) (by simp; omega) (fun z hz => hkd z (List.mem_cons_of_mem _ hz)) n2 (by simp; omega) hc6' hc5' d3, hcs, hks, hlen, hb]
    congr 1
    ·congr 1; omega
    ·simp [hkn]; omega
theorem goal_at (ws : List Wd) : ∀ (f : Nat) (d : Int), (f : Int) + d = 5 → ReadG ws f d
  | 0, d, hfd => fun g of_ n a m r hn _ _ _ => by have := (sizeG_parts hn).1; omega
  | f + 1, d, hfd => fun g of_ n a m r hn hk hm hd => by
    have ih := goal_at ws f (d + 1) (by omega)
    obtain ⟨hd4, hok, q, hq, rfl⟩ := sizeG_parts hn
    have hO := okG hok
    have hkind := hO.kind
    have hql := sizeL_len hq
    obtain ⟨w, l, e1, e2⟩ := form_at g hO
    have hpk : peekW ws a = w := peek_at (r := l ++ r) (by rw [hd, e1]; rfl)
    rw [goalP, hpk, e2]
    dsimp only
    by_cases h1 : g.kind = 1
    · rw [if_pos h1, if_neg (by omega), if_pos h1, show (a : Int) + 1 = ((a + 1 : Nat) : Int) from rfl, see_at hO h1 hd]
      have hk0 := (hO.see h1).2.2.2.2.2.1
      rw [hk0, sizeL] at hq
      injection hq with hq
      congr 1; omega
    · rw [if_neg h1]
      by_cases h2 : g.kind = 2 ∨ g.kind = 3 ∨ g.kind = 4
      · obtain ⟨k, hkid, hkk, hg⟩ := plain_one hO h2
        rw [hkid] at hq
        obtain ⟨x, y, n1, n2, rfl⟩ := sizeL_cons hq
        rw [sizeL] at n2
        injection n2 with n2
        subst n2
        have hx := sizeG_pos n1
        have hd3 := (sizeG_parts n1).1
        rw [if_neg (show ¬ (g.kind = 5 ∨ g.kind = 6) by omega), if_neg (by omega), if_neg h1, show (a : Int) + 1 = ((a + 1 : Nat) : Int) from rfl]
        have em : m - 1 - (x - 1) = m - (1 + (x + 0) - 1) := by omega
        rcases h2 with h2 | h2 | h2
        · rw [if_pos h2] at hg
          rw [if_pos h2, pair_at ih hO h2 hkid hkk hg n1 (by omega) hd, em]
        · rw [if_neg (by omega), if_pos h2] at hg
          rw [if_neg (by omega), if_pos h2, every_at ih hO h2 hkid hkk hg n1 (by omega) hd, em]
        · rw [if_neg (by omega), if_neg (by omega)] at hg
          rw [if_neg (by omega), if_neg (by omega), if_pos h2, del_at ih hO h2 hkid hkk hg n1 (by omega) hd, em]
      · have h5 : g.kind = 5 ∨ g.kind = 6 := by omega
        obtain ⟨c1, c2, c3, c4⟩ := hO.many h5
        obtain ⟨p1, p2⟩ := plain_many hO h5
        obtain ⟨k, l', hkl⟩ : ∃ k l', g.kids = k :: l' := by
          cases hg : g.kids with
          | nil => rw [hg] at c1; simp at c1
          | cons k l' => exact ⟨k, l', rfl⟩
        have hd3 : d + 1 ≤ 4 := by
          rw [hkl] at hq
          obtain ⟨x, y, n1, n2, rfl⟩ := sizeL_cons hq
          exact (sizeG_parts n1).1
        rw [if_pos h5, if_neg (by omega), if_neg h1, if_neg (by omega), if_neg (by omega), if_neg (by omega), show (a : Int) + 1 = ((a + 1 : Nat) : Int) from rfl]
        have eW : goalW g = [if g.kind = 5 then w_all else w_any, w_open] ++ ((if g.kind = 6 then [itoaW (g.cents.headD 0)] else []) ++ goalW k ++ kidsW (decide (g.kind = 6)) false g.cents.tail l') ++ [w_close] := by
          rw [goalW_eq, if_neg h1, if_neg h2, hkl, kidsW]
          by_cases h6 : g.kind = 6 <;> simp [h6]
        have hd' := hd
        rw [eW] at hd'
        have d1 : ws.drop (a + 1) = w_open :: (((if g.kind = 6 then [itoaW (g.cents.headD 0)] else []) ++ goalW k ++ kidsW (decide (g.kind = 6)) false g.cents.tail l') ++ w_close :: r) := by
          have := tail_at hd'
          rw [this]; simp
        have d2 := tail_at d1
        unfold listP
        rw [must1 d1]
        dsimp only [Rs.bind]
        rw [hkl] at hq c1 c2 p1
        have := parts_at h5 ih l' k 5 [] g.cents [] (a + 1 + 1) (m - 2) q r (by simp at c2; omega) (by simp at c2 ⊢; omega) (by simp at c1 ⊢; omega) p1 hq (by simp; omega) (fun h => by
          obtain ⟨x1, x2⟩ := c3 h
          exact ⟨by rw [x1, hkl]; rfl, x2⟩) c4 d2
        rw [List.nil_append, List.nil_append, ← hkl, ← p2] at this
        refine Eq.trans this ?_
        rw [eW]
        congr 1
        · simp only [List.length_append, List.length_cons, List.length_nil]; omega
        · simp; omega
end Go.SX
