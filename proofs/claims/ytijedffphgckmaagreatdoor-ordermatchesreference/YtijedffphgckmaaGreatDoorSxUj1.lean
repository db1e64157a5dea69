/-
  Walks: Uj1, Os0, Ug0, Ug1, Ug2, Ug3, Ug4, Or4, Or5: what single functions of the program compute.
-/
import Derived.Test.YtijedffphgckmaaGreatDoorSxUf0
import Derived.Test.YtijedffphgckmaaGreatDoorSxUd4
import Derived.Test.YtijedffphgckmaaGreatDoorSxUb9
import Derived.Test.YtijedffphgckmaaGreatDoorSxTq0
set_option linter.unusedVariables false
set_option linter.unusedSimpArgs false
namespace Go.SX
open Go.Proofs
set_option maxHeartbeats 400000000
set_option maxRecDepth 100000
@[reducible] def yf0 (o : q2c) : SV Cd := .agg [iS o.id, iS o.owner, iS o.goal.kind, lS o.goal.rows, iS o.goal.from_, iS o.goal.to_, iS o.goal.low, iS o.goal.high, bS o.goal.clear, iS o.goal.days, iS o.goal.times, iS o.goal.within, lS o.goal.cents, .slice 0 0 12 0 o.goal.kids.length, iS o.price, iS o.group, bS o.urgent, iS o.known, iS o.due]
theorem y89 (l : List Int) (hl : l.length = 7) (hz : ∀ z ∈ l, I64 z) (y : List A5) (hy : ∀ z ∈ y, z41 z) (hyl : (y.length : Int) ≤ 9223372036854775807) (hk : (q9q y).kids ≠ []) : q07 Tryz.prog Dc 11 [a7A l, a5S y] [] (yf0 (ql0 l y)) [.rows U.goal (ql0 l y).goal.kids] := by
 have hg := y85 y hy hyl hk
 have hI : ∀ k, k < 7 → I64 (l.getD k 0) := fun k hk => hz _ (List.mem_of_getElem? (getD_some (d := (0 : Int)) (by omega)))
 have p0 := q25 (l.getD 0 0) 20 (hI 0 (by omega)) (by omega)
 have p1 := q25 (l.getD 1 0) 5 (hI 1 (by omega)) (by omega)
 have p2 := q25 (l.getD 2 0) 100000 (hI 2 (by omega)) (by omega)
 have p3 := q25 (l.getD 3 0) 5 (hI 3 (by omega)) (by omega)
 have p4 := q25 (l.getD 4 0) 3 (hI 4 (by omega)) (by omega)
 have p5 := q25 (l.getD 5 0) 3000 (hI 5 (by omega)) (by omega)
 have p6 := q25 (l.getD 6 0) 9000 (hI 6 (by omega)) (by omega)
 have h3 := q0g (c := l.getD 3 0) (n := 5) (by omega)
 have h5 := q0g (c := l.getD 5 0) (n := 3000) (by omega)
 have h6 := q0g (c := l.getD 6 0) (n := 9000) (by omega)
 unfold ql0
 clear hI hz hk
 refine q00 Ax q03 Tryz.func11 (c := _) rfl Tryz.call11 300 ?_
 (repeat' ((conv => whnf); first | (exfalso; omega) | refine cpC (p0) ?_ | refine dpC (p0) ?_ | refine cpC (p1) ?_ | refine dpC (p1) ?_ | refine cpC (p2) ?_ | refine dpC (p2) ?_ | refine cpC (p3) ?_ | refine dpC (p3) ?_ | refine cpC (p4) ?_ | refine dpC (p4) ?_ | refine cpC (p5) ?_ | refine dpC (p5) ?_ | refine cpC (p6) ?_ | refine dpC (p6) ?_ | (refine q37 [] hg rfl rfl trivial ?_) | (refine q08 [some 2] (.inr rfl) ?_ ?_ rfl rfl; (focus exact vwV); exact hsV) | refine x0C ?_ | refine spC (fun hb => ?_) fun hb => ?_ | refine q52 (fun hb => ?_) ?_ | refine taC ?_ | refine saC ?_ | exact sdV | refine q0b ?_ ?_ | refine q02 mixed ?_))
end Go.SX
namespace Go.SX
theorem zh4 : ∀ (f g u : Nat), u < 10 ^ (f + 1) → u < 10 ^ (g + 1) → q5c (f + 1) u = q5c (g + 1) u := fun f g u h h' => by rw [qg7 f u h, qg7 g u h']
theorem q7y {n : Int} (h0 : 0 ≤ n) (h : n < 10) : q0a n = [UInt8.ofNat (48 + n.toNat)] := by
 unfold q0a
 rw [if_neg (by omega)]
 show q5c (19 + 1) _ = _
 rw [q5c, if_pos (by omega)]
theorem qn1 {n : Int} (h0 : 10 ≤ n) (h : n < 1000000000000000) : q0a n = q0a (n.tdiv 10) ++ q0a (n.tmod 10) := by
 have e1 : n.tdiv 10 = n / 10 := Int.tdiv_eq_ediv_of_nonneg (by omega)
 have e2 : n.tmod 10 = n % 10 := Int.tmod_eq_emod_of_nonneg (by omega)
 rw [e1, e2, q7y (n := n % 10) (by omega) (by omega)]
 unfold q0a
 rw [if_neg (by omega), if_neg (by omega)]
 have h1 : q5c 20 n.toNat = q5c 19 (n.toNat / 10) ++ [UInt8.ofNat (48 + n.toNat % 10)] := by
  show q5c (19 + 1) _ = _
  rw [q5c, if_neg (by omega)]
 rw [h1, show (n / 10).toNat = n.toNat / 10 by omega, show (n % 10).toNat = n.toNat % 10 by omega, zh4 18 19 (n.toNat / 10) (by omega) (by omega)]
theorem y7a {p : Run} (h : p.1 ≤ p.2) (i : Nat) : (mk p).testBit i = (decide (p.1 ≤ i) && decide (i ≤ p.2)) := by
 unfold mk
 rw [Nat.testBit_two_pow_mul, Nat.testBit_two_pow_sub_one]
 by_cases h1 : p.1 ≤ i
 ·simp [h1]; omega
 ·simp [h1]
theorem z94 {l : List Run} : ∀ {c : Nat}, RC c l → ∀ q ∈ l, c ≤ q.1 ∧ q.1 ≤ q.2 ∧ q.2 ≤ 47 := by
 induction l with
 | nil => intro c _ q hq; cases hq
 | cons a l ih =>
  intro c h q hq
  rcases List.mem_cons.1 hq with rfl | hq
  ·exact ⟨h.1, h.2.1, h.2.2.1⟩
  ·have := ih h.2.2.2 q hq; have := h.1; have := h.2.1; omega
theorem z42 : ∀ {l : List Run} {c : Nat}, RC c l → ∀ i, (val l).testBit i = true ↔ ∃ q ∈ l, q.1 ≤ i ∧ i ≤ q.2
 | [], c, _, i => by simp [val]
 | p :: l, c, h, i => by
  obtain ⟨k, hk⟩ := z43 h.2.2.2
  have h1 := z29 h.2.1
  have h2 : 2 ^ (p.2 + 1) ≤ 2 ^ (p.2 + 2) := Nat.pow_le_pow_right (by omega) (by omega)
  have h3 := Nat.two_pow_pos p.1
  have hlt : mk p < 2 ^ (p.2 + 2) := by omega
  have e : val (p :: l) = 2 ^ (p.2 + 2) * k + mk p := by rw [val, hk, Nat.add_comm]
  have ih := z42 h.2.2.2 i
  rw [hk, Nat.testBit_two_pow_mul] at ih
  rw [e, Nat.testBit_two_pow_mul_add _ hlt]
  by_cases hi : i < p.2 + 2
  ·rw [if_pos hi, y7a h.2.1]
   simp only [Bool.and_eq_true, decide_eq_true_eq, List.mem_cons, exists_eq_or_imp]
   constructor
   ·intro h; exact .inl h
   ·rintro (h | ⟨q, hq, h4, h5⟩)
    ·exact h
    ·have := (z94 h.2.2.2 q hq).1; omega
  ·rw [if_neg hi]
   simp only [List.mem_cons, exists_eq_or_imp]
   simp only [Bool.and_eq_true, decide_eq_true_eq] at ih
   constructor
   ·intro h; exact .inr (ih.1 ⟨by omega, h⟩)
   ·rintro (h | h)
    ·omega
    ·exact (ih.2 h).2
def q97 (x : Nat) (l : List Run) : List Run := l.filter fun p => decide (p.1 < x)
theorem zg1 (l : List Run) : q97 0 l = [] := by unfold q97; simp
theorem zq1 {l : List Run} {c : Nat} (h : RC c l) : q97 48 l = l := by
 unfold q97
 rw [List.filter_eq_self]
 intro q hq
 have := z94 h q hq
 simp; omega
theorem zf9 {l : List Run} {x : Nat} (h : ∀ q ∈ l, q.1 ≠ x) : q97 (x + 1) l = q97 x l := by
 unfold q97
 refine List.filter_congr fun q hq => ?_
 have := h q hq
 simp; omega
theorem z1o : ∀ {l : List Run} {c x : Nat}, RC c l → ∀ p ∈ l, p.1 = x → q97 (x + 1) l = q97 x l ++ [p]
 | [], c, x, _, p, hp, _ => by cases hp
 | a :: l, c, x, h, p, hp, e => by
  rcases List.mem_cons.1 hp with rfl | hp
  ·have hn : ∀ z, z ≤ p.2 + 2 → q97 z l = [] := fun z hz => by
    unfold q97
    rw [List.filter_eq_nil_iff]
    intro q hq
    have := (z94 h.2.2.2 q hq).1
    simp; omega
   have h21 := h.2.1
   have e1 := hn (x + 1) (by omega)
   have e2 := hn x (by omega)
   unfold q97 at e1 e2 ⊢
   rw [List.filter_cons_of_pos (by simp; omega), List.filter_cons_of_neg (by simp; omega), e1, e2]; rfl
  ·have ih := z1o h.2.2.2 p hp e
   have := (z94 h.2.2.2 p hp).1
   have h21 := h.2.1
   unfold q97 at ih ⊢
   rw [List.filter_cons_of_pos (by simp; omega), List.filter_cons_of_pos (by simp; omega), ih]; rfl
def y48 (n x : Nat) : Bool := n.testBit x && (decide (x = 0) || !n.testBit (x - 1))
theorem z8b : ∀ {l : List Run} {c : Nat}, RC c l → ∀ p ∈ l, ∀ q ∈ l, p.1 ≤ q.2 + 1 → q.1 ≤ p.2 + 1 → p = q
 | [], c, _, p, hp, _, _, _, _ => by cases hp
 | a :: l, c, h, p, hp, q, hq, h1, h2 => by
  have hlo := z94 h.2.2.2
  rcases List.mem_cons.1 hp with e | hp'
  ·rcases List.mem_cons.1 hq with e2 | hq'
   ·rw [e, e2]
   ·have := (hlo q hq').1; subst e; omega
  ·rcases List.mem_cons.1 hq with e2 | hq'
   ·have := (hlo p hp').1; subst e2; omega
   ·exact z8b h.2.2.2 p hp' q hq' h1 h2
theorem y0p {n x : Nat} (h : n < 2 ^ 48) (hb : y48 n x = true) : ∃ p ∈ q32 n, p.1 = x ∧ x ≤ p.2 ∧ p.2 ≤ 47 ∧ (∀ i, x ≤ i → i ≤ p.2 → n.testBit i = true) ∧ n.testBit (p.2 + 1) = false := by
 obtain ⟨h1, h2⟩ := z3m h
 have hB := z42 h1
 rw [h2] at hB
 unfold y48 at hb
 simp only [Bool.and_eq_true, Bool.or_eq_true, decide_eq_true_eq, Bool.not_eq_true'] at hb
 obtain ⟨p, hp, p1, p2⟩ := (hB x).1 hb.1
 have hlo := z94 h1 p hp
 have hpx : p.1 = x := by
  rcases Nat.lt_or_eq_of_le p1 with h3 | h3
  ·exfalso
   rcases hb.2 with h4 | h4
   ·omega
   ·have := (hB (x - 1)).2 ⟨p, hp, by omega, by omega⟩
    rw [h4] at this; cases this
  ·exact h3
 refine ⟨p, hp, hpx, p2, hlo.2.2, fun i hi hi2 => (hB i).2 ⟨p, hp, by omega, hi2⟩, ?_⟩
 cases hn : n.testBit (p.2 + 1) with
 | false => rfl
 | true =>
  obtain ⟨q, hq, q1, q2⟩ := (hB _).1 hn
  have := z8b h1 p hp q hq (by omega) (by omega)
  subst this
  omega
theorem zl1 {n x : Nat} (h : n < 2 ^ 48) (hb : y48 n x = false) : ∀ p ∈ q32 n, p.1 ≠ x := by
 obtain ⟨h1, h2⟩ := z3m h
 have hB := z42 h1
 rw [h2] at hB
 intro p hp e
 have hlo := z94 h1 p hp
 have e1 : n.testBit x = true := (hB x).2 ⟨p, hp, by omega, by omega⟩
 unfold y48 at hb
 rw [e1, Bool.true_and] at hb
 simp only [Bool.or_eq_false_iff, decide_eq_false_iff_not, Bool.not_eq_false'] at hb
 obtain ⟨q, hq, q1, q2⟩ := (hB (x - 1)).1 hb.2
 have := z8b h1 p hp q hq (by omega) (by omega)
 subst this
 omega
end Go.SX
namespace Go.SX
open Go.Proofs
set_option maxHeartbeats 400000000
set_option maxRecDepth 100000
theorem q6i : ∀ (f : Nat) (n : Int), 0 ≤ n → n < 10 ^ (f + 1) → n < 1000000000000 → q07 Tryz.prog Dc 58 [iS n] [] (wS (q0a n)) [] := by
 intro f
 induction f with
 | zero =>
  intro n h0 h1 h2
  have h1 : n < 10 := by simpa using h1
  rw [q7y h0 h1]
  have key : ∀ k : Nat, k < 10 → List.drop (k : Int).toNat (List.take ((k : Int) + 1).toNat [48, 49, 50, 51, 52, 53, 54, 55, 56, 57]) = [UInt8.ofNat (48 + k)] := by decide
  have hk := key n.toNat (by omega)
  rw [show ((n.toNat : Nat) : Int) = n by omega] at hk
  refine q00 Ax q03 Tryz.func58 (c := _) rfl Tryz.call58 60 ?_
  (repeat' ((conv => whnf); first | (exfalso; omega) | refine x0C ?_ | refine spC (fun hb => ?_) fun hb => ?_ | refine saC ?_))
  all_goals (rw [← hk]; exact vwV)
 | succ f ih =>
  intro n h0 h1 h2
  by_cases h10 : n < 10
  ·exact ih n h0 (by
    have : (10 : Int) ≤ 10 ^ (f + 1) := by
     have := Nat.one_le_two_pow (n := f)
     have h := Nat.pow_le_pow_right (n := 10) (by omega) (show 1 ≤ f + 1 by omega)
     exact_mod_cast h
    omega) h2
  ·have e1 : n.tdiv 10 = n / 10 := Int.tdiv_eq_ediv_of_nonneg (by omega)
   have e2 : n.tmod 10 = n % 10 := Int.tmod_eq_emod_of_nonneg (by omega)
   have q1 := ih (n.tdiv 10) (by omega) (by rw [e1]; rw [Int.pow_succ] at h1; omega) (by omega)
   have hp : (10 : Int) ≤ 10 ^ (f + 1) := by
    have h := Nat.pow_le_pow_right (n := 10) (by omega) (show 1 ≤ f + 1 by omega)
    exact_mod_cast h
   have q2 := ih (n.tmod 10) (by omega) (by omega) (by omega)
   rw [qn1 (by omega) (by omega)]
   have l1 := q1i (n.tdiv 10)
   have l2 := q1i (n.tmod 10)
   refine q00 Ax q03 Tryz.func58 (c := _) rfl Tryz.call58 60 ?_
   (repeat' ((conv => whnf); first | (exfalso; omega) | refine cpC (q1) ?_ | refine cpC (q2) ?_ | refine x0C ?_ | refine spC (fun hb => ?_) fun hb => ?_ | refine saC ?_))
   all_goals exact vwV
theorem zz6 {r : Int} {x : Nat} (h0 : 0 ≤ r) (hx : x < 48) : (q7l .i64 r x).tmod 2 = if r.toNat.testBit x then 1 else 0 := by
 have h := zl5 h0 hx
 cases hb : r.toNat.testBit x with
 | true => rw [hb] at h; simpa using h
 | false =>
  rw [hb] at h
  have h := of_decide_eq_false h
  have h2 : (0 : Int) ≤ (q7l .i64 r x).tmod 2 ∧ (q7l .i64 r x).tmod 2 ≤ 1 := by
   obtain ⟨m, rfl⟩ : ∃ m : Nat, r = m := ⟨r.toNat, by omega⟩
   unfold q7l
   have hp : (0 : Int) ≤ ((2 ^ x : Nat) : Int) := Int.natCast_nonneg _
   rw [z8w hx, Int.fdiv_eq_ediv_of_nonneg _ hp]
   rw [show ((m : Int) / ((2 ^ x : Nat) : Int)) = ((m / 2 ^ x : Nat) : Int) from (Int.natCast_ediv _ _).symm]
   rw [show (((m / 2 ^ x : Nat) : Int).tmod 2) = (((m / 2 ^ x) % 2 : Nat) : Int) from rfl]
   omega
  simp only [Bool.false_eq_true, if_false]
  omega
theorem y6u (rows : List Int) (hr : q29 rows = true) : q07 Tryz.prog Dc 84 [z36 rows] [] (wsS (q44 0 rows)) [] := by
 simp only [q29, Bool.and_eq_true, decide_eq_true_eq, List.all_eq_true] at hr
 obtain ⟨hl, hro⟩ := hr
 have hl : rows.length = 24 := by omega
 have hR : ∀ y : Nat, y < 24 → 0 ≤ rows.getD (y : Int).toNat (Cd.dflt U.int) ∧ rows.getD (y : Int).toNat (Cd.dflt U.int) ≤ 281474976710655 := fun y hy => (q0f _ _ _).1 (hro _ (List.mem_of_getElem? (getD_some (d := Cd.dflt U.int) (show y < rows.length by omega))))
 clear hro
 refine q00 Ax q03 Tryz.func84 (c := _) rfl Tryz.call84 200 ?_
 (repeat' ((conv => whnf); first | fail))
 refine q57 [some 0, none] (fun q : Nat × List Wd => [(3, .slice 1 0 1 0 q.2.length), (4, iS q.1)]) (fun q => [(1, .rows U.str q.2)]) (fun q => q.1 ≤ 24 ∧ q.2 = q44 0 (rows.take q.1) ∧ q.2.length ≤ 192 * q.1) (fun q => 24 - q.1) (0, []) ⟨Nat.zero_le _, by simp [q44], by simp⟩ (by exact bkI) ?_
 rintro ⟨y, J⟩ ⟨hy, hJ, hJl⟩ K hK
 dsimp only at hy hJ hJl hK ⊢
 rcases Nat.lt_or_ge y 24 with hlt | hge
 ·have hRy := hR y hlt
  (repeat' ((conv => whnf); first | (exfalso; omega) | refine spC (fun hb => ?_) fun hb => ?_))
  have hr : rows.getD (y : Int).toNat (Cd.dflt U.int) = rows.getD y 0 := rfl
  obtain ⟨n, hn⟩ : ∃ n, n = (rows.getD (y : Int).toNat (Cd.dflt U.int)).toNat := ⟨_, rfl⟩
  have hn48 : n < 2 ^ 48 := by omega
  obtain ⟨hrc, hval⟩ := z3m hn48
  have hbit := fun x (hx : x < 48) => zz6 (r := rows.getD (y : Int).toNat (Cd.dflt U.int)) (x := x) hRy.1 hx
  rw [← hn] at hbit
  have hlen := zb2 hn48
  have hnext : q44 0 (rows.take (y + 1)) = q44 0 (rows.take y) ++ (q32 n).flatMap (qj8 y) := by
   rw [q2g (d := Cd.dflt U.int) (show y < rows.length by omega), qk5, List.length_take, Nat.min_eq_left (by omega), Nat.zero_add, hn]; rfl
  refine q57 [some 0, some 1] (fun q : Nat × List Wd => [(3, .slice 1 0 1 0 q.2.length), (5, iS q.1)]) (fun q => [(1, .rows U.str q.2)]) (fun q => q.1 ≤ 48 ∧ q.2 = J ++ (q97 q.1 (q32 n)).flatMap (qj8 y)) (fun q => 48 - q.1) (0, J) ⟨Nat.zero_le _, by simp [zg1]⟩ (by exact bkI) ?_
  rintro ⟨x, J2⟩ ⟨hx, hJ2⟩ K2 hK2
  dsimp only at hx hJ2 hK2 ⊢
  have hJ2l : J2.length ≤ 192 * y + 192 := by
   rw [hJ2, List.length_append, q9s]
   have : (q97 x (q32 n)).length ≤ (q32 n).length := List.length_filter_le _ _
   omega
  rcases Nat.lt_or_ge x 48 with hxl | hxg
  ·have hb0 := hbit x hxl
   have hb1 : 0 < x → (q7l .i64 (rows.getD (y : Int).toNat (Cd.dflt U.int)) ((x : Int) - 1)).tmod 2 = if n.testBit (x - 1) then 1 else 0 := fun h => by
    have := hbit (x - 1) (by omega)
    rw [show ((x - 1 : Nat) : Int) = (x : Int) - 1 by omega] at this
    exact this
   cases hbeg : y48 n x with
   | true =>
    obtain ⟨p, hp, p1, p2, p3, p4, p5⟩ := y0p hn48 hbeg
    have hnew := z1o hrc p hp p1
    have hbx := p4 x (Nat.le_refl _) p2
    rw [hbx] at hb0
    have hb2 : 0 < x → n.testBit (x - 1) = false := fun h => by
     unfold y48 at hbeg
     simp only [Bool.and_eq_true, Bool.or_eq_true, decide_eq_true_eq, Bool.not_eq_true'] at hbeg
     rcases hbeg.2 with h1 | h1
     ·omega
     ·exact h1
    have hb3 : 0 < x → (q7l .i64 (rows.getD (y : Int).toNat (Cd.dflt U.int)) ((x : Int) - 1)).tmod 2 = 0 := fun h => by rw [hb1 h, hb2 h]; rfl
    rw [if_pos rfl] at hb0
    clear hb1 hb2 hbx
    rcases Nat.eq_zero_or_pos x with hx0 | hx0
    ·clear hb3
     (repeat' ((conv => whnf); first | (exfalso; omega) | refine spC (fun hb => ?_) fun hb => ?_ | refine saC ?_))
     conv => whnf
     refine q0u (fun t : Nat => [(6, iS t)]) (fun _ => []) (fun t => x ≤ t ∧ t ≤ p.2) (fun t => p.2 - t) x ⟨Nat.le_refl _, p2⟩ (by exact bkI) ?_
     rintro t ⟨ht1, ht2⟩ K3 hK3
     rcases Nat.lt_or_eq_of_le ht2 with ht | ht
     ·have hb4 := hbit (t + 1) (by omega)
      rw [p4 (t + 1) (by omega) (by omega), if_pos rfl, show ((t + 1 : Nat) : Int) = (t : Int) + 1 from rfl] at hb4
      (repeat' ((conv => whnf); first | (exfalso; omega) | refine hK3 (t + 1) [some 0, some 1] _ _ ⟨⟨by omega, by omega⟩⟩ ⟨by omega⟩ (by exact bkI) | refine spC (fun hb => ?_) fun hb => ?_ | refine saC ?_))
     ·have hb4 : p.2 + 1 < 48 → (q7l .i64 (rows.getD (y : Int).toNat (Cd.dflt U.int)) ((t : Int) + 1)).tmod 2 = 0 := fun h => by
       have := hbit (p.2 + 1) h
       rw [p5, ← ht] at this
       exact this
      have q1 := q6i 3 y (by omega) (by omega) (by omega)
      have q2 := q6i 3 x (by omega) (by omega) (by omega)
      have q3 := q6i 3 t (by omega) (by omega) (by omega)
      have hRun : qj8 y p = [q7o, q0a y, q0a x, q0a t] := by rw [ht]; unfold qj8; rw [p1]
      have hJ3 : List.take J2.length J2 ++ List.take 4 (List.drop 0 [q7o, q0a y, q0a x, q0a t]) = J ++ (q97 (x + 1) (q32 n)).flatMap (qj8 y) := by
       rw [List.take_length, show List.take 4 (List.drop 0 [q7o, q0a y, q0a x, q0a t]) = [q7o, q0a y, q0a x, q0a t] from rfl]
       rw [hnew, List.flatMap_append, ← List.append_assoc, ← hJ2, List.flatMap_cons, hRun]; rfl
      by_cases h48 : p.2 + 1 < 48
      ·have hb4 := hb4 h48
       (repeat' ((conv => whnf); first | (exfalso; omega) | refine cpC (q1) ?_ | refine cpC (q2) ?_ | refine cpC (q3) ?_ | refine hK2 (x + 1, List.take J2.length J2 ++ List.take 4 (List.drop 0 [q7o, q0a y, q0a x, q0a t])) [some 0, some 3] _ _ ⟨⟨by dsimp only; omega, hJ3⟩⟩ ⟨by dsimp only; omega⟩ (by exact bkI) | refine spC (fun hb => ?_) fun hb => ?_ | refine saC ?_))
      ·clear hb4
       (repeat' ((conv => whnf); first | (exfalso; omega) | refine cpC (q1) ?_ | refine cpC (q2) ?_ | refine cpC (q3) ?_ | refine hK2 (x + 1, List.take J2.length J2 ++ List.take 4 (List.drop 0 [q7o, q0a y, q0a x, q0a t])) [some 0, some 3] _ _ ⟨⟨by dsimp only; omega, hJ3⟩⟩ ⟨by dsimp only; omega⟩ (by exact bkI) | refine spC (fun hb => ?_) fun hb => ?_ | refine saC ?_))
    ·have hb3 := hb3 hx0
     (repeat' ((conv => whnf); first | (exfalso; omega) | refine spC (fun hb => ?_) fun hb => ?_ | refine saC ?_))
     conv => whnf
     refine q0u (fun t : Nat => [(6, iS t)]) (fun _ => []) (fun t => x ≤ t ∧ t ≤ p.2) (fun t => p.2 - t) x ⟨Nat.le_refl _, p2⟩ (by exact bkI) ?_
     rintro t ⟨ht1, ht2⟩ K3 hK3
     rcases Nat.lt_or_eq_of_le ht2 with ht | ht
     ·have hb4 := hbit (t + 1) (by omega)
      rw [p4 (t + 1) (by omega) (by omega), if_pos rfl, show ((t + 1 : Nat) : Int) = (t : Int) + 1 from rfl] at hb4
      (repeat' ((conv => whnf); first | (exfalso; omega) | refine hK3 (t + 1) [some 0, some 1] _ _ ⟨⟨by omega, by omega⟩⟩ ⟨by omega⟩ (by exact bkI) | refine spC (fun hb => ?_) fun hb => ?_ | refine saC ?_))
     ·have hb4 : p.2 + 1 < 48 → (q7l .i64 (rows.getD (y : Int).toNat (Cd.dflt U.int)) ((t : Int) + 1)).tmod 2 = 0 := fun h => by
       have := hbit (p.2 + 1) h
       rw [p5, ← ht] at this
       exact this
      have q1 := q6i 3 y (by omega) (by omega) (by omega)
      have q2 := q6i 3 x (by omega) (by omega) (by omega)
      have q3 := q6i 3 t (by omega) (by omega) (by omega)
      have hRun : qj8 y p = [q7o, q0a y, q0a x, q0a t] := by rw [ht]; unfold qj8; rw [p1]
      have hJ3 : List.take J2.length J2 ++ List.take 4 (List.drop 0 [q7o, q0a y, q0a x, q0a t]) = J ++ (q97 (x + 1) (q32 n)).flatMap (qj8 y) := by
       rw [List.take_length, show List.take 4 (List.drop 0 [q7o, q0a y, q0a x, q0a t]) = [q7o, q0a y, q0a x, q0a t] from rfl]
       rw [hnew, List.flatMap_append, ← List.append_assoc, ← hJ2, List.flatMap_cons, hRun]; rfl
      by_cases h48 : p.2 + 1 < 48
      ·have hb4 := hb4 h48
       (repeat' ((conv => whnf); first | (exfalso; omega) | refine cpC (q1) ?_ | refine cpC (q2) ?_ | refine cpC (q3) ?_ | refine hK2 (x + 1, List.take J2.length J2 ++ List.take 4 (List.drop 0 [q7o, q0a y, q0a x, q0a t])) [some 0, some 3] _ _ ⟨⟨by dsimp only; omega, hJ3⟩⟩ ⟨by dsimp only; omega⟩ (by exact bkI) | refine spC (fun hb => ?_) fun hb => ?_ | refine saC ?_))
      ·clear hb4
       (repeat' ((conv => whnf); first | (exfalso; omega) | refine cpC (q1) ?_ | refine cpC (q2) ?_ | refine cpC (q3) ?_ | refine hK2 (x + 1, List.take J2.length J2 ++ List.take 4 (List.drop 0 [q7o, q0a y, q0a x, q0a t])) [some 0, some 3] _ _ ⟨⟨by dsimp only; omega, hJ3⟩⟩ ⟨by dsimp only; omega⟩ (by exact bkI) | refine spC (fun hb => ?_) fun hb => ?_ | refine saC ?_))
   | false =>
    have hnone := zf9 (zl1 hn48 hbeg)
    have hJ3 : J2 = J ++ (q97 (x + 1) (q32 n)).flatMap (qj8 y) := by rw [hnone]; exact hJ2
    unfold y48 at hbeg
    by_cases hbx : n.testBit x = true
    ·rw [hbx, Bool.true_and] at hbeg
     simp only [Bool.or_eq_false_iff, decide_eq_false_iff_not, Bool.not_eq_false'] at hbeg
     have hx0 : 0 < x := by omega
     have hb3 := hb1 hx0
     rw [hbeg.2, if_pos rfl] at hb3
     rw [hbx, if_pos rfl] at hb0
     clear hb1
     (repeat' ((conv => whnf); first | (exfalso; omega) | refine hK2 (x + 1, J2) [some 0, some 1] _ _ ⟨⟨by dsimp only; omega, hJ3⟩⟩ ⟨by dsimp only; omega⟩ (by exact bkI) | refine spC (fun hb => ?_) fun hb => ?_ | refine saC ?_))
    ·rw [if_neg hbx] at hb0
     clear hb1
     (repeat' ((conv => whnf); first | (exfalso; omega) | refine hK2 (x + 1, J2) [some 0, some 1] _ _ ⟨⟨by dsimp only; omega, hJ3⟩⟩ ⟨by dsimp only; omega⟩ (by exact bkI) | refine spC (fun hb => ?_) fun hb => ?_ | refine saC ?_))
  ·have hx48 : x = 48 := by omega
   have hJ3 : J2 = q44 0 (rows.take (y + 1)) := by rw [hJ2, hx48, zq1 hrc, hnext, hJ]
   have hJ4 : J2.length ≤ 192 * (y + 1) := by omega
   (repeat' ((conv => whnf); first | (exfalso; omega) | refine hK (y + 1, J2) [some 0, some 1] _ _ ⟨⟨by dsimp only; omega, hJ3, hJ4⟩⟩ ⟨by dsimp only; omega⟩ (by exact bkI) | refine spC (fun hb => ?_) fun hb => ?_ | refine saC ?_))
 ·rw [List.take_of_length_le (by omega)] at hJ
  rw [← hJ]
  (repeat' ((conv => whnf); first | (exfalso; omega) | refine x0C ?_ | refine spC (fun hb => ?_) fun hb => ?_))
  all_goals exact vwV
theorem yc7 (g : q06) (h : OkG g) (hk : g.kind = 1) : q07 Tryz.prog Dc 59 [q0m g] [] (wsS (q0o g)) [] := by
 obtain ⟨b1, b2, b3, b4, b5, _, _⟩ := h.see hk
 have q0 := y6u g.rows b1
 have q1 := q6i 11 g.from_ (by omega) (by omega) (by omega)
 have q2 := q6i 11 g.to_ (by omega) (by omega) (by omega)
 have q3 := q6i 11 g.low (by omega) (by omega) (by omega)
 have q4 := q6i 11 g.high (by omega) (by omega) (by omega)
 have hlen := z9b b1
 have eW : q0o g = qw5 g := by rw [q3n, if_pos hk]
 rw [eW]
 have hrl : (q44 0 g.rows).length ≤ 4700 := by simp only [qw5, List.length_append, List.length_cons] at hlen; omega
 have eS : ∀ w : Wd, (if g.clear = true then q64 else q2p) = w → qw5 g = q3e :: (q44 0 g.rows ++ [q1q, q0a g.from_, qh5, q0a g.to_, qf4, q0a g.low, qh5, q0a g.high, w]) := fun w h => by
  unfold qw5; rw [h]; rfl
 generalize q44 0 g.rows = R at *
 cases hc : g.clear with
 | true =>
  rw [eS q64 (by rw [hc]; rfl)]
  refine q00 Ax q03 Tryz.func59 (c := _) rfl Tryz.call59 300 ?_
  (repeat' ((conv => whnf); first | (exfalso; omega) | refine cpC (q0) ?_ | refine dpC (q1) ?_ | refine dpC (q2) ?_ | refine dpC (q3) ?_ | refine dpC (q4) ?_ | refine x0C ?_ | refine spC (fun hb => ?_) fun hb => ?_ | refine taC ?_ | refine saC ?_ | refine q02 mixed ?_))
  all_goals first | exact vwV | (rw [hc] at hb; exact absurd hb (by decide))
 | false =>
  rw [eS q2p (by rw [hc]; rfl)]
  refine q00 Ax q03 Tryz.func59 (c := _) rfl Tryz.call59 300 ?_
  (repeat' ((conv => whnf); first | (exfalso; omega) | refine cpC (q0) ?_ | refine dpC (q1) ?_ | refine dpC (q2) ?_ | refine dpC (q3) ?_ | refine dpC (q4) ?_ | refine x0C ?_ | refine spC (fun hb => ?_) fun hb => ?_ | refine taC ?_ | refine saC ?_ | refine q02 mixed ?_))
  all_goals first | exact vwV | (rw [hc] at hb; exact absurd hb (by decide))
theorem yc5 (g k : q06) (h : OkG g) (hk : g.kind = 2 ∨ g.kind = 3 ∨ g.kind = 4) (hkid : g.kids = [k]) (hn : (q0o k).length ≤ 100000) (ih : q07 Tryz.prog Dc 59 [q0m k] [] (wsS (q0o k)) []) : q07 Tryz.prog Dc 59 [q0m g] [] (wsS (q0o g)) [] := by
 have hl : (g.kids.length : Int) = 1 := by rw [hkid]; rfl
 have hgk : g.kids.getD (Int.toNat 0) (Cd.dflt U.goal) = k := by rw [hkid]; rfl
 replace ih : q07 Tryz.prog Dc 59 [q0m (g.kids.getD (Int.toNat 0) (Cd.dflt U.goal))] [] (wsS (q0o k)) [] := by rw [hgk]; exact ih
 clear hgk
 rcases hk with hk | hk | hk
 ·obtain ⟨b1, b2⟩ := h.lim2 hk
  have eW : q0o g = [q28, q3w, q0a g.low, q0z, q0a g.within, q5t] ++ q0o k := by rw [q3n, if_neg (by omega), if_pos (.inl hk), hkid, firstW, q5b, if_pos hk]
  rw [eW]
  have q1 := q6i 11 g.low (by omega) (by omega) (by omega)
  have q2 := q6i 11 g.within (by omega) (by omega) (by omega)
  generalize q0o k = R at *
  refine q00 Ax q03 Tryz.func59 (c := _) rfl Tryz.call59 300 ?_
  (repeat' ((conv => whnf); first | (exfalso; omega) | refine dpC (q1) ?_ | refine dpC (q2) ?_ | refine dpC (ih) ?_ | refine x0C ?_ | refine spC (fun hb => ?_) fun hb => ?_ | refine taC ?_ | refine saC ?_ | refine q02 mixed ?_))
  all_goals exact vwV
 ·obtain ⟨b1, b2, b3, b4⟩ := h.lim3 hk
  have eW : q0o g = [q1k, q0a g.days, q5d, q0a g.times, q3u, q3v, q0a g.within, q1q, q0a g.from_, q5t] ++ q0o k := by rw [q3n, if_neg (by omega), if_pos (.inr (.inl hk)), hkid, firstW, q5b, if_neg (by omega), if_pos hk]
  rw [eW]
  have q1 := q6i 11 g.days (by omega) (by omega) (by omega)
  have q2 := q6i 11 g.times (by omega) (by omega) (by omega)
  have q3 := q6i 11 g.within (by omega) (by omega) (by omega)
  have q4 := q6i 11 g.from_ (by omega) (by omega) (by omega)
  generalize q0o k = R at *
  refine q00 Ax q03 Tryz.func59 (c := _) rfl Tryz.call59 300 ?_
  (repeat' ((conv => whnf); first | (exfalso; omega) | refine dpC (q1) ?_ | refine dpC (q2) ?_ | refine dpC (q3) ?_ | refine dpC (q4) ?_ | refine dpC (ih) ?_ | refine x0C ?_ | refine spC (fun hb => ?_) fun hb => ?_ | refine taC ?_ | refine saC ?_ | refine q02 mixed ?_))
  all_goals exact vwV
 ·have b1 := h.lim4 hk
  have eW : q0o g = [q0q, q0z, q0a g.within, q5t] ++ q0o k := by rw [q3n, if_neg (by omega), if_pos (.inr (.inr hk)), hkid, firstW, q5b, if_neg (by omega), if_neg (by omega)]
  rw [eW]
  have q1 := q6i 11 g.within (by omega) (by omega) (by omega)
  generalize q0o k = R at *
  refine q00 Ax q03 Tryz.func59 (c := _) rfl Tryz.call59 300 ?_
  (repeat' ((conv => whnf); first | (exfalso; omega) | refine dpC (q1) ?_ | refine dpC (ih) ?_ | refine x0C ?_ | refine spC (fun hb => ?_) fun hb => ?_ | refine taC ?_ | refine saC ?_ | refine q02 mixed ?_))
  all_goals exact vwV
def qd5 (g : q06) (i : Nat) : List Wd := [if g.kind = 5 then q46 else q2p, q2m] ++ kidsW (decide (g.kind = 6)) true g.cents (g.kids.take i)
theorem zg4 (g : q06) {i : Nat} (h : i < g.kids.length) : qd5 g (i + 1) = qd5 g i ++ ((if i = 0 then [] else [q0d]) ++ (if g.kind = 6 then [q0a (g.cents.getD i 0)] else []) ++ q0o (g.kids.getD (i : Int).toNat (Cd.dflt U.goal))) := by
 unfold qd5
 rw [q2g (d := Cd.dflt U.goal) h, z1s, List.length_take, Nat.min_eq_left (by omega)]
 have e1 : (g.kids.take i).isEmpty = decide (i = 0) := by
  cases i with
  | zero => simp
  | succ i => cases hk : g.kids with
   | nil => rw [hk] at h; simp at h
   | cons a l => simp
 rw [e1]
 have e2 : g.kids.getD (i : Int).toNat (Cd.dflt U.goal) = g.kids.getD i (Cd.dflt U.goal) := rfl
 rw [e2]
 by_cases h0 : i = 0 <;> by_cases h6 : g.kind = 6 <;> simp [h0, h6, List.append_assoc]
theorem z6m (g : q06) (h : g.kind = 5 ∨ g.kind = 6) (i : Nat) : (qd5 g i).length ≤ (q0o g).length ∧ qd5 g g.kids.length ++ [q1d] = q0o g := by
 constructor
 ·rw [q3n, if_neg (by omega), if_neg (by omega)]
  unfold qd5
  have := qc8 (decide (g.kind = 6)) g.cents g.kids i
  simp only [List.length_append] at *
  omega
 ·rw [q3n, if_neg (by omega), if_neg (by omega)]
  unfold qd5
  rw [List.take_length]
@[reducible] def apW (A B : List Wd) : List Wd := List.take A.length A ++ B
@[reducible] def tkW (x : Wd) : List Wd := List.take 1 (List.drop 0 [x])
theorem z9q (x : Wd) : tkW x = [x] := rfl
theorem zc2 (A B : List Wd) : apW A B = A ++ B := by rw [apW, List.take_length]
theorem y8c (g : q06) (h : OkG g) (hk : g.kind = 5 ∨ g.kind = 6) (hn : (q0o g).length ≤ 100000) (ih : ∀ k ∈ g.kids, q07 Tryz.prog Dc 59 [q0m k] [] (wsS (q0o k)) []) : q07 Tryz.prog Dc 59 [q0m g] [] (wsS (q0o g)) [] := by
 obtain ⟨k2, k4, hc6, hc5⟩ := h.many hk
 have hle := fun i => (z6m g hk i).1
 have hend := (z6m g hk 0).2
 have hs := fun i h => zg4 g (i := i) h
 have h0 : qd5 g 0 = [if g.kind = 5 then q46 else q2p, q2m] := by unfold qd5; rw [List.take_zero, kidsW, List.append_nil]
 have hgn := hn
 rw [← hend]
 clear hn
 rcases hk with hk | hk
 ·rw [if_pos hk] at h0
  refine q00 Ax q03 Tryz.func59 (c := _) rfl Tryz.call59 300 ?_
  (repeat' ((conv => whnf); first | (exfalso; omega) | refine spC (fun hb => ?_) fun hb => ?_ | refine saC ?_))
  refine q57 [some 0, some 1] (fun q : Nat × List Wd => [(4, .slice 1 0 1 0 q.2.length), (5, iS q.1), (89, .any)]) (fun q => [(1, .rows U.str q.2)]) (fun q => q.1 ≤ g.kids.length ∧ q.2 = qd5 g q.1) (fun q => g.kids.length - q.1) (0, [q46, q2m]) ⟨Nat.zero_le _, h0.symm⟩ (by exact bkI) ?_
  rintro ⟨i, J⟩ ⟨hi, hJ⟩ K hK
  dsimp only at hi hJ hK ⊢
  have hJl := hle i
  rw [← hJ] at hJl
  rcases Nat.lt_or_ge i g.kids.length with hlt | hge
  ·have ihk := ih _ (List.mem_of_getElem? (getD_some (d := Cd.dflt U.goal) hlt))
   have hsi := hs i hlt
   have hl1 := hle (i + 1)
   rw [hsi] at hl1
   rw [← hJ] at hsi hl1
   simp only [List.length_append] at hl1
   rw [if_neg (show ¬ g.kind = 6 by omega)] at hsi
   generalize q0o (g.kids.getD (i : Int).toNat (Cd.dflt U.goal)) = Wk at *
   rcases Nat.eq_zero_or_pos i with hi0 | hi0
   ·have hJ2 : apW J Wk = qd5 g (i + 1) := by rw [hsi, if_pos hi0]; simp only [zc2, z9q, List.append_assoc, List.nil_append]
    clear hs hle ih hsi
    (repeat' ((conv => whnf); first | (exfalso; omega) | refine cpC (ihk) ?_ | refine hK (i + 1, apW J Wk) [some 0, some 2] _ _ ⟨⟨by dsimp only; omega, hJ2⟩⟩ ⟨by dsimp only; omega⟩ (by exact bkI) | refine spC (fun hb => ?_) fun hb => ?_ | refine saC ?_))
   ·have hJ2 : apW (apW J (tkW q0d)) Wk = qd5 g (i + 1) := by rw [hsi, if_neg (show ¬ i = 0 by omega)]; simp only [zc2, z9q, List.append_assoc, List.nil_append]
    clear hs hle ih hsi
    (repeat' ((conv => whnf); first | (exfalso; omega) | refine cpC (ihk) ?_ | refine hK (i + 1, apW (apW J (tkW q0d)) Wk) [some 0, some 4] _ _ ⟨⟨by dsimp only; omega, hJ2⟩⟩ ⟨by dsimp only; omega⟩ (by exact bkI) | refine spC (fun hb => ?_) fun hb => ?_ | refine saC ?_))
  ·have hig : i = g.kids.length := by omega
   rw [← hig, ← hJ]
   (repeat' ((conv => whnf); first | (exfalso; omega) | refine x0C ?_ | refine spC (fun hb => ?_) fun hb => ?_ | refine saC ?_))
   all_goals exact vwV
 ·rw [if_neg (show ¬ g.kind = 5 by omega)] at h0
  refine q00 Ax q03 Tryz.func59 (c := _) rfl Tryz.call59 300 ?_
  (repeat' ((conv => whnf); first | (exfalso; omega) | refine spC (fun hb => ?_) fun hb => ?_ | refine saC ?_))
  refine q57 [some 0, some 1, some 2] (fun q : Nat × List Wd => [(4, .slice 2 0 1 0 q.2.length), (5, iS q.1), (93, .any)]) (fun q => [(2, .rows U.str q.2)]) (fun q => q.1 ≤ g.kids.length ∧ q.2 = qd5 g q.1) (fun q => g.kids.length - q.1) (0, [q2p, q2m]) ⟨Nat.zero_le _, h0.symm⟩ (by exact bkI) ?_
  rintro ⟨i, J⟩ ⟨hi, hJ⟩ K hK
  dsimp only at hi hJ hK ⊢
  have hJl := hle i
  rw [← hJ] at hJl
  rcases Nat.lt_or_ge i g.kids.length with hlt | hge
  ·have ihk := ih _ (List.mem_of_getElem? (getD_some (d := Cd.dflt U.goal) hlt))
   have hsi := hs i hlt
   have hl1 := hle (i + 1)
   rw [hsi] at hl1
   rw [← hJ] at hsi hl1
   simp only [List.length_append] at hl1
   have hcb := (hc6 hk).2 _ (List.mem_of_getElem? (getD_some (d := Cd.dflt U.int) (show i < g.cents.length by have := (hc6 hk).1; omega)))
   have hcl := (hc6 hk).1
   have qc := q6i 11 (g.cents.getD (i : Int).toNat (Cd.dflt U.int)) (by have := hcb.1; exact this) (by have : g.cents.getD (i : Int).toNat (Cd.dflt U.int) ≤ 1000000000 := hcb.2; omega) (by have : g.cents.getD (i : Int).toNat (Cd.dflt U.int) ≤ 1000000000 := hcb.2; omega)
   have hce : g.cents.getD i 0 = g.cents.getD (i : Int).toNat (Cd.dflt U.int) := rfl
   rw [if_pos hk, hce] at hsi
   generalize q0o (g.kids.getD (i : Int).toNat (Cd.dflt U.goal)) = Wk at *
   have hCl := q1i (g.cents.getD (i : Int).toNat (Cd.dflt U.int))
   generalize q0a (g.cents.getD (i : Int).toNat (Cd.dflt U.int)) = Cw at *
   rcases Nat.eq_zero_or_pos i with hi0 | hi0
   ·have hJ2 : apW (apW J (tkW Cw)) Wk = qd5 g (i + 1) := by rw [hsi, if_pos hi0]; simp only [zc2, z9q, List.append_assoc, List.nil_append]
    clear hs hle ih hsi
    (repeat' ((conv => whnf); first | (exfalso; omega) | refine cpC (ihk) ?_ | refine cpC (qc) ?_ | refine hK (i + 1, apW (apW J (tkW Cw)) Wk) [some 0, some 1, some 5] _ _ ⟨⟨by dsimp only; omega, hJ2⟩⟩ ⟨by dsimp only; omega⟩ (by exact bkI) | refine spC (fun hb => ?_) fun hb => ?_ | refine saC ?_))
   ·have hJ2 : apW (apW (apW J (tkW q0d)) (tkW Cw)) Wk = qd5 g (i + 1) := by rw [hsi, if_neg (show ¬ i = 0 by omega)]; simp only [zc2, z9q, List.append_assoc, List.nil_append]
    clear hs hle ih hsi
    (repeat' ((conv => whnf); first | (exfalso; omega) | refine cpC (ihk) ?_ | refine cpC (qc) ?_ | refine hK (i + 1, apW (apW (apW J (tkW q0d)) (tkW Cw)) Wk) [some 0, some 1, some 7] _ _ ⟨⟨by dsimp only; omega, hJ2⟩⟩ ⟨by dsimp only; omega⟩ (by exact bkI) | refine spC (fun hb => ?_) fun hb => ?_ | refine saC ?_))
  ·have hig : i = g.kids.length := by omega
   rw [← hig, ← hJ]
   (repeat' ((conv => whnf); first | (exfalso; omega) | refine x0C ?_ | refine spC (fun hb => ?_) fun hb => ?_ | refine saC ?_))
   all_goals exact vwV
theorem y29 : ∀ (N : Nat) (g : q06), qj9 g ≤ N → q2r g = true → q07 Tryz.prog Dc 59 [q0m g] [] (wsS (q0o g)) []
 | 0, g, hN, _ => by have := q7w g; omega
 | N + 1, g, hN, hv => by
  have hv2 := ((qt1 g).1 hv).1
  rw [z3b, Bool.and_eq_true] at hv2
  have hO := okG hv2.1
  rw [z32] at hN
  have ih : ∀ k ∈ g.kids, q07 Tryz.prog Dc 59 [q0m k] [] (wsS (q0o k)) [] := fun k hk => by
   have := qj1 hk
   exact y29 N k (by omega) (z4j hv hk)
  have hlen := q5p hv
  rcases (show g.kind = 1 ∨ (g.kind = 2 ∨ g.kind = 3 ∨ g.kind = 4) ∨ g.kind = 5 ∨ g.kind = 6 by have := hO.kind; omega) with h | h | h
  ·exact yc7 g hO h
  ·obtain ⟨k, hkid, _, _⟩ := zs4 hO h
   have hkm : k ∈ g.kids := by rw [hkid]; simp
   have := q5p (z4j hv hkm)
   exact yc5 g k hO h hkid (by omega) (ih k hkm)
  ·exact y8c g hO h (by omega) ih
theorem y3u (o : q2c) (ho : z73 o = true) : q07 Tryz.prog Dc 30 [qb4 o] [] (.slice 0 0 1 0 (q4k o).length) [.rows U.str (q4k o)] := by
 obtain ⟨b1, b2, b3, b4, b5, b6, b7⟩ := (q6j o).1 ho
 have hg := y29 (qj9 o.goal).toNat o.goal (by have := q7w o.goal; omega) b7
 have hlen := q5p b7
 have q1 := q6i 11 o.id (by omega) (by omega) (by omega)
 have q2 := q6i 11 o.owner (by omega) (by omega) (by omega)
 have q3 := q6i 11 o.price (by omega) (by omega) (by omega)
 have q4 : ¬ o.group < 0 → q07 Tryz.prog Dc 58 [iS o.group] [] (wS (q0a o.group)) [] := fun h => q6i 11 o.group (by omega) (by omega) (by omega)
 have q5 := q6i 11 o.known (by omega) (by omega) (by omega)
 have q6 := q6i 11 o.due (by omega) (by omega) (by omega)
 have eW : q4k o = [q0w, q0a o.id, q6s, q0a o.owner, q2n, q0a o.price, q0x, if o.group < 0 then q36 else q0a o.group, if o.urgent then q1j else q23, q19, q0a o.known, q2w, q0a o.due, q1a] ++ q0o o.goal ++ [q3z] := rfl
 rw [eW]
 clear eW
 generalize q0o o.goal = R at *
 have hV : ∀ L : List Wd, List.take (List.take 14 L ++ R).length (List.take 14 L ++ R) ++ List.take 1 (List.drop 0 [q3z]) = List.take 14 L ++ R ++ [q3z] := fun L => by rw [List.take_length]; rfl
 by_cases hgr : o.group < 0
 ·rw [if_pos hgr]
  clear q4
  cases hu : o.urgent with
  | true =>
   rw [if_pos rfl]
   rw [show [q0w, q0a o.id, q6s, q0a o.owner, q2n, q0a o.price, q0x, q36, q1j, q19, q0a o.known, q2w, q0a o.due, q1a] ++ R ++ [q3z] = _ from (hV [q0w, q0a o.id, q6s, q0a o.owner, q2n, q0a o.price, q0x, q36, q1j, q19, q0a o.known, q2w, q0a o.due, q1a]).symm]
   refine q00 Ax q03 Tryz.func30 (c := _) rfl Tryz.call30 300 ?_
   (repeat' ((conv => whnf); first | (exfalso; omega) | (rw [hu] at hb; exact absurd hb (by decide)) | refine dpC (q1) ?_ | refine dpC (q2) ?_ | refine dpC (q3) ?_ | refine dpC (q5) ?_ | refine dpC (q6) ?_ | refine cpC (hg) ?_ | (refine q08 [some 4] (.inr rfl) ?_ ?_ rfl rfl; (focus exact vwV); exact hsV) | refine spC (fun hb => ?_) fun hb => ?_ | refine taC ?_ | refine saC ?_ | refine q02 mixed ?_))
  | false =>
   rw [if_neg (by decide)]
   rw [show [q0w, q0a o.id, q6s, q0a o.owner, q2n, q0a o.price, q0x, q36, q23, q19, q0a o.known, q2w, q0a o.due, q1a] ++ R ++ [q3z] = _ from (hV [q0w, q0a o.id, q6s, q0a o.owner, q2n, q0a o.price, q0x, q36, q23, q19, q0a o.known, q2w, q0a o.due, q1a]).symm]
   refine q00 Ax q03 Tryz.func30 (c := _) rfl Tryz.call30 300 ?_
   (repeat' ((conv => whnf); first | (exfalso; omega) | (rw [hu] at hb; exact absurd hb (by decide)) | refine dpC (q1) ?_ | refine dpC (q2) ?_ | refine dpC (q3) ?_ | refine dpC (q5) ?_ | refine dpC (q6) ?_ | refine cpC (hg) ?_ | (refine q08 [some 4] (.inr rfl) ?_ ?_ rfl rfl; (focus exact vwV); exact hsV) | refine spC (fun hb => ?_) fun hb => ?_ | refine taC ?_ | refine saC ?_ | refine q02 mixed ?_))
 ·rw [if_neg hgr]
  have q4 := q4 hgr
  cases hu : o.urgent with
  | true =>
   rw [if_pos rfl]
   rw [show [q0w, q0a o.id, q6s, q0a o.owner, q2n, q0a o.price, q0x, q0a o.group, q1j, q19, q0a o.known, q2w, q0a o.due, q1a] ++ R ++ [q3z] = _ from (hV [q0w, q0a o.id, q6s, q0a o.owner, q2n, q0a o.price, q0x, q0a o.group, q1j, q19, q0a o.known, q2w, q0a o.due, q1a]).symm]
   refine q00 Ax q03 Tryz.func30 (c := _) rfl Tryz.call30 300 ?_
   (repeat' ((conv => whnf); first | (exfalso; omega) | (rw [hu] at hb; exact absurd hb (by decide)) | refine cpC (q4) ?_ | refine dpC (q1) ?_ | refine dpC (q2) ?_ | refine dpC (q3) ?_ | refine dpC (q5) ?_ | refine dpC (q6) ?_ | refine cpC (hg) ?_ | (refine q08 [some 4] (.inr rfl) ?_ ?_ rfl rfl; (focus exact vwV); exact hsV) | refine spC (fun hb => ?_) fun hb => ?_ | refine taC ?_ | refine saC ?_ | refine q02 mixed ?_))
  | false =>
   rw [if_neg (by decide)]
   rw [show [q0w, q0a o.id, q6s, q0a o.owner, q2n, q0a o.price, q0x, q0a o.group, q23, q19, q0a o.known, q2w, q0a o.due, q1a] ++ R ++ [q3z] = _ from (hV [q0w, q0a o.id, q6s, q0a o.owner, q2n, q0a o.price, q0x, q0a o.group, q23, q19, q0a o.known, q2w, q0a o.due, q1a]).symm]
   refine q00 Ax q03 Tryz.func30 (c := _) rfl Tryz.call30 300 ?_
   (repeat' ((conv => whnf); first | (exfalso; omega) | (rw [hu] at hb; exact absurd hb (by decide)) | refine cpC (q4) ?_ | refine dpC (q1) ?_ | refine dpC (q2) ?_ | refine dpC (q3) ?_ | refine dpC (q5) ?_ | refine dpC (q6) ?_ | refine cpC (hg) ?_ | (refine q08 [some 4] (.inr rfl) ?_ ?_ rfl rfl; (focus exact vwV); exact hsV) | refine spC (fun hb => ?_) fun hb => ?_ | refine taC ?_ | refine saC ?_ | refine q02 mixed ?_))
end Go.SX
namespace Go.SX
theorem zl8 {g : q06} {d n : Int} (h : q2j g d = some n) : 1 ≤ n := (qy9 g d n h).2
end Go.SX
namespace Go.SX
def y7h (ws : List Wd) (sub : Int → Int → Rs q06) (of_ d : Int) : Prop := ∀ (a m : Int) (g : q06) (a' m' : Int), 0 ≤ a → a ≤ ws.length → 0 ≤ m → sub a m = .ok g a' m' → q5g ws a (q0o g) a' ∧ (1 ≤ g.kind ∧ g.kind ≤ q1m of_) ∧ 0 ≤ m' ∧ q2j g d = some (m - m' + 1)
theorem y8i (rows : List Int) (f t lo hi : Int) (c : Bool) (h1 : q29 rows = true) (h2 : rows.any (fun r => decide (r ≠ 0)) = true) (h3 : 0 ≤ f ∧ f ≤ 1000000) (h4 : f + 1 ≤ t ∧ t ≤ 1000000) (h5 : 0 ≤ lo ∧ lo ≤ 90) (h6 : lo ≤ hi ∧ hi ≤ 90) : okB ⟨1, rows, f, t, lo, hi, c, 0, 0, 0, [], []⟩ = true := by
 unfold okB q3s q77 qp5 q35 q6u q48
 simp only [h1, h2]
 simp [q0f]
 omega
theorem y5p (lo wi : Int) (k : q06) (h1 : 1 ≤ lo ∧ lo ≤ 8) (h2 : 1 ≤ wi ∧ wi ≤ 1000000) (hk : k.kind ≤ 1) : okB ⟨2, [], 0, 0, lo, 0, false, 0, 0, wi, [], [k]⟩ = true := by
 unfold okB q3s q77 qp5 q35 q6u q48 q1m
 simp [q0f]
 omega
theorem y0z (f d t wi : Int) (k : q06) (h1 : 1 ≤ d ∧ d ≤ 60) (h2 : 1 ≤ t ∧ t ≤ 6) (h3 : 0 ≤ wi ∧ wi ≤ 1440 * d) (h4 : 0 ≤ f ∧ f ≤ 1000000) (hk : k.kind ≤ 1) : okB ⟨3, [], f, 0, 0, 0, false, d, t, wi, [], [k]⟩ = true := by
 unfold okB q3s q77 qp5 q35 q6u q48 q1m
 simp [q0f]
 omega
theorem y8h (wi : Int) (k : q06) (h1 : 0 ≤ wi ∧ wi ≤ 1000000) (hk : k.kind ≤ 3) : okB ⟨4, [], 0, 0, 0, 0, false, 0, 0, wi, [], [k]⟩ = true := by
 unfold okB q3s q77 qp5 q35 q6u q48 q1m
 simp [q0f]
 omega
theorem zy8 (k : Int) (hk : k = 5 ∨ k = 6) (cs : List Int) (l : List q06) (h1 : 2 ≤ l.length ∧ l.length ≤ 4) (h2 : ∀ x ∈ l, x.kind ≤ 6) (h3 : k = 6 → cs.length = l.length ∧ ∀ c ∈ cs, 0 ≤ c ∧ c ≤ 1000000000) (h4 : k = 5 → cs = []) : okB ⟨k, [], 0, 0, 0, 0, false, 0, 0, 0, cs, l⟩ = true := by
 have hl : q1m k = 6 := by unfold q1m; rw [if_neg (by omega), if_neg (by omega)]
 have e1 : q35 ⟨k, [], 0, 0, 0, 0, false, 0, 0, 0, cs, l⟩ = true := by
  simp only [q35, Bool.and_eq_true, Bool.or_eq_true, decide_eq_true_eq, Bool.not_eq_true', List.any_eq_false, hl]
  refine ⟨⟨⟨?_, ?_⟩, .inr rfl⟩, fun x hx => by have := h2 x hx; omega⟩
  ·unfold q6u; rw [if_neg (show ¬ k = 1 by omega), if_pos hk, q0f]; show (2 : Int) ≤ (l.length : Int) ∧ (l.length : Int) ≤ 4; omega
  ·unfold q48
   split
   ·rename_i h6
    obtain ⟨x1, x2⟩ := h3 h6
    simp only [Bool.and_eq_true, decide_eq_true_eq, Bool.not_eq_true', List.any_eq_false]
    exact ⟨by omega, fun c hc => by simpa [q0f] using x2 c hc⟩
   ·rename_i h6
    have : k = 5 := by simp only at h6; omega
    rw [h4 this]; rfl
 have e2 : qp5 ⟨k, [], 0, 0, 0, 0, false, 0, 0, 0, cs, l⟩ = true := by
  unfold qp5; rw [if_neg (by simp only; omega), if_neg (by simp only; omega), if_neg (by simp only; omega), if_neg (by simp only; omega)]
 have e3 : q77 ⟨k, [], 0, 0, 0, 0, false, 0, 0, 0, cs, l⟩ = ⟨k, [], 0, 0, 0, 0, false, 0, 0, 0, [], []⟩ := by
  unfold q77; rw [if_neg (by simp only; omega), if_neg (by simp only; omega), if_neg (by simp only; omega), if_neg (by simp only; omega)]
 unfold okB
 rw [e1, e2, e3]
 simp only [Bool.and_true, Bool.and_eq_true]
 exact ⟨(q0f _ _ _).2 (by show 1 ≤ k ∧ k ≤ 6; omega), by simp [q3s]⟩
theorem size_one {g k : q06} {d n : Int} (hok : okB g = true) (hd : d ≤ 4) (hg : g.kids = [k]) (hn : q2j k (d + 1) = some n) : q2j g d = some (1 + n) := by
 rw [q3g, hok, hg, if_neg (by simp; omega), sizeL, hn, sizeL]
 simp
theorem zx8 {g : q06} {d : Int} (hok : okB g = true) (hd : d ≤ 4) (hg : g.kids = []) : q2j g d = some 1 := by
 rw [q3g, hok, hg, if_neg (by simp; omega), sizeL]
 simp
theorem y5h {ws : List Wd} {a m a' m' : Int} {g : q06} {d : Int} (hd : d ≤ 4) (h0 : 0 ≤ a) (h1 : a ≤ ws.length) (h : zk0 ws a m = .ok g a' m') : ∃ l, q0o g = q3e :: l ∧ q5g ws a l a' ∧ g.kind = 1 ∧ m' = m ∧ q2j g d = some 1 := by
 unfold zk0 at h
 replace h := q0l h
 obtain ⟨rows, a1, m1, h2, h⟩ := h
 obtain ⟨L, k1, k2, r1, rfl, rfl⟩ := zl4 1200 0 0 _ _ _ _ _ _ h0 h1 h2
 have hne : L ≠ [] := fun e => by have := k2 e; omega
 obtain ⟨p1, p2, p3⟩ := zn4 k1
 replace h := q0l h
 obtain ⟨_, a2, m2, h2, h⟩ := h
 obtain ⟨r2, rfl⟩ := q2e [q1q] (by decide) r1.lo' r1.hi h2
 replace h := q0l h
 obtain ⟨f, a3, m3, h2, h⟩ := h
 obtain ⟨r3, rfl, b1, b2⟩ := q4i r2.lo' r2.hi h2
 replace h := q0l h
 obtain ⟨_, a4, m4, h2, h⟩ := h
 obtain ⟨r4, rfl⟩ := q2e [qh5] (by decide) r3.lo' r3.hi h2
 replace h := q0l h
 obtain ⟨t, a5, m5, h2, h⟩ := h
 obtain ⟨r5, rfl, b3, b4⟩ := q4i r4.lo' r4.hi h2
 replace h := q0l h
 obtain ⟨_, a6, m6, h2, h⟩ := h
 obtain ⟨r6, rfl⟩ := q2e [qf4] (by decide) r5.lo' r5.hi h2
 replace h := q0l h
 obtain ⟨lo, a7, m7, h2, h⟩ := h
 obtain ⟨r7, rfl, b5, b6⟩ := q4i r6.lo' r6.hi h2
 replace h := q0l h
 obtain ⟨_, a8, m8, h2, h⟩ := h
 obtain ⟨r8, rfl⟩ := q2e [qh5] (by decide) r7.lo' r7.hi h2
 replace h := q0l h
 obtain ⟨hi, a9, m9, h2, h⟩ := h
 obtain ⟨r9, rfl, b7, b8⟩ := q4i r8.lo' r8.hi h2
 replace h := q0l h
 obtain ⟨c, a10, m10, h2, h⟩ := h
 obtain ⟨r10, rfl⟩ := zr2 (by decide) (by decide) r9.lo' r9.hi h2
 injection h with e1 e2 e3
 subst e1 e2 e3
 refine ⟨_, ?_, r1.app (r2.app (r3.app (r4.app (r5.app (r6.app (r7.app (r8.app (r9.app r10)))))))), rfl, rfl, zx8 (y8i _ _ _ _ _ _ p2 (p3 hne) (by omega) (by omega) (by omega) (by omega)) hd rfl⟩
 rw [q3n, if_pos rfl, qw5, p1]
 rfl
theorem y67 {ws : List Wd} {sub : Int → Int → Rs q06} {d : Int} (hd : d + 1 ≤ 4) (ih : y7h ws sub 2 (d + 1)) {a m a' m' : Int} {g : q06} (h0 : 0 ≤ a) (h1 : a ≤ ws.length) (hm : 0 ≤ m) (h : qq5 ws sub a m = .ok g a' m') : ∃ l, q0o g = q28 :: l ∧ q5g ws a l a' ∧ g.kind = 2 ∧ 0 ≤ m' ∧ q2j g d = some (m - m' + 2) := by
 unfold qq5 at h
 replace h := q0l h
 obtain ⟨_, a2, m2, h2, h⟩ := h
 obtain ⟨r2, rfl⟩ := q2e [q3w] (by decide) h0 h1 h2
 replace h := q0l h
 obtain ⟨lo, a3, m3, h2, h⟩ := h
 obtain ⟨r3, rfl, b1, b2⟩ := q4i r2.lo' r2.hi h2
 replace h := q0l h
 obtain ⟨_, a4, m4, h2, h⟩ := h
 obtain ⟨r4, rfl⟩ := q2e [q0z] (by decide) r3.lo' r3.hi h2
 replace h := q0l h
 obtain ⟨wi, a5, m5, h2, h⟩ := h
 obtain ⟨r5, rfl, b3, b4⟩ := q4i r4.lo' r4.hi h2
 replace h := q0l h
 obtain ⟨_, a6, m6, h2, h⟩ := h
 obtain ⟨r6, rfl⟩ := q2e [q5t] (by decide) r5.lo' r5.hi h2
 replace h := q0l h
 obtain ⟨k, a7, m7, h2, h⟩ := h
 obtain ⟨r7, hk, hm7, hs⟩ := ih _ _ _ _ _ r6.lo' r6.hi hm h2
 injection h with e1 e2 e3
 subst e1 e2 e3
 refine ⟨_, ?_, r2.app (r3.app (r4.app (r5.app (r6.app r7)))), rfl, hm7, ?_⟩
 ·rw [q3n, if_neg (by simp), if_pos (.inl rfl), firstW, q5b, if_pos rfl]
  rfl
 ·rw [size_one (y5p _ _ _ (by omega) (by omega) hk.2) (by omega) rfl hs]
  congr 1; omega
theorem y0f {ws : List Wd} {sub : Int → Int → Rs q06} {d : Int} (hd : d + 1 ≤ 4) (ih : y7h ws sub 3 (d + 1)) {a m a' m' : Int} {g : q06} (h0 : 0 ≤ a) (h1 : a ≤ ws.length) (hm : 0 ≤ m) (h : q92 ws sub a m = .ok g a' m') : ∃ l, q0o g = q1k :: l ∧ q5g ws a l a' ∧ g.kind = 3 ∧ 0 ≤ m' ∧ q2j g d = some (m - m' + 2) := by
 unfold q92 at h
 replace h := q0l h
 obtain ⟨dy, a1, m1, h2, h⟩ := h
 obtain ⟨r1, rfl, b1, b2⟩ := q4i h0 h1 h2
 replace h := q0l h
 obtain ⟨_, a2, m2, h2, h⟩ := h
 obtain ⟨r2, rfl⟩ := q2e [q5d] (by decide) r1.lo' r1.hi h2
 replace h := q0l h
 obtain ⟨ti, a3, m3, h2, h⟩ := h
 obtain ⟨r3, rfl, b3, b4⟩ := q4i r2.lo' r2.hi h2
 replace h := q0l h
 obtain ⟨_, a4, m4, h2, h⟩ := h
 obtain ⟨r4, rfl⟩ := q2e [q3u, q3v] (by decide) r3.lo' r3.hi h2
 replace h := q0l h
 obtain ⟨wi, a5, m5, h2, h⟩ := h
 obtain ⟨r5, rfl, b5, b6⟩ := q4i r4.lo' r4.hi h2
 replace h := q0l h
 obtain ⟨_, a6, m6, h2, h⟩ := h
 obtain ⟨r6, rfl⟩ := q2e [q1q] (by decide) r5.lo' r5.hi h2
 replace h := q0l h
 obtain ⟨f, a7, m7, h2, h⟩ := h
 obtain ⟨r7, rfl, b7, b8⟩ := q4i r6.lo' r6.hi h2
 replace h := q0l h
 obtain ⟨_, a8, m8, h2, h⟩ := h
 obtain ⟨r8, rfl⟩ := q2e [q5t] (by decide) r7.lo' r7.hi h2
 replace h := q0l h
 obtain ⟨k, a9, m9, h2, h⟩ := h
 obtain ⟨r9, hk, hm9, hs⟩ := ih _ _ _ _ _ r8.lo' r8.hi hm h2
 injection h with e1 e2 e3
 subst e1 e2 e3
 refine ⟨_, ?_, r1.app (r2.app (r3.app (r4.app (r5.app (r6.app (r7.app (r8.app r9))))))), rfl, hm9, ?_⟩
 ·rw [q3n, if_neg (by simp), if_pos (.inr (.inl rfl)), firstW, q5b, if_neg (by simp), if_pos rfl]
  rfl
 ·rw [size_one (y0z _ _ _ _ _ (by omega) (by omega) (by omega) (by omega) hk.2) (by omega) rfl hs]
  congr 1; omega
theorem y6n {ws : List Wd} {sub : Int → Int → Rs q06} {d : Int} (hd : d + 1 ≤ 4) (ih : y7h ws sub 4 (d + 1)) {a m a' m' : Int} {g : q06} (h0 : 0 ≤ a) (h1 : a ≤ ws.length) (hm : 0 ≤ m) (h : zk1 ws sub a m = .ok g a' m') : ∃ l, q0o g = q0q :: l ∧ q5g ws a l a' ∧ g.kind = 4 ∧ 0 ≤ m' ∧ q2j g d = some (m - m' + 2) := by
 unfold zk1 at h
 replace h := q0l h
 obtain ⟨_, a2, m2, h2, h⟩ := h
 obtain ⟨r2, rfl⟩ := q2e [q0z] (by decide) h0 h1 h2
 replace h := q0l h
 obtain ⟨wi, a3, m3, h2, h⟩ := h
 obtain ⟨r3, rfl, b1, b2⟩ := q4i r2.lo' r2.hi h2
 replace h := q0l h
 obtain ⟨_, a6, m6, h2, h⟩ := h
 obtain ⟨r6, rfl⟩ := q2e [q5t] (by decide) r3.lo' r3.hi h2
 replace h := q0l h
 obtain ⟨k, a7, m7, h2, h⟩ := h
 obtain ⟨r7, hk, hm7, hs⟩ := ih _ _ _ _ _ r6.lo' r6.hi hm h2
 injection h with e1 e2 e3
 subst e1 e2 e3
 refine ⟨_, ?_, r2.app (r3.app (r6.app r7)), rfl, hm7, ?_⟩
 ·rw [q3n, if_neg (by simp), if_pos (.inr (.inr rfl)), firstW, q5b, if_neg (by simp), if_neg (by simp)]
  rfl
 ·rw [size_one (y8h _ _ (by omega) hk.2) (by omega) rfl hs]
  congr 1; omega
theorem z2y {ws : List Wd} {sub : Int → Int → Rs q06} {d k : Int} (hk : k = 5 ∨ k = 6) (ih : y7h ws sub k d) : ∀ (fuel : Nat) (cents : List Int) (kids : List q06) (a m a' m' : Int) (g : q06), 0 ≤ a → a ≤ ws.length → 0 ≤ m → kids.length ≤ 3 → q4f ws sub k fuel cents kids a m = .ok g a' m' →
  ∃ x l cs n, g = ⟨k, [], 0, 0, 0, 0, false, 0, 0, 0, cents ++ cs, kids ++ x :: l⟩ ∧ q5g ws a ((if k = 6 then [q0a (cs.headD 0)] else []) ++ q0o x ++ kidsW (decide (k = 6)) false cs.tail l ++ [q1d]) a' ∧ (∀ z ∈ x :: l, z.kind ≤ 6) ∧ sizeL (x :: l) d = some n ∧ m' = m - (n - 1 - (if kids = [] then 1 else 0)) ∧ 0 ≤ m' ∧ (k = 6 → cs.length = l.length + 1 ∧ ∀ c ∈ cs, 0 ≤ c ∧ c ≤ 1000000000) ∧ (k = 5 → cs = []) ∧ 2 ≤ kids.length + 1 + l.length ∧ kids.length + 1 + l.length ≤ 4
 | 0, cents, kids, a, m, a', m', g, _, _, _, _, h => by rw [q4f] at h; cases h
 | fuel + 1, cents, kids, a, m, a', m', g, h0, h1, hm, hl, h => by
  have hlk : q1m k = 6 := by unfold q1m; rw [if_neg (by omega), if_neg (by omega)]
  rw [q4f] at h
  replace h := q0l h
  obtain ⟨cents1, a1, m1, h2, h⟩ := h
  obtain ⟨cs1, e1, r1, e2, c6, c5⟩ : ∃ cs1 : List Int, cents1 = cents ++ cs1 ∧ q5g ws a (if k = 6 then [q0a (cs1.headD 0)] else []) a1 ∧ m1 = m ∧ (k = 6 → ∃ c, cs1 = [c] ∧ 0 ≤ c ∧ c ≤ 1000000000) ∧ (k = 5 → cs1 = []) := by
   split at h2
   ·rename_i h6
    replace h2 := q0l h2
    obtain ⟨c, a2, m2, h3, h2⟩ := h2
    obtain ⟨r, e, b1, b2⟩ := q4i h0 h1 h3
    injection h2 with e1 e2 e3
    subst e1 e2 e3
    exact ⟨[c], rfl, by rw [if_pos h6]; exact r, e, fun _ => ⟨c, rfl, b1, b2⟩, fun h => by omega⟩
   ·rename_i h6
    injection h2 with e1 e2 e3
    subst e1 e2 e3
    exact ⟨[], by simp, by rw [if_neg h6]; exact .nil h0 h1, rfl, fun h => absurd h h6, fun _ => rfl⟩
  subst e1 e2
  replace h := q0l h
  obtain ⟨x, a2, m2, h2, h⟩ := h
  obtain ⟨r2, hxk, hm2, hs⟩ := ih _ _ _ _ _ r1.lo' r1.hi hm h2
  rw [hlk] at hxk
  have hx := zl8 hs
  have r12 := r1.app r2
  have done : ∀ (hkn : kids ≠ []), q0y ws a2 = q1d → (.ok ⟨k, [], 0, 0, 0, 0, false, 0, 0, 0, cents ++ cs1, kids ++ [x]⟩ (a2 + 1) m2 : Rs q06) = .ok g a' m' → ∃ x l cs n, g = ⟨k, [], 0, 0, 0, 0, false, 0, 0, 0, cents ++ cs, kids ++ x :: l⟩ ∧ q5g ws a ((if k = 6 then [q0a (cs.headD 0)] else []) ++ q0o x ++ kidsW (decide (k = 6)) false cs.tail l ++ [q1d]) a' ∧ (∀ z ∈ x :: l, z.kind ≤ 6) ∧ sizeL (x :: l) d = some n ∧ m' = m1 - (n - 1 - (if kids = [] then 1 else 0)) ∧ 0 ≤ m' ∧ (k = 6 → cs.length = l.length + 1 ∧ ∀ c ∈ cs, 0 ≤ c ∧ c ≤ 1000000000) ∧ (k = 5 → cs = []) ∧ 2 ≤ kids.length + 1 + l.length ∧ kids.length + 1 + l.length ≤ 4 := fun hkn hp h => by
   injection h with e1 e2 e3
   subst e1 e2 e3
   have r3 := q5g.one r12.lo' r12.hi hp (by decide)
   have hkl : 1 ≤ kids.length := by cases kids with | nil => exact absurd rfl hkn | cons _ _ => simp
   refine ⟨x, [], cs1, m1 - m2 + 1, rfl, ?_, fun z hz => by simp at hz; subst hz; exact hxk.2, by rw [sizeL, hs, sizeL]; simp, by rw [if_neg hkn]; omega, hm2, fun h => ?_, c5, by simp; omega, by simp; omega⟩
   ·rw [kidsW, List.append_nil]; exact r12.app r3
   ·obtain ⟨c, e, b1, b2⟩ := c6 h
    subst e
    exact ⟨rfl, fun z hz => by simp at hz; subst hz; exact ⟨b1, b2⟩⟩
  have more : ∀ (m3 : Int), 0 ≤ m3 → kids.length + 1 ≤ 3 → m3 = m2 - (if kids = [] then 0 else 1) → ((q1t ws [q0d] a2 m3).bind fun _ a m => q4f ws sub k fuel (cents ++ cs1) (kids ++ [x]) a m) = .ok g a' m' → ∃ x l cs n, g = ⟨k, [], 0, 0, 0, 0, false, 0, 0, 0, cents ++ cs, kids ++ x :: l⟩ ∧ q5g ws a ((if k = 6 then [q0a (cs.headD 0)] else []) ++ q0o x ++ kidsW (decide (k = 6)) false cs.tail l ++ [q1d]) a' ∧ (∀ z ∈ x :: l, z.kind ≤ 6) ∧ sizeL (x :: l) d = some n ∧ m' = m1 - (n - 1 - (if kids = [] then 1 else 0)) ∧ 0 ≤ m' ∧ (k = 6 → cs.length = l.length + 1 ∧ ∀ c ∈ cs, 0 ≤ c ∧ c ≤ 1000000000) ∧ (k = 5 → cs = []) ∧ 2 ≤ kids.length + 1 + l.length ∧ kids.length + 1 + l.length ≤ 4 := fun m3 hm3 hk3 e3 h => by
   replace h := q0l h
   obtain ⟨_, a4, m4, h2, h⟩ := h
   obtain ⟨r3, rfl⟩ := q2e [q0d] (by decide) r12.lo' r12.hi h2
   obtain ⟨x', l', cs', n', g1, g2, g3, g4, g5, g6, g7, g8, g9, g10⟩ := z2y hk ih fuel _ _ _ _ _ _ _ r3.lo' r3.hi hm3 (by simp; omega) h
   simp only [List.length_append, List.length_cons, List.length_nil] at g9 g10
   rw [if_neg (by simp)] at g5
   refine ⟨x, x' :: l', cs1 ++ cs', (m1 - m2 + 1) + n', by rw [g1]; simp, ?_, fun z hz => ?_, ?_, ?_, g6, fun h => ?_, fun h => ?_, by simp; omega, by simp; omega⟩
   ·have := (r12.app (r3.app g2))
    rw [kidsW]
    rcases hk with hk | hk
    ·rw [c5 hk, g8 hk]
     rw [c5 hk, g8 hk] at this
     simpa [hk, List.append_assoc] using this
    ·obtain ⟨c, e, _, _⟩ := c6 hk
     rw [e]
     rw [e] at this
     simpa [hk, List.append_assoc] using this
   ·rcases List.mem_cons.1 hz with rfl | hz
    ·exact hxk.2
    ·exact g3 z hz
   ·rw [sizeL, hs, g4]
   ·split at e3 <;> split <;> first | omega | contradiction
   ·obtain ⟨c, e, b1, b2⟩ := c6 h
    obtain ⟨q1, q2⟩ := g7 h
    subst e
    refine ⟨by simp [q1], fun z hz => ?_⟩
    rcases List.mem_append.1 hz with hz | hz
    ·simp at hz; subst hz; exact ⟨b1, b2⟩
    ·exact q2 z hz
   ·rw [c5 h, g8 h]; rfl
  by_cases hkn : kids = []
  ·have hkl : ¬ 1 < kids.length + 1 := by rw [hkn]; simp
   rw [if_neg hkl] at h
   exact more m2 hm2 (by rw [hkn]; simp) (by rw [if_pos hkn]; omega) h
  ·have hkl : 1 < kids.length + 1 := by cases kids with | nil => exact absurd rfl hkn | cons _ _ => simp
   rw [if_pos hkl] at h
   split at h
   ·rename_i hp
    exact done hkn hp h
   ·split at h
    ·cases h
    ·rename_i hc
     simp only [not_or] at hc
     exact more (m2 - 1) (by omega) (by omega) (by rw [if_neg hkn]) h
theorem zp8 {w : Wd} {k n : Int} (h : qp8 w = some (k, n)) : (k = 1 ∧ n = 0 ∧ w = q3e) ∨ (k = 2 ∧ n = 1 ∧ w = q28) ∨ (k = 3 ∧ n = 1 ∧ w = q1k) ∨ (k = 4 ∧ n = 1 ∧ w = q0q) ∨ (k = 5 ∧ n = 2 ∧ w = q46) ∨ (k = 6 ∧ n = 2 ∧ w = q2p) := by
 unfold qp8 at h
 repeat' split at h
 all_goals first
  | (cases h; done)
  | (injection h with h; injection h with h1 h2; subst h1 h2; simp_all; done)
theorem zk9 (ws : List Wd) : ∀ (f : Nat) (of_ d : Int), (f : Int) + d = 5 → y7h ws (q50 ws f of_ d) of_ d
 | 0, of_, d, hfd => fun a m g a' m' _ _ _ h => by rw [q50] at h; cases h
 | f + 1, of_, d, hfd => fun a m g a' m' h0 h1 hm h => by
  have ih := fun o => zk9 ws f o (d + 1) (by omega)
  rw [q50] at h
  split at h
  ·cases h
  ·rename_i k n hform
   split at h
   ·cases h
   ·rename_i hc
    simp only [not_or, not_and] at hc
    obtain ⟨c1, c2, c3⟩ := hc
    have hone : ∀ {w : Wd}, q0y ws a = w → w ≠ [32] → q5g ws a [w] (a + 1) := fun e hw => .one h0 h1 e hw
    rcases zp8 hform with ⟨rfl, rfl, hw⟩ | ⟨rfl, rfl, hw⟩ | ⟨rfl, rfl, hw⟩ | ⟨rfl, rfl, hw⟩ | ⟨rfl, rfl, hw⟩ | ⟨rfl, rfl, hw⟩
    ·rw [if_pos rfl] at h
     have r := hone hw (by decide)
     obtain ⟨l, e, r2, hk, em, hs⟩ := y5h (d := d) (by omega) r.lo' r.hi h
     rw [e, hk]
     exact ⟨r.app r2, ⟨by omega, by omega⟩, by omega, by rw [hs]; congr 1; omega⟩
    ·rw [if_neg (by omega), if_pos rfl] at h
     have r := hone hw (by decide)
     obtain ⟨l, e, r2, hk, em, hs⟩ := y67 (by omega) (ih 2) r.lo' r.hi (by omega) h
     rw [e, hk]
     exact ⟨r.app r2, ⟨by omega, by omega⟩, em, by rw [hs]; congr 1; omega⟩
    ·rw [if_neg (by omega), if_neg (by omega), if_pos rfl] at h
     have r := hone hw (by decide)
     obtain ⟨l, e, r2, hk, em, hs⟩ := y0f (by omega) (ih 3) r.lo' r.hi (by omega) h
     rw [e, hk]
     exact ⟨r.app r2, ⟨by omega, by omega⟩, em, by rw [hs]; congr 1; omega⟩
    ·rw [if_neg (by omega), if_neg (by omega), if_neg (by omega), if_pos rfl] at h
     have r := hone hw (by decide)
     obtain ⟨l, e, r2, hk, em, hs⟩ := y6n (by omega) (ih 4) r.lo' r.hi (by omega) h
     rw [e, hk]
     exact ⟨r.app r2, ⟨by omega, by omega⟩, em, by rw [hs]; congr 1; omega⟩
    ·rw [if_neg (by omega), if_neg (by omega), if_neg (by omega), if_neg (by omega)] at h
     have r := hone hw (by decide)
     unfold q95 at h
     replace h := q0l h
     obtain ⟨_, a2, m2, h2, h⟩ := h
     obtain ⟨r2, rfl⟩ := q2e [q2m] (by decide) r.lo' r.hi h2
     obtain ⟨x, l, cs, n, g1, g2, g3, g4, g5, g6, g7, g8, g9, g10⟩ := z2y (.inl rfl) (ih 5) _ _ _ _ _ _ _ _ r2.lo' r2.hi (by omega) (by simp) h
     simp only [List.nil_append, List.length_nil, Nat.zero_add] at g1 g9 g10
     subst g1
     have hok := zy8 5 (.inl rfl) cs (x :: l) (by simp; omega) g3 (fun h => by omega) g8
     refine ⟨?_, ⟨by show (1 : Int) ≤ 5; omega, by show (5 : Int) ≤ _; omega⟩, g6, ?_⟩
     ·have := r.app (r2.app g2)
      rw [q3n, if_neg (by simp), if_neg (by simp), kidsW]
      simpa using this
     ·rw [q3g, hok, if_neg (by simp; omega), g4]
      simp at g5 ⊢; omega
    ·rw [if_neg (by omega), if_neg (by omega), if_neg (by omega), if_neg (by omega)] at h
     have r := hone hw (by decide)
     unfold q95 at h
     replace h := q0l h
     obtain ⟨_, a2, m2, h2, h⟩ := h
     obtain ⟨r2, rfl⟩ := q2e [q2m] (by decide) r.lo' r.hi h2
     obtain ⟨x, l, cs, n, g1, g2, g3, g4, g5, g6, g7, g8, g9, g10⟩ := z2y (.inr rfl) (ih 6) _ _ _ _ _ _ _ _ r2.lo' r2.hi (by omega) (by simp) h
     simp only [List.nil_append, List.length_nil, Nat.zero_add] at g1 g9 g10
     subst g1
     have hok := zy8 6 (.inr rfl) cs (x :: l) (by simp; omega) g3 (fun h => by simpa using g7 h) g8
     refine ⟨?_, ⟨by show (1 : Int) ≤ 6; omega, by show (6 : Int) ≤ _; omega⟩, g6, ?_⟩
     ·have := r.app (r2.app g2)
      rw [q3n, if_neg (by simp), if_neg (by simp), kidsW]
      simpa using this
     ·rw [q3g, hok, if_neg (by simp; omega), g4]
      simp at g5 ⊢; omega
end Go.SX
