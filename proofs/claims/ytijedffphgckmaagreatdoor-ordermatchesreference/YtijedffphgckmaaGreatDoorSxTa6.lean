/-
  Walks: Ta6, Ta7, Ta8, Td7, Oq6, Oq7, Ud0, Ud1, Z2: what single functions of the program compute.
-/
import Derived.Test.YtijedffphgckmaaGreatDoorSxTa2
import Derived.Test.YtijedffphgckmaaGreatDoorSxUa1
import Derived.Test.YtijedffphgckmaaGreatDoorSxTd6
import Derived.Test.YtijedffphgckmaaGreatDoorSxUb9
import Derived.Test.YtijedffphgckmaaGreatDoorSxUa5
set_option linter.unusedVariables false
set_option linter.unusedSimpArgs false
namespace Go.SX
open Go.Proofs
set_option maxHeartbeats 400000000
set_option maxRecDepth 100000
theorem y2z (rows : List Int) (hl : (rows.length : Int) ≤ 9223372036854775807) : q07 Tryz.prog Dc 98 [z36 rows] [] (bS (q29 rows)) [] := by
 refine q00 Ax q03 Tryz.func98 (c := _) rfl Tryz.call98 200 ?_
 (repeat' ((conv => whnf); first | fail))
 refine q0u (fun i : Nat => [(3, iS i)]) (fun _ => []) (fun i => i ≤ rows.length ∧ i ≤ 25 ∧ (rows.take i).all qp9 = true) (fun i => 25 - i) 0 ⟨by omega, by omega, by simp⟩ (by exact bkV) ?_
 rintro i ⟨h1, h2, h3⟩ K hK
 by_cases hc : i < rows.length ∧ i < 25
 ·have hg := getD_some (d := Cd.dflt U.int) hc.1
  cases hr : qp9 (rows.getD (i : Int).toNat (Cd.dflt U.int)) with
  | true =>
   have h4 := (q0f _ _ _).1 hr
   have h5 : (rows.take (i + 1)).all qp9 = true := by
    rw [List.take_add_one, hg, List.all_append, h3]
    simpa using hr
   (repeat' ((conv => whnf); first | (exfalso; omega) | refine hK (i + 1) [some 0] _ _ ⟨⟨by omega, by omega, h5⟩⟩ ⟨by omega⟩ (by exact bkV) | refine spC (fun hb => ?_) fun hb => ?_ | refine saC ?_))
  | false =>
   have h4 := (z7h _ _ _).1 hr
   have ha : q29 rows = false := by
    cases ha : q29 rows with
    | false => rfl
    | true =>
     simp only [q29, Bool.and_eq_true] at ha
     rw [List.all_eq_true.1 ha.2 _ (List.mem_of_getElem? hg)] at hr
     cases hr
   rw [ha]
   (repeat' ((conv => whnf); first | (exfalso; omega) | refine x0C ?_ | refine spC (fun hb => ?_) fun hb => ?_ | refine saC ?_))
   all_goals exact vwV
 ·have ha : q29 rows = decide ((rows.length : Int) = 24) := by
   unfold q29
   by_cases hl : rows.length = 24
   ·rw [List.take_of_length_le (by omega)] at h3
    rw [h3, Bool.and_true]
   ·rw [decide_eq_false (by omega), Bool.false_and]
  rw [ha]
  (repeat' ((conv => whnf); first | refine x0C (eB ?_ rfl) | (exfalso; omega) | refine spC (fun hb => ?_) fun hb => ?_))
  all_goals rfl
def y25 (rows : List Int) (y x : Nat) : Bool := (rows.getD y 0).toNat.testBit x
theorem z38 {rows : List Int} (h : q29 rows = true) {y : Nat} (hy : y < 24) : qp9 (rows.getD y 0) = true := by
 have hlen := qa6 h
 simp only [q29, Bool.and_eq_true] at h
 refine List.all_eq_true.1 h.2 _ ?_
 rw [List.getD_eq_getElem?_getD, List.getElem?_eq_getElem (by omega)]
 exact List.getElem_mem _
theorem zq5 (rows : List Int) (h : q29 rows = true) (y x : Nat) (hy : y < 24) (hx : x < 48) : q07 Tryz.prog Dc 136 [z36 rows, iS x, iS y] [] (bS (y25 rows y x)) [] := by
 have hlen := qa6 h
 have hr := (q0f _ _ _).1 (z38 h hy)
 have hb := zl5 (r := rows.getD y 0) hr.1 hx
 unfold y25
 rw [← hb]
 refine q00 Ax q03 Tryz.func136 (c := _) rfl Tryz.call136 100 ?_
 (repeat' ((conv => whnf); first | refine x0C (eB ?_ rfl) | refine saC ?_))
 all_goals rfl
def q63 (rows : List Int) : Nat → List y9c
 | 0 => []
 | n + 1 => if y25 rows (n / 48) (n % 48) then q63 rows n ++ [⟨((n % 48 : Nat) : Int), ((n / 48 : Nat) : Int)⟩] else q63 rows n
theorem y4x {rows : List Int} {y x : Nat} (hx : x < 48) (h : y25 rows y x = true) : q63 rows (48 * y + x + 1) = q63 rows (48 * y + x) ++ [⟨x, y⟩] := by
 rw [q63, show (48 * y + x) / 48 = y by omega, show (48 * y + x) % 48 = x by omega, if_pos h]
theorem y5y {rows : List Int} {y x : Nat} (hx : x < 48) (h : y25 rows y x = false) : q63 rows (48 * y + x + 1) = q63 rows (48 * y + x) := by
 rw [q63, show (48 * y + x) / 48 = y by omega, show (48 * y + x) % 48 = x by omega, h]; simp
theorem z69 (rows : List Int) : ∀ n, (q63 rows n).length ≤ n
 | 0 => by simp [q63]
 | n + 1 => by
  have := z69 rows n
  rw [q63]
  split <;> simp <;> omega
theorem z8k (rows : List Int) (hl : (rows.length : Int) ≤ 9223372036854775807) : q07 Tryz.prog Dc 118 [z36 rows] [] (.p (.dsl U.cell (if q29 rows then q63 rows 1152 else []))) [] := by
 have h := y2z rows hl
 cases ha : q29 rows with
 | false =>
  rw [ha] at h
  refine q00 Ax q03 Tryz.func118 (c := _) rfl Tryz.call118 200 ?_
  (repeat' ((conv => whnf); first | refine cpC (h) ?_ | refine x0C ?_))
  all_goals exact vwV
 | true =>
  rw [ha] at h
  refine q00 Ax q03 Tryz.func118 (c := _) rfl Tryz.call118 200 ?_
  (repeat' ((conv => whnf); first | refine cpC (h) ?_))
  refine qr2 (fun y : Nat => [(3, .slice 1 0 2 0 (q63 rows (48 * y)).length), (4, iS y)]) (fun y => [.var [lS rows], .rows U.cell (q63 rows (48 * y))]) (fun y => y ≤ 24) (fun y => 24 - y) 0 (Nat.zero_le _) [some 0, none] (by exact bkV) ?_
  intro y hy K hK
  rcases Nat.lt_or_ge y 24 with hlt | hge
  ·(repeat' ((conv => whnf); first | (exfalso; omega) | refine spC (fun hb => ?_) fun hb => ?_))
   refine qr2 (fun x : Nat => [(3, .slice 1 0 2 0 (q63 rows (48 * y + x)).length), (5, iS x)]) (fun x => [.var [lS rows], .rows U.cell (q63 rows (48 * y + x))]) (fun x => x ≤ 48) (fun x => 48 - x) 0 (Nat.zero_le _) [some 0, some 1] (by exact bkV) ?_
   intro x hx K' hK'
   have hcl := z69 rows (48 * y + x)
   rcases Nat.lt_or_ge x 48 with hxl | hxg
   ·have hh := zq5 rows ha y x hlt hxl
    cases hb : y25 rows y x with
    | true =>
     rw [hb] at hh
     have he := y4x hxl hb
     (repeat' ((conv => whnf); first | (exfalso; omega) | refine cpC (hh) ?_ | refine hK' (x + 1) [some 0, some 3] _ _ ⟨by omega⟩ ⟨by omega⟩ (by (dsimp only; rw [show 48 * y + (x + 1) = 48 * y + x + 1 by omega, he, List.take_length]; exact bkV)) | refine spC (fun hb => ?_) fun hb => ?_ | refine saC ?_))
    | false =>
     rw [hb] at hh
     have he := y5y hxl hb
     (repeat' ((conv => whnf); first | (exfalso; omega) | refine cpC (hh) ?_ | refine hK' (x + 1) [some 0, some 1] _ _ ⟨by omega⟩ ⟨by omega⟩ (by (dsimp only; rw [show 48 * y + (x + 1) = 48 * y + x + 1 by omega, he]; exact bkV)) | refine spC (fun hb => ?_) fun hb => ?_ | refine saC ?_))
   ·obtain rfl : x = 48 := by omega
    (repeat' ((conv => whnf); first | refine hK (y + 1) [some 0, some 1] _ _ ⟨by omega⟩ ⟨by omega⟩ (by (dsimp only; rw [show 48 * (y + 1) = 48 * y + 48 by omega]; exact bkV)) | refine saC ?_))
  ·obtain rfl : y = 24 := by omega
   (repeat' ((conv => whnf); first | refine x0C ?_))
   all_goals exact vwV
theorem z4i (rows : List Int) (hl : (rows.length : Int) ≤ 9223372036854775807) : q07 Tryz.prog Dc 99 [z36 rows] [] (iS (if q29 rows then (q63 rows 1152).length else 0)) [] := by
 have h := z8k rows hl
 cases ha : q29 rows with
 | false =>
  rw [ha] at h
  refine q00 Ax q03 Tryz.func99 (c := _) rfl Tryz.call99 60 ?_
  (repeat' ((conv => whnf); first | refine x0C (eI ?_ rfl) | refine cpC (h) ?_))
  all_goals rfl
 | true =>
  rw [ha] at h
  refine q00 Ax q03 Tryz.func99 (c := _) rfl Tryz.call99 60 ?_
  (repeat' ((conv => whnf); first | refine x0C (eI ?_ rfl) | refine cpC (h) ?_))
  all_goals rfl
theorem z4o {rows : List Int} : ∀ n : Nat, (0 < (q63 rows n).length ↔ ∃ k, k < n ∧ y25 rows (k / 48) (k % 48) = true)
 | 0 => by simp [q63]
 | n + 1 => by
  have ih := z4o (rows := rows) n
  rw [q63]
  split
  ·rename_i h
   simp only [List.length_append, List.length_cons, List.length_nil]
   exact ⟨fun _ => ⟨n, by omega, h⟩, fun _ => by omega⟩
  ·rename_i h
   rw [ih]
   constructor
   ·rintro ⟨k, h1, h2⟩; exact ⟨k, by omega, h2⟩
   ·rintro ⟨k, h1, h2⟩
    by_cases hk : k = n
    ·subst hk; exact absurd h2 h
    ·exact ⟨k, by omega, h2⟩
theorem y2p {m : Nat} (hm : m < 2 ^ 48) : m ≠ 0 ↔ ∃ x, x < 48 ∧ m.testBit x = true := by
 constructor
 ·intro h
  obtain ⟨x, hx⟩ := Nat.exists_testBit_of_ne_zero h
  refine ⟨x, ?_, hx⟩
  rcases Nat.lt_or_ge x 48 with h1 | h1
  ·exact h1
  ·rw [Nat.testBit_lt_two_pow (Nat.lt_of_lt_of_le hm (Nat.pow_le_pow_right (by omega) h1))] at hx; cases hx
 ·rintro ⟨x, _, hx⟩ h
  subst h; simp at hx
theorem zw1 {rows : List Int} (h : q29 rows = true) : decide (0 < ((q63 rows 1152).length : Int)) = rows.any (fun r => decide (r ≠ 0)) := by
 have hlen := qa6 h
 rw [Bool.eq_iff_iff, decide_eq_true_iff, List.any_eq_true]
 have := z4o (rows := rows) 1152
 rw [show (0 < ((q63 rows 1152).length : Int)) ↔ 0 < (q63 rows 1152).length by omega, this]
 constructor
 ·rintro ⟨k, h1, h2⟩
  have hy : k / 48 < 24 := by omega
  have hr := (q0f _ _ _).1 (z38 h hy)
  refine ⟨rows.getD (k / 48) 0, ?_, ?_⟩
  ·rw [List.getD_eq_getElem?_getD, List.getElem?_eq_getElem (by omega)]; exact List.getElem_mem _
  ·have := (y2p (m := (rows.getD (k / 48) 0).toNat) (by omega)).2 ⟨k % 48, by omega, h2⟩
   simp only [decide_eq_true_eq]
   omega
 ·rintro ⟨r, h1, h2⟩
  obtain ⟨y, hy, rfl⟩ := List.getElem_of_mem h1
  have hr := (q0f _ _ _).1 (z38 h (show y < 24 by omega))
  have e : rows.getD y 0 = rows[y] := by rw [List.getD_eq_getElem?_getD, List.getElem?_eq_getElem hy]; rfl
  rw [e] at hr
  simp only [decide_eq_true_eq] at h2
  obtain ⟨x, hx, hb⟩ := (y2p (m := (rows[y]).toNat) (by omega)).1 (by omega)
  refine ⟨48 * y + x, by omega, ?_⟩
  rw [show (48 * y + x) / 48 = y by omega, show (48 * y + x) % 48 = x by omega]
  unfold y25
  rw [e]; exact hb
theorem z7q (f t : Int) : q07 Tryz.prog Dc 100 [.agg [iS f, iS t]] [] (bS (qp3 f t)) [] := by
 have h1 := z6z f 0 1000000
 have h2 := z6z t 0 1000000
 refine q00 Ax q03 Tryz.func100 (c := _) rfl Tryz.call100 100 ?_
 (repeat' ((conv => whnf); first | refine x0C (eB ?_ rfl) | refine cpC (h1) ?_ | refine cpC (h2) ?_ | refine spC (fun hb => ?_) fun hb => ?_))
 all_goals clear h1 h2
 all_goals (first | (simp_all [qp3]; done) | (simp_all [qp3]; omega) | (simp_all [qp3]; grind))
theorem z5k (g : q06) (most : Int) : q07 Tryz.prog Dc 101 [q0m g, iS most] [] (bS (zy0 g most)) [] := by
 have h1 := z6z (g.kids.getD (0 : Int).toNat (Cd.dflt U.goal)).kind 1 most
 refine q00 Ax q03 Tryz.func101 (c := _) rfl Tryz.call101 100 ?_
 unfold zy0
 (repeat' ((conv => whnf); first | refine x0C (eB ?_ rfl) | refine cpC (h1) ?_ | refine spC (fun hb => ?_) fun hb => ?_ | refine saC ?_))
 ·rw [decide_eq_true (by assumption), Bool.true_and]; rfl
 ·rw [decide_eq_false (by assumption), Bool.false_and]
theorem q5j (g own : q06) (a c : Bool) : q07 Tryz.prog Dc 49 [q0m g, q0m own, bS a, bS c] [] (bS (q68 g own a c)) [] := by
 refine q00 Ax q03 Tryz.func49 (c := _) rfl Tryz.call49 200 ?_
 (repeat' ((conv => whnf); first | refine x0C (eB ?_ rfl) | refine spC (fun hb => ?_) fun hb => ?_))
 all_goals (first | (simp_all [q68]; done) | (simp_all [q68]; omega) | (simp_all [q68]; grind))
@[reducible] def y2v (f t lo hi : Int) (cl : Bool) (d tm w : Int) : q06 := ⟨0, [], f, t, lo, hi, cl, d, tm, w, [], []⟩
theorem ze7 (g : q06) (hg : y5x g) : q07 Tryz.prog Dc 70 [q0m g] [] (bS (q7c g)) [] := by
 obtain ⟨hl1, hl2, hl3⟩ := hg
 have b1 := q5j g (y2v g.from_ g.to_ g.low g.high g.clear 0 0 0) true false
 have b2 := q5j g (y2v 0 0 g.low 0 false 0 0 g.within) false false
 have b3 := q5j g (y2v g.from_ 0 0 0 false g.days g.times g.within) false false
 have b4 := q5j g (y2v 0 0 0 0 false 0 0 g.within) false false
 have b5 := q5j g (y2v 0 0 0 0 false 0 0 0) false false
 have b6 := q5j g (y2v 0 0 0 0 false 0 0 0) false true
 have o1 := z5k g 1
 have o3 := z5k g 3
 have h0 := y2z g.rows hl1
 have h1 := z4i g.rows hl1
 have h2 := z7q g.from_ g.to_
 have h4 := z6z g.low 0 90
 have h5 := z6z g.high g.low 90
 have h6 := z6z g.low 1 8
 have h7 := z6z g.within 1 1000000
 have h8 := z6z g.days 1 60
 have h9 := z6z g.times 1 6
 have ha1 := z6z g.within 0 (1440 * g.days)
 have ha2 := z6z g.within 0 1000000
 have ha3 := z6z g.from_ 0 1000000
 have ha4 := z6z g.kids.length 2 4
 have i2 := fun h => (q0f g.days 1 60).1 h
 have hcp : q29 g.rows = true → decide (0 < (if q29 g.rows then ((q63 g.rows 1152).length : Int) else 0)) = g.rows.any (fun r => decide (r ≠ 0)) := fun h => by rw [h, if_pos rfl]; exact zw1 h
 by_cases hk : g.kind = 6
 ·unfold q7c
  rw [if_neg (by omega), if_neg (by omega), if_neg (by omega), if_neg (by omega), if_neg (by omega), if_pos hk]
  clear b1 b2 b3 b4 b5 o1 o3 h0 h1 h2 h4 h5 h6 h7 h8 h9 ha1 ha2 ha3 hcp
  dsimp only [y2v] at b6
  generalize q68 g _ _ _ = x6 at b6 ⊢
  refine q00 Ax q03 Tryz.func70 (c := _) rfl Tryz.call70 400 ?_
  (repeat' ((conv => whnf); first | refine x0C (eB ?_ rfl) | (exfalso; omega) | refine spC (fun hb => ?_) fun hb => ?_))
  refine q0u (fun i : Nat => [(4, iS i)]) (fun _ => []) (fun i => i ≤ g.cents.length ∧ (g.cents.take i).all (fun n => inB n 0 1000000000) = true) (fun i => g.cents.length - i) 0 ⟨by omega, by simp⟩ (by exact bkV) ?_
  rintro i ⟨c1, c3⟩ K hK
  rcases Nat.lt_or_ge i g.cents.length with hlt | hge
  ·have hg := getD_some (d := Cd.dflt U.int) hlt
   have hx := z6z (g.cents.getD (i : Int).toNat (Cd.dflt U.int)) 0 1000000000
   cases hr : inB (g.cents.getD (i : Int).toNat (Cd.dflt U.int)) 0 1000000000 with
   | true =>
    rw [hr] at hx
    have c5 : (g.cents.take (i + 1)).all (fun n => inB n 0 1000000000) = true := by
     rw [List.take_add_one, hg, List.all_append, c3]
     simpa using hr
    (repeat' ((conv => whnf); first | (exfalso; omega) | refine cpC (hx) ?_ | refine hK (i + 1) [some 0, some 1] _ _ ⟨⟨by omega, c5⟩⟩ ⟨by omega⟩ (by exact bkV) | refine spC (fun hb => ?_) fun hb => ?_ | refine saC ?_))
   | false =>
    rw [hr] at hx
    have ha : g.cents.all (fun n => inB n 0 1000000000) = false := by
     rw [List.all_eq_false]
     exact ⟨_, List.mem_of_getElem? hg, by rw [hr]; simp⟩
    rw [ha]
    (repeat' ((conv => whnf); first | refine x0C (eB ?_ rfl) | (exfalso; omega) | refine cpC (hx) ?_ | refine spC (fun hb => ?_) fun hb => ?_ | refine saC ?_))
    all_goals rfl
  ·rw [List.take_of_length_le hge] at c3
   rw [c3]
   (repeat' ((conv => whnf); first | refine x0C (eB ?_ rfl) | (exfalso; omega) | refine rdC (b6) ?_ | refine cpC (ha4) ?_ | refine spC (fun hb => ?_) fun hb => ?_))
   all_goals clear b6 ha4
   all_goals (first | (simp_all []; done) | (simp_all []; omega) | (simp_all []; grind))
 ·unfold q7c
  generalize (if q29 g.rows then ((q63 g.rows 1152).length : Int) else 0) = n at *
  generalize q29 g.rows = ar at *
  generalize (g.rows.any fun r => decide (r ≠ 0)) = nz at *
  dsimp only [y2v] at b1 b2 b3 b4 b5
  generalize q68 g _ _ _ = x1 at b1 ⊢
  generalize q68 g _ _ _ = x2 at b2 ⊢
  generalize q68 g _ _ _ = x3 at b3 ⊢
  generalize q68 g _ _ _ = x4 at b4 ⊢
  generalize q68 g _ _ _ = x5 at b5 ⊢
  generalize zy0 g 1 = y1 at *
  generalize zy0 g 3 = y3 at *
  generalize qp3 g.from_ g.to_ = sp at *
  refine q00 Ax q03 Tryz.func70 (c := _) rfl Tryz.call70 400 ?_
  (repeat' ((conv => whnf); first | refine x0C (eB ?_ rfl) | (exfalso; omega) | (have := i2 (by assumption); refine saC ?_) | refine rdC (b1) ?_ | refine rdC (b2) ?_ | refine rdC (b3) ?_ | refine rdC (b4) ?_ | refine rdC (b5) ?_ | refine cpC (o1) ?_ | refine cpC (o3) ?_ | refine cpC (h0) ?_ | refine cpC (h1) ?_ | refine cpC (h2) ?_ | refine cpC (h4) ?_ | refine cpC (h5) ?_ | refine cpC (h6) ?_ | refine cpC (h7) ?_ | refine cpC (h8) ?_ | refine cpC (h9) ?_ | refine cpC (ha1) ?_ | refine cpC (ha2) ?_ | refine cpC (ha3) ?_ | refine cpC (ha4) ?_ | refine spC (fun hb => ?_) fun hb => ?_))
  all_goals clear b1 b2 b3 b4 b5 b6 o1 o3 h0 h1 h2 h4 h5 h6 h7 h8 h9 ha1 ha2 ha3 ha4
  all_goals (first | (simp_all []; done) | (simp_all []; omega) | (simp_all []; grind))
theorem z2u : ∀ (l : List q06) (k : List q06) (d n : Int), cntL (l ++ k) d n = cntL k d (cntL l d n)
 | [], k, d, n => by simp [cntL]
 | x :: l, k, d, n => by
  simp only [List.cons_append, cntL]
  split
  ·exact z2u l k d _
  ·rw [z97 k d n (by omega)]
theorem zb8 : ∀ (j : Nat) (g : q06) (d : Int), 5 ≤ d + j → z6q g d ≤ 13 + 12 * j
 | j, g, d, hj => by
  rw [qt6]
  split
  ·omega
  ·rename_i hc
   simp only [Bool.or_eq_true, decide_eq_true_eq, not_or] at hc
   cases j with
   | zero => omega
   | succ j =>
    have key : ∀ (l : List q06) (n : Int), n ≤ 12 + (13 + 12 * j) → cntL l (d + 1) n ≤ 12 + (13 + 12 * j) := by
     intro l
     induction l with
     | nil => intro n hn; rw [cntL]; exact hn
     | cons k l ih =>
      intro n hn
      rw [cntL]
      split
      ·have := zb8 j k (d + 1) (by omega)
       exact ih _ (by omega)
      ·exact hn
    have := key g.kids 1 (by omega)
    omega
theorem y3r : ∀ (j : Nat) (g : q06) (d : Int), d + j = 5 → 1 ≤ d → q4d g → q07 Tryz.prog Dc 44 [q0m g, iS d] [] (iS (z6q g d)) [] := by
 intro j
 induction j with
 | zero =>
  intro g d hj hd hG
  rw [show z6q g d = 13 by rw [qt6]; simp; omega]
  refine q00 Ax q03 Tryz.func44 (c := _) rfl Tryz.call44 400 ?_
  (repeat' ((conv => whnf); first | refine x0C (eI ?_ rfl) | (exfalso; omega) | refine spC (fun hb => ?_) fun hb => ?_))
  all_goals rfl
 | succ j ih =>
  intro g d hj hd hG
  have hgl := ((q1y g).1 hG).1
  have hkl := hgl.kids
  have hkk := ((q1y g).1 hG).2
  have h1 := ze7 g hgl
  rw [qt6, show decide (4 < d) = false by simp; omega, Bool.false_or]
  cases hok : q7c g with
  | false =>
   rw [hok] at h1
   refine q00 Ax q03 Tryz.func44 (c := _) rfl Tryz.call44 400 ?_
   (repeat' ((conv => whnf); first | refine x0C (eI ?_ rfl) | (exfalso; omega) | refine cpC (h1) ?_ | refine spC (fun hb => ?_) fun hb => ?_))
   all_goals rfl
  | true =>
   rw [hok] at h1
   simp only [Bool.not_true]
   refine q00 Ax q03 Tryz.func44 (c := _) rfl Tryz.call44 400 ?_
   (repeat' ((conv => whnf); first | (exfalso; omega) | refine cpC (h1) ?_ | refine spC (fun hb => ?_) fun hb => ?_))
   clear h1
   refine q0u (fun i : Nat => [(5, iS (cntL (g.kids.take i) (d + 1) 1)), (6, iS i)]) (fun _ => []) (fun i => i ≤ g.kids.length) (fun i => g.kids.length - i) 0 (Nat.zero_le _) (by exact bkV) ?_
   intro i hi K hK
   have hpos := cntL_pos (g.kids.take i) (d + 1) 1 (by omega)
   have happ := z2u (g.kids.take i) (g.kids.drop i) (d + 1) 1
   rw [List.take_append_drop] at happ
   rcases Nat.lt_or_ge i g.kids.length with hlt | hge
   ·have hg := getD_some (d := Cd.dflt U.goal) hlt
    have hx := ih _ (d + 1) (by omega) (by omega) (q3p hkk (List.mem_of_getElem? hg))
    have ht : g.kids.take (i + 1) = g.kids.take i ++ [g.kids.getD (i : Int).toNat (Cd.dflt U.goal)] := by rw [List.take_add_one, hg]; rfl
    have hs := z2u (g.kids.take i) [g.kids.getD (i : Int).toNat (Cd.dflt U.goal)] (d + 1) 1
    rw [← ht] at hs
    have hm := zb8 j (g.kids.getD (i : Int).toNat (Cd.dflt U.goal)) (d + 1) (by omega)
    have hp := qh7 (g.kids.getD (i : Int).toNat (Cd.dflt U.goal)) (d + 1)
    generalize cntL (g.kids.take i) (d + 1) 1 = n at *
    by_cases hn : n ≤ 12
    ·rw [cntL, if_pos hn, cntL] at hs
     (repeat' ((conv => whnf); first | (exfalso; omega) | refine cpC (hx) ?_ | refine hK (i + 1) [some 0] _ _ ⟨by omega⟩ ⟨by omega⟩ (by (dsimp only; rw [hs]; exact bkV)) | refine spC (fun hb => ?_) fun hb => ?_ | refine saC ?_))
    ·rw [z97 (g.kids.drop i) (d + 1) n (by omega)] at happ
     rw [happ]
     (repeat' ((conv => whnf); first | refine x0C (eI ?_ rfl) | (exfalso; omega) | refine spC (fun hb => ?_) fun hb => ?_))
     all_goals rfl
   ·rw [List.drop_of_length_le hge, cntL] at happ
    rw [happ]
    generalize cntL (g.kids.take i) (d + 1) 1 = n at *
    (repeat' ((conv => whnf); first | refine x0C (eI ?_ rfl) | (exfalso; omega) | refine spC (fun hb => ?_) fun hb => ?_))
    all_goals rfl
theorem qt4 (g : q06) (hG : q4d g) : q07 Tryz.prog Dc 19 [q0m g] [] (bS (q2r g)) [] := by
 have h := y3r 4 g 1 (by omega) (by omega) hG
 rw [zt5]
 refine q00 Ax q03 Tryz.func19 (c := _) rfl Tryz.call19 60 ?_
 (repeat' ((conv => whnf); first | refine x0C (eB ?_ rfl) | refine cpC (h) ?_))
 all_goals rfl
theorem zv9 : ∀ (j : Nat), j ≤ 3 → ∀ (x : List A5), (∀ y ∈ x, z41 y) → (x.length : Int) ≤ 9223372036854775807 → ∀ (at_ most : Int), 0 ≤ at_ → at_ + most ≤ 1000 → 1 ≤ most → most ≤ 9 →
    MGo [a5S x, iS at_, iS (4 - j), iS most] (q38 j x at_ most).1 (q38 j x at_ most).2.1 (q38 j x at_ most).2.2
  | 0, hj, x, hx, hxl, at_, most, h1, h2, h3, h4 => by
    rw [q38]
    exact z8z x hx hxl (4 - ((0 : Nat) : Int)) at_ most (by omega) (by omega) (by omega) (.inl (by omega))
  | j + 1, hj, x, hx, hxl, at_, most, h1, h2, h3, h4 => by
    have hb := q0g (c := (y5 x at_).a.tdiv 144) (n := 6) (by omega)
    by_cases hc : j + 1 = 0 ∨ most < 2 ∨ (x.length : Int) ≤ at_ + 1 ∨ (5 ≤ 1 + q0e ((y5 x at_).a.tdiv 144) 6 ∧ most < 3)
    · have hk : qq2 (j + 1) x at_ most = 1 := by unfold qq2; rw [if_pos hc]
      rw [q38]
      dsimp only
      rw [hk, if_neg (by omega), if_neg (by omega), if_neg (by omega), if_neg (by omega)]
      exact z8z x hx hxl (4 - ((j + 1 : Nat) : Int)) at_ most (by omega) (by omega) (by omega) (by omega)
    · have hk : qq2 (j + 1) x at_ most = 1 + q0e ((y5 x at_).a.tdiv 144) 6 := by unfold qq2; rw [if_neg hc]
      have hlen : at_ + 1 < x.length := by omega
      have e1 : y5 x at_ = x.getD at_.toNat (Cd.dflt U.arr5) := zi3 h1 (by omega)
      have e2 : y5 x (at_ + 1) = x.getD (at_ + 1).toNat (Cd.dflt U.arr5) := zi3 (by omega) hlen
      rw [q38]
      dsimp only
      rw [hk]
      by_cases h0 : 1 + q0e ((y5 x at_).a.tdiv 144) 6 = 1
      · rw [h0, if_neg (by omega), if_neg (by omega), if_neg (by omega), if_neg (by omega)]
        exact z8z x hx hxl (4 - ((j + 1 : Nat) : Int)) at_ most (by omega) (by omega) (by omega) (by omega)
      · rw [e1] at hb h0 hc ⊢
        rw [e2]
        by_cases h5 : 5 ≤ 1 + q0e ((x.getD at_.toNat (Cd.dflt U.arr5)).a.tdiv 144) 6
        · rw [if_neg (by omega), if_neg (by omega), if_neg (by omega), if_pos (by omega)]
          exact y5o j x hx hxl (4 - ((j + 1 : Nat) : Int)) at_ most (by omega) (by omega) (by omega) hlen (q38 j x) (fun a m q1 q2 q3 q4 => by
            have := (zv9 j (by omega) x hx hxl a m q1 q2 q3 q4).1
            rw [show 4 - ((j + 1 : Nat) : Int) + 1 = 4 - (j : Int) by omega]
            exact this) (fun a m q1 _ _ => z3e j x a m (by omega) q1) (by omega)
        · rcases (show 1 + q0e ((x.getD at_.toNat (Cd.dflt U.arr5)).a.tdiv 144) 6 = 2 ∨ 1 + q0e ((x.getD at_.toNat (Cd.dflt U.arr5)).a.tdiv 144) 6 = 3 ∨ 1 + q0e ((x.getD at_.toNat (Cd.dflt U.arr5)).a.tdiv 144) 6 = 4 by omega) with e | e | e
          · have := z7v x hx hxl (4 - ((j + 1 : Nat) : Int)) at_ most (by omega) (by omega) (by omega) (by omega) hlen 2 (by omega) e _ rfl
            rw [if_pos rfl, e] at this
            rw [if_pos e]
            exact this
          · have := z7v x hx hxl (4 - ((j + 1 : Nat) : Int)) at_ most (by omega) (by omega) (by omega) (by omega) hlen 3 (by omega) e _ rfl
            rw [if_neg (by omega), if_pos rfl, e] at this
            rw [if_neg (by omega), if_pos e]
            exact this
          · have := z7v x hx hxl (4 - ((j + 1 : Nat) : Int)) at_ most (by omega) (by omega) (by omega) (by omega) hlen 4 (by omega) e _ rfl
            rw [if_neg (by omega), if_neg (by omega), e] at this
            rw [if_neg (by omega), if_neg (by omega), if_pos e]
            exact this
theorem y9y (x : List A5) (hx : ∀ y ∈ x, z41 y) (hxl : (x.length : Int) ≤ 9223372036854775807) : q07 Tryz.prog Dc 32 [a5S x] [] (q0m (q9q x)) [] := by
 have h : q07 Tryz.prog Dc 60 [a5S x, iS 0, iS 1, iS 9] [] (.tuple [q0m (q38 3 x 0 9).1, iS (q38 3 x 0 9).2.1, iS (q38 3 x 0 9).2.2]) [] := (zv9 3 (by omega) x hx hxl 0 9 (by omega) (by omega) (by omega) (by omega)).1
 unfold q9q
 generalize q38 3 x 0 9 = q at h ⊢
 refine q00 Ax q03 Tryz.func32 (c := _) rfl Tryz.call32 100 ?_
 (repeat' ((conv => whnf); first | refine cpC (h) ?_ | refine x0C ?_))
 all_goals exact vwV
theorem y85 (x : List A5) (hx : ∀ y ∈ x, z41 y) (hxl : (x.length : Int) ≤ 9223372036854775807) (hk : (q9q x).kids ≠ []) : q07 Tryz.prog Dc 32 [a5S x] [] (y0x (q9q x)) [.rows U.goal (q9q x).kids] := by
 have h : q07 Tryz.prog Dc 60 [a5S x, iS 0, iS 1, iS 9] [] (.tuple [y0x (q38 3 x 0 9).1, iS (q38 3 x 0 9).2.1, iS (q38 3 x 0 9).2.2]) [.rows U.goal (q38 3 x 0 9).1.kids] := (zv9 3 (by omega) x hx hxl 0 9 (by omega) (by omega) (by omega) (by omega)).2 hk
 clear hk
 unfold q9q
 generalize q38 3 x 0 9 = q at h ⊢
 refine q00 Ax q03 Tryz.func32 (c := _) rfl Tryz.call32 100 ?_
 (repeat' ((conv => whnf); first | (refine q01 [] h rfl rfl trivial ?_) | (refine q08 [some 1] (.inr rfl) ?_ ?_ rfl rfl; (focus exact vwV); exact hsV)))
@[reducible] def gS (l : List q06) : SV Cd := .p (.dsl U.goal l)
theorem y3o : ∀ (j : Nat) (g : q06) (d n : Int), 5 - d ≤ j → q2j g d = some n → n ≤ 1000 → q4d g → q07 Tryz.prog Dc 48 [q0m g] [] (gS (q51 g)) [] := by
 intro j
 induction j with
 | zero =>
  intro g d n h1 hs
  have := (z2x hs).2.1
  omega
 | succ j ih =>
  intro g d n h1 hs hn hG
  obtain ⟨hok, hd, m, hL, rfl⟩ := z2x hs
  obtain ⟨hgl, hgk⟩ := (q1y g).1 hG
  rw [q8v]
  by_cases hk : g.kind = 1
  ·rw [if_pos hk]
   rw [show [g] = [y6f g] from by rw [z7d]]
   refine q00 Ax q03 Tryz.func48 (c := _) rfl Tryz.call48 200 ?_
   (repeat' ((conv => whnf); first | (exfalso; omega) | refine x0C ?_ | refine spC (fun hb => ?_) fun hb => ?_ | refine saC ?_))
   all_goals exact vwV
  ·rw [if_neg hk]
   have hkk := hgl.kids
   refine q00 Ax q03 Tryz.func48 (c := _) rfl Tryz.call48 200 ?_
   (repeat' ((conv => whnf); first | (exfalso; omega) | refine spC (fun hb => ?_) fun hb => ?_))
   have hkl : (g.kids.length : Int) ≤ m := by
    have key : ∀ (l : List q06) (d m : Int), sizeL l d = some m → (l.length : Int) ≤ m := by
     intro l
     induction l with
     | nil => intro d m h; rw [sizeL] at h; injection h with h; simp; omega
     | cons a l ihl =>
      intro d m h
      rw [sizeL] at h
      split at h
      ·cases h
      ·rename_i x hx
       split at h
       ·cases h
       ·rename_i y hy
        injection h with h
        have := ihl d y hy
        have := z2q hx
        simp; omega
    exact key _ _ _ hL
   refine q57 [some 0, none] (fun q : Nat × List q06 => [(3, .slice 1 0 12 0 q.2.length), (4, iS q.1)]) (fun q => [(1, .rows U.goal q.2)]) (fun q => q.1 ≤ g.kids.length ∧ q.2 = seesL (g.kids.take q.1) ∧ (q.2.length : Int) ≤ 1000) (fun q => g.kids.length - q.1) (0, []) ⟨Nat.zero_le _, by simp [seesL], by simp⟩ (by exact bkI) ?_
   rintro ⟨i, J⟩ ⟨hi, hJ, hJl⟩ K hK
   dsimp only at hi hJ hJl hK ⊢
   rcases Nat.lt_or_ge i g.kids.length with hlt | hge
   ·have hgi := getD_some (d := Cd.dflt U.goal) hlt
    have hkm := List.mem_of_getElem? hgi
    obtain ⟨a, ha, ha2⟩ := z1d hL hkm
    have hx := ih _ (d + 1) a (by omega) ha (by omega) (q3p hgk hkm)
    have hW : List.take J.length J ++ q51 (g.kids.getD (i : Int).toNat (Cd.dflt U.goal)) = seesL (g.kids.take (i + 1)) := by
     rw [q2g (d := Cd.dflt U.goal) hlt, ql1, ← hJ, List.take_length]; rfl
    obtain ⟨b, hb1, hb2⟩ := z23 (i + 1) hL
    have hWl : ((List.take J.length J ++ q51 (g.kids.getD (i : Int).toNat (Cd.dflt U.goal))).length : Int) ≤ 1000 := by
     rw [hW]
     have := (seesL_ok _ _ _ hb1).1
     omega
    have hsl := (z48 _ _ _ ha).1
    have hsl2 := hsl
    simp at hsl2
    (repeat' ((conv => whnf); first | (exfalso; omega) | refine cpC (hx) ?_ | refine hK (i + 1, List.take J.length J ++ q51 (g.kids.getD (i : Int).toNat (Cd.dflt U.goal))) [some 0, some 2] _ _ ⟨⟨by dsimp only; omega, hW, hWl⟩⟩ ⟨by dsimp only; omega⟩ (by exact bkI) | refine spC (fun hb => ?_) fun hb => ?_ | refine saC ?_))
   ·rw [List.take_of_length_le hge] at hJ
    rw [← hJ]
    (repeat' ((conv => whnf); first | (exfalso; omega) | refine x0C ?_ | refine spC (fun hb => ?_) fun hb => ?_))
    all_goals exact vwV
theorem zr8 (g : q06) (hG : q4d g) : q07 Tryz.prog Dc 23 [q0m g] [] (gS (q7h g)) [] := by
 have h1 := qt4 g hG
 unfold q7h
 cases hv : q2r g with
 | false =>
  rw [hv] at h1
  refine q00 Ax q03 Tryz.func23 (c := _) rfl Tryz.call23 100 ?_
  (repeat' ((conv => whnf); first | refine cpC (h1) ?_ | refine x0C ?_))
  all_goals exact vwV
 | true =>
  rw [hv] at h1
  have h2 : q07 Tryz.prog Dc 48 [q0m g] [] (gS (q51 g)) [] := by
   unfold q2r at hv
   split at hv
   ·cases hv
   ·rename_i n hn
    have : n ≤ 12 := by simpa using hv
    exact y3o 4 g 1 n (by omega) hn (by omega) hG
  refine q00 Ax q03 Tryz.func23 (c := _) rfl Tryz.call23 100 ?_
  (repeat' ((conv => whnf); first | refine cpC (h1) ?_ | refine cpC (h2) ?_ | refine x0C ?_))
  all_goals exact vwV
end Go.SX
namespace Go.SX
def zk2 (a b : Int) : Int := if a ≤ b then b else a
mutual
def qj9 : q06 → Int
 | ⟨_, _, _, _, _, _, _, _, _, _, _, kids⟩ => 1 + manyL kids
def manyL : List q06 → Int
 | [] => 0
 | k :: l => qj9 k + manyL l
end
mutual
def qe5 : q06 → Int
 | ⟨_, _, _, _, _, _, _, _, _, _, _, kids⟩ => deepL kids + 1
def deepL : List q06 → Int
 | [] => 0
 | k :: l => zk2 (qe5 k) (deepL l)
end
theorem z32 (g : q06) : qj9 g = 1 + manyL g.kids := by cases g; rw [qj9]
theorem y0b (g : q06) : qe5 g = deepL g.kids + 1 := by cases g; rw [qe5]
mutual
def z0o : q06 → Bool
 | ⟨kind, rows, from_, to_, low, high, clear, days, times, within, cents, kids⟩ => okB ⟨kind, rows, from_, to_, low, high, clear, days, times, within, cents, kids⟩ && allOKL kids
def allOKL : List q06 → Bool
 | [] => true
 | k :: l => z0o k && allOKL l
end
theorem z3b (g : q06) : z0o g = (okB g && allOKL g.kids) := by cases g; rw [z0o]
theorem z7n (a b c : Int) : zk2 a b ≤ c ↔ a ≤ c ∧ b ≤ c := by unfold zk2; split <;> omega
mutual
theorem zm5 : ∀ g : q06, 1 ≤ qe5 g
 | ⟨_, _, _, _, _, _, _, _, _, _, _, kids⟩ => by rw [qe5]; have := deepL_nn kids; omega
theorem deepL_nn : ∀ l : List q06, 0 ≤ deepL l
 | [] => by simp [deepL]
 | k :: l => by rw [deepL]; have := deepL_nn l; unfold zk2; split <;> omega
end
mutual
theorem z9w : ∀ (g : q06) (d : Int), q2j g d = if z0o g = true ∧ d + qe5 g ≤ 5 then some (qj9 g) else none
  | ⟨kind, rows, from_, to_, low, high, clear, days, times, within, cents, kids⟩, d => by
    have hL := sizeL_law kids (d + 1)
    have hp := deepL_nn kids
    rw [q2j, z0o, qe5, qj9, hL]
    cases hk : okB ⟨kind, rows, from_, to_, low, high, clear, days, times, within, cents, kids⟩ with
    | false => simp
    | true =>
      by_cases hd : 4 < d
      · rw [if_pos (by simp [hd]), if_neg (by simp; omega)]
      · rw [if_neg (by simp [hd])]
        by_cases hc : allOKL kids = true ∧ (kids = [] ∨ d + 1 + deepL kids ≤ 5)
        · rw [if_pos hc]
          simp only
          rw [if_pos ⟨by simp [hc.1], by
            rcases hc.2 with h | h
            · rw [h]; simp [deepL]; omega
            · omega⟩]
        · rw [if_neg hc]
          simp only
          rw [if_neg (fun h => hc ⟨by simpa using h.1, .inr (by omega)⟩)]
theorem sizeL_law : ∀ (l : List q06) (d : Int), sizeL l d = if allOKL l = true ∧ (l = [] ∨ d + deepL l ≤ 5) then some (manyL l) else none
  | [], d => by simp [sizeL, allOKL, manyL]
  | k :: l, d => by
    have h1 := z9w k d
    have h2 := sizeL_law l d
    have hk := zm5 k
    rw [sizeL, h1, allOKL, deepL, manyL, h2]
    by_cases ha : z0o k = true ∧ d + qe5 k ≤ 5
    · rw [if_pos ha]
      simp only
      by_cases hb : allOKL l = true ∧ (l = [] ∨ d + deepL l ≤ 5)
      · rw [if_pos hb]
        simp only
        rw [if_pos ⟨by simp [ha.1, hb.1], .inr (by
          have : zk2 (qe5 k) (deepL l) ≤ 5 - d := (z7n _ _ _).2 ⟨by omega, by
            rcases hb.2 with h | h
            · rw [h]; simp [deepL]; omega
            · omega⟩
          omega)⟩]
      · rw [if_neg hb]
        simp only
        rw [if_neg (fun h => hb ⟨by have := h.1; simp at this; exact this.2, .inr (by
          have h3 := h.2
          simp at h3
          have : zk2 (qe5 k) (deepL l) ≤ 5 - d := by omega
          have := (z7n _ _ _).1 this
          omega)⟩)]
    · rw [if_neg ha]
      simp only
      rw [if_neg (fun h => ha ⟨by have := h.1; simp at this; exact this.1, by
        have h3 := h.2
        simp at h3
        have : zk2 (qe5 k) (deepL l) ≤ 5 - d := by omega
        have := (z7n _ _ _).1 this
        omega⟩)]
end
theorem qt1 (g : q06) : q2r g = true ↔ z0o g = true ∧ qe5 g ≤ 4 ∧ qj9 g ≤ 12 := by
 unfold q2r
 rw [z9w]
 by_cases h : z0o g = true ∧ 1 + qe5 g ≤ 5
 ·rw [if_pos h]
  simp only [decide_eq_true_eq]
  constructor
  ·intro h2; exact ⟨h.1, by omega, h2⟩
  ·intro h2; exact h2.2.2
 ·rw [if_neg h]
  simp only
  constructor
  ·intro h2; cases h2
  ·intro h2; exact absurd ⟨h2.1, by omega⟩ h
end Go.SX
namespace Go.SX
set_option maxRecDepth 100000
def qq3 : q06 := ⟨1, [0, 0, 0, 0, 0, 14, 0, 0, 0, 0, 0, 0, 0, 0, 0, 0, 0, 0, 0, 0, 0, 0, 0, 0], 100, 2000, 20, 90, true, 0, 0, 0, [], []⟩
def oEx : q2c := ⟨3, 2, qq3, 500, -1, false, 0, 9000⟩
def z6c : Wd := [111, 114, 100, 101, 114, 32, 51, 32, 98, 121, 32, 50, 32, 102, 111, 114, 32, 53, 48, 48, 32, 103, 114, 111, 117, 112, 32, 110, 111, 110, 101, 32, 112, 108, 97, 105, 110, 32, 107, 110, 111, 119, 110, 32, 48, 32, 100, 117, 101, 32, 57, 48, 48, 48, 32, 58, 32, 115, 101, 101, 32, 97, 116, 32, 53, 32, 49, 32, 51, 32, 102, 114, 111, 109, 32, 49, 48, 48, 32, 116, 111, 32, 50, 48, 48, 48, 32, 115, 117, 110, 32, 50, 48, 32, 116, 111, 32, 57, 48, 32, 99, 108, 101, 97, 114, 32, 46]
def yb7 : Wd := [111, 114, 100, 101, 114, 32, 51, 32, 98, 121, 32, 49, 54]
def yc3 : Wd := [111, 114, 100, 101, 114, 32, 51, 32, 98, 121, 32, 50, 32, 102, 111, 114, 32, 53, 48, 48, 32, 103, 114, 111, 117, 112, 32, 110, 111, 110, 101, 32, 112, 108, 97, 105, 110, 32, 107, 110, 111, 119, 110, 32, 57, 32, 100, 117, 101, 32, 57]
def yb3 : Wd := [111, 114, 100, 101, 114, 32, 51, 32, 98, 121, 32, 50]
theorem y0e : q4y oEx = (z6c, 0) := by kernel_rfl
theorem y0t : q39 z6c = (oEx, 29, 0) := by kernel_rfl
theorem y4w : q39 yb7 = (q70, 3, 130) := by kernel_rfl
theorem y3z : q39 yc3 = (q70, 12, 130) := by kernel_rfl
theorem y68 : q39 yb3 = (q70, 4, 130) := by kernel_rfl
theorem y6r : (q0j z6c).length = 29 := by kernel_rfl
theorem zd1 : q2r qq3 = true := by kernel_rfl
theorem y7j : z73 oEx = true := by kernel_rfl
theorem y63 : z73 q70 = false := by kernel_rfl
theorem y12 : q2r (U.dflt .goal) = false := by kernel_rfl
theorem zq2 : qq0 oEx oEx = true := by kernel_rfl
theorem y1b : qq0 oEx q70 = false := by kernel_rfl
end Go.SX
namespace Go.SX
open Go.Proofs
set_option maxHeartbeats 400000000
set_option maxRecDepth 100000
theorem y2r (a b : List Int) (ha : (a.length : Int) ≤ 9223372036854775807) (hb : (b.length : Int) ≤ 9223372036854775807) : q07 Tryz.prog Dc 50 [lS a, lS b] [] (bS (decide (a = b))) [] := by
 by_cases hlen : a.length = b.length
 rotate_left
 ·rw [decide_eq_false (fun e => hlen (by rw [e]))]
  refine q00 Ax q03 Tryz.func50 (c := _) rfl Tryz.call50 100 ?_
  (repeat' ((conv => whnf); first | refine x0C (eB ?_ rfl) | (exfalso; omega) | refine spC (fun hb => ?_) fun hb => ?_))
  all_goals rfl
 ·refine q00 Ax q03 Tryz.func50 (c := _) rfl Tryz.call50 100 ?_
  (repeat' ((conv => whnf); first | (exfalso; omega) | refine spC (fun hb => ?_) fun hb => ?_))
  refine q0u (fun i : Nat => [(5, iS i)]) (fun _ => []) (fun i => i ≤ a.length ∧ a.take i = b.take i) (fun i => a.length - i) 0 ⟨Nat.zero_le _, by simp⟩ (by exact bkI) ?_
  rintro i ⟨hi, he⟩ K hK
  rcases Nat.lt_or_ge i a.length with hlt | hge
  ·have t1 := q2g (d := Cd.dflt U.int) hlt
   have t2 := q2g (d := Cd.dflt U.int) (show i < b.length by omega)
   have hs : a.getD (i : Int).toNat (Cd.dflt U.int) = b.getD (i : Int).toNat (Cd.dflt U.int) → a.take (i + 1) = b.take (i + 1) := fun h => by
    rw [t1, t2, he, show a.getD i (Cd.dflt U.int) = b.getD i (Cd.dflt U.int) from h]
   have hn : ¬ a.getD (i : Int).toNat (Cd.dflt U.int) = b.getD (i : Int).toNat (Cd.dflt U.int) → decide (a = b) = false := fun h => decide_eq_false fun e => h (by rw [e])
   (repeat' ((conv => whnf); first | refine x0C (eB ?_ rfl) | (exfalso; omega) | refine hK (i + 1) [] _ _ ⟨⟨by omega, hs (by assumption)⟩⟩ ⟨by omega⟩ (by exact bkI) | refine spC (fun hb => ?_) fun hb => ?_ | refine taC ?_ | refine saC ?_ | refine q02 mixed ?_))
   all_goals exact (hn (by assumption)).symm
  ·rw [List.take_of_length_le hge, List.take_of_length_le (by omega)] at he
   rw [decide_eq_true he]
   (repeat' ((conv => whnf); first | refine x0C (eB ?_ rfl) | (exfalso; omega) | refine spC (fun hb => ?_) fun hb => ?_))
   all_goals rfl
theorem z4u : ∀ (n : Nat) (a b : q06), SizeOf.sizeOf a ≤ n → q4d a → q4d b → q07 Tryz.prog Dc 24 [q0m a, q0m b] [] (bS (q8x a b)) []
 | 0, a, b, hn, _, _ => by cases a; simp at hn
 | n + 1, a, b, hn, hG, hH => by
  have hG' := (q1y a).1 hG
  have hH' := (q1y b).1 hH
  have hk : ∀ x ∈ a.kids, SizeOf.sizeOf x ≤ n := fun x hx => by
   have h1 := List.sizeOf_lt_of_mem hx
   have h2 : SizeOf.sizeOf a.kids < SizeOf.sizeOf a := by cases a; simp; omega
   omega
  have h1 := q5j a b true true
  have h2 := y2r a.rows b.rows hG'.1.rows hH'.1.rows
  have h3 := y2r a.cents b.cents hG'.1.cents hH'.1.cents
  have h4 : ∀ x ∈ a.kids, ∀ y ∈ b.kids, q07 Tryz.prog Dc 24 [q0m x, q0m y] [] (bS (q8x x y)) [] := fun x hx y hy => z4u n x y (hk x hx) (q3p hG'.2 hx) (q3p hH'.2 hy)
  have hal := hG'.1.kids
  have hbl := hH'.1.kids
  clear hG hH hG' hH' hk hn
  refine q00 Ax q03 Tryz.func24 (c := _) rfl Tryz.call24 300 ?_
  (repeat' ((conv => whnf); first | refine x0C (eB ?_ rfl) | refine cpC (h1) ?_ | refine cpC (h2) ?_ | refine cpC (h3) ?_ | refine spC (fun hb => ?_) fun hb => ?_))
  case refine_1 => clear h1 h2 h3 h4; rw [q8l]; simp [q3s, hb]
  case refine_2.refine_1 => clear h1 h2 h3 h4; rw [q8l]; simp only [q68, Bool.true_or, Bool.and_true] at hb; simp_all [q3s]
  case refine_2.refine_2.refine_1 => clear h1 h2 h3 h4; rw [q8l]; simp [hb]
  case refine_2.refine_2.refine_2.refine_1 => clear h1 h2 h3 h4; rw [q8l]; simp [hb]
  case refine_2.refine_2.refine_2.refine_2.refine_1 => clear h1 h2 h3 h4; rw [q8l, z5o (by omega)]; simp
  clear h1 h2 h3
  rename_i e1 e2 e3 e4
  have hlen : a.kids.length = b.kids.length := by omega
  have hsp : q8x a b = sameL a.kids b.kids := by
   rw [q8l]
   simp only [q68, Bool.true_or, Bool.and_true] at e2
   simp_all [q3s]
  rw [hsp]
  clear hsp e1 e2 e3 e4 hb
  conv => whnf
  refine q0u (fun i : Nat => [(5, iS i)]) (fun _ => []) (fun i => i ≤ a.kids.length ∧ ∀ j, j < i → q8x (a.kids.getD j (U.dflt .goal)) (b.kids.getD j (U.dflt .goal)) = true) (fun i => a.kids.length - i) 0 ⟨Nat.zero_le _, fun j hj => absurd hj (Nat.not_lt_zero _)⟩ (by exact bkI) ?_
  rintro i ⟨hi, he⟩ K hK
  rcases Nat.lt_or_ge i a.kids.length with hlt | hge
  ·have hm : a.kids.getD (i : Int).toNat (Cd.dflt U.goal) ∈ a.kids := List.mem_of_getElem? (getD_some (d := Cd.dflt U.goal) hlt)
   have hm2 : b.kids.getD (i : Int).toNat (Cd.dflt U.goal) ∈ b.kids := List.mem_of_getElem? (getD_some (d := Cd.dflt U.goal) (by omega))
   have hx := h4 _ hm _ hm2
   clear h4
   cases hs : q8x (a.kids.getD (i : Int).toNat (Cd.dflt U.goal)) (b.kids.getD (i : Int).toNat (Cd.dflt U.goal)) with
   | true =>
    rw [hs] at hx
    have he' : ∀ j, j < i + 1 → q8x (a.kids.getD j (U.dflt .goal)) (b.kids.getD j (U.dflt .goal)) = true := fun j hj => by
     rcases Nat.lt_or_ge j i with h1 | h1
     ·exact he j h1
     ·obtain rfl : j = i := by omega
      exact hs
    (repeat' ((conv => whnf); first | refine x0C (eB ?_ rfl) | (exfalso; omega) | refine dpC (hx) ?_ | refine hK (i + 1) [some 0, some 1] _ _ ⟨⟨by omega, he'⟩⟩ ⟨by omega⟩ (by exact bkI) | refine spC (fun hb => ?_) fun hb => ?_ | refine taC ?_ | refine saC ?_ | refine q02 mixed ?_))
   | false =>
    rw [hs] at hx
    rw [z9k (d := U.dflt .goal) hlen hlt hs]
    (repeat' ((conv => whnf); first | refine x0C (eB ?_ rfl) | (exfalso; omega) | refine dpC (hx) ?_ | refine spC (fun hb => ?_) fun hb => ?_ | refine taC ?_ | refine saC ?_ | refine q02 mixed ?_))
    all_goals rfl
  ·rw [z4x (d := U.dflt .goal) hlen fun j hj => he j (by omega)]
   (repeat' ((conv => whnf); first | refine x0C (eB ?_ rfl) | (exfalso; omega) | refine spC (fun hb => ?_) fun hb => ?_))
   all_goals rfl
theorem qs0 (a b : q2c) (hG : q4d a.goal) (hH : q4d b.goal) : q07 Tryz.prog Dc 21 [qb4 a, qb4 b] [] (bS (qq0 a b)) [] := by
 have h := z4u _ a.goal b.goal (Nat.le_refl _) hG hH
 refine q00 Ax q03 Tryz.func21 (c := _) rfl Tryz.call21 300 ?_
 (repeat' ((conv => whnf); first | refine x0C (eB ?_ rfl) | refine cpC (h) ?_ | refine spC (fun hb => ?_) fun hb => ?_))
 all_goals clear h
 all_goals (first | (simp_all [qq0]; done) | (simp_all [qq0]; omega) | (simp_all [qq0]; grind))
theorem yf8 : q07 Tryz.prog Dc 35 [] [] (q0m qq3) [] := by
 refine q00 Ax q03 Tryz.func35 (c := _) rfl Tryz.call35 200 ?_
 (repeat' ((conv => whnf); first | (refine q08 [] (.inr rfl) ?_ ?_ rfl rfl; (focus exact vwV); exact hsV) | refine saC ?_))
theorem y34 (l : List Int) (hl : (l.length : Int) ≤ 1000000) : q07 Tryz.prog Dc 47 [lS l] [] (.slice 0 0 1 0 l.length) [.rows U.int l] := by
 refine q00 Ax q03 Tryz.func47 (c := _) rfl Tryz.call47 60 ?_
 (repeat' ((conv => whnf); first | (subst hb; (refine q08 [none] (.inr rfl) ?_ ?_ rfl rfl; (focus exact vwV); exact hsV)) | (refine q08 [some 1] (.inr rfl) ?_ ?_ rfl rfl; (focus exact vwV); exact hsV) | refine q52 (fun hb => ?_) ?_ | refine saC ?_))
theorem y4a (a b : Int) : a ≤ zk2 a b ∧ b ≤ zk2 a b ∧ (zk2 a b = a ∨ zk2 a b = b) := by unfold zk2; split <;> omega
mutual
theorem q7w : ∀ g : q06, 1 ≤ qj9 g
 | ⟨_, _, _, _, _, _, _, _, _, _, _, kids⟩ => by rw [qj9]; have := manyL_pos kids; omega
theorem manyL_pos : ∀ l : List q06, 0 ≤ manyL l
 | [] => by simp [manyL]
 | k :: l => by rw [manyL]; have := q7w k; have := manyL_pos l; omega
end
theorem qj1 : ∀ {l : List q06} {k : q06}, k ∈ l → qj9 k ≤ manyL l
 | [], k, h => by simp at h
 | x :: l, k, h => by
  rw [manyL]
  have h1 := manyL_pos l
  have h2 := q7w x
  rcases List.mem_cons.1 h with rfl | h
  ·omega
  ·have := qj1 h; omega
theorem z5i : ∀ {l : List q06} {k : q06}, k ∈ l → qe5 k ≤ deepL l
 | [], k, h => by simp at h
 | x :: l, k, h => by
  rw [deepL]
  have := y4a (qe5 x) (deepL l)
  rcases List.mem_cons.1 h with rfl | h
  ·omega
  ·have := z5i h; omega
end Go.SX
namespace Go.SX
open Go.ChangeShapes Go.WideShapes Go.RowKit Go.Deep
variable {C : Cod} {D : q09 C} {H : Type} {enc : TypeId × Value → H} {P : Program} {W : World} {r : Reach} {b0 : Nat} {t : TypeId} {v : Value} {d : DataW H} {ps : List MemPlace}
def En (W : World) : Env := ⟨Old W, fun _ => .fresh⟩
theorem y73 (ht : P.underlying t = some (.int .i64)) (ho : Value.okWide P W r b0 t v) (h : DataW.Trod enc P W 0 (fun _ => true) true t v d ps) : ∃ n, Den D W (En W) (.p (.int .i64 n)) v ∧ Z64 n := by
 obtain ⟨n, rfl, _, _, hw⟩ := open_int ht ho h
 exact ⟨n, by simp only [Den]; exact .int _ _, y35 hw⟩
theorem y1z {e : TypeId} {u : C.U} {Ok : C.El u → Prop} (R : z33 D enc P W e u Ok) (ht : P.underlying t = some (.slice e)) (ho : Value.okWide P W r b0 t v) (h : DataW.Trod enc P W 0 (fun _ => true) true t v d ps) :
  ∃ l : List (C.El u), Den D W (En W) (.p (.dsl u l)) v ∧ (∀ y ∈ l, Ok y) ∧ (l.length : Int) ≤ 9223372036854775807 := by
 obtain ⟨a, len, cap, rfl⟩ := okWide_slice ht ho
 obtain ⟨fuel, hf⟩ := h
 obtain ⟨v', l, hcs, hd, hok, hlen⟩ := z4k R ht hf
 have e : v' = .slice a len cap := by simpa [Value.cells] using hcs.symm
 subst e
 have hm : maxLen = 9223372036854775807 := rfl
 exact ⟨l, by simp only [Den]; exact hd, hok, by omega⟩
theorem z98 {w : World} {E : Env} : DenC D w E [] [] := by simp only [DenC]
theorem q7z {w : World} {E : Env} {x : SV C} {v : Value} {xs : List (SV C)} {vs : List Value} (hd : Den D w E x v) (h : DenA D w E xs vs) : DenA D w E (x :: xs) (v :: vs) := by
 simp only [DenA]; exact ⟨_, _, rfl, hd, h⟩
theorem y1d {w : World} {E : Env} : DenA D w E [] [] := by simp only [DenA]
end Go.SX
