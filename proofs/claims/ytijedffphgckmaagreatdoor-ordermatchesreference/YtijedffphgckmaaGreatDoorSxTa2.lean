/-
  Walks: Ta2, Ta3, Ta4, Ta5, Oq0, Oq1, V9, Ua0, Z: what single functions of the program compute.
-/
import Derived.Test.YtijedffphgckmaaGreatDoorSxV6
import Derived.Lib.ItoaNum
import Derived.Lib.AtoiAll
import Derived.Lib.Join
import Derived.ProofKit
import Derived.OpenShut
import Derived.ShutString
import Derived.ChangeOld
import Derived.Below
import Derived.Carry
import Derived.Deep.Slices
set_option linter.unusedVariables false
set_option linter.unusedSimpArgs false
namespace Go.SX
open Go.Proofs
set_option maxHeartbeats 400000000
set_option maxRecDepth 100000
theorem y3f {α : Type} (p : α → Bool) (l : List α) : (l.any fun x => !p x) = !l.all p := by
 induction l with
 | nil => rfl
 | cons a l ih => simp [ih]
theorem y4v (r : Int) : q07 Tryz.prog Dc 113 [iS r] [] (bS (!qp9 r)) [] := by
 have h := gin r 0 281474976710655
 refine q00 Ax q03 Tryz.func113 (c := _) rfl Tryz.call113 60 ?_
 (repeat' ((conv => whnf); first | refine cpC (h) ?_ | refine x0C (eB rfl rfl)))
theorem y2y (rows : List Int) (hl : (rows.length : Int) ≤ 9223372036854775807) : q07 Tryz.prog Dc 91 [z36 rows] [] (bS (q29 rows)) [] := by
 have h := y2u (f := 113) (.c0) rows hl fun x _ => y4v x
 rw [y3f] at h
 refine q00 Ax q03 Tryz.func91 (c := _) rfl Tryz.call91 100 ?_
 (repeat' ((conv => whnf); first | refine cpC (h) ?_ | refine x0C (eB ?_ rfl) | refine spC (fun hb => ?_) fun hb => ?_))
 all_goals (first | (simp_all [q29]; done) | (simp_all [q29]; omega) | (simp_all [q29]; grind))
theorem y7o (n : Int) : q07 Tryz.prog Dc 94 [iS n] [] (bS (!inB n 0 1000000000)) [] := by
 have h := oin n 0 1000000000
 refine q00 Ax q03 Tryz.func94 (c := _) rfl Tryz.call94 60 ?_
 (repeat' ((conv => whnf); first | refine cpC (h) ?_ | refine x0C (eB rfl rfl)))
@[reducible] def y4u (g : q06) : List (PV Cd) := [.int .i64 g.kind, .dsl U.int g.rows, .int .i64 g.from_, .int .i64 g.to_, .int .i64 g.low, .int .i64 g.high, .bool g.clear, .int .i64 g.days, .int .i64 g.times, .int .i64 g.within, .dsl U.int g.cents, .dsl U.goal g.kids]
theorem y6x (g k : q06) : q07 Tryz.prog Dc 95 [q0m k, .dptr (y4u g) 0] [] (bS (decide (q1m g.kind < k.kind))) [] := by
 have h := q5m g.kind
 refine q00 Ax q03 Tryz.func95 (c := _) rfl Tryz.call95 60 ?_
 (repeat' ((conv => whnf); first | refine dpC (h) ?_ | refine x0C (eB rfl rfl) | refine taC ?_ | refine q02 mixed ?_))
structure y5x (g : q06) : Prop where
 rows : (g.rows.length : Int) ≤ 9223372036854775807
 cents : (g.cents.length : Int) ≤ 9223372036854775807
 kids : (g.kids.length : Int) ≤ 9223372036854775807
theorem z7u (g : q06) (hg : y5x g) : q07 Tryz.prog Dc 69 [q0m g] [] (bS (q35 g)) [] := by
 obtain ⟨hl1, hl2, hl3⟩ := hg
 have h1 := y2u (f := 94) (.c0) g.cents hl2 fun x _ => y7o x
 have h2 := y4r (f := 95) (.c1 _) g.kids hl3 fun x _ => y6x g x
 have h3 := oin g.kids.length 2 4
 refine q00 Ax q03 Tryz.func69 (c := _) rfl Tryz.call69 400 ?_
 (repeat' ((conv => whnf); first | (exfalso; omega) | refine cpC (h1) ?_ | refine cpC (h3) ?_ | refine rdC (h2) ?_ | refine x0C (eB ?_ rfl) | refine spC (fun hb => ?_) fun hb => ?_))
 all_goals clear h1 h2 h3
 all_goals (first | (simp_all [q35, q6u, q48]; done) | (simp_all [q35, q6u, q48]; omega) | (simp_all [q35, q6u, q48]; grind))
theorem qa6 {rows : List Int} (h : q29 rows = true) : rows.length = 24 := by
 simp only [q29, Bool.and_eq_true, decide_eq_true_eq] at h
 omega
theorem y7s (n : Int) : 0 ≤ q7l .u64 (IntKind.u64.wrap n) 58 ∧ q7l .u64 (IntKind.u64.wrap n) 58 < 64 := by
 have h : 0 ≤ IntKind.u64.wrap n ∧ IntKind.u64.wrap n < 18446744073709551616 := by
  simp only [IntKind.wrap, IntKind.signed, IntKind.bits]
  simp
  omega
 generalize IntKind.u64.wrap n = m at *
 unfold q7l
 have e : (2 : Int) ^ (min (58 : Int).toNat IntKind.u64.bits) = 288230376151711744 := by decide
 rw [e, Int.fdiv_eq_ediv_of_nonneg _ (by omega)]
 omega
def tzL : List (PV Cd) := (U.glob 1).map y80
def tzI (n : Int) : Int := q7l .u64 (IntKind.u64.wrap (q1l .and .u64 n (IntKind.u64.wrap (0 - n)) * 285870213051353865)) 58
def tzN (n : Int) : Int := if n = 0 then 64 else z0t tzL (0 + (tzI n).toNat)
theorem qy1 (n : Int) : 0 ≤ tzN n ∧ tzN n ≤ 64 := by
 unfold tzN
 split
 ·omega
 ·have h : ∀ i : Fin 64, 0 ≤ z0t tzL i ∧ z0t tzL i ≤ 63 := by decide
  have h1 := y7s (q1l .and .u64 n (IntKind.u64.wrap (0 - n)) * 285870213051353865)
  have := h ⟨0 + (tzI n).toNat, by unfold tzI; omega⟩
  simp only at this
  omega
theorem ye7 (n : Int) : q07 Tryz.prog Dc 110 [.p (.int .u64 n)] [] (iS (tzN n)) [] := by
 have h1 := y7s (q1l .and .u64 n (IntKind.u64.wrap (0 - n)) * 285870213051353865)
 have h2 := qy1 n
 have h3 : n ≠ 0 → tzN n = z0t tzL (0 + (tzI n).toNat) := fun h => by unfold tzN; rw [if_neg h]
 have hr : ¬ n = 0 → InR .i64 (z0t tzL (0 + (tzI n).toNat)) := fun h => by rw [← h3 h]; exact inR_i64 (by omega) (by omega)
 have h4 : n = 0 → tzN n = 64 := fun h => by unfold tzN; rw [if_pos h]
 refine q00 Ax q03 Tryz.func110 (c := _) rfl Tryz.call110 60 ?_
 (repeat' ((conv => whnf); first | refine q0b ⟨hr (by assumption)⟩ ?_ | refine x0C (eI ?_ rfl) | refine spC (fun hb => ?_) fun hb => ?_ | refine saC ?_))
 ·exact (h4 (by assumption)).symm
 ·exact (h3 (by assumption)).symm
theorem tz (n : Int) : q07 Tryz.prog Dc 88 [.p (.int .u64 n)] [] (iS (tzN n)) [] := by
 have h := ye7 n
 have h2 := qy1 n
 refine q00 Ax q03 Tryz.func88 (c := _) rfl Tryz.call88 60 ?_
 (repeat' ((conv => whnf); first | refine cpC (h) ?_ | refine x0C (eI rfl rfl)))
def zk8 : Nat → Int → Int
 | 0, _ => 0
 | f + 1, r => if r = 0 then 0 else 1 + zk8 f (q1l .and .i64 r (r - 1))
def q4c (r : Int) : Int := zk8 r.toNat r
theorem z7x {r : Int} (h0 : 0 < r) (h1 : r ≤ 281474976710655) : 0 ≤ q1l .and .i64 r (r - 1) ∧ q1l .and .i64 r (r - 1) < r := by
 obtain ⟨m, rfl⟩ : ∃ m : Nat, r = m := ⟨r.toNat, by omega⟩
 have e : (BitVec.ofInt 64 (m : Int) &&& BitVec.ofInt 64 ((m : Int) - 1)).toNat = m &&& (m - 1) := by
  rw [BitVec.toNat_and]
  have a : (BitVec.ofInt 64 (m : Int)).toNat = m := by simp; omega
  have b : (BitVec.ofInt 64 ((m : Int) - 1)).toNat = m - 1 := by
   rw [show (m : Int) - 1 = ((m - 1 : Nat) : Int) by omega]
   simp; omega
  rw [a, b]
 have hle : m &&& (m - 1) ≤ m - 1 := Nat.and_le_right
 have hw : q1l .and .i64 (m : Int) ((m : Int) - 1) = ((m &&& (m - 1) : Nat) : Int) := by
  show IntKind.i64.wrap (((BitVec.ofInt 64 (m : Int) &&& BitVec.ofInt 64 ((m : Int) - 1)).toNat : Nat) : Int) = _
  rw [e]
  exact inR_i64 (by omega) (by omega)
 rw [hw]
 omega
theorem qy6 : ∀ (f f' : Nat) (r : Int), 0 ≤ r → r ≤ 281474976710655 → r.toNat ≤ f → r.toNat ≤ f' → zk8 f r = zk8 f' r
 | 0, 0, r, _, _, _, _ => rfl
 | 0, f' + 1, r, h0, h1, h2, h3 => by
  have : r = 0 := by omega
  subst this; simp [zk8]
 | f + 1, 0, r, h0, h1, h2, h3 => by
  have : r = 0 := by omega
  subst this; simp [zk8]
 | f + 1, f' + 1, r, h0, h1, h2, h3 => by
  simp only [zk8]
  split
  ·rfl
  ·have := z7x (r := r) (by omega) h1
   rw [qy6 f f' _ (by omega) (by omega) (by omega) (by omega)]
theorem z0g : q4c 0 = 0 := rfl
theorem qv7 {r : Int} (h0 : 0 < r) (h1 : r ≤ 281474976710655) : q4c r = 1 + q4c (q1l .and .i64 r (r - 1)) := by
 have := z7x h0 h1
 unfold q4c
 rw [show r.toNat = (r.toNat - 1) + 1 by omega]
 simp only [zk8]
 rw [if_neg (by omega), qy6 _ (q1l .and .i64 r (r - 1)).toNat _ (by omega) (by omega) (by omega) (by omega)]
theorem q81 : ∀ (f : Nat) (r : Int), 0 ≤ zk8 f r ∧ zk8 f r ≤ f
 | 0, r => by simp [zk8]
 | f + 1, r => by
  simp only [zk8]
  have := q81 f (q1l .and .i64 r (r - 1))
  split <;> omega
def qq7 (rows : List Int) : Int := rows.foldl (fun n r => n + q4c r) 0
theorem zx4 (l : List Int) (r : Int) : qq7 (l ++ [r]) = qq7 l + q4c r := by simp [qq7]
theorem z6s {rows : List Int} {i : Nat} {r : Int} (h : rows[i]? = some r) : qq7 (rows.take (i + 1)) = qq7 (rows.take i) + q4c r := by
 rw [List.take_add_one, h]; exact zx4 _ _
theorem qm0 {rows : List Int} (h : q29 rows = true) : ∀ i : Nat, i ≤ 24 → 0 ≤ qq7 (rows.take i) ∧ qq7 (rows.take i) ≤ i * 281474976710655
 | 0, _ => by simp [qq7]
 | i + 1, hi => by
  have ih := qm0 h i (by omega)
  have hlen := qa6 h
  have hg := getD_some (d := (0 : Int)) (show i < rows.length by omega)
  simp only [q29, Bool.and_eq_true] at h
  have hr := List.all_eq_true.1 h.2 _ (List.mem_of_getElem? hg)
  rw [z6s hg]
  generalize rows.getD (i : Int).toNat (0 : Int) = r at *
  have h2 := (q0f _ _ _).1 hr
  have h3 := q81 r.toNat r
  unfold q4c
  omega
theorem z87 (rows : List Int) (hl : (rows.length : Int) ≤ 9223372036854775807) : q07 Tryz.prog Dc 92 [z36 rows] [] (iS (if q29 rows then qq7 rows else 0)) [] := by
 have h := y2y rows hl
 cases ha : q29 rows with
 | false =>
  rw [ha] at h
  refine q00 Ax q03 Tryz.func92 (c := _) rfl Tryz.call92 200 ?_
  (repeat' ((conv => whnf); first | refine cpC (h) ?_ | refine x0C (eI rfl rfl)))
 | true =>
  rw [ha] at h
  have hlen := qa6 ha
  refine q00 Ax q03 Tryz.func92 (c := _) rfl Tryz.call92 200 ?_
  (repeat' ((conv => whnf); first | refine cpC (h) ?_ | (refine zm2 Ax q03 Tryz.func115 (c := _) rfl Tryz.call115 60 ?_) | (refine zb3 Ax q03 rfl Tryz.func135 (c := _) rfl Tryz.call135 rfl rfl 300 ?_)))
  intro gn tmps bd
  (repeat' ((conv => whnf); first | fail))
  refine q0u (fun i : Nat => [(9, iS i)]) (fun i => [(1, .var [iS (qq7 (rows.take i))])]) (fun i => i ≤ 24) (fun i => 24 - i) 0 (Nat.zero_le _) (by exact bkV) ?_
  intro i hi K hK
  rcases Nat.lt_or_ge i 24 with hlt | hge
  ·have hg := getD_some (d := Cd.dflt U.int) (show i < rows.length by omega)
   have h1 := z6s hg
   have h2 := qm0 ha (i + 1) (by omega)
   have h5 := qm0 ha i (by omega)
   have hr : qp9 (rows.getD (i : Int).toNat (Cd.dflt U.int)) = true := by
    have h' := ha
    simp only [q29, Bool.and_eq_true] at h'
    exact List.all_eq_true.1 h'.2 _ (List.mem_of_getElem? hg)
   have h3 := (q0f _ _ _).1 hr
   (repeat' ((conv => whnf); first | (exfalso; omega) | refine spC (fun hb => ?_) fun hb => ?_ | refine saC ?_))
   refine q0u (fun r : Int => [(4, iS r)]) (fun r => [(1, .var [iS (qq7 (rows.take (i + 1)) - q4c r)])]) (fun r => 0 ≤ r ∧ r ≤ 281474976710655 ∧ 0 ≤ qq7 (rows.take (i + 1)) - q4c r) (fun r => r.toNat) (rows.getD (i : Int).toNat (Cd.dflt U.int)) ⟨h3.1, h3.2, by rw [h1]; omega⟩ (by (rw [h1, Int.add_sub_cancel]; exact bkV)) ?_
   intro r hr K' hK'
   obtain ⟨hr1, hr2, hr4⟩ := hr
   have hz := tz (IntKind.u64.wrap r)
   have hz2 := qy1 (IntKind.u64.wrap r)
   by_cases hr0 : r = 0
   ·subst hr0
    rw [show qq7 (rows.take (i + 1)) - q4c 0 = qq7 (rows.take (i + 1)) by rw [z0g]; omega]
    (repeat' ((conv => whnf); first | refine hK (i + 1) [some 0, some 1, some 2, some 3] _ _ ⟨by omega⟩ ⟨by omega⟩ (by exact bkV) | refine saC ?_))
   ·have hs := qv7 (r := r) (by omega) hr2
    have hl := z7x (r := r) (by omega) hr2
    have h4 := (q81 (q1l .and .i64 r (r - 1)).toNat (q1l .and .i64 r (r - 1))).1
    change 0 ≤ q4c _ at h4
    rw [hs] at hr4 ⊢
    (repeat' ((conv => whnf); first | (exfalso; omega) | refine cpC (hz) ?_ | (refine z2o Ax q03 rfl rfl rfl 200 200 ?_) | refine spC (fun hb => ?_) fun hb => ?_ | refine saC ?_))
    conv => whnf
    refine hK' (q1l .and .i64 r (r - 1)) [some 0, some 1, some 2, some 3] _ _ ⟨by omega⟩ ⟨by omega⟩ (by (dsimp only; rw [show qq7 (rows.take (i + 1)) - q4c (q1l .and .i64 r (r - 1)) = qq7 (rows.take (i + 1)) - (1 + q4c (q1l .and .i64 r (r - 1))) + 1 by omega]; exact bkV))
  ·rw [show rows.take i = rows by exact List.take_of_length_le (by omega)]
   (repeat' ((conv => whnf); first | (exfalso; omega) | refine x0C (eI rfl rfl) | refine spC (fun hb => ?_) fun hb => ?_))
theorem zi4 {r : Int} (h : qp9 r = true) : 0 ≤ q4c r ∧ (0 < q4c r ↔ r ≠ 0) := by
 have h1 := (q0f _ _ _).1 h
 have h2 := (q81 r.toNat r).1
 change 0 ≤ q4c r at h2
 refine ⟨h2, ?_⟩
 by_cases h0 : r = 0
 ·subst h0; simp [z0g]
 ·have h3 := qv7 (r := r) (by omega) h1.2
  have h4 := (q81 (q1l .and .i64 r (r - 1)).toNat (q1l .and .i64 r (r - 1))).1
  change 0 ≤ q4c _ at h4
  omega
theorem zt6 (l : List Int) (r : Int) : qq7 (r :: l) = q4c r + qq7 l := by
 have key : ∀ (l : List Int) (a : Int), l.foldl (fun n r => n + q4c r) a = a + l.foldl (fun n r => n + q4c r) 0 := by
  intro l
  induction l with
  | nil => intro a; simp
  | cons x l ih => intro a; simp only [List.foldl_cons]; rw [ih, ih (0 + q4c x)]; omega
 unfold qq7
 rw [List.foldl_cons, key]; omega
theorem zb0 : ∀ (l : List Int), l.all qp9 = true → 0 ≤ qq7 l ∧ decide (0 < qq7 l) = l.any (fun r => decide (r ≠ 0))
 | [], _ => by simp [qq7]
 | r :: l, h => by
  simp only [List.all_cons, Bool.and_eq_true] at h
  obtain ⟨h1, h2⟩ := zb0 l h.2
  obtain ⟨h3, h4⟩ := zi4 h.1
  rw [zt6, List.any_cons, ← h2]
  refine ⟨by omega, ?_⟩
  rw [Bool.eq_iff_iff]
  simp only [Bool.or_eq_true, decide_eq_true_eq]
  omega
theorem y1e (rows : List Int) : (q29 rows && decide (0 < (if q29 rows then qq7 rows else 0))) = (q29 rows && rows.any (fun r => decide (r ≠ 0))) := by
 cases h : q29 rows with
 | false => rfl
 | true =>
  have h' := h
  simp only [q29, Bool.and_eq_true] at h'
  simp [(zb0 rows h'.2).2]
theorem z5a (g : q06) (hg : y5x g) : q07 Tryz.prog Dc 68 [q0m g] [] (bS (qp5 g)) [] := by
 have ha := y1e g.rows
 have h0 := y2y g.rows hg.rows
 have h1 := z87 g.rows hg.rows
 have h2 := oin g.from_ 0 1000000
 have h3 := oin g.to_ (g.from_ + 1) 1000000
 have h4 := oin g.low 0 90
 have h5 := oin g.high g.low 90
 have h6 := oin g.low 1 8
 have h7 := oin g.within 1 1000000
 have h8 := oin g.days 1 60
 have h9 := oin g.times 1 6
 have ha1 := oin g.within 0 (1440 * g.days)
 have ha2 := oin g.within 0 1000000
 have i1 := fun h => (q0f g.from_ 0 1000000).1 h
 have i2 := fun h => (q0f g.days 1 60).1 h
 unfold qp5
 generalize (if q29 g.rows then qq7 g.rows else 0) = n at *
 generalize q29 g.rows = ar at *
 generalize (g.rows.any fun r => decide (r ≠ 0)) = nz at *
 refine q00 Ax q03 Tryz.func68 (c := _) rfl Tryz.call68 300 ?_
 (repeat' ((conv => whnf); first | refine x0C (eB ?_ rfl) | (have := i1 (by assumption); refine saC ?_) | (have := i2 (by assumption); refine saC ?_) | refine cpC (h0) ?_ | refine cpC (h1) ?_ | refine cpC (h2) ?_ | refine cpC (h3) ?_ | refine cpC (h4) ?_ | refine cpC (h5) ?_ | refine cpC (h6) ?_ | refine cpC (h7) ?_ | refine cpC (h8) ?_ | refine cpC (h9) ?_ | refine cpC (ha1) ?_ | refine cpC (ha2) ?_ | refine spC (fun hb => ?_) fun hb => ?_))
 all_goals clear h0 h1 h2 h3 h4 h5 h6 h7 h8 h9 ha1 ha2
 all_goals (first | (simp_all []; done) | (simp_all []; omega) | (simp_all []; grind))
theorem z9v {g : q06} (h : okB g = true) : g.kids.length ≤ 4 := by
 simp only [okB, Bool.and_eq_true, q35, q6u] at h
 obtain ⟨_, ⟨⟨hm, _⟩, _⟩, _⟩ := h
 split at hm
 ·simp at hm; simp [hm]
 ·split at hm
  ·have := (q0f _ _ _).1 hm; omega
  ·simp at hm; omega
mutual
def q4d : q06 → Prop
 | ⟨kind, rows, from_, to_, low, high, clear, days, times, within, cents, kids⟩ => y5x ⟨kind, rows, from_, to_, low, high, clear, days, times, within, cents, kids⟩ ∧ GAllL kids
def GAllL : List q06 → Prop
 | [] => True
 | k :: l => q4d k ∧ GAllL l
end
theorem q1y (g : q06) : q4d g ↔ y5x g ∧ GAllL g.kids := by cases g; rw [q4d]
theorem q3p : ∀ {l : List q06} {k : q06}, GAllL l → k ∈ l → q4d k
 | x :: l, k, h, hk => by
  rw [GAllL] at h
  rcases List.mem_cons.1 hk with rfl | hk
  ·exact h.1
  ·exact q3p h.2 hk
theorem z13 : ∀ (l : List q06) (k : q06) (d : Int), sizeL (l ++ [k]) d = match sizeL l d with | none => none | some m => match q2j k d with | none => none | some n => some (m + n)
 | [], k, d => by
  simp only [List.nil_append, sizeL]
  cases q2j k d <;> simp
 | x :: l, k, d => by
  simp only [List.cons_append, sizeL, z13 l k d]
  cases q2j x d with
  | none => rfl
  | some a =>
   simp only
   cases sizeL l d with
   | none => rfl
   | some b =>
    simp only
    cases q2j k d with
    | none => rfl
    | some c => simp only [Option.some.injEq]; omega
theorem qf0 {B : Int} (hB : 0 ≤ B) : ∀ (l : List q06) (d : Int) (m : Int), (∀ k ∈ l, ∀ n, q2j k d = some n → 0 ≤ n ∧ n ≤ B) → sizeL l d = some m → 0 ≤ m ∧ m ≤ l.length * B
 | [], d, m, h, e => by simp [sizeL] at e; subst e; simp
 | k :: l, d, m, h, e => by
  rw [sizeL] at e
  cases hk : q2j k d with
  | none => simp [hk] at e
  | some a =>
   cases hl : sizeL l d with
   | none => simp [hk, hl] at e
   | some b =>
    simp [hk, hl] at e
    have h1 := h k (List.mem_cons_self ..) a hk
    have h2 := qf0 hB l d b (fun x hx => h x (List.mem_cons_of_mem _ hx)) hl
    have : (((k :: l).length : Nat) : Int) * B = l.length * B + B := by
     simp only [List.length_cons, Int.natCast_add, Int.add_mul]; simp
    omega
theorem qe8 : ∀ (j : Nat) (g : q06) (d n : Int), 4 ≤ d + j → q2j g d = some n → 1 ≤ n ∧ n ≤ 5 ^ j
 | j, g, d, n, hj, e => by
  rw [q3g] at e
  split at e
  ·cases e
  ·rename_i hc
   simp only [Bool.or_eq_true, decide_eq_true_eq, Bool.not_eq_true', not_or, Bool.not_eq_false] at hc
   cases hs : sizeL g.kids (d + 1) with
   | none => simp [hs] at e
   | some m =>
    simp [hs] at e
    have hk := z9v hc.2
    cases j with
    | zero =>
     have h0 : g.kids = [] := by
      cases hk : g.kids with
      | nil => rfl
      | cons k l =>
       have : sizeL g.kids (d + 1) = none := qi0 _ _ ⟨k, by simp [hk], by rw [q3g]; simp; omega⟩
       rw [this] at hs; cases hs
     rw [h0, sizeL] at hs
     injection hs with hs
     simp
     omega
    | succ j =>
     have hp : (0 : Int) ≤ 5 ^ j := Int.le_of_lt (Int.pow_pos (by omega))
     have := qf0 hp g.kids (d + 1) m (fun k _ n hn => by have := qe8 j k (d + 1) n (by omega) hn; omega) hs
     have h4 : (g.kids.length : Int) * 5 ^ j ≤ 4 * 5 ^ j := Int.mul_le_mul_of_nonneg_right (by omega) hp
     rw [Int.pow_succ]
     have h1 : (1 : Int) ≤ 5 ^ j := Int.pow_pos (by omega)
     omega
theorem z74 {g : q06} {d : Int} {i : Nat} {m : Int} (hd : 1 ≤ d) (hok : okB g = true) (h : sizeL (g.kids.take i) (d + 1) = some m) : 0 ≤ m ∧ m ≤ 1000 := by
 have hp := qf0 (B := 25) (by omega) (g.kids.take i) (d + 1) m (fun k _ n hn => by have := qe8 2 k (d + 1) n (by omega) hn; omega) h
 have hk := z9v hok
 have : (g.kids.take i).length ≤ 4 := by simp; omega
 omega
def y8g (o : Option Int) : SV Cd := .tuple [iS (match o with | none => 0 | some n => n), bS (match o with | none => false | some _ => true)]
theorem zh7 : ∀ (j : Nat) (g : q06) (d : Int), d + j = 5 → 1 ≤ d → q4d g → q07 Tryz.prog Dc 43 [q0m g, iS d] [] (y8g (q2j g d)) [] := by
 intro j
 induction j with
 | zero =>
  intro g d hj hd hG
  rw [show q2j g d = none by rw [q3g]; simp; omega]
  refine q00 Ax q03 Tryz.func43 (c := _) rfl Tryz.call43 400 ?_
  (repeat' ((conv => whnf); first | (exfalso; omega) | refine x0C ?_ | refine spC (fun hb => ?_) fun hb => ?_ | refine taC ?_ | refine q02 mixed ?_))
  all_goals exact vwV
 | succ j ih =>
  intro g d hj hd hG
  have hgl := ((q1y g).1 hG).1
  have hkl := hgl.kids
  have hkk := ((q1y g).1 hG).2
  have h1 := oin g.kind 1 6
  have h2 := ze5 g
  have h3 := z0c g (q77 g)
  have h4 := z5a g hgl
  have h5 := z7u g hgl
  rw [q3g, show decide (4 < d) = false by simp; omega, Bool.false_or]
  cases hok : okB g with
  | false =>
   simp only [Bool.not_false, if_true]
   unfold okB at hok
   generalize inB g.kind 1 6 = b1 at *
   generalize q3s g (q77 g) = b2 at *
   generalize qp5 g = b3 at *
   generalize q35 g = b4 at *
   refine q00 Ax q03 Tryz.func43 (c := _) rfl Tryz.call43 400 ?_
   (repeat' ((conv => whnf); first | (exfalso; omega) | (exfalso; simp_all; done) | refine dpC (h1) ?_ | refine dpC (h2) ?_ | refine dpC (h3) ?_ | refine dpC (h4) ?_ | refine dpC (h5) ?_ | refine x0C ?_ | refine spC (fun hb => ?_) fun hb => ?_ | refine taC ?_ | refine q02 mixed ?_))
   all_goals exact vwV
  | true =>
   simp only [Bool.not_true]
   have hok' := hok
   unfold okB at hok'
   simp only [Bool.and_eq_true] at hok'
   rw [hok'.1.1.1] at h1
   rw [hok'.1.1.2] at h3
   rw [hok'.1.2] at h4
   rw [hok'.2] at h5
   refine q00 Ax q03 Tryz.func43 (c := _) rfl Tryz.call43 400 ?_
   (repeat' ((conv => whnf); first | (exfalso; omega) | refine dpC (h1) ?_ | refine dpC (h2) ?_ | refine dpC (h3) ?_ | refine dpC (h4) ?_ | refine dpC (h5) ?_ | refine spC (fun hb => ?_) fun hb => ?_ | refine taC ?_ | refine q02 mixed ?_))
   clear h1 h2 h3 h4 h5 hok'
   refine q0u (fun q : Nat × Int => [(6, iS (1 + q.2)), (39, iS q.1)]) (fun _ => []) (fun q => q.1 ≤ g.kids.length ∧ sizeL (g.kids.take q.1) (d + 1) = some q.2) (fun q => g.kids.length - q.1) (0, 0) ⟨Nat.zero_le _, by simp [sizeL]⟩ (by exact bkV) ?_
   rintro ⟨i, m⟩ hi K hK
   obtain ⟨hi, hm⟩ := hi
   dsimp only at hi hm hK ⊢
   have hr := z74 hd hok hm
   rcases Nat.lt_or_ge i g.kids.length with hlt | hge
   ·have hg := getD_some (d := Cd.dflt U.goal) hlt
    have hx := ih _ (d + 1) (by omega) (by omega) (q3p hkk (List.mem_of_getElem? hg))
    have hsn := z13 (g.kids.take i) (g.kids.getD (i : Int).toNat (Cd.dflt U.goal)) (d + 1)
    cases hs : q2j (g.kids.getD (i : Int).toNat (Cd.dflt U.goal)) (d + 1) with
    | none =>
     rw [qi0 g.kids (d + 1) ⟨_, List.mem_of_getElem? hg, hs⟩]
     rw [hs] at hx
     (repeat' ((conv => whnf); first | (exfalso; omega) | refine cpC (hx) ?_ | refine x0C ?_ | refine spC (fun hb => ?_) fun hb => ?_ | refine saC ?_))
     all_goals exact vwV
    | some n =>
     rw [hs] at hx hsn
     rw [hm] at hsn
     dsimp only [y8g] at hx
     have hb := qe8 4 _ (d + 1) n (by omega) hs
     rw [show (5 : Int) ^ 4 = 625 by decide] at hb
     have ht : g.kids.take (i + 1) = g.kids.take i ++ [g.kids.getD (i : Int).toNat (Cd.dflt U.goal)] := by rw [List.take_add_one, hg]; rfl
     rw [← ht] at hsn
     (repeat' ((conv => whnf); first | (exfalso; omega) | refine cpC (hx) ?_ | refine hK (i + 1, m + n) [some 0] _ _ ⟨by dsimp only; omega, hsn⟩ ⟨by dsimp only; omega⟩ (by (dsimp only; rw [← Int.add_assoc]; exact bkV)) | refine spC (fun hb => ?_) fun hb => ?_ | refine saC ?_))
   ·rw [List.take_of_length_le hge] at hm
    rw [hm]
    (repeat' ((conv => whnf); first | (exfalso; omega) | refine x0C ?_ | refine spC (fun hb => ?_) fun hb => ?_))
    all_goals exact vwV
theorem q3o (g : q06) (hG : q4d g) : q07 Tryz.prog Dc 18 [q0m g] [] (bS (q2r g)) [] := by
 have h := zh7 4 g 1 (by omega) (by omega) hG
 unfold q2r
 cases hs : q2j g 1 with
 | none =>
  rw [hs] at h
  refine q00 Ax q03 Tryz.func18 (c := _) rfl Tryz.call18 100 ?_
  (repeat' ((conv => whnf); first | refine x0C (eB ?_ rfl) | refine cpC (h) ?_))
  all_goals rfl
 | some n =>
  rw [hs] at h
  refine q00 Ax q03 Tryz.func18 (c := _) rfl Tryz.call18 100 ?_
  (repeat' ((conv => whnf); first | refine x0C (eB ?_ rfl) | refine cpC (h) ?_))
  all_goals rfl
end Go.SX
namespace Go.SX
abbrev Wd := List UInt8
@[reducible] def q0w : Wd := [111, 114, 100, 101, 114]
@[reducible] def q6s : Wd := [98, 121]
@[reducible] def q2n : Wd := [102, 111, 114]
@[reducible] def q0x : Wd := [103, 114, 111, 117, 112]
@[reducible] def q36 : Wd := [110, 111, 110, 101]
@[reducible] def q23 : Wd := [112, 108, 97, 105, 110]
@[reducible] def q1j : Wd := [117, 114, 103, 101, 110, 116]
@[reducible] def q19 : Wd := [107, 110, 111, 119, 110]
@[reducible] def q2w : Wd := [100, 117, 101]
@[reducible] def q1a : Wd := [58]
@[reducible] def q3e : Wd := [115, 101, 101]
@[reducible] def q7o : Wd := [97, 116]
@[reducible] def q1q : Wd := [102, 114, 111, 109]
@[reducible] def qh5 : Wd := [116, 111]
@[reducible] def qf4 : Wd := [115, 117, 110]
@[reducible] def q64 : Wd := [99, 108, 101, 97, 114]
@[reducible] def q2p : Wd := [97, 110, 121]
@[reducible] def q28 : Wd := [112, 97, 105, 114]
@[reducible] def q3w : Wd := [108, 111, 111, 107, 115]
@[reducible] def q0z : Wd := [119, 105, 116, 104, 105, 110]
@[reducible] def q5t : Wd := [111, 102]
@[reducible] def q1k : Wd := [101, 118, 101, 114, 121]
@[reducible] def q5d : Wd := [100, 97, 121, 115]
@[reducible] def q3u : Wd := [116, 105, 109, 101, 115]
@[reducible] def q3v : Wd := [97, 112, 97, 114, 116]
@[reducible] def q0q : Wd := [100, 101, 108, 105, 118, 101, 114]
@[reducible] def q46 : Wd := [97, 108, 108]
@[reducible] def q2m : Wd := [40]
@[reducible] def q1d : Wd := [41]
@[reducible] def q0d : Wd := [44]
@[reducible] def q3z : Wd := [46]
def q5c : Nat → Nat → Wd
 | 0, _ => []
 | f + 1, u => if u < 10 then [UInt8.ofNat (48 + u)] else q5c f (u / 10) ++ [UInt8.ofNat (48 + u % 10)]
def q0a (n : Int) : Wd := if n < 0 then 45 :: q5c 20 n.natAbs else q5c 20 n.toNat
theorem qg7 : ∀ (f u : Nat), u < 10 ^ (f + 1) → q5c (f + 1) u = Go.Lib.decDigits u
 | 0, u, h => by
  rw [q5c, Go.Lib.decDigits, if_pos (by simpa using h), dif_pos (by simpa using h)]
 | f + 1, u, h => by
  rw [q5c, Go.Lib.decDigits]
  by_cases h10 : u < 10
  ·rw [if_pos h10, dif_pos h10]
  ·rw [if_neg h10, dif_neg h10, qg7 f (u / 10) (by rw [Nat.pow_succ] at h; omega)]
theorem y1c (n : Int) (h : -9223372036854775808 ≤ n ∧ n ≤ 9223372036854775807) : Go.Lib.itoa n = q0a n := by
 unfold Go.Lib.itoa q0a
 split
 ·rw [qg7 19 _ (by omega)]
 ·rw [qg7 19 _ (by omega)]
def zs3 (s : Wd) : Option Int := match Go.Lib.atoiAll s with
 | .ok n => if q0a n = s then some n else none
 | _ => none
def tzF : Nat → Nat → Nat
 | 0, _ => 0
 | f + 1, n => if n % 2 = 1 then 0 else 1 + tzF f (n / 2)
def toF : Nat → Nat → Nat
 | 0, _ => 0
 | f + 1, n => if n % 2 = 1 then 1 + toF f (n / 2) else 0
def z66 : Nat → Nat → List (Nat × Nat)
 | 0, _ => []
 | f + 1, n => if n = 0 then [] else
  (tzF 64 n, tzF 64 n + toF 64 (n / 2 ^ tzF 64 n) - 1) :: z66 f (n / 2 ^ (tzF 64 n + toF 64 (n / 2 ^ tzF 64 n)) * 2 ^ (tzF 64 n + toF 64 (n / 2 ^ tzF 64 n)))
def qj8 (y : Nat) (p : Nat × Nat) : List Wd := [q7o, q0a y, q0a p.1, q0a p.2]
def q44 : Nat → List Int → List Wd
 | _, [] => []
 | y, r :: l => (z66 r.toNat r.toNat).flatMap (qj8 y) ++ q44 (y + 1) l
def qw5 (g : q06) : List Wd := q3e :: q44 0 g.rows ++ [q1q, q0a g.from_, qh5, q0a g.to_, qf4, q0a g.low, qh5, q0a g.high, if g.clear then q64 else q2p]
def q5b (g : q06) : List Wd :=
 if g.kind = 2 then [q28, q3w, q0a g.low, q0z, q0a g.within, q5t]
 else if g.kind = 3 then [q1k, q0a g.days, q5d, q0a g.times, q3u, q3v, q0a g.within, q1q, q0a g.from_, q5t]
 else [q0q, q0z, q0a g.within, q5t]
mutual
def q0o : q06 → List Wd
 | ⟨kind, rows, from_, to_, low, high, clear, days, times, within, cents, kids⟩ =>
  if kind = 1 then qw5 ⟨kind, rows, from_, to_, low, high, clear, days, times, within, cents, kids⟩
  else if kind = 2 ∨ kind = 3 ∨ kind = 4 then q5b ⟨kind, rows, from_, to_, low, high, clear, days, times, within, cents, kids⟩ ++ firstW kids
  else [if kind = 5 then q46 else q2p, q2m] ++ kidsW (decide (kind = 6)) true cents kids ++ [q1d]
def firstW : List q06 → List Wd
 | [] => []
 | k :: _ => q0o k
def kidsW : Bool → Bool → List Int → List q06 → List Wd
 | _, _, _, [] => []
 | any, first, cents, k :: l => (if first then [] else [q0d]) ++ (if any then [q0a (cents.headD 0)] else []) ++ q0o k ++ kidsW any false cents.tail l
end
def q4k (o : q2c) : List Wd :=
 [q0w, q0a o.id, q6s, q0a o.owner, q2n, q0a o.price, q0x, if o.group < 0 then q36 else q0a o.group, if o.urgent then q1j else q23, q19, q0a o.known, q2w, q0a o.due, q1a] ++ q0o o.goal ++ [q3z]
def q6c (l : List Wd) : Wd := Go.Lib.join l [32]
def z73 (o : q2c) : Bool := inB o.id 0 63 && inB o.owner 0 15 && inB o.price 0 1000000000 && inB o.group (-1) 15 && inB o.known 0 1000000 && inB o.due (o.known + 1) 1000000 && q2r o.goal
def q4y (o : q2c) : Wd × Int := if z73 o then (q6c (q4k o), 0) else ([], 130)
def q1b : Wd → List Wd
 | [] => [[]]
 | c :: s => if c = 32 then [] :: q1b s else match q1b s with
  | [] => [[c]]
  | t :: l => (c :: t) :: l
def q0j (s : Wd) : List Wd := if s = [] then [] else q1b s
inductive Rs (α : Type) where
 | ok (x : α) (at_ room : Int)
 | no (at_ room : Int)
@[reducible] def Rs.bind {α β : Type} (x : Rs α) (k : α → Int → Int → Rs β) : Rs β := match x with
 | .ok x a m => k x a m
 | .no a m => .no a m
def q0y (ws : List Wd) (a : Int) : Wd := if a = ws.length then [32] else ws.getD a.toNat []
def q1t (ws : List Wd) : List Wd → Int → Int → Rs Unit
 | [], a, m => .ok () a m
 | s :: l, a, m => if q0y ws a = s then q1t ws l (a + 1) m else .no a m
def q76 (ws : List Wd) (lo hi a m : Int) : Rs Int := match zs3 (q0y ws a) with
 | some n => if lo ≤ n ∧ n ≤ hi then .ok n (a + 1) m else .no a m
 | none => .no a m
def qm1 (ws : List Wd) (s t : Wd) (a m : Int) : Rs Bool := if q0y ws a = s then .ok true (a + 1) m else if q0y ws a = t then .ok false (a + 1) m else .no a m
def q6f (x y : Int) : Int := (2 ^ (y - x + 1).toNat - 1) * 2 ^ x.toNat
def q7q (ws : List Wd) : Nat → Int → Int → List Int → Int → Int → Rs (List Int)
 | 0, _, _, _, a, m => .no a m
 | n + 1, y, free, rows, a, m =>
  if 48 ≤ free ∧ y = 23 then .ok rows a m else
  (q1t ws [q7o] a m).bind fun _ a m =>
  (q76 ws (if 48 ≤ free then y + 1 else y) 23 a m).bind fun row a m =>
  (q76 ws (if row > (if 48 ≤ free then y + 1 else y) ∨ 48 ≤ free then 0 else free) 47 a m).bind fun x a m =>
  (q76 ws x 47 a m).bind fun z a m =>
  if q0y ws a = q7o then q7q ws n row (z + 2) (rows.set row.toNat (q1l .or .i64 (rows.getD row.toNat 0) (q6f x z))) a m
  else .ok (rows.set row.toNat (q1l .or .i64 (rows.getD row.toNat 0) (q6f x z))) a m
def zk0 (ws : List Wd) (a m : Int) : Rs q06 :=
 (q7q ws 1200 0 0 (List.replicate 24 0) a m).bind fun rows a m =>
 (q1t ws [q1q] a m).bind fun _ a m => (q76 ws 0 999999 a m).bind fun f a m =>
 (q1t ws [qh5] a m).bind fun _ a m => (q76 ws (f + 1) 1000000 a m).bind fun t a m =>
 (q1t ws [qf4] a m).bind fun _ a m => (q76 ws 0 90 a m).bind fun lo a m =>
 (q1t ws [qh5] a m).bind fun _ a m => (q76 ws lo 90 a m).bind fun hi a m =>
 (qm1 ws q64 q2p a m).bind fun c a m => .ok ⟨1, rows, f, t, lo, hi, c, 0, 0, 0, [], []⟩ a m
def qq5 (ws : List Wd) (sub : Int → Int → Rs q06) (a m : Int) : Rs q06 :=
 (q1t ws [q3w] a m).bind fun _ a m => (q76 ws 1 8 a m).bind fun lo a m =>
 (q1t ws [q0z] a m).bind fun _ a m => (q76 ws 1 1000000 a m).bind fun wi a m =>
 (q1t ws [q5t] a m).bind fun _ a m => (sub a m).bind fun k a m => .ok ⟨2, [], 0, 0, lo, 0, false, 0, 0, wi, [], [k]⟩ a m
def q92 (ws : List Wd) (sub : Int → Int → Rs q06) (a m : Int) : Rs q06 :=
 (q76 ws 1 60 a m).bind fun d a m => (q1t ws [q5d] a m).bind fun _ a m => (q76 ws 1 6 a m).bind fun t a m =>
 (q1t ws [q3u, q3v] a m).bind fun _ a m => (q76 ws 0 (1440 * d) a m).bind fun wi a m =>
 (q1t ws [q1q] a m).bind fun _ a m => (q76 ws 0 1000000 a m).bind fun f a m =>
 (q1t ws [q5t] a m).bind fun _ a m => (sub a m).bind fun k a m => .ok ⟨3, [], f, 0, 0, 0, false, d, t, wi, [], [k]⟩ a m
def zk1 (ws : List Wd) (sub : Int → Int → Rs q06) (a m : Int) : Rs q06 :=
 (q1t ws [q0z] a m).bind fun _ a m => (q76 ws 0 1000000 a m).bind fun wi a m =>
 (q1t ws [q5t] a m).bind fun _ a m => (sub a m).bind fun k a m => .ok ⟨4, [], 0, 0, 0, 0, false, 0, 0, wi, [], [k]⟩ a m
def q4f (ws : List Wd) (sub : Int → Int → Rs q06) (k : Int) : Nat → List Int → List q06 → Int → Int → Rs q06
 | 0, _, _, a, m => .no a m
 | n + 1, cents, kids, a, m =>
  (if k = 6 then (q76 ws 0 1000000000 a m).bind fun c a m => .ok (cents ++ [c]) a m else .ok cents a m).bind fun cents a m =>
  (sub a m).bind fun g a m =>
  if 1 < kids.length + 1 then
   if q0y ws a = q1d then .ok ⟨k, [], 0, 0, 0, 0, false, 0, 0, 0, cents, kids ++ [g]⟩ (a + 1) m
   else if kids.length + 1 = 4 ∨ m = 0 then .no a m
   else (q1t ws [q0d] a (m - 1)).bind fun _ a m => q4f ws sub k n cents (kids ++ [g]) a m
  else (q1t ws [q0d] a m).bind fun _ a m => q4f ws sub k n cents (kids ++ [g]) a m
def q95 (ws : List Wd) (sub : Int → Int → Rs q06) (k : Int) (a m : Int) : Rs q06 :=
 (q1t ws [q2m] a m).bind fun _ a m => q4f ws sub k 5 [] [] a m
def qp8 (w : Wd) : Option (Int × Int) :=
 if w = q3e then some (1, 0) else if w = q28 then some (2, 1) else if w = q1k then some (3, 1) else if w = q0q then some (4, 1) else if w = q46 then some (5, 2) else if w = q2p then some (6, 2) else none
def q50 (ws : List Wd) : Nat → Int → Int → Int → Int → Rs q06
 | 0, _, _, a, m => .no a m
 | f + 1, of_, deep, a, m => match qp8 (q0y ws a) with
  | none => .no a m
  | some (k, needs) => if q1m of_ < k ∨ m < needs ∨ (0 < needs ∧ deep = 4) then .no a m else
   if k = 1 then zk0 ws (a + 1) (m - needs)
   else if k = 2 then qq5 ws (q50 ws f 2 (deep + 1)) (a + 1) (m - needs)
   else if k = 3 then q92 ws (q50 ws f 3 (deep + 1)) (a + 1) (m - needs)
   else if k = 4 then zk1 ws (q50 ws f 4 (deep + 1)) (a + 1) (m - needs)
   else q95 ws (q50 ws f k (deep + 1)) k (a + 1) (m - needs)
def q91 (ws : List Wd) (a m : Int) : Rs Int := if q0y ws a = q36 then .ok (-1) (a + 1) m else q76 ws 0 15 a m
def q9h (ws : List Wd) (a m : Int) : Rs q2c :=
 (q1t ws [q0w] a m).bind fun _ a m => (q76 ws 0 63 a m).bind fun id a m =>
 (q1t ws [q6s] a m).bind fun _ a m => (q76 ws 0 15 a m).bind fun owner a m =>
 (q1t ws [q2n] a m).bind fun _ a m => (q76 ws 0 1000000000 a m).bind fun price a m =>
 (q1t ws [q0x] a m).bind fun _ a m => (q91 ws a m).bind fun group a m =>
 (qm1 ws q1j q23 a m).bind fun urgent a m =>
 (q1t ws [q19] a m).bind fun _ a m => (q76 ws 0 999999 a m).bind fun known a m =>
 (q1t ws [q2w] a m).bind fun _ a m => (q76 ws (known + 1) 1000000 a m).bind fun due a m =>
 (q1t ws [q1a] a m).bind fun _ a m => (q50 ws 4 5 1 a m).bind fun goal a m =>
 (q1t ws [q3z] a m).bind fun _ a m => if a < ws.length then .no a m else .ok ⟨id, owner, goal, price, group, urgent, known, due⟩ a m
def q70 : q2c := U.dflt .order
def q39 (s : Wd) : q2c × Int × Int := if 20000 < s.length then (q70, 0, 130) else match q9h (q0j s) 0 11 with
 | .ok o a _ => (o, a, 0)
 | .no a _ => (q70, a, 130)
structure BdR (ws : List Wd) (a m a' m' : Int) : Prop where
 at1 : a ≤ a'
 at2 : a' ≤ ws.length
 r1 : 0 ≤ m'
 r2 : m' ≤ m
def Rs.Bd {α : Type} (ws : List Wd) (a m : Int) : Rs α → Prop
 | .ok _ a' m' => BdR ws a m a' m'
 | .no a' m' => BdR ws a m a' m'
structure InW (ws : List Wd) (a m : Int) : Prop where
 a0 : 0 ≤ a
 a1 : a ≤ ws.length
 m0 : 0 ≤ m
 m1 : m ≤ 1000
theorem InW.step {ws : List Wd} {a m a' m' : Int} (h : InW ws a m) (hb : BdR ws a m a' m') : InW ws a' m' := ⟨by have := hb.at1; have := h.a0; omega, hb.at2, hb.r1, Int.le_trans hb.r2 h.m1⟩
theorem q0k {α β : Type} {ws : List Wd} {a m : Int} {x : Rs α} {k : α → Int → Int → Rs β} (h : InW ws a m) (hx : x.Bd ws a m) (hk : ∀ y a' m', x = .ok y a' m' → InW ws a' m' → (k y a' m').Bd ws a' m') : (x.bind k).Bd ws a m := by
 cases x with
 | no a' m' => exact hx
 | ok y a' m' =>
  have hi := h.step hx
  have h2 := hk y a' m' rfl hi
  show (k y a' m').Bd ws a m
  cases hz : k y a' m' with
  | ok z a2 m2 => rw [hz] at h2; exact ⟨Int.le_trans hx.at1 h2.at1, h2.at2, h2.r1, Int.le_trans h2.r2 hx.r2⟩
  | no a2 m2 => rw [hz] at h2; exact ⟨Int.le_trans hx.at1 h2.at1, h2.at2, h2.r1, Int.le_trans h2.r2 hx.r2⟩
theorem InW.refl {ws : List Wd} {a m : Int} (h : InW ws a m) : BdR ws a m a m := ⟨Int.le_refl _, h.a1, h.m0, Int.le_refl _⟩
theorem q3l {ws : List Wd} {a m : Int} (h : InW ws a m) {s : Wd} (e : q0y ws a = s) (hs : s ≠ [32]) : a < ws.length := by
 have := h.a1
 rcases Int.lt_or_eq_of_le this with h1 | h1
 ·exact h1
 ·unfold q0y at e; rw [if_pos h1] at e; exact absurd e.symm hs
theorem q1n {ws : List Wd} : ∀ (l : List Wd) {a m : Int}, InW ws a m → (∀ s ∈ l, s ≠ [32]) → (q1t ws l a m).Bd ws a m
 | [], a, m, h, _ => h.refl
 | s :: l, a, m, h, hl => by
  unfold q1t
  split
  ·rename_i e
   have h1 := q3l h e (hl s (List.mem_cons_self ..))
   have h2 : InW ws (a + 1) m := ⟨by have := h.a0; omega, by omega, h.m0, h.m1⟩
   have h3 := q1n l h2 fun x hx => hl x (List.mem_cons_of_mem _ hx)
   cases hz : q1t ws l (a + 1) m with
   | ok z a2 m2 => rw [hz] at h3; exact ⟨by have := h3.at1; omega, h3.at2, h3.r1, h3.r2⟩
   | no a2 m2 => rw [hz] at h3; exact ⟨by have := h3.at1; omega, h3.at2, h3.r1, h3.r2⟩
  ·exact h.refl
theorem z7p {ws : List Wd} {lo hi a m n a' m' : Int} (h : InW ws a m) (e : q76 ws lo hi a m = .ok n a' m') : lo ≤ n ∧ n ≤ hi ∧ a' = a + 1 ∧ m' = m ∧ a < ws.length := by
 unfold q76 at e
 split at e
 ·rename_i k hk
  split at e
  ·rename_i hb
   injection e with e1 e2 e3
   subst e1 e2 e3
   refine ⟨hb.1, hb.2, rfl, rfl, ?_⟩
   rcases Int.lt_or_eq_of_le h.a1 with h1 | h1
   ·exact h1
   ·unfold q0y at hk
    rw [if_pos h1] at hk
    have : zs3 [32] = none := by decide
    rw [this] at hk; cases hk
  ·cases e
 ·cases e
theorem q2u {ws : List Wd} {lo hi a m : Int} (h : InW ws a m) : (q76 ws lo hi a m).Bd ws a m := by
 cases e : q76 ws lo hi a m with
 | ok n a' m' =>
  obtain ⟨_, _, rfl, rfl, h1⟩ := z7p h e
  exact ⟨by omega, by omega, h.m0, Int.le_refl _⟩
 | no a' m' =>
  unfold q76 at e
  split at e
  ·split at e
   ·cases e
   ·injection e with e1 e2; subst e1 e2; exact h.refl
  ·injection e with e1 e2; subst e1 e2; exact h.refl
end Go.SX
namespace Go.SX
theorem q2g {α : Type} {d : α} {l : List α} {i : Nat} (h : i < l.length) : l.take (i + 1) = l.take i ++ [l.getD i d] := by
 rw [List.take_add_one, List.getElem?_eq_getElem h, List.getD_eq_getElem?_getD, List.getElem?_eq_getElem h]; rfl
theorem q99 {α : Type} {d : α} {l : List α} {i : Nat} (h : i < l.length) : l.drop i = l.getD i d :: l.drop (i + 1) := by
 rw [List.drop_eq_getElem_cons h, List.getD_eq_getElem?_getD, List.getElem?_eq_getElem h]; rfl
mutual
def q8x : q06 → q06 → Bool
 | ⟨kind, rows, from_, to_, low, high, clear, days, times, within, cents, kids⟩, b =>
  q3s ⟨kind, rows, from_, to_, low, high, clear, days, times, within, cents, kids⟩ b && decide (rows = b.rows) && decide (cents = b.cents) && sameL kids b.kids
def sameL : List q06 → List q06 → Bool
 | [], [] => true
 | a :: l, b :: m => q8x a b && sameL l m
 | _, _ => false
end
theorem q8l (a b : q06) : q8x a b = (q3s a b && decide (a.rows = b.rows) && decide (a.cents = b.cents) && sameL a.kids b.kids) := by cases a; rw [q8x]
theorem qm6 {a b : q06} : q3s a b = true ↔ a.kind = b.kind ∧ a.from_ = b.from_ ∧ a.to_ = b.to_ ∧ a.low = b.low ∧ a.high = b.high ∧ a.clear = b.clear ∧ a.days = b.days ∧ a.times = b.times ∧ a.within = b.within := by
 simp [q3s, and_assoc]
mutual
theorem q6w : ∀ a b : q06, q8x a b = true ↔ a = b
 | ⟨kind, rows, from_, to_, low, high, clear, days, times, within, cents, kids⟩, b => by
  rw [q8x]
  simp only [Bool.and_eq_true, decide_eq_true_eq, qm6, sameL_iff kids b.kids]
  cases b
  simp only [q06.mk.injEq]
  constructor
  ·rintro ⟨⟨⟨⟨h1, h2, h3, h4, h5, h6, h7, h8, h9⟩, h10⟩, h11⟩, h12⟩; exact ⟨h1, h10, h2, h3, h4, h5, h6, h7, h8, h9, h11, h12⟩
  ·rintro ⟨h1, h10, h2, h3, h4, h5, h6, h7, h8, h9, h11, h12⟩; exact ⟨⟨⟨⟨h1, h2, h3, h4, h5, h6, h7, h8, h9⟩, h10⟩, h11⟩, h12⟩
theorem sameL_iff : ∀ l m : List q06, sameL l m = true ↔ l = m
 | [], [] => by simp [sameL]
 | [], b :: m => by simp [sameL]
 | a :: l, [] => by simp [sameL]
 | a :: l, b :: m => by rw [sameL]; simp only [Bool.and_eq_true, q6w a b, sameL_iff l m, List.cons.injEq]
end
theorem z5o {l m : List q06} (h : l.length ≠ m.length) : sameL l m = false := by
 cases hs : sameL l m with
 | false => rfl
 | true => exact absurd (by rw [(sameL_iff l m).1 hs]) h
theorem z9k {l m : List q06} {i : Nat} {d : q06} (h : l.length = m.length) (hi : i < l.length) (hn : q8x (l.getD i d) (m.getD i d) = false) : sameL l m = false := by
 cases hs : sameL l m with
 | false => rfl
 | true =>
  rw [(sameL_iff l m).1 hs] at hn
  rw [(q6w _ _).2 rfl] at hn
  cases hn
theorem z4x {l m : List q06} {d : q06} (h : l.length = m.length) (ha : ∀ i, i < l.length → q8x (l.getD i d) (m.getD i d) = true) : sameL l m = true := by
 rw [sameL_iff]
 refine List.ext_getElem h fun i h1 h2 => ?_
 have := (q6w _ _).1 (ha i h1)
 rw [List.getD_eq_getElem?_getD, List.getD_eq_getElem?_getD, List.getElem?_eq_getElem h1, List.getElem?_eq_getElem h2] at this
 exact this
def qq0 (a b : q2c) : Bool := decide (a.id = b.id) && decide (a.owner = b.owner) && decide (a.price = b.price) && decide (a.group = b.group) && (a.urgent == b.urgent) && decide (a.known = b.known) && decide (a.due = b.due) && q8x a.goal b.goal
theorem qu7 (a b : q2c) : qq0 a b = true ↔ a = b := by
 unfold qq0
 simp only [Bool.and_eq_true, decide_eq_true_eq, q6w, beq_iff_eq]
 cases a; cases b
 simp only [q2c.mk.injEq]
 constructor
 ·rintro ⟨⟨⟨⟨⟨⟨⟨h1, h2⟩, h3⟩, h4⟩, h5⟩, h6⟩, h7⟩, h8⟩; exact ⟨h1, h2, h8, h3, h4, h5, h6, h7⟩
 ·rintro ⟨h1, h2, h8, h3, h4, h5, h6, h7⟩; exact ⟨⟨⟨⟨⟨⟨⟨h1, h2⟩, h3⟩, h4⟩, h5⟩, h6⟩, h7⟩, h8⟩
end Go.SX
namespace Go.SX
variable {C : Cod}
section
variable {Hp : List (HS C)} {θ : List (Option Nat)} {T T' : List (SV C)} {Hp' : List (HS C)} {m0 : Nat} {ret : SV C}
theorem y8y {k : IntKind} {a b : Int} (h : a = b := by omega) : q8z Hp θ (.p (.int k a)) (.p (.int k b)) := by subst h; rfl
theorem y6l {u : C.U} {xs ys : List (C.El u)} (h : xs = ys) : qu3 Hp θ (.rows u xs) (.rows u ys) := by subst h; rfl
theorem slV {c o n off len len' d off' : Nat} (h : len = len') (h2 : off = off') (h1 : q8z Hp θ (.slice d o n off' len') (.slice c o n off' len')) : q8z Hp θ (.slice d o n off len) (.slice c o n off' len') := by subst h; subst h2; exact h1
theorem bkI {m0 : Nat} (h1 : ViewL Hp θ T T' := by first | ((repeat' (first | exact trivial | exact rfl | refine And.intro ?_ ?_ | exact y8y | exact fzV | exact fvV)); done) | fail) (h2 : q55 Hp θ θ Hp' := by
    first | ((repeat' (first | exact trivial | exact rfl | refine And.intro ?_ ?_ | exact ⟨_, rfl⟩ | exact y8y | (refine y6l ?_; assumption) | (refine y6l ?_; (apply Eq.symm); assumption) | exact fzV | exact fvV)); done) | fail) (h3 : idO m0 0 θ = true := by rfl) (h4 : ndO θ = true := by rfl) : zy2 m0 θ T Hp T' Hp' := ⟨h1, h2, h3, h4⟩
end
end Go.SX
namespace Go.SX
variable {C : Cod}
theorem q57 {D : q09 C} {m0 : Nat} {R : q61 C} {body : Code} {k : List (It C)} {T : List (SV C)} {Hp : List (HS C)} {γ : Type} (θ0 : List (Option Nat)) (I : γ → List (Nat × SV C)) (U : γ → List (Nat × HS C)) (good : γ → Prop) (μ : γ → Nat) (g0 : γ) (h0 : good g0) (hent : zy2 m0 θ0 T Hp (z0k body T (I g0)) (q47 Hp (U g0)))
  (hround : ∀ g, good g → ∀ K : List (SV C) → List (HS C) → Prop, (∀ g' θ T' Hp', zk7 (good g') → zk7 (μ g' < μ g) → zy2 m0 θ T' Hp' (z0k body T (I g')) (q47 Hp (U g')) → K T' Hp') →
   q3c (z0k body T (I g)) fun T1 => q49 Hp (U g) fun Hp1 => R (.code body :: .endLoop K :: k) T1 Hp1) : y00 D m0 R body k T Hp := by
 refine qr2 I (fun g => q47 Hp (U g)) good μ g0 h0 θ0 hent fun g hg K hK => ?_
 have := hround g hg K hK
 rw [q1f, q30] at this
 rw [q1f, q1g]
 exact this
end Go.SX
namespace Go.SX
open Go.Proofs
set_option maxHeartbeats 400000000
set_option maxRecDepth 100000
@[reducible] def qb4 (o : q2c) : SV Cd := .agg [iS o.id, iS o.owner, iS o.goal.kind, lS o.goal.rows, iS o.goal.from_, iS o.goal.to_, iS o.goal.low, iS o.goal.high, bS o.goal.clear, iS o.goal.days, iS o.goal.times, iS o.goal.within, lS o.goal.cents, .p (.dsl U.goal o.goal.kids), iS o.price, iS o.group, bS o.urgent, iS o.known, iS o.due]
theorem z1f (o : q2c) (hG : q4d o.goal) : q07 Tryz.prog Dc 16 [qb4 o] [] (bS (z73 o)) [] := by
 have h := oin
 have h1 := q3o o.goal hG
 refine q00 Ax q03 Tryz.func16 (c := _) rfl Tryz.call16 200 ?_
 (repeat' ((conv => whnf); first | refine x0C (eB ?_ rfl) | refine cpC (h _ _ _) ?_ | refine cpC (h1) ?_ | refine spC (fun hb => ?_) fun hb => ?_ | refine q0b ?_ ?_))
 all_goals clear h h1
 all_goals first | (refine ⟨?_⟩; simp only [q0f] at *; exact inR_i64 (by omega) (by omega)) | (simp_all [z73]; done)
theorem y33 (a b : List Int) (ha : (a.length : Int) ≤ 9223372036854775807) : q07 Tryz.prog Dc 71 [lS a, lS b] [] (bS (decide (a = b))) [] := by
 by_cases hlen : a.length = b.length
 rotate_left
 ·rw [decide_eq_false (fun e => hlen (by rw [e]))]
  refine q00 Ax q03 Tryz.func71 (c := _) rfl Tryz.call71 100 ?_
  (repeat' ((conv => whnf); first | refine x0C (eB ?_ rfl) | (exfalso; omega) | refine spC (fun hb => ?_) fun hb => ?_))
  all_goals rfl
 ·refine q00 Ax q03 Tryz.func71 (c := _) rfl Tryz.call71 100 ?_
  (repeat' ((conv => whnf); first | (exfalso; omega) | refine spC (fun hb => ?_) fun hb => ?_))
  refine q0u (fun i : Nat => [(13, iS i)]) (fun _ => []) (fun i => i ≤ a.length ∧ a.take i = b.take i) (fun i => a.length - i) 0 ⟨Nat.zero_le _, by simp⟩ (by exact bkI) ?_
  rintro i ⟨hi, he⟩ K hK
  rcases Nat.lt_or_ge i a.length with hlt | hge
  ·have t1 := q2g (d := Cd.dflt U.int) hlt
   have t2 := q2g (d := Cd.dflt U.int) (show i < b.length by omega)
   have hs : a.getD (i : Int).toNat (Cd.dflt U.int) = b.getD (i : Int).toNat (Cd.dflt U.int) → a.take (i + 1) = b.take (i + 1) := fun h => by
    rw [t1, t2, he, show a.getD i (Cd.dflt U.int) = b.getD i (Cd.dflt U.int) from h]
   have hn : ¬ a.getD (i : Int).toNat (Cd.dflt U.int) = b.getD (i : Int).toNat (Cd.dflt U.int) → decide (a = b) = false := fun h => decide_eq_false fun e => h (by rw [e])
   (repeat' ((conv => whnf); first | refine x0C (eB ?_ rfl) | (exfalso; omega) | refine hK (i + 1) [] _ _ ⟨⟨by omega, hs (by assumption)⟩⟩ ⟨by omega⟩ (by exact bkI) | refine spC (fun hb => ?_) fun hb => ?_ | refine taC ?_ | refine saC ?_ | refine q02 mixed ?_))
   all_goals exact (hn (by assumption)).symm
  ·rw [List.take_of_length_le hge, List.take_of_length_le (by omega)] at he
   rw [decide_eq_true he]
   (repeat' ((conv => whnf); first | refine x0C (eB ?_ rfl) | (exfalso; omega) | refine spC (fun hb => ?_) fun hb => ?_))
   all_goals rfl
theorem y59 (a b : List q06) (ha : (a.length : Int) ≤ 9223372036854775807) (h : ∀ x ∈ a, ∀ y, q07 Tryz.prog Dc 45 [q0m x, q0m y] [] (bS (q8x x y)) []) :
  q07 Tryz.prog Dc 72 [.p (.dsl U.goal a), .p (.dsl U.goal b), .fn (.func 45) [] []] [] (bS (sameL a b)) [] := by
 by_cases hlen : a.length = b.length
 rotate_left
 ·rw [z5o hlen]
  refine q00 Ax q03 Tryz.func72 (c := _) rfl Tryz.call72 100 ?_
  (repeat' ((conv => whnf); first | refine x0C (eB ?_ rfl) | (exfalso; omega) | refine spC (fun hb => ?_) fun hb => ?_))
  all_goals rfl
 ·refine q00 Ax q03 Tryz.func72 (c := _) rfl Tryz.call72 100 ?_
  (repeat' ((conv => whnf); first | (exfalso; omega) | refine spC (fun hb => ?_) fun hb => ?_))
  refine q0u (fun i : Nat => [(17, iS i)]) (fun _ => []) (fun i => i ≤ a.length ∧ ∀ j, j < i → q8x (a.getD j (U.dflt .goal)) (b.getD j (U.dflt .goal)) = true) (fun i => a.length - i) 0 ⟨Nat.zero_le _, fun j hj => absurd hj (Nat.not_lt_zero _)⟩ (by exact bkI) ?_
  rintro i ⟨hi, he⟩ K hK
  rcases Nat.lt_or_ge i a.length with hlt | hge
  ·have hm : a.getD (i : Int).toNat (Cd.dflt U.goal) ∈ a := List.mem_of_getElem? (getD_some (d := Cd.dflt U.goal) hlt)
   have hx := h _ hm (b.getD (i : Int).toNat (Cd.dflt U.goal))
   cases hs : q8x (a.getD (i : Int).toNat (Cd.dflt U.goal)) (b.getD (i : Int).toNat (Cd.dflt U.goal)) with
   | true =>
    rw [hs] at hx
    have he' : ∀ j, j < i + 1 → q8x (a.getD j (U.dflt .goal)) (b.getD j (U.dflt .goal)) = true := fun j hj => by
     rcases Nat.lt_or_ge j i with h1 | h1
     ·exact he j h1
     ·obtain rfl : j = i := by omega
      exact hs
    (repeat' ((conv => whnf); first | refine x0C (eB ?_ rfl) | (exfalso; omega) | refine cpC (hx) ?_ | refine hK (i + 1) [] _ _ ⟨⟨by omega, he'⟩⟩ ⟨by omega⟩ (by exact bkI) | refine spC (fun hb => ?_) fun hb => ?_ | refine saC ?_))
   | false =>
    rw [hs] at hx
    rw [z9k (d := U.dflt .goal) hlen hlt hs]
    (repeat' ((conv => whnf); first | refine x0C (eB ?_ rfl) | (exfalso; omega) | refine cpC (hx) ?_ | refine spC (fun hb => ?_) fun hb => ?_ | refine saC ?_))
    all_goals rfl
  ·rw [z4x (d := U.dflt .goal) hlen fun j hj => he j (by omega)]
   (repeat' ((conv => whnf); first | refine x0C (eB ?_ rfl) | (exfalso; omega) | refine spC (fun hb => ?_) fun hb => ?_))
   all_goals rfl
theorem z1g : ∀ (n : Nat) (a b : q06), SizeOf.sizeOf a ≤ n → q4d a → q07 Tryz.prog Dc 45 [q0m a, q0m b] [] (bS (q8x a b)) []
 | 0, a, b, hn, _ => by cases a; simp at hn
 | n + 1, a, b, hn, hG => by
  have hG' := (q1y a).1 hG
  have hk : ∀ x ∈ a.kids, SizeOf.sizeOf x ≤ n := fun x hx => by
   have h1 := List.sizeOf_lt_of_mem hx
   have h2 : SizeOf.sizeOf a.kids < SizeOf.sizeOf a := by cases a; simp; omega
   omega
  have h1 := z0c a b
  have h2 := y33 a.rows b.rows hG'.1.rows
  have h3 := y33 a.cents b.cents hG'.1.cents
  have h4 := y59 a.kids b.kids hG'.1.kids fun x hx y => z1g n x y (hk x hx) (q3p hG'.2 hx)
  rw [q8l]
  refine q00 Ax q03 Tryz.func45 (c := _) rfl Tryz.call45 200 ?_
  (repeat' ((conv => whnf); first | refine x0C (eB ?_ rfl) | refine cpC (h1) ?_ | refine cpC (h2) ?_ | refine cpC (h3) ?_ | refine cpC (h4) ?_ | refine spC (fun hb => ?_) fun hb => ?_))
  all_goals clear h1 h2 h3 h4
  all_goals (first | (simp_all []; done) | (simp_all []; omega) | (simp_all []; grind))
theorem zo9 (a b : q2c) (hG : q4d a.goal) : q07 Tryz.prog Dc 20 [qb4 a, qb4 b] [] (bS (qq0 a b)) [] := by
 have h := z1g _ a.goal b.goal (Nat.le_refl _) hG
 refine q00 Ax q03 Tryz.func20 (c := _) rfl Tryz.call20 200 ?_
 (repeat' ((conv => whnf); first | refine x0C (eB ?_ rfl) | refine cpC (h) ?_ | refine spC (fun hb => ?_) fun hb => ?_))
 all_goals clear h
 all_goals (first | (simp_all [qq0]; done) | (simp_all [qq0]; omega) | (simp_all [qq0]; grind))
end Go.SX
namespace Go.SX
open Go.ChangeShapes Go.WideShapes Go.RowKit Go.Deep
variable {C : Cod} {D : q09 C} {H : Type} {enc : TypeId × Value → H} {P : Program} {W : World}
def Old (W : World) : Nat → Prop := fun b => b < W.heap.size
structure z33 (D : q09 C) (enc : TypeId × Value → H) (P : Program) (W : World) (e : TypeId) (u : C.U) (Ok : C.El u → Prop) : Prop where
 n : P.cellsOf e = C.n u
 el : ∀ fuel cs x, DataW.trod enc P W 0 (fun _ => true) true fuel e cs = some x → ∃ y : C.El u, q1v D W (Old W) (D.enc u y) cs ∧ Ok y
theorem za3 {a : Addr} {v : Value} (h : W.cell? a = some v) : a.block < W.heap.size := by
 unfold World.cell? at h
 rcases Nat.lt_or_ge a.block W.heap.size with h' | h'
 ·exact h'
 ·rw [Array.getElem?_eq_none h'] at h
  simp at h
theorem qr5 (b o i : Nat) : (⟨b, o, none⟩ : Addr).add i = ⟨b, o + i, none⟩ := by
 unfold Addr.add
 split <;> simp_all
theorem z4k {t e : TypeId} {u : C.U} {Ok : C.El u → Prop} (R : z33 D enc P W e u Ok) (ht : P.underlying t = some (.slice e)) {fuel : Nat} {cs : List Value} {x : DataW H × List MemPlace}
  (h : DataW.trod enc P W 0 (fun _ => true) true fuel t cs = some x) :
  ∃ (v : Value) (l : List (C.El u)), cs = [v] ∧ q4a D W (Old W) (.dsl u l) v ∧ (∀ y ∈ l, Ok y) ∧ l.length ≤ maxLen := by
 rcases open_slice ht h with ⟨rfl, _⟩ | ⟨a, len, cap, m, n, Dd, Pl, rfl, _, hl, hm, hmm, _, hx⟩
 ·exact ⟨_, [], rfl, .dslNil u none 0, by simp, by simp⟩
 ·have hlm : len ≤ m := by rw [hmm]; split <;> omega
  by_cases h0 : len = 0
  ·subst h0; exact ⟨_, [], rfl, .dslNil u (some a) cap, by simp, by simp⟩
  haveI : Inhabited (C.El u) := ⟨C.dflt u⟩
  obtain ⟨f, hf⟩ := choose_lt (n := len) (p := fun i (y : C.El u) => ∃ cs', W.cells? 0 (a.add (i * P.cellsOf e)) (P.cellsOf e) = some cs' ∧ q1v D W (Old W) (D.enc u y) cs' ∧ Ok y) (fun i hi => by
   obtain ⟨cs', h1, h2⟩ := hx i (by omega)
   obtain ⟨y, h3, h4⟩ := R.el n cs' _ h2
   exact ⟨y, cs', h1, h3, h4⟩)
  have hn := R.n
  have hnp := D.n_pos u
  have hspot : a.spot = none := by
   obtain ⟨cs', h1, h2, _⟩ := hf 0 (by omega)
   obtain ⟨_, hlen, hc⟩ := World.cells?_some h1
   have := hc 0 (by omega)
   have hv : ∃ v, cs'[0]? = some v := ⟨cs'[0]'(by omega), by rw [List.getElem?_eq_getElem]⟩
   obtain ⟨v, hv⟩ := hv
   rw [hv] at this
   have hs := World.cell?_spot this
   simpa [Addr.add] using hs
  obtain ⟨b, o, sp⟩ := a
  simp only at hspot
  subst hspot
  have hcell : ∀ i, i < len → ∀ j, j < C.n u → ∃ v, W.cell? ⟨b, o + i * C.n u + j, none⟩ = some v ∧ ∀ pv, (D.enc u (f i))[j]? = some pv → q4a D W (Old W) pv v := by
   intro i hi j hj
   obtain ⟨cs', h1, h2, _⟩ := hf i hi
   rw [hn, qr5] at h1
   obtain ⟨_, hlen, hc⟩ := World.cells?_some h1
   have := hc j hj
   rw [qr5] at this
   have hv : cs'[j]? = some (cs'[j]'(by omega)) := by rw [List.getElem?_eq_getElem]
   rw [hv] at this
   exact ⟨_, this, fun pv hp => h2.2 j pv _ hp hv⟩
  have hen : ∀ y, (D.enc u y).length = C.n u := D.enc_len u
  refine ⟨_, (List.range len).map f, rfl, ?_, ?_, ?_⟩
  ·have key := q4a.dsl (D := D) (w := W) (F := Old W) u ((List.range len).map f) b o cap (fun i j => (W.cell? ⟨b, o + i * C.n u + j, none⟩).getD (.bool false)) ?_ (by simpa using hl) ?_ ?_
   ·simpa using key
   ·intro _
    obtain ⟨v, hv, _⟩ := hcell 0 (by omega) 0 hnp
    exact za3 hv
   ·intro i x hx j pv hp
    have hi : i < len := by
     rcases Nat.lt_or_ge i len with h' | h'
     ·exact h'
     ·rw [List.getElem?_eq_none (by simpa using h')] at hx; cases hx
    have hxe : x = f i := by simpa [hi] using hx.symm
    subst hxe
    have hj : j < C.n u := by
     rw [← hen (f i)]
     rcases Nat.lt_or_ge j (D.enc u (f i)).length with h' | h'
     ·exact h'
     ·rw [List.getElem?_eq_none h'] at hp; cases hp
    obtain ⟨v, hv, _⟩ := hcell i hi j hj
    rw [hv]; rfl
   ·intro i x hx j pv hp
    have hi : i < len := by
     rcases Nat.lt_or_ge i len with h' | h'
     ·exact h'
     ·rw [List.getElem?_eq_none (by simpa using h')] at hx; cases hx
    have hxe : x = f i := by simpa [hi] using hx.symm
    subst hxe
    have hj : j < C.n u := by
     rw [← hen (f i)]
     rcases Nat.lt_or_ge j (D.enc u (f i)).length with h' | h'
     ·exact h'
     ·rw [List.getElem?_eq_none h'] at hp; cases hp
    obtain ⟨v, hv, hd⟩ := hcell i hi j hj
    rw [hv]; exact hd pv hp
  ·intro y hy
   obtain ⟨i, hi, rfl⟩ := List.mem_map.1 hy
   obtain ⟨_, _, _, hok⟩ := hf i (List.mem_range.1 hi)
   exact hok
  ·simp only [List.length_map, List.length_range]; omega
def yd0 (P : Program) (t : TypeId) : Bool := (match P.underlying t with | some (.int .i64) => true | _ => false) && P.cellsOf t == 1
theorem y8x {t : TypeId} (h : yd0 P t = true) : P.underlying t = some (.int .i64) ∧ P.cellsOf t = 1 := by
 unfold yd0 at h
 simp only [Bool.and_eq_true, beq_iff_eq] at h
 refine ⟨?_, h.2⟩
 have h1 := h.1
 split at h1
 ·assumption
 ·cases h1
structure Z64 (n : Int) : Prop where
 h : -9223372036854775808 ≤ n ∧ n ≤ 9223372036854775807
theorem y35 {n : Int} (h : (Lit.int .i64 n).wf = true) : Z64 n := by
 simp only [Lit.wf, Bool.and_eq_true, decide_eq_true_eq] at h
 exact ⟨⟨h.1, h.2⟩⟩
theorem y13 {t : TypeId} (ht : P.underlying t = some (.int .i64)) {fuel : Nat} {cs : List Value} {x : DataW H × List MemPlace} (h : DataW.trod enc P W 0 (fun _ => true) true fuel t cs = some x) :
  ∃ n, cs = [.int .i64 n] ∧ Z64 n := by
 obtain ⟨n, h1, _, h2⟩ := DataW.trod_int ht h
 exact ⟨n, h1, y35 h2⟩
theorem y5f {n : Nat} {cs : List Value} (hlen : cs.length = n) (h : ∀ i, i < n → ∃ z, (cs.drop i).take 1 = [.int .i64 z] ∧ Z64 z) :
  ∃ zs : List Int, zs.length = n ∧ cs = zs.map (Value.int .i64) ∧ ∀ z ∈ zs, Z64 z := by
 induction cs generalizing n with
 | nil => exact ⟨[], by simpa using hlen, rfl, by simp⟩
 | cons c cs ih =>
  cases n with
  | zero => simp at hlen
  | succ n =>
   obtain ⟨zs, h1, h2, h3⟩ := ih (n := n) (by simpa using hlen) (fun i hi => by simpa using h (i + 1) (by omega))
   obtain ⟨z, hz, hz'⟩ := h 0 (by omega)
   simp at hz
   refine ⟨z :: zs, by simp [h1], by simp [hz, h2], ?_⟩
   intro y hy
   rcases List.mem_cons.1 hy with rfl | hy
   ·exact hz'
   ·exact h3 y hy
theorem q9g {t e : TypeId} {n : Nat} (ht : P.underlying t = some (.array n e)) (he : yd0 P e = true) (hn : P.cellsOf t = n) {fuel : Nat} {cs : List Value} {x : DataW H × List MemPlace}
  (h : DataW.trod enc P W 0 (fun _ => true) true fuel t cs = some x) : ∃ zs : List Int, zs.length = n ∧ cs = zs.map (Value.int .i64) ∧ ∀ z ∈ zs, Z64 z := by
 obtain ⟨xs, m, _, _, hlen, hxs, hel⟩ := DataW.trod_array ht h
 obtain ⟨hu, hc⟩ := y8x he
 refine y5f (hlen.trans hn) fun i hi => ?_
 have := hel i hi
 rw [List.getElem?_eq_getElem (by omega), hc, Nat.mul_one] at this
 exact y13 hu this
theorem ql2 (D : q09 C) (w : World) (F : Nat → Prop) (zs : List Int) : q1v D w F (zs.map (PV.int .i64)) (zs.map (Value.int .i64)) := by
 refine ⟨by simp, fun j pv v hp hv => ?_⟩
 simp only [List.getElem?_map, Option.map_eq_some_iff] at hp hv
 obtain ⟨z, hz, rfl⟩ := hp
 obtain ⟨z', hz', rfl⟩ := hv
 rw [hz] at hz'
 injection hz' with e
 subst e
 exact .int _ _
theorem zi9 {f : FuncId} {svs : List (SV C)} (hM : q07 P D f svs [] (.p (.bool true)) []) {args : Array Value} (hG : q9m C W ⟨Old W, fun _ => .fresh⟩) (hd : DenA D W ⟨Old W, fun _ => .fresh⟩ svs args.toList) :
  Calls P f args W fun e W' => e = .returned (.bool true) ∧ Below W.heap.size W W' := by
 have hs : Sat D W ⟨Old W, fun _ => .fresh⟩ (q0r ([] : List (HS C))) := ⟨fun c => (by simp [q0r, HS.ok]), fun c b e => (by cases e), fun c c' b e => (by cases e), fun b hb => hb, hG⟩
 refine ((hM.calls W ⟨Old W, fun _ => .fresh⟩ (fun c _ => rfl) args.toList hs hd).calls (fun k => by simp [Fence.room, Fc])).mono ?_
 rintro e w' ⟨v, E', rfl, hv, _, hfr⟩
 simp only [Den] at hv
 cases hv
 exact ⟨rfl, hfr.os, hfr.tape, hfr.output, hfr.size, fun b hb => hfr.same b hb (by rintro ⟨c, hc⟩; cases hc)⟩
end Go.SX
