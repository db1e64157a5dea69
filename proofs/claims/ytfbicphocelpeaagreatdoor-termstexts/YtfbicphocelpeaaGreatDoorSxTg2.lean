/-
  Walks: Tg2, Tg3, Tg4, Tg5, Tg6, Tg7, Tg8, Tb4, Tb6: what single functions of the program compute.
-/
import Derived.Test.YtfbicphocelpeaaGreatDoorSxTp8
import Derived.Shelf.Spec.SlicesGrow
import Derived.Test.YtfbicphocelpeaaGreatDoorSxTa9
set_option linter.unusedVariables false
set_option linter.unusedSimpArgs false
namespace Go.SX
open Go.Proofs
set_option maxHeartbeats 400000000
set_option maxRecDepth 100000
theorem L5 (n : Int) (h : 0 ≤ n ∧ n ≤ 4000000) : cQ .u64 (IntKind.u64.wrap n) 1 = n / 2 := by
 have e0 : IntKind.u64.wrap n = n := by
  simp only [IntKind.wrap, IntKind.signed, IntKind.bits]; simp; omega
 rw [e0];unfold cQ;have e : (2 : Int) ^ (min (1 : Int).toNat IntKind.u64.bits) = 2 := by decide
 rw [e, Int.fdiv_eq_ediv_of_nonneg _ (by omega)]
theorem qc8 (D T : List aB) (a m b : Nat) (c1 : m = a + 1) (hs : Sym T D a m b) (hD : D.length ≤ 1000000) : aF Tryz.prog Dc 172 [.slice 0 0 7 0 D.length, iS a, iS m, iS b, Cv] [.rows U.event D] (.tuple []) [.rows U.event T] := by
 obtain ⟨z1, z2, z3, z4⟩ := hs.bd;refine aA Ax aD Tryz.func172 (c := _) rfl Tryz.call172 600 ?_
 (repeat' ((conv => whnf); first | (exfalso; omega) | refine spC (fun hb => ?_) fun hb => ?_ | refine saC ?_))
 refine aT [some 0] (fun q : Int × Int => [(10, iS q.1), (11, iS q.2)]) (fun q => []) (fun q => ∃ i j : Nat, q.1 = i ∧ q.2 = j ∧ SrA D a m b i j) (fun q => (q.2 - q.1).toNat) ((m : Int), (b : Int)) ⟨m, b, rfl, rfl, SrA.start (by omega)⟩ (by exact bkI) ?_;rintro ⟨x, y⟩ ⟨i, j, hx, hy, hr⟩ K hK;dsimp only at hx hy hK ⊢;subst hx hy;obtain ⟨q1, q2, q3⟩ := hr.bd;have hh := L5 ((i : Int) + j) (by omega);rcases Nat.lt_or_ge i j with hlt | hge
 ·have hm := dD (D.getD (0 + (cQ .u64 (IntKind.u64.wrap ((i : Int) + j)) 1).toNat) (Cd.dflt U.event)) (D.getD (0 + (a : Int).toNat) (Cd.dflt U.event));have e1 : 0 + (cQ .u64 (IntKind.u64.wrap ((i : Int) + j)) 1).toNat = (i + j) / 2 := by rw [hh]; omega
  have e2 : 0 + (a : Int).toNat = a := by omega
  cases hB : eN (D.getD (0 + (cQ .u64 (IntKind.u64.wrap ((i : Int) + j)) 1).toNat) (Cd.dflt U.event)) (D.getD (0 + (a : Int).toNat) (Cd.dflt U.event)) with
  | true =>
   have hc := rG.2 hB;rw [e1, e2] at hB;have hn := hr.up hs (by omega) (by omega) hB
   (repeat' ((conv => whnf); first | (exfalso; omega) | refine dpC (hm) ?_ | refine hK (cQ .u64 (IntKind.u64.wrap ((i : Int) + j)) 1 + 1, (j : Int)) [some 0] _ _ ⟨⟨(i + j) / 2 + 1, j, by dsimp only; omega, rfl, hn⟩⟩ ⟨by dsimp only; omega⟩ (by exact bkI) | refine spC (fun hb => ?_) fun hb => ?_ | refine taC ?_ | refine saC ?_ | refine aE mixed ?_))
  | false =>
   have hc := oX hB;rw [e1, e2] at hB;have hn := hr.down hs (by omega) (by omega) hB
   (repeat' ((conv => whnf); first | (exfalso; omega) | refine dpC (hm) ?_ | refine hK ((i : Int), cQ .u64 (IntKind.u64.wrap ((i : Int) + j)) 1) [some 0] _ _ ⟨⟨i, (i + j) / 2, rfl, by dsimp only; omega, hn⟩⟩ ⟨by dsimp only; omega⟩ (by exact bkI) | refine spC (fun hb => ?_) fun hb => ?_ | refine taC ?_ | refine saC ?_ | refine aE mixed ?_))
 ·obtain rfl : i = j := by omega
  have hmv := hr.stop hs c1
  (repeat' ((conv => whnf); first | (exfalso; omega) | refine spC (fun hb => ?_) fun hb => ?_))
  refine aT [some 0] (fun q : Nat × List aB => [(13, iS q.1)]) (fun q => [(0, .rows U.event q.2)]) (fun q => MvA T q.2 i q.1 ∧ q.2.length = D.length) (fun q => i - q.1) (a, D) ⟨hmv, rfl⟩ (by exact bkI) ?_;rintro ⟨k, J⟩ ⟨hk, hJ⟩ K2 hK2;dsimp only at hk hJ hK2 ⊢;obtain ⟨w1, w2, w3⟩ := hk.bd;rw [hJ] at w2;rcases Nat.lt_or_ge (k + 1) i with hlt | hge
  ·have hst := hk.step hlt;have hsl := Jh J k (k + 1);have he : (J.set (0 + (k : Int).toNat) (J.getD (0 + ((k : Int) + 1).toNat) (Cd.dflt U.event))).set (0 + ((k : Int) + 1).toNat) (J.getD (0 + (k : Int).toNat) (Cd.dflt U.event)) = swS J k (k + 1) := by
    rw [show 0 + (k : Int).toNat = k by omega, show 0 + ((k : Int) + 1).toNat = k + 1 by omega]; rfl
   rw [← he] at hst hsl
   (repeat' ((conv => whnf); first | (exfalso; omega) | refine hK2 (k + 1, (J.set (0 + (k : Int).toNat) (J.getD (0 + ((k : Int) + 1).toNat) (Cd.dflt U.event))).set (0 + ((k : Int) + 1).toNat) (J.getD (0 + (k : Int).toNat) (Cd.dflt U.event))) [some 0] _ _ ⟨⟨hst, hsl.trans hJ⟩⟩ ⟨by dsimp only; omega⟩ (by exact bkI) | refine spC (fun hb => ?_) fun hb => ?_ | refine taC ?_ | refine saC ?_ | refine aE mixed ?_))
  ·rw [← hk.stop (by omega)]
   (repeat' ((conv => whnf); first | (exfalso; omega) | exact enC [some 0] | refine spC (fun hb => ?_) fun hb => ?_ | refine saC ?_))
theorem qd0 (D T : List aB) (a m b : Nat) (c1 : m ≠ a + 1) (c2 : b = m + 1) (hs : Sym T D a m b) (hD : D.length ≤ 1000000) : aF Tryz.prog Dc 172 [.slice 0 0 7 0 D.length, iS a, iS m, iS b, Cv] [.rows U.event D] (.tuple []) [.rows U.event T] := by
 obtain ⟨z1, z2, z3, z4⟩ := hs.bd;refine aA Ax aD Tryz.func172 (c := _) rfl Tryz.call172 600 ?_
 (repeat' ((conv => whnf); first | (exfalso; omega) | refine spC (fun hb => ?_) fun hb => ?_ | refine saC ?_))
 refine aT [some 0] (fun q : Int × Int => [(14, iS q.1), (15, iS q.2)]) (fun q => []) (fun q => ∃ i j : Nat, q.1 = i ∧ q.2 = j ∧ SrB D a m b i j) (fun q => (q.2 - q.1).toNat) ((a : Int), (m : Int)) ⟨a, m, rfl, rfl, SrB.start (by omega)⟩ (by exact bkI) ?_;rintro ⟨x, y⟩ ⟨i, j, hx, hy, hr⟩ K hK;dsimp only at hx hy hK ⊢;subst hx hy;obtain ⟨q1, q2, q3⟩ := hr.bd;have hh := L5 ((i : Int) + j) (by omega);rcases Nat.lt_or_ge i j with hlt | hge
 ·have hm := dD (D.getD (0 + (m : Int).toNat) (Cd.dflt U.event)) (D.getD (0 + (cQ .u64 (IntKind.u64.wrap ((i : Int) + j)) 1).toNat) (Cd.dflt U.event));have e1 : 0 + (cQ .u64 (IntKind.u64.wrap ((i : Int) + j)) 1).toNat = (i + j) / 2 := by rw [hh]; omega
  have e2 : 0 + (m : Int).toNat = m := by omega
  cases hB : eN (D.getD (0 + (m : Int).toNat) (Cd.dflt U.event)) (D.getD (0 + (cQ .u64 (IntKind.u64.wrap ((i : Int) + j)) 1).toNat) (Cd.dflt U.event)) with
  | false =>
   have hc := oX hB;rw [e1, e2] at hB;have hn := hr.up hs (by omega) (by omega) hB
   (repeat' ((conv => whnf); first | (exfalso; omega) | refine dpC (hm) ?_ | refine hK (cQ .u64 (IntKind.u64.wrap ((i : Int) + j)) 1 + 1, (j : Int)) [some 0] _ _ ⟨⟨(i + j) / 2 + 1, j, by dsimp only; omega, rfl, hn⟩⟩ ⟨by dsimp only; omega⟩ (by exact bkI) | refine spC (fun hb => ?_) fun hb => ?_ | refine taC ?_ | refine saC ?_ | refine aE mixed ?_))
  | true =>
   have hc := rG.2 hB;rw [e1, e2] at hB;have hn := hr.down hs (by omega) (by omega) hB
   (repeat' ((conv => whnf); first | (exfalso; omega) | refine dpC (hm) ?_ | refine hK ((i : Int), cQ .u64 (IntKind.u64.wrap ((i : Int) + j)) 1) [some 0] _ _ ⟨⟨i, (i + j) / 2, rfl, by dsimp only; omega, hn⟩⟩ ⟨by dsimp only; omega⟩ (by exact bkI) | refine spC (fun hb => ?_) fun hb => ?_ | refine taC ?_ | refine saC ?_ | refine aE mixed ?_))
 ·obtain rfl : i = j := by omega
  have hmv := hr.stop hs c2
  (repeat' ((conv => whnf); first | (exfalso; omega) | refine spC (fun hb => ?_) fun hb => ?_))
  refine aT [some 0] (fun q : Int × List aB => [(17, iS q.1)]) (fun q => [(0, .rows U.event q.2)]) (fun q => (∃ k : Nat, q.1 = k ∧ MvB T q.2 i k) ∧ q.2.length = D.length) (fun q => q.1.toNat) ((m : Int), D) ⟨⟨m, rfl, hmv⟩, rfl⟩ (by exact bkI) ?_;rintro ⟨x, J⟩ ⟨⟨k, hx, hk⟩, hJ⟩ K2 hK2;dsimp only at hx hk hJ hK2 ⊢;subst hx;obtain ⟨w1, w2, w3⟩ := hk.bd;rw [hJ] at w2;rcases Nat.lt_or_ge i k with hlt | hge
  ·have hst := hk.step hlt;have hsl := Jh J k (k - 1);have he : (J.set (0 + (k : Int).toNat) (J.getD (0 + ((k : Int) - 1).toNat) (Cd.dflt U.event))).set (0 + ((k : Int) - 1).toNat) (J.getD (0 + (k : Int).toNat) (Cd.dflt U.event)) = swS J k (k - 1) := by
    rw [show 0 + (k : Int).toNat = k by omega, show 0 + ((k : Int) - 1).toNat = k - 1 by omega]; rfl
   rw [← he] at hst hsl
   (repeat' ((conv => whnf); first | (exfalso; omega) | refine hK2 ((k : Int) - 1, (J.set (0 + (k : Int).toNat) (J.getD (0 + ((k : Int) - 1).toNat) (Cd.dflt U.event))).set (0 + ((k : Int) - 1).toNat) (J.getD (0 + (k : Int).toNat) (Cd.dflt U.event))) [some 0] _ _ ⟨⟨⟨k - 1, by dsimp only; omega, hst⟩, hsl.trans hJ⟩⟩ ⟨by dsimp only; omega⟩ (by exact bkI) | refine spC (fun hb => ?_) fun hb => ?_ | refine taC ?_ | refine saC ?_ | refine aE mixed ?_))
  ·rw [← hk.stop (by omega)]
   (repeat' ((conv => whnf); first | (exfalso; omega) | exact enC [some 0] | refine spC (fun hb => ?_) fun hb => ?_))
@[reducible] def eT (D T : List aB) (a m b : Int) : Prop := aF Tryz.prog Dc 172 [.slice 0 0 7 0 D.length, iS a, iS m, iS b, Cv] [.rows U.event D] (.tuple []) [.rows U.event T]
theorem q9e (D T : List aB) (a m b mid lo hi : Nat) (c1 : m ≠ a + 1) (c2 : b ≠ m + 1) (hs : Sym T D a m b) (hD : D.length ≤ 1000000) (hB : Bds a m b mid lo hi) (hcase : mid < m ∧ lo = mid + m - b ∧ hi = mid) (ih : ∀ (D' T' : List aB) (a' m' b' : Nat), b' - a' < b - a → Sym T' D' a' m' b' → D'.length ≤ 1000000 → eT D' T' a' m' b') : eT D T a m b := by
 obtain ⟨z1, z2, z3, z4⟩ := hs.bd;have hh := L5 ((a : Int) + b) (by omega);have hmid := hB.hm;unfold eT;refine aA Ax aD Tryz.func172 (c := _) rfl Tryz.call172 900 ?_
 (repeat' ((conv => whnf); first | (exfalso; omega) | refine spC (fun hb => ?_) fun hb => ?_ | refine saC ?_))
 refine aT [some 0] (fun q : Int × Int × Int × Int × Int => [(20, iS q.1), (21, iS q.2.1), (18, iS q.2.2.1), (19, iS q.2.2.2.1), (22, iS q.2.2.2.2)]) (fun q => []) (fun q => (∃ s r : Nat, q.1 = s ∧ q.2.1 = r ∧ SrC D (mid + m - 1) lo hi s r) ∧ q.2.2.1 = mid ∧ q.2.2.2.1 = (mid : Int) + m ∧ q.2.2.2.2 = (mid : Int) + m - 1) (fun q => (q.2.1 - q.1).toNat) (cQ .u64 (IntKind.u64.wrap ((a : Int) + b)) 1 + m - b, cQ .u64 (IntKind.u64.wrap ((a : Int) + b)) 1, cQ .u64 (IntKind.u64.wrap ((a : Int) + b)) 1, cQ .u64 (IntKind.u64.wrap ((a : Int) + b)) 1 + m, cQ .u64 (IntKind.u64.wrap ((a : Int) + b)) 1 + m - 1) ⟨⟨lo, hi, by dsimp only; omega, by dsimp only; omega, SrC.start hB⟩, by dsimp only; omega, by dsimp only; omega, by dsimp only; omega⟩ (by exact bkI) ?_;rintro ⟨x, y, q1, q2, q3⟩ ⟨⟨s, r, hx, hy, hr⟩, w1, w2, w3⟩ K hK;dsimp only at hx hy w1 w2 w3 hK ⊢;subst hx hy w1 w2 w3;obtain ⟨v1, v2, v3⟩ := hr.bd;have hh2 := L5 ((s : Int) + r) (by omega);rcases Nat.lt_or_ge s r with hlt | hge
 ·have hm := dD (D.getD (0 + ((mid : Int) + m - 1 - cQ .u64 (IntKind.u64.wrap ((s : Int) + r)) 1).toNat) (Cd.dflt U.event)) (D.getD (0 + (cQ .u64 (IntKind.u64.wrap ((s : Int) + r)) 1).toNat) (Cd.dflt U.event));have e1 : 0 + ((mid : Int) + m - 1 - cQ .u64 (IntKind.u64.wrap ((s : Int) + r)) 1).toNat = mid + m - 1 - (s + r) / 2 := by rw [hh2]; omega
  have e2 : 0 + (cQ .u64 (IntKind.u64.wrap ((s : Int) + r)) 1).toNat = (s + r) / 2 := by rw [hh2]; omega
  cases hC : eN (D.getD (0 + ((mid : Int) + m - 1 - cQ .u64 (IntKind.u64.wrap ((s : Int) + r)) 1).toNat) (Cd.dflt U.event)) (D.getD (0 + (cQ .u64 (IntKind.u64.wrap ((s : Int) + r)) 1).toNat) (Cd.dflt U.event)) with
  | false =>
   have hc := oX hC;rw [e1, e2] at hC;have hn := hr.inc hs hB (by omega) (by omega) hC
   (repeat' ((conv => whnf); first | (exfalso; omega) | refine dpC (hm) ?_ | refine hK (cQ .u64 (IntKind.u64.wrap ((s : Int) + r)) 1 + 1, (r : Int), (mid : Int), (mid : Int) + m, (mid : Int) + m - 1) [some 0] _ _ ⟨⟨⟨(s + r) / 2 + 1, r, by dsimp only; omega, rfl, hn⟩, rfl, rfl, rfl⟩⟩ ⟨by dsimp only; omega⟩ (by exact bkI) | refine spC (fun hb => ?_) fun hb => ?_ | refine taC ?_ | refine saC ?_ | refine aE mixed ?_))
  | true =>
   have hc := rG.2 hC;rw [e1, e2] at hC;have hn := hr.dec hs hB (by omega) (by omega) hC
   (repeat' ((conv => whnf); first | (exfalso; omega) | refine dpC (hm) ?_ | refine hK ((s : Int), cQ .u64 (IntKind.u64.wrap ((s : Int) + r)) 1, (mid : Int), (mid : Int) + m, (mid : Int) + m - 1) [some 0] _ _ ⟨⟨⟨s, (s + r) / 2, rfl, by dsimp only; omega, hn⟩, rfl, rfl, rfl⟩⟩ ⟨by dsimp only; omega⟩ (by exact bkI) | refine spC (fun hb => ?_) fun hb => ?_ | refine taC ?_ | refine saC ?_ | refine aE mixed ?_))
 ·obtain rfl : s = r := by omega
  obtain ⟨en, hen⟩ : ∃ en, en = mid + m - s := ⟨_, rfl⟩;obtain ⟨E, E1, hcut⟩ := q1g hs (by omega) (by omega) hB hr hen;have hb := hcut.bd;have hlE := hcut.lE;have hlE1 := hcut.lE1;have hne : ((en : Nat) : Int) = (mid : Int) + m - s := by omega
  have k1 : s < m → m < en → aF Tryz.prog Dc 194 [.slice 0 0 7 0 D.length, iS s, iS m, iS ((mid : Int) + m - s), Cv] [.rows U.event D] (.tuple []) [.rows U.event E] := fun h1 h2 => by
   have := q19 D E s m en (m - s) (en - m) hD (by omega) (by omega) (hcut.rot h1 h2)
   rwa [hne] at this
  have k2 : a < s → s < mid → aF Tryz.prog Dc 172 [.slice 0 0 7 0 D.length, iS a, iS s, iS mid, Cv] [.rows U.event E] (.tuple []) [.rows U.event E1] := fun h1 h2 => by
   have := ih E E1 a s mid (by omega) (hcut.one h1 h2) (by omega);unfold eT at this
   rwa [hlE] at this
  have k3 : mid < en → en < b → aF Tryz.prog Dc 172 [.slice 0 0 7 0 D.length, iS mid, iS ((mid : Int) + m - s), iS b, Cv] [.rows U.event E1] (.tuple []) [.rows U.event T] := fun h1 h2 => by
   have := ih E1 T mid en b (by omega) (hcut.two h1 h2) (by omega);unfold eT at this
   rwa [hlE1, hne] at this
  have n1 := hcut.nrot;have n2 := hcut.none;have n3 := hcut.ntwo;clear ih hcut hs hr
  by_cases p1 : s < m ∧ m < en
  ·have k1 := k1 p1.1 p1.2
   by_cases p2 : a < s ∧ s < mid
   ·have k2 := k2 p2.1 p2.2
    by_cases p3 : mid < en ∧ en < b
    ·have k3 := k3 p3.1 p3.2
     (repeat' ((conv => whnf); first | (exfalso; omega) | refine chC [some 0] k1 ?_ | refine chC [some 0] k2 ?_ | refine chC [some 0] k3 ?_ | (refine aZ [some 0] (.inl rfl) ?_ ?_ rfl rfl; (focus exact vwV); exact hsV) | refine spC (fun hb => ?_) fun hb => ?_ | refine saC ?_))
    ·rw [n3 p3]
     (repeat' ((conv => whnf); first | (exfalso; omega) | refine chC [some 0] k1 ?_ | refine chC [some 0] k2 ?_ | (refine aZ [some 0] (.inl rfl) ?_ ?_ rfl rfl; (focus exact vwV); exact hsV) | refine spC (fun hb => ?_) fun hb => ?_ | refine saC ?_))
   ·have n2 := n2 p2;subst n2
    by_cases p3 : mid < en ∧ en < b
    ·have k3 := k3 p3.1 p3.2
     (repeat' ((conv => whnf); first | (exfalso; omega)))
    ·rw [n3 p3]
     (repeat' ((conv => whnf); first | (exfalso; omega) | refine chC [some 0] k1 ?_ | (refine aZ [some 0] (.inl rfl) ?_ ?_ rfl rfl; (focus exact vwV); exact hsV) | refine spC (fun hb => ?_) fun hb => ?_ | refine saC ?_))
  ·have n1 := n1 p1;subst n1
   by_cases p2 : a < s ∧ s < mid
   ·have k2 := k2 p2.1 p2.2
    by_cases p3 : mid < en ∧ en < b
    ·have k3 := k3 p3.1 p3.2
     (repeat' ((conv => whnf); first | (exfalso; omega)))
    ·rw [n3 p3]
     (repeat' ((conv => whnf); first | (exfalso; omega)))
   ·have n2 := n2 p2;subst n2
    by_cases p3 : mid < en ∧ en < b
    ·have k3 := k3 p3.1 p3.2
     (repeat' ((conv => whnf); first | (exfalso; omega) | refine chC [some 0] k3 ?_ | (refine aZ [some 0] (.inl rfl) ?_ ?_ rfl rfl; (focus exact vwV); exact hsV) | refine spC (fun hb => ?_) fun hb => ?_ | refine saC ?_))
    ·rw [n3 p3]
     (repeat' ((conv => whnf); first | (exfalso; omega)))
theorem qa7 (D T : List aB) (a m b mid lo hi : Nat) (c1 : m ≠ a + 1) (c2 : b ≠ m + 1) (hs : Sym T D a m b) (hD : D.length ≤ 1000000) (hB : Bds a m b mid lo hi) (hcase : m ≤ mid ∧ lo = a ∧ hi = m) (ih : ∀ (D' T' : List aB) (a' m' b' : Nat), b' - a' < b - a → Sym T' D' a' m' b' → D'.length ≤ 1000000 → eT D' T' a' m' b') : eT D T a m b := by
 obtain ⟨z1, z2, z3, z4⟩ := hs.bd;have hh := L5 ((a : Int) + b) (by omega);have hmid := hB.hm;unfold eT;refine aA Ax aD Tryz.func172 (c := _) rfl Tryz.call172 900 ?_
 (repeat' ((conv => whnf); first | (exfalso; omega) | refine spC (fun hb => ?_) fun hb => ?_ | refine saC ?_))
 refine aT [some 0] (fun q : Int × Int × Int × Int × Int => [(20, iS q.1), (21, iS q.2.1), (18, iS q.2.2.1), (19, iS q.2.2.2.1), (22, iS q.2.2.2.2)]) (fun q => []) (fun q => (∃ s r : Nat, q.1 = s ∧ q.2.1 = r ∧ SrC D (mid + m - 1) lo hi s r) ∧ q.2.2.1 = mid ∧ q.2.2.2.1 = (mid : Int) + m ∧ q.2.2.2.2 = (mid : Int) + m - 1) (fun q => (q.2.1 - q.1).toNat) ((a : Int), (m : Int), cQ .u64 (IntKind.u64.wrap ((a : Int) + b)) 1, cQ .u64 (IntKind.u64.wrap ((a : Int) + b)) 1 + m, cQ .u64 (IntKind.u64.wrap ((a : Int) + b)) 1 + m - 1) ⟨⟨lo, hi, by dsimp only; omega, by dsimp only; omega, SrC.start hB⟩, by dsimp only; omega, by dsimp only; omega, by dsimp only; omega⟩ (by exact bkI) ?_;rintro ⟨x, y, q1, q2, q3⟩ ⟨⟨s, r, hx, hy, hr⟩, w1, w2, w3⟩ K hK;dsimp only at hx hy w1 w2 w3 hK ⊢;subst hx hy w1 w2 w3;obtain ⟨v1, v2, v3⟩ := hr.bd;have hh2 := L5 ((s : Int) + r) (by omega);rcases Nat.lt_or_ge s r with hlt | hge
 ·have hm := dD (D.getD (0 + ((mid : Int) + m - 1 - cQ .u64 (IntKind.u64.wrap ((s : Int) + r)) 1).toNat) (Cd.dflt U.event)) (D.getD (0 + (cQ .u64 (IntKind.u64.wrap ((s : Int) + r)) 1).toNat) (Cd.dflt U.event));have e1 : 0 + ((mid : Int) + m - 1 - cQ .u64 (IntKind.u64.wrap ((s : Int) + r)) 1).toNat = mid + m - 1 - (s + r) / 2 := by rw [hh2]; omega
  have e2 : 0 + (cQ .u64 (IntKind.u64.wrap ((s : Int) + r)) 1).toNat = (s + r) / 2 := by rw [hh2]; omega
  cases hC : eN (D.getD (0 + ((mid : Int) + m - 1 - cQ .u64 (IntKind.u64.wrap ((s : Int) + r)) 1).toNat) (Cd.dflt U.event)) (D.getD (0 + (cQ .u64 (IntKind.u64.wrap ((s : Int) + r)) 1).toNat) (Cd.dflt U.event)) with
  | false =>
   have hc := oX hC;rw [e1, e2] at hC;have hn := hr.inc hs hB (by omega) (by omega) hC
   (repeat' ((conv => whnf); first | (exfalso; omega) | refine dpC (hm) ?_ | refine hK (cQ .u64 (IntKind.u64.wrap ((s : Int) + r)) 1 + 1, (r : Int), (mid : Int), (mid : Int) + m, (mid : Int) + m - 1) [some 0] _ _ ⟨⟨⟨(s + r) / 2 + 1, r, by dsimp only; omega, rfl, hn⟩, rfl, rfl, rfl⟩⟩ ⟨by dsimp only; omega⟩ (by exact bkI) | refine spC (fun hb => ?_) fun hb => ?_ | refine taC ?_ | refine saC ?_ | refine aE mixed ?_))
  | true =>
   have hc := rG.2 hC;rw [e1, e2] at hC;have hn := hr.dec hs hB (by omega) (by omega) hC
   (repeat' ((conv => whnf); first | (exfalso; omega) | refine dpC (hm) ?_ | refine hK ((s : Int), cQ .u64 (IntKind.u64.wrap ((s : Int) + r)) 1, (mid : Int), (mid : Int) + m, (mid : Int) + m - 1) [some 0] _ _ ⟨⟨⟨s, (s + r) / 2, rfl, by dsimp only; omega, hn⟩, rfl, rfl, rfl⟩⟩ ⟨by dsimp only; omega⟩ (by exact bkI) | refine spC (fun hb => ?_) fun hb => ?_ | refine taC ?_ | refine saC ?_ | refine aE mixed ?_))
 ·obtain rfl : s = r := by omega
  obtain ⟨en, hen⟩ : ∃ en, en = mid + m - s := ⟨_, rfl⟩;obtain ⟨E, E1, hcut⟩ := q1g hs (by omega) (by omega) hB hr hen;have hb := hcut.bd;have hlE := hcut.lE;have hlE1 := hcut.lE1;have hne : ((en : Nat) : Int) = (mid : Int) + m - s := by omega
  have k1 : s < m → m < en → aF Tryz.prog Dc 194 [.slice 0 0 7 0 D.length, iS s, iS m, iS ((mid : Int) + m - s), Cv] [.rows U.event D] (.tuple []) [.rows U.event E] := fun h1 h2 => by
   have := q19 D E s m en (m - s) (en - m) hD (by omega) (by omega) (hcut.rot h1 h2)
   rwa [hne] at this
  have k2 : a < s → s < mid → aF Tryz.prog Dc 172 [.slice 0 0 7 0 D.length, iS a, iS s, iS mid, Cv] [.rows U.event E] (.tuple []) [.rows U.event E1] := fun h1 h2 => by
   have := ih E E1 a s mid (by omega) (hcut.one h1 h2) (by omega);unfold eT at this
   rwa [hlE] at this
  have k3 : mid < en → en < b → aF Tryz.prog Dc 172 [.slice 0 0 7 0 D.length, iS mid, iS ((mid : Int) + m - s), iS b, Cv] [.rows U.event E1] (.tuple []) [.rows U.event T] := fun h1 h2 => by
   have := ih E1 T mid en b (by omega) (hcut.two h1 h2) (by omega);unfold eT at this
   rwa [hlE1, hne] at this
  have n1 := hcut.nrot;have n2 := hcut.none;have n3 := hcut.ntwo;clear ih hcut hs hr
  by_cases p1 : s < m ∧ m < en
  ·have k1 := k1 p1.1 p1.2
   by_cases p2 : a < s ∧ s < mid
   ·have k2 := k2 p2.1 p2.2
    by_cases p3 : mid < en ∧ en < b
    ·have k3 := k3 p3.1 p3.2
     (repeat' ((conv => whnf); first | (exfalso; omega) | refine chC [some 0] k1 ?_ | refine chC [some 0] k2 ?_ | refine chC [some 0] k3 ?_ | (refine aZ [some 0] (.inl rfl) ?_ ?_ rfl rfl; (focus exact vwV); exact hsV) | refine spC (fun hb => ?_) fun hb => ?_ | refine saC ?_))
    ·rw [n3 p3]
     (repeat' ((conv => whnf); first | (exfalso; omega)))
   ·have n2 := n2 p2;subst n2
    by_cases p3 : mid < en ∧ en < b
    ·have k3 := k3 p3.1 p3.2
     (repeat' ((conv => whnf); first | (exfalso; omega) | refine chC [some 0] k1 ?_ | refine chC [some 0] k3 ?_ | (refine aZ [some 0] (.inl rfl) ?_ ?_ rfl rfl; (focus exact vwV); exact hsV) | refine spC (fun hb => ?_) fun hb => ?_ | refine saC ?_))
    ·rw [n3 p3]
     (repeat' ((conv => whnf); first | (exfalso; omega) | refine chC [some 0] k1 ?_ | (refine aZ [some 0] (.inl rfl) ?_ ?_ rfl rfl; (focus exact vwV); exact hsV) | refine spC (fun hb => ?_) fun hb => ?_ | refine saC ?_))
  ·have n1 := n1 p1;subst n1
   by_cases p2 : a < s ∧ s < mid
   ·have k2 := k2 p2.1 p2.2
    by_cases p3 : mid < en ∧ en < b
    ·have k3 := k3 p3.1 p3.2
     (repeat' ((conv => whnf); first | (exfalso; omega)))
    ·rw [n3 p3]
     (repeat' ((conv => whnf); first | (exfalso; omega) | refine chC [some 0] k2 ?_ | (refine aZ [some 0] (.inl rfl) ?_ ?_ rfl rfl; (focus exact vwV); exact hsV) | refine spC (fun hb => ?_) fun hb => ?_ | refine saC ?_))
   ·have n2 := n2 p2;subst n2
    by_cases p3 : mid < en ∧ en < b
    ·have k3 := k3 p3.1 p3.2
     (repeat' ((conv => whnf); first | (exfalso; omega)))
    ·rw [n3 p3]
     (repeat' ((conv => whnf); first | (exfalso; omega) | (refine aZ [some 0] (.inl rfl) ?_ ?_ rfl rfl; (focus exact vwV); exact hsV) | refine spC (fun hb => ?_) fun hb => ?_ | refine saC ?_))
theorem Kp : ∀ (n : Nat) (D T : List aB) (a m b : Nat), b - a = n → Sym T D a m b → D.length ≤ 1000000 → eT D T a m b := by
 intro n
 induction n using Nat.strongRecOn with
 | ind n ih =>
  intro D T a m b hn hs hD
  by_cases c1 : m = a + 1
  ·exact qc8 D T a m b c1 hs hD
  ·by_cases c2 : b = m + 1
   ·exact qd0 D T a m b c1 c2 hs hD
   ·obtain ⟨z1, z2, z3, z4⟩ := hs.bd;have ih' : ∀ (D' T' : List aB) (a' m' b' : Nat), b' - a' < b - a → Sym T' D' a' m' b' → D'.length ≤ 1000000 → eT D' T' a' m' b' := fun D' T' a' m' b' h1 h2 h3 => ih (b' - a') (by omega) D' T' a' m' b' rfl h2 h3;rcases Nat.lt_or_ge ((a + b) / 2) m with h | h
    ·exact q9e D T a m b ((a + b) / 2) _ _ c1 c2 hs hD ⟨rfl, ⟨z1, z2⟩, .inl ⟨h, rfl, rfl⟩⟩ ⟨h, rfl, rfl⟩ ih'
    ·exact qa7 D T a m b ((a + b) / 2) _ _ c1 c2 hs hD ⟨rfl, ⟨z1, z2⟩, .inr ⟨h, rfl, rfl⟩⟩ ⟨h, rfl, rfl⟩ ih'
structure Blk (D J : List aB) (a : Nat) : Prop where
 ex : ∃ X rest : List aB, J = X ++ rest ∧ dN 20 D = X ++ dN 20 rest ∧ X.length = a
theorem Blk.bd {D J : List aB} {a : Nat} (h : Blk D J a) : a ≤ J.length ∧ J.length = D.length := by
 obtain ⟨X, rest, rfl, h1, rfl⟩ := h;have := congrArg List.length h1;rw [fL] at this;simp only [List.length_append, fL] at *;omega
theorem Blk.next {D J : List aB} {a : Nat} (h : Blk D J a) (hl : a + 20 ≤ J.length) : ∃ J', Pj J' J a (a + 20) (a + 1) ∧ Blk D J' (a + 20) := by
 obtain ⟨X, rest, rfl, h1, rfl⟩ := h;have hr : 20 ≤ rest.length := by rw [List.length_append] at hl; omega
 have e := P7 X (rest.take 20) (rest.drop 20) X.length (X.length + 20) rfl (by rw [List.length_take]; omega);rw [List.append_assoc X (rest.take 20), List.take_append_drop] at e;refine ⟨_, e, X ++ aV (rest.take 20), rest.drop 20, rfl, ?_, ?_⟩
 ·rw [h1, oV (by omega) hr, List.append_assoc]
 ·rw [List.length_append, bA, List.length_take]; omega
theorem Blk.last {D J : List aB} {a : Nat} (h : Blk D J a) (hl : J.length < a + 20) : Pj (dN 20 D) J a J.length (a + 1) := by
 obtain ⟨X, rest, rfl, h1, rfl⟩ := h;have hr : rest.length ≤ 20 := by rw [List.length_append] at hl; omega
 have e := P7 X rest [] X.length (X ++ rest).length rfl (by rw [List.length_append]);rw [List.append_nil, List.append_nil] at e
 rwa [h1, jA hr]
structure Mrg (bs : Nat) (D J : List aB) (a : Nat) : Prop where
 ex : ∃ X rest : List aB, J = X ++ dN bs rest ∧ dN (bs * 2) D = X ++ dN (bs * 2) rest ∧ X.length = a
theorem Mrg.bd {bs : Nat} {D J : List aB} {a : Nat} (h : Mrg bs D J a) : a ≤ J.length ∧ J.length = D.length := by
 obtain ⟨X, rest, rfl, h1, rfl⟩ := h;have := congrArg List.length h1;rw [fL] at this;simp only [List.length_append, fL] at *;omega
theorem Mrg.next {bs : Nat} (hb : 0 < bs) {D J : List aB} {a : Nat} (h : Mrg bs D J a) (hl : a + 2 * bs ≤ J.length) : ∃ J', Sym J' J a (a + bs) (a + 2 * bs) ∧ Mrg bs D J' (a + 2 * bs) := by
 obtain ⟨X, rest, rfl, h1, rfl⟩ := h;have hr : 2 * bs ≤ rest.length := by rw [List.length_append, fL] at hl; omega
 have e1 := oV hb (l := rest) (by omega);have e2 := oV hb (l := rest.drop bs) (by rw [List.length_drop]; omega);have e3 := oV (k := bs * 2) (by omega) (l := rest) (by omega);have et : rest.take (bs * 2) = rest.take bs ++ (rest.drop bs).take bs := by
  rw [show bs * 2 = bs + bs by omega, List.take_add]
 have ed : rest.drop (bs * 2) = (rest.drop bs).drop bs := by rw [List.drop_drop]; congr 1; omega
 refine ⟨X ++ aV (rest.take (bs * 2)) ++ dN bs (rest.drop (bs * 2)), ⟨X, aV (rest.take bs), aV ((rest.drop bs).take bs), dN bs ((rest.drop bs).drop bs), ?_, ?_, fE _, fE _, rfl, ?_, ?_, ?_, ?_⟩, X ++ aV (rest.take (bs * 2)), rest.drop (bs * 2), rfl, ?_, ?_⟩
 ·rw [e1, e2]; simp [List.append_assoc]
 ·rw [S0, ← et, ed]
 ·rw [bA, List.length_take]; omega
 ·rw [bA, List.length_take, List.length_drop]; omega
 ·rw [bA, List.length_take]; omega
 ·rw [bA, List.length_take, List.length_drop]; omega
 ·rw [h1, e3, List.append_assoc]
 ·rw [List.length_append, bA, List.length_take]; omega
theorem Mrg.last {bs : Nat} (hb : 0 < bs) {D J : List aB} {a : Nat} (h : Mrg bs D J a) (hl : J.length < a + 2 * bs) (hm : a + bs < J.length) : Sym (dN (bs * 2) D) J a (a + bs) J.length := by
 obtain ⟨X, rest, rfl, h1, rfl⟩ := h;simp only [List.length_append, fL] at *;have e1 := oV hb (l := rest) (by omega);have e2 := jA (k := bs) (l := rest.drop bs) (by rw [List.length_drop]; omega);have e3 := jA (k := bs * 2) (l := rest) (by omega);refine ⟨X, aV (rest.take bs), aV (rest.drop bs), [], ?_, ?_, fE _, fE _, rfl, ?_, ?_, ?_, ?_⟩
 ·rw [e1, e2]; simp [List.append_assoc]
 ·rw [h1, e3, S0, List.take_append_drop]; simp
 ·rw [bA, List.length_take]; omega
 ·rw [bA, List.length_drop]; omega
 ·rw [bA, List.length_take]; omega
 ·rw [bA, List.length_drop]; omega
theorem Mrg.stop {bs : Nat} (hb : 0 < bs) {D J : List aB} {a : Nat} (h : Mrg bs D J a) (hm : J.length ≤ a + bs) : J = dN (bs * 2) D := by
 obtain ⟨X, rest, rfl, h1, rfl⟩ := h;simp only [List.length_append, fL] at *;rw [h1, jA (k := bs) (l := rest) (by omega), jA (k := bs * 2) (l := rest) (by omega)]
theorem q66 (D : List aB) (hD : D.length ≤ 1000000) : aF Tryz.prog Dc 142 [.slice 0 0 7 0 D.length, iS D.length, Cv] [.rows U.event D] (.tuple []) [.rows U.event (aV D)] := by
 refine aA Ax aD Tryz.func142 (c := _) rfl Tryz.call142 600 ?_
 (repeat' ((conv => whnf); first | fail))
 refine aT [some 0] (fun q : Int × Int × List aB => [(7, iS q.1), (8, iS q.2.1)]) (fun q => [(0, .rows U.event q.2.2)]) (fun q => ∃ a : Nat, q.1 = a ∧ q.2.1 = (a : Int) + 20 ∧ Blk D q.2.2 a) (fun q => (D.length + 20 - q.1).toNat) (0, 20, D) ⟨0, rfl, rfl, [], D, rfl, rfl, rfl⟩ (by exact bkI) ?_;rintro ⟨x, y, J⟩ ⟨a, hx, hy, hq⟩ K hK;dsimp only at hx hy hq hK ⊢;subst hx hy;obtain ⟨z1, z2⟩ := hq.bd;rcases Nat.lt_or_ge D.length (a + 20) with hlt | hge
 ·have hi := Bb J (dN 20 D) a D.length (by omega) (by rw [← z2]; exact hq.last (by omega));rw [z2] at hi;have hbl : (dN 20 D).length = D.length := fL 20 D;obtain ⟨J0, hJ0⟩ : ∃ J0, J0 = dN 20 D := ⟨_, rfl⟩;rw [← hJ0] at hi hbl
  (repeat' ((conv => whnf); first | (exfalso; omega) | refine chC [some 0] hi ?_ | refine spC (fun hb => ?_) fun hb => ?_))
  refine aT [some 0] (fun q : Int × List aB => [(6, iS q.1)]) (fun q => [(0, .rows U.event q.2)]) (fun q => ∃ bs : Nat, q.1 = bs ∧ 20 ≤ bs ∧ bs ≤ 2000040 ∧ q.2 = dN bs D) (fun q => (D.length - q.1).toNat) (20, J0) ⟨20, rfl, by omega, by omega, hJ0⟩ (by exact bkI) ?_;rintro ⟨x, J1⟩ ⟨bs, hx, hb1, hb2, hJ1⟩ K1 hK1;dsimp only at hx hJ1 hK1 ⊢;subst hx;have hl1 : J1.length = D.length := by rw [hJ1]; exact fL bs D
  rcases Nat.lt_or_ge bs D.length with hlt1 | hge1
  ·(repeat' ((conv => whnf); first | (exfalso; omega) | refine spC (fun hb => ?_) fun hb => ?_ | refine saC ?_))
   refine aT [some 0] (fun q : Int × Int × List aB => [(7, iS q.1), (8, iS q.2.1)]) (fun q => [(0, .rows U.event q.2.2)]) (fun q => ∃ a : Nat, q.1 = a ∧ q.2.1 = (a : Int) + 2 * bs ∧ Mrg bs D q.2.2 a) (fun q => (D.length + 2 * bs - q.1).toNat) (0, 2 * (bs : Int), J1) ⟨0, rfl, by dsimp only; omega, [], D, hJ1, rfl, rfl⟩ (by exact bkI) ?_;rintro ⟨x, y, J⟩ ⟨a, hx, hy, hq⟩ K2 hK2;dsimp only at hx hy hq hK2 ⊢;subst hx hy;obtain ⟨z1, z2⟩ := hq.bd;rcases Nat.lt_or_ge D.length (a + 2 * bs) with hlt2 | hge2
   ·rcases Nat.lt_or_ge (a + bs) D.length with hlt3 | hge3
    ·have hm := Kp _ J _ a (a + bs) J.length rfl (hq.last (by omega) (by omega) (by omega)) (by omega);unfold eT at hm;rw [z2] at hm;obtain ⟨J3, hJ3⟩ : ∃ J3, J3 = dN (bs * 2) D := ⟨_, rfl⟩;rw [← hJ3] at hm;have hm : aF Tryz.prog Dc 172 [.slice 0 0 7 0 D.length, iS a, iS ((a : Int) + bs), iS D.length, Cv] [.rows U.event J] (.tuple []) [.rows U.event J3] := hm
     (repeat' ((conv => whnf); first | (exfalso; omega) | refine chC [some 0] hm ?_ | refine hK1 ((bs : Int) * 2, J3) [some 0] _ _ ⟨⟨bs * 2, by dsimp only; omega, by omega, by omega, hJ3⟩⟩ ⟨by dsimp only; omega⟩ (by exact bkI) | refine spC (fun hb => ?_) fun hb => ?_ | refine saC ?_))
    ·have he := hq.stop (by omega) (by omega)
     (repeat' ((conv => whnf); first | (exfalso; omega) | refine hK1 ((bs : Int) * 2, J) [some 0] _ _ ⟨⟨bs * 2, by dsimp only; omega, by omega, by omega, he⟩⟩ ⟨by dsimp only; omega⟩ (by exact bkI) | refine spC (fun hb => ?_) fun hb => ?_ | refine saC ?_))
   ·obtain ⟨J', h1, h2⟩ := hq.next (by omega) (by omega)
    have hm := Kp _ J J' a (a + bs) (a + 2 * bs) rfl h1 (by omega);unfold eT at hm;rw [z2] at hm;have hm : aF Tryz.prog Dc 172 [.slice 0 0 7 0 D.length, iS a, iS ((a : Int) + bs), iS ((a : Int) + 2 * bs), Cv] [.rows U.event J] (.tuple []) [.rows U.event J'] := hm
    (repeat' ((conv => whnf); first | (exfalso; omega) | refine chC [some 0] hm ?_ | refine hK2 ((a : Int) + 2 * bs, (a : Int) + 2 * bs + 2 * bs, J') [some 0] _ _ ⟨⟨a + 2 * bs, by dsimp only; omega, by dsimp only; omega, h2⟩⟩ ⟨by dsimp only; omega⟩ (by exact bkI) | refine spC (fun hb => ?_) fun hb => ?_ | refine saC ?_))
  ·have he : aV D = J1 := by rw [hJ1, jA hge1]
   rw [he]
   (repeat' ((conv => whnf); first | (exfalso; omega) | (refine aZ [some 0] (.inl rfl) ?_ ?_ rfl rfl; (focus exact vwV); exact hsV) | refine spC (fun hb => ?_) fun hb => ?_))
 ·obtain ⟨J', h1, h2⟩ := hq.next (by omega)
  have hi := Bb J J' a (a + 20) (by omega) h1;rw [z2] at hi;have hi : aF Tryz.prog Dc 171 [.slice 0 0 7 0 D.length, iS a, iS ((a : Int) + 20), Cv] [.rows U.event J] (.tuple []) [.rows U.event J'] := hi
  (repeat' ((conv => whnf); first | (exfalso; omega) | refine chC [some 0] hi ?_ | refine hK ((a : Int) + 20, (a : Int) + 20 + 20, J') [some 0] _ _ ⟨⟨a + 20, by dsimp only; omega, by dsimp only; omega, h2⟩⟩ ⟨by dsimp only; omega⟩ (by exact bkI) | refine spC (fun hb => ?_) fun hb => ?_ | refine saC ?_))
theorem L8 (D : List aB) (hD : D.length ≤ 1000000) : aF Tryz.prog Dc 100 [.slice 0 0 7 0 D.length, Cv] [.rows U.event D] (.tuple []) [.rows U.event (aV D)] := by
 have h := q66 D hD;obtain ⟨J, hJ⟩ : ∃ J, J = aV D := ⟨_, rfl⟩;rw [← hJ] at h ⊢;refine aA Ax aD Tryz.func100 (c := _) rfl Tryz.call100 100 ?_
 (repeat' ((conv => whnf); first | refine chC [some 0] h ?_ | (refine aZ [some 0] (.inl rfl) ?_ ?_ rfl rfl; (focus exact vwV); exact hsV)))
end Go.SX
namespace Go.SX
open Go.Proofs Go.Shelf Go.RowKit
set_option maxRecDepth 100000
set_option maxHeartbeats 400000000
def q9h (l : List (Nat × Nat)) (x : Nat) : Nat := match l with
 | [] => x
 | (a, b) :: l => if a = x then b else q9h l x
def nH : Ren := ⟨q9h [(4, 141)], q9h [(0, 0), (3, 3), (4, 4), (9, 9), (20, 20), (22, 35), (25, 40)], fun x => x⟩
theorem Th : Lays8.n4 Tryz.prog nH := by
 constructor <;> first | kernel_rfl | exact ⟨ "slices.Grow[[]nadir/api.Event,nadir/api.Event]", rfl, by kernel_rfl⟩ | (intro w; kernel_rfl) | (decide; done) | (constructor <;> first | kernel_rfl | (intro w; kernel_rfl) | (constructor <;> first | kernel_rfl | (intro w; kernel_rfl)))
theorem q82 (n : Nat) (h0 : 0 < n) (hn : n ≤ 1000000) : aF Tryz.prog Dc 141 [.p (.lit (.slice none 0 0)), iS n] [] (.slice 0 0 7 0 0) [.rows U.event []] := by
 refine ⟨Tryz.call141, fun w E hm vs hs hd => ?_⟩;simp only [DenA, Den] at hd;obtain ⟨v, v2, rfl, hv, v', v3, rfl, hv', rfl⟩ := hd;cases hv;cases hv';obtain ⟨j, htj, hb, hz7⟩ : ∃ j, tab 40 = some j ∧ j.bytes = 72 ∧ j.size = 7 := ⟨_, rfl, by kernel_rfl, by kernel_rfl⟩;obtain ⟨ie, z, f1, f2, f3, f4, f5, f6⟩ := (aD 40 j htj).info;have h := Any8.slices_Grow_grow Th ie z f1 f4 (by rw [f2]; exact (aD 40 j htj).pos) none 0 0 n [] w (Nat.le_refl _) (by omega) (by rw [f3, hb]; omega) (by omega) (by simp) (fun _ => rfl) (fun a h => by cases h);have h2 : CallsIn (Fc none) 0 Tryz.prog 141 #[.slice none 0 0, .int .i64 n] w _ := callsIn_wide.2 h;refine h2.mono ?_;rintro e w' ⟨rfl, hw'⟩;have hge := grownCap_ge w (0 + n) 0 (nH.t 25);have hcz : (([] : List Value).toArray ++ Builtin.zeroCells z.cells (0 + n - 0) ++ Builtin.zeroCells z.cells (grownCap w (0 + n) 0 (nH.t 25) - (0 + n))).size = grownCap w (0 + n) 0 (nH.t 25) * 7 := by
  simp only [Array.size_append, Builtin.zeroCells, Array.size_map, Array.size_range, f5, hz7];have e : 0 + n = n := by omega
  rw [e] at hge ⊢;simp;omega
 generalize grownCap w (0 + n) 0 (nH.t 25) = G at *;generalize (([] : List Value).toArray ++ Builtin.zeroCells z.cells (0 + n - 0) ++ Builtin.zeroCells z.cells (G - (0 + n))) = cells at *;subst hw'
 let B0 := dP.here w E 0 hm
 have hrel : Rel Dc B0 E (fun _ => .any) (aR ([] : List (HS Cd))) [] { tmps := #[], defers := [] } w := ⟨fun i => trivial, hs, Fr.here, rfl, sK.nil⟩;have hrow : Row (w.drew.alloc (.cells cells 40)) w.drew.heap.size cells 40 := Row.new (heap_alloc_new w.drew _);have hn1 := hrel.drew.alloc (c := 0) rfl cells 40 (hs := HS.rows (C := Cd) U.event []) ⟨cells, 40, ⟨hrow, fun t h => by cases h⟩, by simp, ⟨by simp, fun q pv v hp _ => by simp at hp⟩⟩;have hH1 : upH (aR ([] : List (HS Cd))) 0 (.rows U.event []) = aR [.rows U.event []] := by
  funext i;cases i with
  | zero => rfl
  | succ i => rfl
 rw [hH1] at hn1;refine ⟨_, E.up 0 (.loc w.drew.heap.size), rfl, ?_, hn1.sat, hn1.fr⟩;simp only [Den, Env.up_same];exact .inr ⟨G, cells, 40, by simp, by omega, hrow, by omega⟩
def iX (l : List Evs) : List aB := l.flatMap (·.l)
def Ph (l : List Evs) (i : Nat) : Int := (iX (l.take i)).length
theorem G2 {L : List Evs} {i : Nat} (h : i < L.length) : iX (L.take (i + 1)) = iX (L.take i) ++ (L.getD i (U.dflt .evs)).l := by
 unfold iX;rw [gF (d := U.dflt .evs) h, List.flatMap_append]; simp
theorem Fl {L : List Evs} {i : Nat} (h : i < L.length) : Ph L (i + 1) = Ph L i + (L.getD i (U.dflt .evs)).l.length := by
 unfold Ph;rw [G2 h, List.length_append]; omega
theorem sY (L : List Evs) (i : Nat) : (iX (L.take i)).length ≤ (iX L).length := by
 have h : iX L = iX (L.take i) ++ iX (L.drop i) := by
  unfold iX;rw [← List.flatMap_append, List.take_append_drop]
 rw [h, List.length_append]; omega
theorem q80 (L : List Evs) (hL : (L.length : Int) ≤ 1000) (hp : 0 < (iX L).length) (hl : (iX L).length ≤ 1000000) : aF Tryz.prog Dc 99 [.p (.dsl U.evs L)] [] (.slice 0 0 7 0 (iX L).length) [.rows U.event (iX L)] := by
 have hg := q82 (iX L).length hp hl;refine aA Ax aD Tryz.func99 (c := _) rfl Tryz.call99 300 ?_
 (repeat' ((conv => whnf); first | fail))
 refine aT [] (fun q : Nat => [(3, iS (Ph L q)), (11, iS q)]) (fun q => []) (fun q => q ≤ L.length) (fun q => L.length - q) 0 (Nat.zero_le _) (by exact bkI) ?_;intro i hi K hK;rcases Nat.lt_or_ge i L.length with hlt | hge
 ·have h1 := Fl hlt;have h2 := sY L i;have h3 := sY L (i + 1);have h1' : Ph L i + ((L.getD (i : Int).toNat (Cd.dflt U.evs)).l.length : Nat) = Ph L (i + 1) := h1.symm;have h4 : Ph L i = (iX (L.take i)).length := rfl;have h5 : Ph L (i + 1) = (iX (L.take (i + 1))).length := rfl
  (repeat' ((conv => whnf); first | (exfalso; omega) | refine hK (i + 1) [] _ _ ⟨by omega⟩ ⟨by omega⟩ (by (rw [← h1']; exact bkI)) | refine spC (fun hb => ?_) fun hb => ?_ | refine saC ?_))
 ·have he : Ph L i = (iX L).length := by unfold Ph; rw [show i = L.length by omega, List.take_length]
  rw [he]
  (repeat' ((conv => whnf); first | (exfalso; omega) | refine chC [] hg ?_ | refine spC (fun hb => ?_) fun hb => ?_))
  refine aT [some 0] (fun q : Nat × List aB => [(6, .slice 0 0 7 0 q.2.length), (24, .any), (27, iS q.1)]) (fun q => [(0, .rows U.event q.2)]) (fun q => q.1 ≤ L.length ∧ q.2 = iX (L.take q.1)) (fun q => L.length - q.1) (0, []) ⟨Nat.zero_le _, rfl⟩ (by exact bkI) ?_;rintro ⟨k, J⟩ ⟨hk, hJ⟩ K2 hK2;dsimp only at hk hJ hK2 ⊢;have hJl := sY L k;rw [← hJ] at hJl;rcases Nat.lt_or_ge k L.length with hlt | hge
  ·have hst := G2 hlt;have hle := sY L (k + 1);rw [hst, List.length_append, ← hJ] at hle;rw [← hJ] at hst;have hle' : J.length + (L.getD (k : Int).toNat (Cd.dflt U.evs)).l.length ≤ (iX L).length := hle;have hW : List.take J.length J ++ (L.getD (k : Int).toNat (Cd.dflt U.evs)).l = iX (L.take (k + 1)) := by rw [hst, List.take_length]; rfl
   (repeat' ((conv => whnf); first | (exfalso; omega) | refine hK2 (k + 1, List.take J.length J ++ (L.getD (k : Int).toNat (Cd.dflt U.evs)).l) [some 1] _ _ ⟨⟨by dsimp only; omega, hW⟩⟩ ⟨by dsimp only; omega⟩ (by exact bkI) | refine spC (fun hb => ?_) fun hb => ?_ | refine saC ?_ | refine cW ?_ ?_))
   exact ⟨⟨⟨rfl, trivial⟩, Nat.le_refl _, rfl, rfl, (by show (J.length + (L.getD (k : Int).toNat (Cd.dflt U.evs)).l.length) * 72 ≤ _; omega), by omega, (fun h => by cases h), by omega⟩⟩
  ·have he : iX L = J := by rw [hJ, show k = L.length by omega, List.take_length]
   rw [he]
   (repeat' ((conv => whnf); first | (exfalso; omega) | exact enC [some 0] | refine spC (fun hb => ?_) fun hb => ?_))
end Go.SX
namespace Go.SX
open Go.Proofs
set_option maxHeartbeats 400000000
set_option maxRecDepth 100000
theorem Ss (a b : aB) : decide (Nx a b = 0) = oR a b := by
 rw [Bool.eq_iff_iff, decide_eq_true_eq, hP];unfold Nx Be
 repeat' split
 all_goals omega
theorem Rp (a b : aB) : aF Tryz.prog Dc 102 [evA a, evA b] [] (bS (oR a b)) [] := by
 have h := dD a b;refine aA Ax aD Tryz.func102 (c := _) rfl Tryz.call102 100 ?_
 (repeat' ((conv => whnf); first | refine x0C (eB ?_ rfl) | refine cpC (h) ?_))
 all_goals exact Ss a b
theorem At (x : aB) : ∀ (l : List aB) (p : Option aB), Bg p (l ++ [x]) = Bg p l ++ (if (((l.getLast?.or p).map (oR x)).getD false) then [] else [x])
 | [], p => by
  show Bg p [x] = _;rw [Bg];simp only [Bg, List.getLast?_nil, Option.none_or, List.nil_append];congr
 | a :: l, p => by
  rw [List.cons_append, Bg, Bg, At x l (some a)];have e : (l.getLast?.or (some a)) = ((a :: l).getLast?.or p) := by
   cases l with
   | nil => rfl
   | cons b l => rw [List.getLast?_cons_cons]; cases h : (b :: l).getLast? with
    | none => simp at h
    | some y => rfl
  rw [e];split
  ·rfl
  ·rfl
def oQ (D : List aB) (i : Nat) : List aB := I0 (D.take i)
theorem Lq {D : List aB} (h : 0 < D.length) : oQ D 1 = D.take 1 := by
 match D, h with
 | a :: l, _ => rfl
theorem vL {D : List aB} {i : Nat} (h0 : 0 < i) (h : i < D.length) : oQ D (i + 1) = if oR (D.getD i dE) (D.getD (i - 1) dE) then oQ D i else oQ D i ++ [D.getD i dE] := by
 unfold oQ I0;rw [kF h, At];have hl : (D.take i).getLast? = some (D.getD (i - 1) dE) := by
  rw [show i = i - 1 + 1 by omega, kF (l := D) (k := i - 1) (by omega)];simp
 rw [hl];show (Bg none (D.take i) ++ if oR (D.getD i dE) (D.getD (i - 1) dE) = true then [] else [D.getD i dE]) = _;split <;> simp
theorem nX (D : List aB) : oQ D D.length = I0 D := by unfold oQ; rw [List.take_length]
theorem lO (D : List aB) : ∀ i, (oQ D i).length ≤ i
 | 0 => by simp [oQ, I0, Bg]
 | i + 1 => by
  have ih := lO D i;rcases Nat.lt_or_ge i D.length with h | h
  ·rcases Nat.eq_zero_or_pos i with rfl | h0
   ·rw [Lq (by omega)]; simp; omega
   ·rw [vL h0 h];split
    ·omega
    ·simp; omega
  ·have : oQ D (i + 1) = oQ D i := by unfold oQ; rw [List.take_of_length_le (by omega), List.take_of_length_le (by omega)]
   rw [this]; omega
def pL (D : List aB) (i : Nat) : List aB := oQ D i ++ D.drop (oQ D i).length
theorem Cm (D : List aB) {i : Nat} (h : i ≤ D.length) : (pL D i).length = D.length := by
 have := lO D i;unfold pL;simp only [List.length_append, List.length_drop]; omega
theorem Dz (D : List aB) {i j : Nat} (h : (oQ D i).length ≤ j) (hi : i ≤ D.length) : (pL D i).getD j dE = D.getD j dE := by
 have := lO D i;unfold pL;simp only [List.getD_eq_getElem?_getD];rw [List.getElem?_append_right h, List.getElem?_drop];congr 2; omega
theorem Oo {D : List aB} {i : Nat} (h0 : 0 < i) (h : i < D.length) (hk : oR (D.getD i dE) (D.getD (i - 1) dE) = false) : (pL D i).set (oQ D i).length (D.getD i dE) = pL D (i + 1) ∧ (oQ D (i + 1)).length = (oQ D i).length + 1 := by
 have hl := lO D i;have e := vL h0 h;rw [hk] at e;simp only [Bool.false_eq_true, if_false] at e;refine ⟨?_, by rw [e]; simp⟩;unfold pL;rw [e];generalize D.getD i dE = v at *;have e2 : (D.drop (oQ D i).length).set 0 v = v :: D.drop ((oQ D i).length + 1) := by
  rw [List.drop_eq_getElem_cons (show (oQ D i).length < D.length by omega)]; rfl
 rw [List.set_append_right _ _ (Nat.le_refl _), Nat.sub_self, e2];simp
theorem Q6 {D : List aB} {i : Nat} (h0 : 0 < i) (h : i < D.length) (hk : oR (D.getD i dE) (D.getD (i - 1) dE) = true) : oQ D (i + 1) = oQ D i ∧ pL D (i + 1) = pL D i := by
 have e := vL h0 h;rw [hk] at e;simp only [if_true] at e;exact ⟨e, by unfold pL; rw [e]⟩
theorem Hx (D : List aB) : jB (pL D D.length) (List.replicate (D.length - (I0 D).length) dE) (I0 D).length (D.length - (I0 D).length) = I0 D ++ List.replicate (D.length - (I0 D).length) dE := by
 have hk := lO D D.length;have hl := Cm D (Nat.le_refl D.length);rw [nX] at hk;unfold jB;rw [List.take_of_length_le (l := List.replicate _ _) (by simp)];have h1 : (pL D D.length).take (I0 D).length = I0 D := by
  unfold pL;rw [nX, List.take_left'];rfl
 rw [h1, List.drop_of_length_le (by simp; omega), List.append_nil]
theorem zG (D : List aB) (hD : D.length ≤ 1000000) : aF Tryz.prog Dc 101 [.slice 0 0 7 0 D.length, .fn (.func 102) [] []] [.rows U.event D] (.slice 0 0 7 0 (I0 D).length) [.rows U.event (I0 D ++ List.replicate (D.length - (I0 D).length) dE)] := by
 have hdl := lO D D.length;rw [nX] at hdl;rcases Nat.lt_or_ge D.length 2 with h2 | h2
 ·have he : I0 D = D := by
   match D, h2 with
   | [], _ => rfl
   | [a], _ => rfl
   | a :: b :: l, h => simp at h; omega
  rw [he, Nat.sub_self, List.replicate_zero, List.append_nil];refine aA Ax aD Tryz.func101 (c := _) rfl Tryz.call101 400 ?_
  (repeat' ((conv => whnf); first | (exfalso; omega) | exact enC [some 0] | refine spC (fun hb => ?_) fun hb => ?_))
 ·refine aA Ax aD Tryz.func101 (c := _) rfl Tryz.call101 400 ?_
  (repeat' ((conv => whnf); first | (exfalso; omega) | refine spC (fun hb => ?_) fun hb => ?_))
  refine aT [some 0] (fun k : Int => [(5, iS k)]) (fun _ => []) (fun q => ∃ k : Nat, q = k ∧ 1 ≤ k ∧ k ≤ D.length ∧ oQ D k = D.take k) (fun q => (D.length - q).toNat) 1 ⟨1, rfl, by omega, by omega, Lq (by omega)⟩ (by exact bkI) ?_;rintro x ⟨k, rfl, hk1, hk2, hk3⟩ K hK;dsimp only at hK ⊢;rcases Nat.lt_or_ge k D.length with hlt | hge
  ·have hm := Rp (D.getD (0 + (k : Int).toNat) (Cd.dflt U.event)) (D.getD (0 + ((k : Int) - 1).toNat) (Cd.dflt U.event));have e1 : 0 + (k : Int).toNat = k := by omega
   have e2 : 0 + ((k : Int) - 1).toNat = k - 1 := by omega
   cases hB : oR (D.getD (0 + (k : Int).toNat) (Cd.dflt U.event)) (D.getD (0 + ((k : Int) - 1).toNat) (Cd.dflt U.event)) with
   | false =>
    rw [hB] at hm;rw [e1, e2] at hB;have hn := vL (D := D) (i := k) (by omega) hlt;rw [if_neg (by rw [show oR (D.getD k dE) (D.getD (k - 1) dE) = false from hB]; simp), hk3, ← kF hlt] at hn
    (repeat' ((conv => whnf); first | (exfalso; omega) | refine dpC (hm) ?_ | refine hK ((k : Int) + 1) [some 0] _ _ ⟨⟨k + 1, by omega, by omega, by omega, hn⟩⟩ ⟨by omega⟩ (by exact bkI) | refine spC (fun hb => ?_) fun hb => ?_ | refine taC ?_ | refine saC ?_ | refine aE mixed ?_))
   | true =>
    rw [hB] at hm;rw [e1, e2] at hB
    (repeat' ((conv => whnf); first | (exfalso; omega) | refine dpC (hm) ?_ | refine spC (fun hb => ?_) fun hb => ?_ | refine taC ?_ | refine saC ?_ | refine aE mixed ?_))
    obtain ⟨d1, d2⟩ := Q6 (D := D) (i := k) (by omega) hlt hB;have d3 : pL D k = D := by
     unfold pL;rw [hk3, List.length_take, Nat.min_eq_left (by omega), List.take_append_drop]
    have d4 : (oQ D (k + 1)).length = k := by rw [d1, hk3, List.length_take]; omega
    refine aT [some 0] (fun q : Int × Int × List aB => [(5, iS q.1), (7, iS q.2.1)]) (fun q => [(0, .rows U.event q.2.2)]) (fun q => ∃ i : Nat, q.1 = (oQ D i).length ∧ (k : Int) + q.2.1 = i ∧ k + 1 ≤ i ∧ i ≤ D.length ∧ q.2.2 = pL D i ∧ (oQ D i).length < i) (fun q => (D.length - (k + q.2.1)).toNat) ((k : Int), 1, D) ⟨k + 1, by dsimp only; omega, by dsimp only; omega, by omega, by omega, by rw [d2, d3], by omega⟩ (by exact bkI) ?_;rintro ⟨x, y, J⟩ ⟨i, hx, hy, hi1, hi2, hJ, hlt2⟩ K2 hK2;dsimp only at hx hy hJ hK2 ⊢;subst hx;have hJl : J.length = D.length := by rw [hJ]; exact Cm D hi2
    rcases Nat.lt_or_ge i D.length with hil | hig
    ·have w1 : 0 + (k : Int).toNat + y.toNat = i := by omega
     have w2 : 0 + (k : Int).toNat + (y - 1).toNat = i - 1 := by omega
     have g1 : J.getD (0 + (k : Int).toNat + y.toNat) (Cd.dflt U.event) = D.getD i dE := by rw [w1, hJ]; exact Dz D (by omega) hi2
     have g2 : J.getD (0 + (k : Int).toNat + (y - 1).toNat) (Cd.dflt U.event) = D.getD (i - 1) dE := by rw [w2, hJ]; exact Dz D (by omega) hi2
     have hm := Rp (J.getD (0 + (k : Int).toNat + y.toNat) (Cd.dflt U.event)) (J.getD (0 + (k : Int).toNat + (y - 1).toNat) (Cd.dflt U.event));cases hC : oR (J.getD (0 + (k : Int).toNat + y.toNat) (Cd.dflt U.event)) (J.getD (0 + (k : Int).toNat + (y - 1).toNat) (Cd.dflt U.event)) with
     | true =>
      rw [hC] at hm;rw [g1, g2] at hC;obtain ⟨e1, e2⟩ := Q6 (D := D) (i := i) (by omega) hil hC
      (repeat' ((conv => whnf); first | (exfalso; omega) | refine dpC (hm) ?_ | refine hK2 (((oQ D i).length : Nat), y + 1, J) [some 0] _ _ ⟨⟨i + 1, by dsimp only; rw [e1], by dsimp only; omega, by omega, by omega, by dsimp only; rw [e2]; exact hJ, by rw [e1]; omega⟩⟩ ⟨by dsimp only; omega⟩ (by exact bkI) | refine spC (fun hb => ?_) fun hb => ?_ | refine taC ?_ | refine saC ?_ | refine aE mixed ?_))
     | false =>
      rw [hC] at hm;rw [g1, g2] at hC;obtain ⟨e1, e2⟩ := Oo (D := D) (i := i) (by omega) hil hC;have e3 : J.set (0 + (((oQ D i).length : Nat) : Int).toNat) (J.getD (0 + (k : Int).toNat + y.toNat) (Cd.dflt U.event)) = pL D (i + 1) := by
       rw [← e1, ← hJ, ← g1, show 0 + (((oQ D i).length : Nat) : Int).toNat = (oQ D i).length by omega]
      (repeat' ((conv => whnf); first | (exfalso; omega) | refine dpC (hm) ?_ | refine hK2 (((oQ D i).length : Nat) + 1, y + 1, J.set (0 + (((oQ D i).length : Nat) : Int).toNat) (J.getD (0 + (k : Int).toNat + y.toNat) (Cd.dflt U.event))) [some 0] _ _ ⟨⟨i + 1, by dsimp only; omega, by dsimp only; omega, by omega, by omega, e3, by omega⟩⟩ ⟨by dsimp only; omega⟩ (by exact bkI) | refine spC (fun hb => ?_) fun hb => ?_ | refine taC ?_ | refine saC ?_ | refine aE mixed ?_))
    ·obtain rfl : i = D.length := by omega
     have hdn := nX D;have e4 : jB J (List.replicate (((D.length : Nat) : Int).toNat - (((oQ D D.length).length : Nat) : Int).toNat) (Cd.dflt U.event)) (0 + (((oQ D D.length).length : Nat) : Int).toNat) (((D.length : Nat) : Int).toNat - (((oQ D D.length).length : Nat) : Int).toNat) = I0 D ++ List.replicate (D.length - (I0 D).length) dE := by
      rw [Nat.zero_add, Int.toNat_natCast, Int.toNat_natCast, hdn, hJ];exact Hx D
     rw [← e4, ← hdn]
     (repeat' ((conv => whnf); first | (exfalso; omega) | exact enC [some 0] | refine spC (fun hb => ?_) fun hb => ?_ | refine saC ?_))
  ·have he : I0 D = D := by rw [← nX]; rw [show k = D.length by omega, List.take_length] at hk3; exact hk3
   rw [he, Nat.sub_self, List.replicate_zero, List.append_nil]
   (repeat' ((conv => whnf); first | (exfalso; omega) | exact enC [some 0] | refine spC (fun hb => ?_) fun hb => ?_))
theorem q2d : aF Tryz.prog Dc 141 [.p (.lit (.slice none 0 0)), iS 0] [] (.p (.lit (.slice none 0 0))) [] := by
 refine aA Ax aD Tryz.func141 (c := _) rfl Tryz.call141 200 ?_
 (repeat' ((conv => whnf); first | refine x0C ?_ | refine saC ?_))
 all_goals exact vwV
theorem q4o (L : List Evs) (hL : (L.length : Int) ≤ 1000) (hp : (iX L).length = 0) : aF Tryz.prog Dc 99 [.p (.dsl U.evs L)] [] (.slice 0 0 7 0 (iX L).length) [.rows U.event (iX L)] := by
 have hg := q2d;have hz : ∀ i : Nat, Ph L i = 0 := fun i => by
  have := sY L i;unfold Ph; omega
 refine aA Ax aD Tryz.func99 (c := _) rfl Tryz.call99 300 ?_
 (repeat' ((conv => whnf); first | fail))
 refine aT [] (fun q : Int × Nat => [(3, iS q.1), (11, iS q.2)]) (fun q => []) (fun q => q.1 = 0 ∧ q.2 ≤ L.length) (fun q => L.length - q.2) (0, 0) ⟨rfl, Nat.zero_le _⟩ (by exact bkI) ?_;rintro ⟨z, i⟩ ⟨hz0, hi⟩ K hK;dsimp only at hz0 hi hK ⊢;subst hz0;rcases Nat.lt_or_ge i L.length with hlt | hge
 ·have h1 := Fl hlt;rw [hz, hz] at h1;have h1' : (0 : Int) + ((L.getD (i : Int).toNat (Cd.dflt U.evs)).l.length : Nat) = 0 := h1.symm
  (repeat' ((conv => whnf); first | (exfalso; omega) | refine hK (0 + ((L.getD (i : Int).toNat (Cd.dflt U.evs)).l.length : Nat), i + 1) [] _ _ ⟨⟨h1', by dsimp only; omega⟩⟩ ⟨by dsimp only; omega⟩ (by exact bkI) | refine spC (fun hb => ?_) fun hb => ?_ | refine saC ?_))
 ·(repeat' ((conv => whnf); first | (exfalso; omega) | refine cpC (hg) ?_ | refine spC (fun hb => ?_) fun hb => ?_))
  refine aT [none] (fun q : Nat × List aB => [(6, .slice 0 0 7 0 q.2.length), (24, .any), (27, iS q.1)]) (fun q => [(0, .rows U.event q.2)]) (fun q => q.1 ≤ L.length ∧ q.2 = iX (L.take q.1)) (fun q => L.length - q.1) (0, []) ⟨Nat.zero_le _, rfl⟩ (by exact bkI) ?_;rintro ⟨k, J⟩ ⟨hk, hJ⟩ K2 hK2;dsimp only at hk hJ hK2 ⊢;have hJl := sY L k;rw [← hJ] at hJl;rcases Nat.lt_or_ge k L.length with hlt | hge
  ·have hst := G2 hlt;have hle := sY L (k + 1);rw [hst, List.length_append, ← hJ] at hle;rw [← hJ] at hst;have hle' : J.length + (L.getD (k : Int).toNat (Cd.dflt U.evs)).l.length ≤ (iX L).length := hle;have hW : List.take J.length J ++ (L.getD (k : Int).toNat (Cd.dflt U.evs)).l = iX (L.take (k + 1)) := by rw [hst, List.take_length]; rfl
   (repeat' ((conv => whnf); first | (exfalso; omega) | refine hK2 (k + 1, List.take J.length J ++ (L.getD (k : Int).toNat (Cd.dflt U.evs)).l) [some 1] _ _ ⟨⟨by dsimp only; omega, hW⟩⟩ ⟨by dsimp only; omega⟩ (by exact bkI) | refine spC (fun hb => ?_) fun hb => ?_ | refine saC ?_ | refine cW ?_ ?_))
   exact ⟨⟨⟨rfl, trivial⟩, Nat.le_refl _, rfl, rfl, (by show (J.length + (L.getD (k : Int).toNat (Cd.dflt U.evs)).l.length) * 72 ≤ _; omega), by omega, (fun h => by cases h), by omega⟩⟩
  ·have he : iX L = J := by rw [hJ, show k = L.length by omega, List.take_length]
   rw [he]
   (repeat' ((conv => whnf); first | (exfalso; omega) | exact enC [some 0] | refine spC (fun hb => ?_) fun hb => ?_))
theorem Ui (L : List Evs) (hL : (L.length : Int) ≤ 1000) (hl : (iX L).length ≤ 1000000) : aF Tryz.prog Dc 63 [.p (.dsl U.evs L)] [] (eS (aY (iX L))) [] := by
 have h1 : aF Tryz.prog Dc 99 [.p (.dsl U.evs L)] [] (.slice 0 0 7 0 (iX L).length) [.rows U.event (iX L)] := by
  rcases Nat.eq_zero_or_pos (iX L).length with h | h
  ·exact q4o L hL h
  ·exact q80 L hL h hl
 have h2 := L8 (iX L) hl;have h3 := zG (aV (iX L)) (by rw [bA]; exact hl);have hm : I0 (aV (iX L)) = aY (iX L) := rfl;have hml : (aY (iX L)).length ≤ (iX L).length := by
  have := lO (aV (iX L)) (aV (iX L)).length;rw [nX, bA] at this;exact this
 rw [hm, bA] at h3;generalize aY (iX L) = M at *;generalize aV (iX L) = I at *;generalize iX L = C at *;refine aA Ax aD Tryz.func63 (c := _) rfl Tryz.call63 200 ?_
 (repeat' ((conv => whnf); first | refine chC [] h1 ?_ | refine chC [some 0] h2 ?_ | refine chC [some 0] h3 ?_ | refine x0C ?_))
 all_goals exact vwV
theorem q44 (n : Nat) (h : n = 0) : aF Tryz.prog Dc 141 [.p (.lit (.slice none 0 0)), iS n] [] (.p (.lit (.slice none 0 0))) [] := by subst h; exact q2d
theorem q09 (a b : List aB) (hp : 0 < (a ++ b).length) (hl : (a ++ b).length ≤ 1000000) : aF Tryz.prog Dc 99 [.slice 0 0 1 0 2] [.vart none [eS a, .slice 1 0 7 0 b.length], .rows U.event b] (.slice 2 0 7 0 (a ++ b).length) ([.vart none [eS a, .slice 1 0 7 0 b.length], .rows U.event b] ++ [.rows U.event (a ++ b)]) := by
 have hg := q82 (a ++ b).length hp hl;obtain ⟨M, hM⟩ : ∃ M, M = a ++ b := ⟨_, rfl⟩;obtain ⟨n, hn⟩ : ∃ n, n = (a ++ b).length := ⟨_, rfl⟩;have hn' : (n : Int) = a.length + b.length := by rw [hn, List.length_append]; omega
 rw [← hn] at hl hp;rw [← hn] at hg;have hMl : M.length = n := by rw [hM, hn]
 rw [← hM, hMl];refine aA Ax aD Tryz.func99 (c := _) rfl Tryz.call99 300 ?_
 (repeat' ((conv => whnf); first | fail))
 refine aT [some 0, some 1] (fun q : Nat × Int => [(3, iS q.2), (11, iS q.1)]) (fun q => []) (fun q => (q.1 = 0 ∧ q.2 = 0) ∨ (q.1 = 1 ∧ q.2 = a.length) ∨ (q.1 = 2 ∧ q.2 = n)) (fun q => 2 - q.1) (0, 0) (.inl ⟨rfl, rfl⟩) (by exact bkI) ?_;rintro ⟨i, z⟩ hq K hK;dsimp only at hq hK ⊢;rcases hq with ⟨rfl, rfl⟩ | ⟨rfl, rfl⟩ | ⟨rfl, rfl⟩
 ·(repeat' ((conv => whnf); first | refine hK (1, 0 + (a.length : Int)) [some 0, some 1] _ _ ⟨.inr (.inl ⟨rfl, by dsimp only; omega⟩)⟩ ⟨by dsimp only; omega⟩ (by exact bkI) | refine saC ?_))
 ·(repeat' ((conv => whnf); first | refine hK (2, (a.length : Int) + b.length) [some 0, some 1] _ _ ⟨.inr (.inr ⟨rfl, by dsimp only; omega⟩)⟩ ⟨by dsimp only; omega⟩ (by exact bkI) | refine saC ?_))
 ·(repeat' ((conv => whnf); first | refine chC [] hg ?_))
  refine aT [some 0, some 1, some 2] (fun q : Nat × List aB => [(6, .slice 2 0 7 0 q.2.length), (24, .any), (27, iS q.1)]) (fun q => [(2, .rows U.event q.2)]) (fun q => (q.1 = 0 ∧ q.2 = []) ∨ (q.1 = 1 ∧ q.2 = a) ∨ (q.1 = 2 ∧ q.2 = a ++ b)) (fun q => 2 - q.1) (0, []) (.inl ⟨rfl, rfl⟩) (by exact bkI) ?_;rintro ⟨k, J⟩ hq K2 hK2;dsimp only at hq hK2 ⊢;have hJl : J.length ≤ n := by
   rcases hq with ⟨_, h⟩ | ⟨_, h⟩ | ⟨_, h⟩
   ·rw [h]; exact Nat.zero_le _
   ·rw [h]; omega
   ·rw [h]; exact Nat.le_of_eq hn.symm
  rcases hq with ⟨rfl, hJ⟩ | ⟨rfl, hJ⟩ | ⟨rfl, hJ⟩
  ·have hJ0 : J.length = 0 := by rw [hJ]; rfl
   have hW : List.take J.length J ++ a = a := by rw [hJ0]; simp
   (repeat' ((conv => whnf); first | refine hK2 (1, List.take J.length J ++ a) [some 0, some 1, some 3] _ _ ⟨.inr (.inl ⟨rfl, hW⟩)⟩ ⟨by dsimp only; omega⟩ (by exact bkI) | refine saC ?_))
  ·have hJa : J.length = a.length := by rw [hJ]
   have hW : List.take J.length J ++ List.take b.length (List.drop 0 b) = a ++ b := by rw [hJ]; simp
   (repeat' ((conv => whnf); first | refine hK2 (2, List.take J.length J ++ List.take b.length (List.drop 0 b)) [some 0, some 1, some 3] _ _ ⟨.inr (.inr ⟨rfl, hW⟩)⟩ ⟨by dsimp only; omega⟩ (by exact bkI) | refine saC ?_))
  ·have hJa : J.length = n := by rw [hJ, hn]
   have hJM : M = J := by rw [hM, hJ]
   rw [hJM, ← hJa]
   (repeat' ((conv => whnf); first | exact enC [some 0, some 1, some 2]))
theorem Yi (a b : List aB) (hp : (a ++ b).length = 0) (hl : (a ++ b).length ≤ 1000000) : aF Tryz.prog Dc 99 [.slice 0 0 1 0 2] [.vart none [eS a, .slice 1 0 7 0 b.length], .rows U.event b] (.slice 2 0 7 0 (a ++ b).length) ([.vart none [eS a, .slice 1 0 7 0 b.length], .rows U.event b] ++ [.rows U.event (a ++ b)]) := by
 have hg := q44 (a ++ b).length hp;obtain ⟨M, hM⟩ : ∃ M, M = a ++ b := ⟨_, rfl⟩;obtain ⟨n, hn⟩ : ∃ n, n = (a ++ b).length := ⟨_, rfl⟩;have hn' : (n : Int) = a.length + b.length := by rw [hn, List.length_append]; omega
 rw [← hn] at hl hp;rw [← hn] at hg;have hMl : M.length = n := by rw [hM, hn]
 rw [← hM, hMl];refine aA Ax aD Tryz.func99 (c := _) rfl Tryz.call99 300 ?_
 (repeat' ((conv => whnf); first | fail))
 refine aT [some 0, some 1] (fun q : Nat × Int => [(3, iS q.2), (11, iS q.1)]) (fun q => []) (fun q => (q.1 = 0 ∧ q.2 = 0) ∨ (q.1 = 1 ∧ q.2 = a.length) ∨ (q.1 = 2 ∧ q.2 = n)) (fun q => 2 - q.1) (0, 0) (.inl ⟨rfl, rfl⟩) (by exact bkI) ?_;rintro ⟨i, z⟩ hq K hK;dsimp only at hq hK ⊢;rcases hq with ⟨rfl, rfl⟩ | ⟨rfl, rfl⟩ | ⟨rfl, rfl⟩
 ·(repeat' ((conv => whnf); first | refine hK (1, 0 + (a.length : Int)) [some 0, some 1] _ _ ⟨.inr (.inl ⟨rfl, by dsimp only; omega⟩)⟩ ⟨by dsimp only; omega⟩ (by exact bkI) | refine saC ?_))
 ·(repeat' ((conv => whnf); first | refine hK (2, (a.length : Int) + b.length) [some 0, some 1] _ _ ⟨.inr (.inr ⟨rfl, by dsimp only; omega⟩)⟩ ⟨by dsimp only; omega⟩ (by exact bkI) | refine saC ?_))
 ·(repeat' ((conv => whnf); first | refine cpC (hg) ?_))
  refine aT [some 0, some 1, none] (fun q : Nat × List aB => [(6, .slice 2 0 7 0 q.2.length), (24, .any), (27, iS q.1)]) (fun q => [(2, .rows U.event q.2)]) (fun q => (q.1 = 0 ∧ q.2 = []) ∨ (q.1 = 1 ∧ q.2 = a) ∨ (q.1 = 2 ∧ q.2 = a ++ b)) (fun q => 2 - q.1) (0, []) (.inl ⟨rfl, rfl⟩) (by exact bkI) ?_;rintro ⟨k, J⟩ hq K2 hK2;dsimp only at hq hK2 ⊢;have hJl : J.length ≤ n := by
   rcases hq with ⟨_, h⟩ | ⟨_, h⟩ | ⟨_, h⟩
   ·rw [h]; exact Nat.zero_le _
   ·rw [h]; omega
   ·rw [h]; exact Nat.le_of_eq hn.symm
  rcases hq with ⟨rfl, hJ⟩ | ⟨rfl, hJ⟩ | ⟨rfl, hJ⟩
  ·have hJ0 : J.length = 0 := by rw [hJ]; rfl
   have hW : List.take J.length J ++ a = a := by rw [hJ0]; simp
   (repeat' ((conv => whnf); first | refine hK2 (1, List.take J.length J ++ a) [some 0, some 1, some 3] _ _ ⟨.inr (.inl ⟨rfl, hW⟩)⟩ ⟨by dsimp only; omega⟩ (by exact bkI) | refine saC ?_))
  ·have hJa : J.length = a.length := by rw [hJ]
   have hW : List.take J.length J ++ List.take b.length (List.drop 0 b) = a ++ b := by rw [hJ]; simp
   (repeat' ((conv => whnf); first | refine hK2 (2, List.take J.length J ++ List.take b.length (List.drop 0 b)) [some 0, some 1, some 3] _ _ ⟨.inr (.inr ⟨rfl, hW⟩)⟩ ⟨by dsimp only; omega⟩ (by exact bkI) | refine saC ?_))
  ·have hJa : J.length = n := by rw [hJ, hn]
   have hJM : M = J := by rw [hM, hJ]
   rw [hJM, ← hJa]
   (repeat' ((conv => whnf); first | exact enC [some 0, some 1, some 2]))
theorem q5e (a b : List aB) (hl : (a ++ b).length ≤ 1000000) : aF Tryz.prog Dc 63 [.slice 0 0 1 0 2] [.vart none [eS a, .slice 1 0 7 0 b.length], .rows U.event b] (eS (aY (a ++ b))) [.vart none [eS a, .slice 1 0 7 0 b.length], .rows U.event b] := by
 have h1 : aF Tryz.prog Dc 99 [.slice 0 0 1 0 2] [.vart none [eS a, .slice 1 0 7 0 b.length], .rows U.event b] (.slice 2 0 7 0 (a ++ b).length) ([.vart none [eS a, .slice 1 0 7 0 b.length], .rows U.event b] ++ [.rows U.event (a ++ b)]) := by
  rcases Nat.eq_zero_or_pos (a ++ b).length with h | h
  ·exact Yi a b h hl
  ·exact q09 a b h hl
 have h2 := L8 (a ++ b) hl;have h3 := zG (aV (a ++ b)) (by rw [bA]; exact hl);have hm : I0 (aV (a ++ b)) = aY (a ++ b) := rfl;have hml : (aY (a ++ b)).length ≤ (a ++ b).length := by
  have := lO (aV (a ++ b)) (aV (a ++ b)).length;rw [nX, bA] at this;exact this
 rw [hm, bA] at h3;generalize aY (a ++ b) = M at *;generalize aV (a ++ b) = I at *;generalize a ++ b = C at *;refine aA Ax aD Tryz.func63 (c := _) rfl Tryz.call63 200 ?_
 (repeat' ((conv => whnf); first | (refine xW [some 0, some 1] h1 rfl rfl (by exact ⟨rfl, rfl, trivial⟩) ?_) | refine chC [some 2] h2 ?_ | refine chC [some 2] h3 ?_ | (refine aZ [some 0, some 1] (.inr rfl) ?_ ?_ rfl rfl; (focus exact vwV); exact hsV)))
theorem q5v {l : List aB} {i k : Nat} {e d : aB} (hk : k < i) (h : l[k]? = some d) (h1 : d.kind = 1) (h2 : e.image = d.image) : I9 (l.take i) e = true := by
 unfold I9;rw [List.any_eq_true];refine ⟨d, ?_, by simp [h1, h2]⟩;rw [List.mem_iff_getElem?];exact ⟨k, by rw [List.getElem?_take, if_pos hk]; exact h⟩
theorem Zm {l : List aB} {k : Nat} {e d : aB} (h : l[k]? = some d) (h0 : I9 (l.take k) e = false) (h1 : ¬ d.kind = 1 ∨ ¬ e.image = d.image) : I9 (l.take (k + 1)) e = false := by
 unfold I9 at *;rw [List.take_add_one, h, List.any_append, h0, Bool.false_or];rcases h1 with h1 | h1
 ·simp [h1]
 ·simp [Ne.symm h1]
theorem q07 (l : List aB) (hl : (l.length : Int) ≤ 9223372036854775807) (hE : ∀ e ∈ l, oS e) : aF Tryz.prog Dc 73 [eS l] [] (bS (K9 l)) [] := by
 refine aA Ax aD Tryz.func73 (c := _) rfl Tryz.call73 400 ?_
 (repeat' ((conv => whnf); first | fail))
 refine bP (fun i : Nat => [(3, iS i)]) (fun i => []) (fun i => i ≤ l.length ∧ ∀ j, j < i → vN l j = true) (fun i => l.length - i) 0 ⟨Nat.zero_le _, by omega⟩ (by exact bkV) ?_;rintro i ⟨hi, hall⟩ K hK;rcases Nat.lt_or_ge i l.length with hlt | hge
 ·have hg := getD_some (d := Cd.dflt U.event) hlt;have hstep : vN l i = true → ∀ j, j < i + 1 → vN l j = true := fun h j hj => by
   rcases Nat.lt_or_ge j i with h1 | h1
   ·exact hall j h1
   ·rw [show j = i by omega]; exact h
  have hok : vN l i = (fI (l.getD (i : Int).toNat (Cd.dflt U.event)) && (decide (i = 0) || eN (l.getD ((i : Int) - 1).toNat (Cd.dflt U.event)) (l.getD (i : Int).toNat (Cd.dflt U.event))) && !(decide ((l.getD (i : Int).toNat (Cd.dflt U.event)).kind = 1) && I9 (l.take i) (l.getD (i : Int).toNat (Cd.dflt U.event)))) := by
   unfold vN evt;rw [show ((i : Int) - 1).toNat = i - 1 by omega]; rfl
  have hf := q47 _ (hE _ (List.mem_of_getElem? hg));have hc := pY (l.getD ((i : Int) - 1).toNat (Cd.dflt U.event)) (l.getD (i : Int).toNat (Cd.dflt U.event));have hbad := Qz hlt;have b1 : fI (l.getD (i : Int).toNat (Cd.dflt U.event)) = false → vN l i = false := fun h => by rw [hok, h]; rfl
  have b2 : 0 < (i : Int) → eN (l.getD ((i : Int) - 1).toNat (Cd.dflt U.event)) (l.getD (i : Int).toNat (Cd.dflt U.event)) = false → vN l i = false := fun h1 h2 => by
   rw [hok, decide_eq_false (show ¬ i = 0 by omega), h2, Bool.or_false, Bool.and_false, Bool.false_and]
  have b3 : (l.getD (i : Int).toNat (Cd.dflt U.event)).kind = 1 → I9 (l.take i) (l.getD (i : Int).toNat (Cd.dflt U.event)) = true → vN l i = false := fun h1 h2 => by
   rw [hok, decide_eq_true h1, h2]; exact Bool.and_false _
  have b4 : fI (l.getD (i : Int).toNat (Cd.dflt U.event)) = true → (¬ 0 < (i : Int) ∨ eN (l.getD ((i : Int) - 1).toNat (Cd.dflt U.event)) (l.getD (i : Int).toNat (Cd.dflt U.event)) = true) → (¬ (l.getD (i : Int).toNat (Cd.dflt U.event)).kind = 1 ∨ I9 (l.take i) (l.getD (i : Int).toNat (Cd.dflt U.event)) = false) → vN l i = true := fun h1 h2 h3 => by
   rw [hok, h1, Bool.true_and];have e1 : (decide (i = 0) || eN (l.getD ((i : Int) - 1).toNat (Cd.dflt U.event)) (l.getD (i : Int).toNat (Cd.dflt U.event))) = true := by
    rcases h2 with h2 | h2
    ·rw [decide_eq_true (show i = 0 by omega)]; rfl
    ·rw [h2, Bool.or_true]
   rw [e1, Bool.true_and];rcases h3 with h3 | h3
   ·rw [decide_eq_false h3]; rfl
   ·rw [h3, Bool.and_false]; rfl
  (repeat' ((conv => whnf); first | refine x0C (eB ?_ rfl) | (exfalso; omega) | refine dpC (hf) ?_ | refine dpC (hc) ?_ | refine spC (fun hb => ?_) fun hb => ?_ | refine taC ?_ | refine saC ?_ | refine aE mixed ?_))
  all_goals first | exact (hbad (b1 (by assumption))).symm | exact (hbad (b2 (by assumption) (by assumption))).symm | skip
  all_goals (
   have hq : ¬ 0 < (i : Int) ∨ eN (l.getD ((i : Int) - 1).toNat (Cd.dflt U.event)) (l.getD (i : Int).toNat (Cd.dflt U.event)) = true := by first | exact .inl (by assumption) | exact .inr (by assumption)
   refine bP (fun k : Nat => [(4, iS k)]) (fun k => []) (fun k => k ≤ i ∧ (¬ (l.getD (i : Int).toNat (Cd.dflt U.event)).kind = 1 ∨ I9 (l.take k) (l.getD (i : Int).toNat (Cd.dflt U.event)) = false)) (fun k => i - k) 0 ⟨Nat.zero_le _, .inr (by simp [I9])⟩ (by exact bkV) ?_;rintro k ⟨hk, hd⟩ K' hK';rcases Nat.lt_or_ge k i with hkl | hkg
   ·have hgk := getD_some (d := Cd.dflt U.event) (show k < l.length by omega);have hda := fun h1 h2 => q5v (e := l.getD (i : Int).toNat (Cd.dflt U.event)) hkl hgk h1 h2;have hds := fun h0 h1 => Zm (e := l.getD (i : Int).toNat (Cd.dflt U.event)) hgk h0 h1
    by_cases hk1 : (l.getD (i : Int).toNat (Cd.dflt U.event)).kind = 1
    ·have hd' := hd.resolve_left (fun h => h hk1)
     (repeat' ((conv => whnf); first | refine x0C (eB ?_ rfl) | (exfalso; omega) | refine hK' (k + 1) [] _ _ ⟨⟨by omega, .inr (hds hd' (by first | exact .inl (by assumption) | exact .inr (by assumption)))⟩⟩ ⟨by omega⟩ (by exact bkV) | refine spC (fun hb => ?_) fun hb => ?_ | refine taC ?_ | refine saC ?_ | refine aE mixed ?_))
     all_goals exact (hbad (b3 hk1 (hda (by assumption) (by assumption)))).symm
    ·(repeat' ((conv => whnf); first | (exfalso; omega) | refine hK' (k + 1) [] _ _ ⟨⟨by omega, .inl hk1⟩⟩ ⟨by omega⟩ (by exact bkV) | refine spC (fun hb => ?_) fun hb => ?_ | refine taC ?_ | refine saC ?_ | refine aE mixed ?_))
   ·obtain rfl : k = i := by omega
    (repeat' ((conv => whnf); first | (exfalso; omega) | refine hK (k + 1) [] _ _ ⟨⟨by omega, hstep (b4 (by assumption) hq hd)⟩⟩ ⟨by omega⟩ (by exact bkV) | refine spC (fun hb => ?_) fun hb => ?_ | refine saC ?_)))
 ·rw [Jm i hi hall (by omega)]
  (repeat' ((conv => whnf); first | refine x0C (eB ?_ rfl) | (exfalso; omega) | refine spC (fun hb => ?_) fun hb => ?_))
  all_goals rfl
theorem G0 (l : List aB) (hl : (l.length : Int) ≤ 9223372036854775807) (hE : ∀ e ∈ l, oS e) : aF Tryz.prog Dc 44 [eS l] [] (bS (bM l)) [] := by
 have h := q07 l hl hE;unfold bM;refine aA Ax aD Tryz.func44 (c := _) rfl Tryz.call44 60 ?_
 (repeat' ((conv => whnf); first | refine x0C (eB ?_ rfl) | refine cpC (h) ?_ | refine spC (fun hb => ?_) fun hb => ?_))
 all_goals clear h
 all_goals (first | (simp_all []; done) | (simp_all []; omega) | (simp_all []; grind))
def Bf (e : aB) : Prop := -4611686018427387904 ≤ e.at_ ∧ e.at_ ≤ 4611686018427387903
@[reducible] def evC (e : aB) : List (PV Cd) := [.int .i64 e.kind, .int .i64 e.at_, .int .i64 e.image, .dsl U.int e.rows, .int .i64 e.sun, .int .i64 e.look, .bool e.clear]
@[reducible] def Vf (l : List aB) (now : Int) : List (PV Cd) := [.dsl U.event l, .int .i64 now]
theorem q8q (d e : aB) (within : Int) (h1 : Bf d) (h2 : Bf e) : aF Tryz.prog Dc 138 [evA d, .dptr (evC e) 0, .dptr [.int .i64 within] 0] [] (bS (decide (d.kind = 2) && decide (d.image = e.image) && inB (d.at_ - e.at_) 0 within)) [] := by
 have h := tin (d.at_ - e.at_) 0 within;unfold Bf at h1 h2;refine aA Ax aD Tryz.func138 (c := _) rfl Tryz.call138 100 ?_
 (repeat' ((conv => whnf); first | refine x0C (eB ?_ rfl) | refine cpC (h) ?_ | refine spC (fun hb => ?_) fun hb => ?_ | refine saC ?_))
 all_goals clear h
 all_goals (first | (simp_all []; done) | (simp_all []; omega) | (simp_all []; grind))
theorem N3 (l : List aB) (now : Int) (e : aB) (within : Int) (hl : (l.length : Int) ≤ 1000000) (hE : ∀ e ∈ l, Bf e) (he : Bf e) : aF Tryz.prog Dc 94 [aX l now, evA e, iS within] [] (bS (Sr l e within)) [] := by
 have h := q7k (f := 138) (.c3 (evC e) [.int .i64 within]) l (by omega) fun d hd => q8q d e within (hE d hd) he
 change aF _ _ _ _ _ (bS (Sr l e within)) _ at h
 refine aA Ax aD Tryz.func94 (c := _) rfl Tryz.call94 100 ?_
 (repeat' ((conv => whnf); first | refine x0C (eB ?_ rfl) | refine rdC (h) ?_))
 all_goals rfl
theorem q7c (l : List aB) (now : Int) (e : aB) (within : Int) (hl : (l.length : Int) ≤ 1000000) (hE : ∀ e ∈ l, Bf e) (he : Bf e) : aF Tryz.prog Dc 139 [evA e, .dptr (Vf l now) 0, .dptr [.int .i64 within] 0] [] (bS (decide (e.kind = 1) && !Sr l e within)) [] := by
 have h := N3 l now e within hl hE he;refine aA Ax aD Tryz.func139 (c := _) rfl Tryz.call139 100 ?_
 (repeat' ((conv => whnf); first | refine x0C (eB ?_ rfl) | refine cpC (h) ?_ | refine spC (fun hb => ?_) fun hb => ?_))
 all_goals clear h
 all_goals (first | (simp_all []; done) | (simp_all []; omega) | (simp_all []; grind))
theorem zC (l : List aB) (now within : Int) (hl : (l.length : Int) ≤ 1000000) (hE : ∀ e ∈ l, Bf e) : aF Tryz.prog Dc 95 [aX l now, iS within] [] (aX (xX l within) now) [] := by
 have h1 := Rj l hl;have h2 := wJ (f := 139) (.c3 (Vf l now) [.int .i64 within]) l hl fun e he => q7c l now e within hl hE (hE e he);rw [show mG (fun e => decide (e.kind = 1) && !Sr l e within) l = xX l within from rfl] at h2;refine aA Ax aD Tryz.func95 (c := _) rfl Tryz.call95 100 ?_
 (repeat' ((conv => whnf); first | (refine Zj [none, none, some 2] [(2, .dptr (Vf l now) 0), (3, .dptr [.int .i64 within] 0)] [(0, .rows U.int []), (1, .rows U.int [])] (by exact bkV) ?_; (conv => whnf); refine aE mixed ?_) | (refine cI [] h1 rfl rfl trivial ?_) | (refine cI [some 3] h2 rfl rfl ⟨rfl, trivial⟩ ?_) | refine x0C ?_ | refine taC ?_))
 all_goals exact vwV
end Go.SX
