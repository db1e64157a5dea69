/-
  Walks: Tg1, Tg2, Tg3, Tg4, Tg5, Tg6, Tg7, Tg8, Tq5: what single functions of the program compute.
-/
import Derived.Test.YtdaghncicimipaaGreatDoorSxTq1
import Derived.Shelf.Spec.SlicesGrow
set_option linter.unusedVariables false
set_option linter.unusedSimpArgs false
namespace Go.SX
open Go.Proofs
set_option maxHeartbeats 4000000
set_option maxRecDepth 100000
structure InsO (T J : List Event) (a b i : Nat) : Prop where
 ex : ∃ (A L B : List Event) (t : Nat), T = A ++ isortE L ++ B ∧ J = A ++ isortE (L.take t) ++ L.drop t ++ B ∧ A.length = a ∧ a + L.length = b ∧ i = a + t ∧ 1 ≤ t ∧ t ≤ L.length + 1
structure InsI (T J : List Event) (a b i j : Nat) : Prop where
 ex : ∃ (A L B u v : List Event) (x : Event) (t : Nat), T = A ++ isortE L ++ B ∧ J = A ++ u ++ x :: v ++ (L.drop (t + 1) ++ B) ∧ u ++ v = isortE (L.take t) ∧ L.drop t = x :: L.drop (t + 1) ∧ A.length = a ∧ a + L.length = b ∧ i = a + t ∧ 1 ≤ t ∧ t < L.length ∧ j = a + u.length ∧ ∀ y ∈ v, befB x y = true
theorem insO_start (A L B : List Event) (a b : Nat) (ha : A.length = a) (hb : a + L.length = b) : InsO (A ++ isortE L ++ B) (A ++ L ++ B) a b (a + 1) := by
 refine ⟨A, L, B, 1, rfl, ?_, ha, hb, rfl, Nat.le_refl _, by omega⟩
 match L with
 | [] => simp [isortE]
 | x :: l => simp [isortE, insS]
theorem InsO.len {T J : List Event} {a b i : Nat} (h : InsO T J a b i) : J.length = T.length ∧ b ≤ J.length := by
 obtain ⟨A, L, B, t, rfl, rfl, h1, h2, h3, h4, h5⟩ := h
 simp only [List.length_append, isort_len, List.length_take, List.length_drop]; omega
theorem InsO.stop {T J : List Event} {a b i : Nat} (h : InsO T J a b i) (hi : b ≤ i) : J = T := by
 obtain ⟨A, L, B, t, rfl, rfl, h1, h2, h3, h4, h5⟩ := h
 rw [List.take_of_length_le (by omega), List.drop_of_length_le (by omega)]; simp
theorem InsO.next {T J : List Event} {a b i : Nat} (h : InsO T J a b i) (hi : i < b) : InsI T J a b i i := by
 obtain ⟨A, L, B, t, rfl, rfl, h1, h2, h3, h4, h5⟩ := h
 refine ⟨A, L, B, isortE (L.take t), [], L.getD t (U.dflt .event), t, rfl, ?_, by simp, drop_hd (by omega), h1, h2, h3, h4, by omega, by rw [isort_len, List.length_take]; omega, fun y hy => by cases hy⟩
 rw [drop_hd (l := L) (k := t) (by omega)]
 simp [List.append_assoc]
theorem InsI.len {T J : List Event} {a b i j : Nat} (h : InsI T J a b i j) : J.length = T.length ∧ b ≤ J.length ∧ a ≤ j ∧ j ≤ i ∧ i < b := by
 obtain ⟨A, L, B, u, v, x, t, rfl, rfl, h1, h2, h3, h4, h5, h6, h7, h8, h9⟩ := h
 have e := congrArg List.length h1
 simp only [List.length_append, isort_len, List.length_take, List.length_drop, List.length_cons] at *
 omega
theorem InsI.step {T J : List Event} {a b i j : Nat} (h : InsI T J a b i j) (hj : a < j) (hc : befB (J.getD j (U.dflt .event)) (J.getD (j - 1) (U.dflt .event)) = true) : InsI T (swS J j (j - 1)) a b i (j - 1) := by
 obtain ⟨A, L, B, u, v, x, t, rfl, rfl, h1, h2, h3, h4, h5, h6, h7, h8, h9⟩ := h
 obtain ⟨w, y, rfl⟩ : ∃ w y, u = w ++ [y] := by
  rcases List.eq_nil_or_concat u with rfl | ⟨w, y, rfl⟩
  ·simp at h8; omega
  ·exact ⟨w, y, List.concat_eq_append⟩
 have hjl : j - 1 = (A ++ w).length := by simp only [List.length_append, List.length_singleton] at *; omega
 have e : A ++ (w ++ [y]) ++ x :: v ++ (L.drop (t + 1) ++ B) = (A ++ w) ++ y :: x :: (v ++ (L.drop (t + 1) ++ B)) := by simp [List.append_assoc]
 have g1 : (A ++ (w ++ [y]) ++ x :: v ++ (L.drop (t + 1) ++ B)).getD j (U.dflt .event) = x := by
  rw [e, List.getD_eq_getElem?_getD, List.getElem?_append_right (by omega), show j - (A ++ w).length = 1 by omega]; rfl
 have g2 : (A ++ (w ++ [y]) ++ x :: v ++ (L.drop (t + 1) ++ B)).getD (j - 1) (U.dflt .event) = y := by
  rw [e, List.getD_eq_getElem?_getD, List.getElem?_append_right (by omega), show j - 1 - (A ++ w).length = 0 by omega]; rfl
 rw [g1, g2] at hc
 refine ⟨A, L, B, w, y :: v, x, t, rfl, ?_, by rw [← h1]; simp, h2, h3, h4, h5, h6, h7, by simp only [List.length_append] at hjl; omega, fun z hz => ?_⟩
 ·rw [swS_comm _ (by omega), e, swS_near _ _ _ _ hjl (by omega)]
  simp [List.append_assoc]
 ·rcases List.mem_cons.1 hz with rfl | hz
  ·exact hc
  ·exact h9 z hz
theorem InsI.done {T J : List Event} {a b i j : Nat} (h : InsI T J a b i j) (hc : a < j → befB (J.getD j (U.dflt .event)) (J.getD (j - 1) (U.dflt .event)) = false) : InsO T J a b (i + 1) := by
 obtain ⟨A, L, B, u, v, x, t, rfl, rfl, h1, h2, h3, h4, h5, h6, h7, h8, h9⟩ := h
 have hs := ins_end (u := u) (v := v) (x := x) (by rw [h1]; exact isort_srt _) h9 fun y hy => by
  rcases List.eq_nil_or_concat u with rfl | ⟨w, z, rfl⟩
  ·cases hy
  ·rw [List.concat_eq_append] at *
   have hyz : z = y := by simpa using hy
   subst hyz
   have hjl : j - 1 = (A ++ w).length := by simp only [List.length_append, List.length_singleton] at *; omega
   have hj : a < j := by simp only [List.length_append, List.length_singleton] at *; omega
   have e : A ++ (w ++ [z]) ++ x :: v ++ (L.drop (t + 1) ++ B) = (A ++ w) ++ z :: x :: (v ++ (L.drop (t + 1) ++ B)) := by simp [List.append_assoc]
   have g1 : (A ++ (w ++ [z]) ++ x :: v ++ (L.drop (t + 1) ++ B)).getD j (U.dflt .event) = x := by
    rw [e, List.getD_eq_getElem?_getD, List.getElem?_append_right (by omega), show j - (A ++ w).length = 1 by omega]; rfl
   have g2 : (A ++ (w ++ [z]) ++ x :: v ++ (L.drop (t + 1) ++ B)).getD (j - 1) (U.dflt .event) = z := by
    rw [e, List.getD_eq_getElem?_getD, List.getElem?_append_right (by omega), show j - 1 - (A ++ w).length = 0 by omega]; rfl
   have := hc hj
   rw [g1, g2] at this
   exact this
 refine ⟨A, L, B, t + 1, rfl, ?_, h3, h4, by omega, by omega, by omega⟩
 have ht : L.take (t + 1) = L.take t ++ [x] := by
  rw [take_tl h7]
  congr 2
  rw [drop_hd h7] at h2
  exact (List.cons.inj h2).1
 have h10 : isortE (L.take (t + 1)) = u ++ x :: v := by
  rw [ht, ← hs, h1]
  exact (isort_congr ((isort_same _).app sameK.rfl)).symm
 rw [h10]
 simp [List.append_assoc]
theorem insertion (D T : List Event) (a b : Nat) (hD : D.length ≤ 1000000) (h : InsO T D a b (a + 1)) : Meets Tryz.prog Dc 151 [.slice 0 0 7 0 D.length, iS a, iS b, cmpF] [.rows U.event D] (.tuple []) [.rows U.event T] := by
 have hl0 := h.len
 have hab : b ≤ D.length := hl0.2
 have hal : a ≤ D.length := by
  obtain ⟨A, L, B, t, _, rfl, h1, h2, h3, h4, h5⟩ := h
  simp only [List.length_append]; omega
 refine meets_of_gx Ax tab_ok Tryz.func151 (c := _) rfl Tryz.call151 300 ?_
 (repeat' ((conv => whnf); first | refine saC ?_))
 refine loop_upT [some 0] (fun q : Nat × List Event => [(8, iS q.1), (9, .any)]) (fun q => [(0, .rows U.event q.2)]) (fun q => InsO T q.2 a b q.1 ∧ q.2.length = D.length) (fun q => b - q.1) (a + 1, D) ⟨h, rfl⟩ (by exact bkI) ?_
 rintro ⟨i, J⟩ ⟨hi, hJ⟩ K hK
 dsimp only at hi hJ hK ⊢
 rcases Nat.lt_or_ge i b with hlt | hge
 ·(repeat' ((conv => whnf); first | (exfalso; omega) | refine spC (fun hb => ?_) fun hb => ?_))
  refine loop_upT [some 0] (fun q : Int × List Event => [(9, iS q.1)]) (fun q => [(0, .rows U.event q.2)]) (fun q => (∃ j : Nat, q.1 = j ∧ InsI T q.2 a b i j) ∧ q.2.length = D.length) (fun q => q.1.toNat) ((i : Int), J) ⟨⟨i, rfl, hi.next hlt⟩, hJ⟩ (by exact bkI) ?_
  rintro ⟨x, J2⟩ ⟨⟨j, hx, hj⟩, hJ2⟩ K2 hK2
  dsimp only at hx hj hJ2 hK2 ⊢
  subst hx
  obtain ⟨z1, z2, z3, z4, z5⟩ := hj.len
  rw [hJ2] at z2
  rcases Nat.lt_or_ge a j with haj | haj
  ·cases hB : befB (J2.getD (0 + (j : Int).toNat) (Cd.dflt U.event)) (J2.getD (0 + ((j : Int) - 1).toNat) (Cd.dflt U.event)) with
   | true =>
    have hc := cmpE_neg.2 hB
    have hm := compare_meets (J2.getD (0 + (j : Int).toNat) (Cd.dflt U.event)) (J2.getD (0 + ((j : Int) - 1).toNat) (Cd.dflt U.event))
    rw [show 0 + (j : Int).toNat = j by omega, show 0 + ((j : Int) - 1).toNat = j - 1 by omega] at hB
    have hst := hj.step haj hB
    have hsl := swS_len J2 j (j - 1)
    have he : (J2.set (0 + (j : Int).toNat) (J2.getD (0 + ((j : Int) - 1).toNat) (Cd.dflt U.event))).set (0 + ((j : Int) - 1).toNat) (J2.getD (0 + (j : Int).toNat) (Cd.dflt U.event)) = swS J2 j (j - 1) := by
     rw [show 0 + (j : Int).toNat = j by omega, show 0 + ((j : Int) - 1).toNat = j - 1 by omega]; rfl
    rw [← he] at hst hsl
    (repeat' ((conv => whnf); first | (exfalso; omega) | refine dpC (hm) ?_ | refine hK2 ((j : Int) - 1, (J2.set (0 + (j : Int).toNat) (J2.getD (0 + ((j : Int) - 1).toNat) (Cd.dflt U.event))).set (0 + ((j : Int) - 1).toNat) (J2.getD (0 + (j : Int).toNat) (Cd.dflt U.event))) [some 0] _ _ ⟨⟨⟨j - 1, by dsimp only; omega, hst⟩, hsl.trans hJ2⟩⟩ ⟨by dsimp only; omega⟩ (by exact bkI) | refine spC (fun hb => ?_) fun hb => ?_ | refine taC ?_ | refine saC ?_ | refine drawX_of mixed ?_))
   | false =>
    have hc := cmpE_nneg hB
    have hm := compare_meets (J2.getD (0 + (j : Int).toNat) (Cd.dflt U.event)) (J2.getD (0 + ((j : Int) - 1).toNat) (Cd.dflt U.event))
    rw [show 0 + (j : Int).toNat = j by omega, show 0 + ((j : Int) - 1).toNat = j - 1 by omega] at hB
    have hst := hj.done fun _ => hB
    (repeat' ((conv => whnf); first | (exfalso; omega) | refine dpC (hm) ?_ | refine hK (i + 1, J2) [some 0] _ _ ⟨⟨hst, hJ2⟩⟩ ⟨by dsimp only; omega⟩ (by exact bkI) | refine spC (fun hb => ?_) fun hb => ?_ | refine taC ?_ | refine saC ?_ | refine drawX_of mixed ?_))
  ·have hst := hj.done fun h => absurd h (by omega)
   (repeat' ((conv => whnf); first | (exfalso; omega) | refine hK (i + 1, J2) [some 0] _ _ ⟨⟨hst, hJ2⟩⟩ ⟨by dsimp only; omega⟩ (by exact bkI) | refine spC (fun hb => ?_) fun hb => ?_ | refine taC ?_ | refine saC ?_ | refine drawX_of mixed ?_))
 ·have he : T = J := (hi.stop hge).symm
  rw [he]
  (repeat' ((conv => whnf); first | (exfalso; omega) | (refine end_fn [some 0] (.inl rfl) ?_ ?_ rfl rfl; (focus exact vwV); exact hsV) | refine spC (fun hb => ?_) fun hb => ?_))
/-- the half -/
theorem half_u (n : Int) (h : 0 ≤ n ∧ n ≤ 4000000) : shrop .u64 (IntKind.u64.wrap n) 1 = n / 2 := by
 have e0 : IntKind.u64.wrap n = n := by
  simp only [IntKind.wrap, IntKind.signed, IntKind.bits]; simp; omega
 rw [e0]
 unfold shrop
 have e : (2 : Int) ^ (min (1 : Int).toNat IntKind.u64.bits) = 2 := by decide
 rw [e, Int.fdiv_eq_ediv_of_nonneg _ (by omega)]
theorem symA (D T : List Event) (a m b : Nat) (c1 : m = a + 1) (hs : Sym T D a m b) (hD : D.length ≤ 1000000) : Meets Tryz.prog Dc 152 [.slice 0 0 7 0 D.length, iS a, iS m, iS b, cmpF] [.rows U.event D] (.tuple []) [.rows U.event T] := by
 obtain ⟨z1, z2, z3, z4⟩ := hs.bd
 refine meets_of_gx Ax tab_ok Tryz.func152 (c := _) rfl Tryz.call152 600 ?_
 (repeat' ((conv => whnf); first | (exfalso; omega) | refine spC (fun hb => ?_) fun hb => ?_ | refine saC ?_))
 refine loop_upT [some 0] (fun q : Int × Int => [(10, iS q.1), (11, iS q.2)]) (fun q => []) (fun q => ∃ i j : Nat, q.1 = i ∧ q.2 = j ∧ SrA D a m b i j) (fun q => (q.2 - q.1).toNat) ((m : Int), (b : Int)) ⟨m, b, rfl, rfl, SrA.start (by omega)⟩ (by exact bkI) ?_
 rintro ⟨x, y⟩ ⟨i, j, hx, hy, hr⟩ K hK
 dsimp only at hx hy hK ⊢
 subst hx hy
 obtain ⟨q1, q2, q3⟩ := hr.bd
 have hh := half_u ((i : Int) + j) (by omega)
 rcases Nat.lt_or_ge i j with hlt | hge
 ·have hm := compare_meets (D.getD (0 + (shrop .u64 (IntKind.u64.wrap ((i : Int) + j)) 1).toNat) (Cd.dflt U.event)) (D.getD (0 + (a : Int).toNat) (Cd.dflt U.event))
  have e1 : 0 + (shrop .u64 (IntKind.u64.wrap ((i : Int) + j)) 1).toNat = (i + j) / 2 := by rw [hh]; omega
  have e2 : 0 + (a : Int).toNat = a := by omega
  cases hB : befB (D.getD (0 + (shrop .u64 (IntKind.u64.wrap ((i : Int) + j)) 1).toNat) (Cd.dflt U.event)) (D.getD (0 + (a : Int).toNat) (Cd.dflt U.event)) with
  | true =>
   have hc := cmpE_neg.2 hB
   rw [e1, e2] at hB
   have hn := hr.up hs (by omega) (by omega) hB
   (repeat' ((conv => whnf); first | (exfalso; omega) | refine dpC (hm) ?_ | refine hK (shrop .u64 (IntKind.u64.wrap ((i : Int) + j)) 1 + 1, (j : Int)) [some 0] _ _ ⟨⟨(i + j) / 2 + 1, j, by dsimp only; omega, rfl, hn⟩⟩ ⟨by dsimp only; omega⟩ (by exact bkI) | refine spC (fun hb => ?_) fun hb => ?_ | refine taC ?_ | refine saC ?_ | refine drawX_of mixed ?_))
  | false =>
   have hc := cmpE_nneg hB
   rw [e1, e2] at hB
   have hn := hr.down hs (by omega) (by omega) hB
   (repeat' ((conv => whnf); first | (exfalso; omega) | refine dpC (hm) ?_ | refine hK ((i : Int), shrop .u64 (IntKind.u64.wrap ((i : Int) + j)) 1) [some 0] _ _ ⟨⟨i, (i + j) / 2, rfl, by dsimp only; omega, hn⟩⟩ ⟨by dsimp only; omega⟩ (by exact bkI) | refine spC (fun hb => ?_) fun hb => ?_ | refine taC ?_ | refine saC ?_ | refine drawX_of mixed ?_))
 ·obtain rfl : i = j := by omega
  have hmv := hr.stop hs c1
  (repeat' ((conv => whnf); first | (exfalso; omega) | refine spC (fun hb => ?_) fun hb => ?_))
  refine loop_upT [some 0] (fun q : Nat × List Event => [(13, iS q.1)]) (fun q => [(0, .rows U.event q.2)]) (fun q => MvA T q.2 i q.1 ∧ q.2.length = D.length) (fun q => i - q.1) (a, D) ⟨hmv, rfl⟩ (by exact bkI) ?_
  rintro ⟨k, J⟩ ⟨hk, hJ⟩ K2 hK2
  dsimp only at hk hJ hK2 ⊢
  obtain ⟨w1, w2, w3⟩ := hk.bd
  rw [hJ] at w2
  rcases Nat.lt_or_ge (k + 1) i with hlt | hge
  ·have hst := hk.step hlt
   have hsl := swS_len J k (k + 1)
   have he : (J.set (0 + (k : Int).toNat) (J.getD (0 + ((k : Int) + 1).toNat) (Cd.dflt U.event))).set (0 + ((k : Int) + 1).toNat) (J.getD (0 + (k : Int).toNat) (Cd.dflt U.event)) = swS J k (k + 1) := by
    rw [show 0 + (k : Int).toNat = k by omega, show 0 + ((k : Int) + 1).toNat = k + 1 by omega]; rfl
   rw [← he] at hst hsl
   (repeat' ((conv => whnf); first | (exfalso; omega) | refine hK2 (k + 1, (J.set (0 + (k : Int).toNat) (J.getD (0 + ((k : Int) + 1).toNat) (Cd.dflt U.event))).set (0 + ((k : Int) + 1).toNat) (J.getD (0 + (k : Int).toNat) (Cd.dflt U.event))) [some 0] _ _ ⟨⟨hst, hsl.trans hJ⟩⟩ ⟨by dsimp only; omega⟩ (by exact bkI) | refine spC (fun hb => ?_) fun hb => ?_ | refine taC ?_ | refine saC ?_ | refine drawX_of mixed ?_))
  ·rw [← hk.stop (by omega)]
   (repeat' ((conv => whnf); first | (exfalso; omega) | (refine end_fn [some 0] (.inr rfl) ?_ ?_ rfl rfl; (focus exact vwV); exact hsV) | refine spC (fun hb => ?_) fun hb => ?_ | refine saC ?_))
theorem symB (D T : List Event) (a m b : Nat) (c1 : m ≠ a + 1) (c2 : b = m + 1) (hs : Sym T D a m b) (hD : D.length ≤ 1000000) : Meets Tryz.prog Dc 152 [.slice 0 0 7 0 D.length, iS a, iS m, iS b, cmpF] [.rows U.event D] (.tuple []) [.rows U.event T] := by
 obtain ⟨z1, z2, z3, z4⟩ := hs.bd
 refine meets_of_gx Ax tab_ok Tryz.func152 (c := _) rfl Tryz.call152 600 ?_
 (repeat' ((conv => whnf); first | (exfalso; omega) | refine spC (fun hb => ?_) fun hb => ?_ | refine saC ?_))
 refine loop_upT [some 0] (fun q : Int × Int => [(14, iS q.1), (15, iS q.2)]) (fun q => []) (fun q => ∃ i j : Nat, q.1 = i ∧ q.2 = j ∧ SrB D a m b i j) (fun q => (q.2 - q.1).toNat) ((a : Int), (m : Int)) ⟨a, m, rfl, rfl, SrB.start (by omega)⟩ (by exact bkI) ?_
 rintro ⟨x, y⟩ ⟨i, j, hx, hy, hr⟩ K hK
 dsimp only at hx hy hK ⊢
 subst hx hy
 obtain ⟨q1, q2, q3⟩ := hr.bd
 have hh := half_u ((i : Int) + j) (by omega)
 rcases Nat.lt_or_ge i j with hlt | hge
 ·have hm := compare_meets (D.getD (0 + (m : Int).toNat) (Cd.dflt U.event)) (D.getD (0 + (shrop .u64 (IntKind.u64.wrap ((i : Int) + j)) 1).toNat) (Cd.dflt U.event))
  have e1 : 0 + (shrop .u64 (IntKind.u64.wrap ((i : Int) + j)) 1).toNat = (i + j) / 2 := by rw [hh]; omega
  have e2 : 0 + (m : Int).toNat = m := by omega
  cases hB : befB (D.getD (0 + (m : Int).toNat) (Cd.dflt U.event)) (D.getD (0 + (shrop .u64 (IntKind.u64.wrap ((i : Int) + j)) 1).toNat) (Cd.dflt U.event)) with
  | false =>
   have hc := cmpE_nneg hB
   rw [e1, e2] at hB
   have hn := hr.up hs (by omega) (by omega) hB
   (repeat' ((conv => whnf); first | (exfalso; omega) | refine dpC (hm) ?_ | refine hK (shrop .u64 (IntKind.u64.wrap ((i : Int) + j)) 1 + 1, (j : Int)) [some 0] _ _ ⟨⟨(i + j) / 2 + 1, j, by dsimp only; omega, rfl, hn⟩⟩ ⟨by dsimp only; omega⟩ (by exact bkI) | refine spC (fun hb => ?_) fun hb => ?_ | refine taC ?_ | refine saC ?_ | refine drawX_of mixed ?_))
  | true =>
   have hc := cmpE_neg.2 hB
   rw [e1, e2] at hB
   have hn := hr.down hs (by omega) (by omega) hB
   (repeat' ((conv => whnf); first | (exfalso; omega) | refine dpC (hm) ?_ | refine hK ((i : Int), shrop .u64 (IntKind.u64.wrap ((i : Int) + j)) 1) [some 0] _ _ ⟨⟨i, (i + j) / 2, rfl, by dsimp only; omega, hn⟩⟩ ⟨by dsimp only; omega⟩ (by exact bkI) | refine spC (fun hb => ?_) fun hb => ?_ | refine taC ?_ | refine saC ?_ | refine drawX_of mixed ?_))
 ·obtain rfl : i = j := by omega
  have hmv := hr.stop hs c2
  (repeat' ((conv => whnf); first | (exfalso; omega) | refine spC (fun hb => ?_) fun hb => ?_))
  refine loop_upT [some 0] (fun q : Int × List Event => [(17, iS q.1)]) (fun q => [(0, .rows U.event q.2)]) (fun q => (∃ k : Nat, q.1 = k ∧ MvB T q.2 i k) ∧ q.2.length = D.length) (fun q => q.1.toNat) ((m : Int), D) ⟨⟨m, rfl, hmv⟩, rfl⟩ (by exact bkI) ?_
  rintro ⟨x, J⟩ ⟨⟨k, hx, hk⟩, hJ⟩ K2 hK2
  dsimp only at hx hk hJ hK2 ⊢
  subst hx
  obtain ⟨w1, w2, w3⟩ := hk.bd
  rw [hJ] at w2
  rcases Nat.lt_or_ge i k with hlt | hge
  ·have hst := hk.step hlt
   have hsl := swS_len J k (k - 1)
   have he : (J.set (0 + (k : Int).toNat) (J.getD (0 + ((k : Int) - 1).toNat) (Cd.dflt U.event))).set (0 + ((k : Int) - 1).toNat) (J.getD (0 + (k : Int).toNat) (Cd.dflt U.event)) = swS J k (k - 1) := by
    rw [show 0 + (k : Int).toNat = k by omega, show 0 + ((k : Int) - 1).toNat = k - 1 by omega]; rfl
   rw [← he] at hst hsl
   (repeat' ((conv => whnf); first | (exfalso; omega) | refine hK2 ((k : Int) - 1, (J.set (0 + (k : Int).toNat) (J.getD (0 + ((k : Int) - 1).toNat) (Cd.dflt U.event))).set (0 + ((k : Int) - 1).toNat) (J.getD (0 + (k : Int).toNat) (Cd.dflt U.event))) [some 0] _ _ ⟨⟨⟨k - 1, by dsimp only; omega, hst⟩, hsl.trans hJ⟩⟩ ⟨by dsimp only; omega⟩ (by exact bkI) | refine spC (fun hb => ?_) fun hb => ?_ | refine taC ?_ | refine saC ?_ | refine drawX_of mixed ?_))
  ·rw [← hk.stop (by omega)]
   (repeat' ((conv => whnf); first | (exfalso; omega) | (refine end_fn [some 0] (.inr rfl) ?_ ?_ rfl rfl; (focus exact vwV); exact hsV) | refine spC (fun hb => ?_) fun hb => ?_))
@[reducible] def symMeets (D T : List Event) (a m b : Int) : Prop := Meets Tryz.prog Dc 152 [.slice 0 0 7 0 D.length, iS a, iS m, iS b, cmpF] [.rows U.event D] (.tuple []) [.rows U.event T]
theorem symC1 (D T : List Event) (a m b mid lo hi : Nat) (c1 : m ≠ a + 1) (c2 : b ≠ m + 1) (hs : Sym T D a m b) (hD : D.length ≤ 1000000) (hB : Bds a m b mid lo hi) (hcase : mid < m ∧ lo = mid + m - b ∧ hi = mid) (ih : ∀ (D' T' : List Event) (a' m' b' : Nat), b' - a' < b - a → Sym T' D' a' m' b' → D'.length ≤ 1000000 → symMeets D' T' a' m' b') : symMeets D T a m b := by
 obtain ⟨z1, z2, z3, z4⟩ := hs.bd
 have hh := half_u ((a : Int) + b) (by omega)
 have hmid := hB.hm
 unfold symMeets
 refine meets_of_gx Ax tab_ok Tryz.func152 (c := _) rfl Tryz.call152 900 ?_
 (repeat' ((conv => whnf); first | (exfalso; omega) | refine spC (fun hb => ?_) fun hb => ?_ | refine saC ?_))
 refine loop_upT [some 0] (fun q : Int × Int × Int × Int × Int => [(20, iS q.1), (21, iS q.2.1), (18, iS q.2.2.1), (19, iS q.2.2.2.1), (22, iS q.2.2.2.2)]) (fun q => []) (fun q => (∃ s r : Nat, q.1 = s ∧ q.2.1 = r ∧ SrC D (mid + m - 1) lo hi s r) ∧ q.2.2.1 = mid ∧ q.2.2.2.1 = (mid : Int) + m ∧ q.2.2.2.2 = (mid : Int) + m - 1) (fun q => (q.2.1 - q.1).toNat) (shrop .u64 (IntKind.u64.wrap ((a : Int) + b)) 1 + m - b, shrop .u64 (IntKind.u64.wrap ((a : Int) + b)) 1, shrop .u64 (IntKind.u64.wrap ((a : Int) + b)) 1, shrop .u64 (IntKind.u64.wrap ((a : Int) + b)) 1 + m, shrop .u64 (IntKind.u64.wrap ((a : Int) + b)) 1 + m - 1) ⟨⟨lo, hi, by dsimp only; omega, by dsimp only; omega, SrC.start hB⟩, by dsimp only; omega, by dsimp only; omega, by dsimp only; omega⟩ (by exact bkI) ?_
 rintro ⟨x, y, q1, q2, q3⟩ ⟨⟨s, r, hx, hy, hr⟩, w1, w2, w3⟩ K hK
 dsimp only at hx hy w1 w2 w3 hK ⊢
 subst hx hy w1 w2 w3
 obtain ⟨v1, v2, v3⟩ := hr.bd
 have hh2 := half_u ((s : Int) + r) (by omega)
 rcases Nat.lt_or_ge s r with hlt | hge
 ·have hm := compare_meets (D.getD (0 + ((mid : Int) + m - 1 - shrop .u64 (IntKind.u64.wrap ((s : Int) + r)) 1).toNat) (Cd.dflt U.event)) (D.getD (0 + (shrop .u64 (IntKind.u64.wrap ((s : Int) + r)) 1).toNat) (Cd.dflt U.event))
  have e1 : 0 + ((mid : Int) + m - 1 - shrop .u64 (IntKind.u64.wrap ((s : Int) + r)) 1).toNat = mid + m - 1 - (s + r) / 2 := by rw [hh2]; omega
  have e2 : 0 + (shrop .u64 (IntKind.u64.wrap ((s : Int) + r)) 1).toNat = (s + r) / 2 := by rw [hh2]; omega
  cases hC : befB (D.getD (0 + ((mid : Int) + m - 1 - shrop .u64 (IntKind.u64.wrap ((s : Int) + r)) 1).toNat) (Cd.dflt U.event)) (D.getD (0 + (shrop .u64 (IntKind.u64.wrap ((s : Int) + r)) 1).toNat) (Cd.dflt U.event)) with
  | false =>
   have hc := cmpE_nneg hC
   rw [e1, e2] at hC
   have hn := hr.inc hs hB (by omega) (by omega) hC
   (repeat' ((conv => whnf); first | (exfalso; omega) | refine dpC (hm) ?_ | refine hK (shrop .u64 (IntKind.u64.wrap ((s : Int) + r)) 1 + 1, (r : Int), (mid : Int), (mid : Int) + m, (mid : Int) + m - 1) [some 0] _ _ ⟨⟨⟨(s + r) / 2 + 1, r, by dsimp only; omega, rfl, hn⟩, rfl, rfl, rfl⟩⟩ ⟨by dsimp only; omega⟩ (by exact bkI) | refine spC (fun hb => ?_) fun hb => ?_ | refine taC ?_ | refine saC ?_ | refine drawX_of mixed ?_))
  | true =>
   have hc := cmpE_neg.2 hC
   rw [e1, e2] at hC
   have hn := hr.dec hs hB (by omega) (by omega) hC
   (repeat' ((conv => whnf); first | (exfalso; omega) | refine dpC (hm) ?_ | refine hK ((s : Int), shrop .u64 (IntKind.u64.wrap ((s : Int) + r)) 1, (mid : Int), (mid : Int) + m, (mid : Int) + m - 1) [some 0] _ _ ⟨⟨⟨s, (s + r) / 2, rfl, by dsimp only; omega, hn⟩, rfl, rfl, rfl⟩⟩ ⟨by dsimp only; omega⟩ (by exact bkI) | refine spC (fun hb => ?_) fun hb => ?_ | refine taC ?_ | refine saC ?_ | refine drawX_of mixed ?_))
 ·obtain rfl : s = r := by omega
  obtain ⟨en, hen⟩ : ∃ en, en = mid + m - s := ⟨_, rfl⟩
  obtain ⟨E, E1, hcut⟩ := cut_of hs (by omega) (by omega) hB hr hen
  have hb := hcut.bd
  have hlE := hcut.lE
  have hlE1 := hcut.lE1
  have hne : ((en : Nat) : Int) = (mid : Int) + m - s := by omega
  have k1 : s < m → m < en → Meets Tryz.prog Dc 157 [.slice 0 0 7 0 D.length, iS s, iS m, iS ((mid : Int) + m - s), cmpF] [.rows U.event D] (.tuple []) [.rows U.event E] := fun h1 h2 => by
   have := rotate D E s m en (m - s) (en - m) hD (by omega) (by omega) (hcut.rot h1 h2)
   rwa [hne] at this
  have k2 : a < s → s < mid → Meets Tryz.prog Dc 152 [.slice 0 0 7 0 D.length, iS a, iS s, iS mid, cmpF] [.rows U.event E] (.tuple []) [.rows U.event E1] := fun h1 h2 => by
   have := ih E E1 a s mid (by omega) (hcut.one h1 h2) (by omega)
   unfold symMeets at this
   rwa [hlE] at this
  have k3 : mid < en → en < b → Meets Tryz.prog Dc 152 [.slice 0 0 7 0 D.length, iS mid, iS ((mid : Int) + m - s), iS b, cmpF] [.rows U.event E1] (.tuple []) [.rows U.event T] := fun h1 h2 => by
   have := ih E1 T mid en b (by omega) (hcut.two h1 h2) (by omega)
   unfold symMeets at this
   rwa [hlE1, hne] at this
  have n1 := hcut.nrot
  have n2 := hcut.none
  have n3 := hcut.ntwo
  clear ih hcut hs hr
  by_cases p1 : s < m ∧ m < en
  ·have k1 := k1 p1.1 p1.2
   by_cases p2 : a < s ∧ s < mid
   ·have k2 := k2 p2.1 p2.2
    by_cases p3 : mid < en ∧ en < b
    ·have k3 := k3 p3.1 p3.2
     (repeat' ((conv => whnf); first | (exfalso; omega) | (refine callh [some 0] k1 rfl rfl ⟨rfl, trivial⟩ ?_) | (refine callh [some 0] k2 rfl rfl ⟨rfl, trivial⟩ ?_) | (refine callh [some 0] k3 rfl rfl ⟨rfl, trivial⟩ ?_) | (refine end_fn [some 0] (.inl rfl) ?_ ?_ rfl rfl; (focus exact vwV); exact hsV) | refine spC (fun hb => ?_) fun hb => ?_ | refine saC ?_))
    ·rw [n3 p3]
     (repeat' ((conv => whnf); first | (exfalso; omega) | (refine callh [some 0] k1 rfl rfl ⟨rfl, trivial⟩ ?_) | (refine callh [some 0] k2 rfl rfl ⟨rfl, trivial⟩ ?_) | (refine end_fn [some 0] (.inl rfl) ?_ ?_ rfl rfl; (focus exact vwV); exact hsV) | refine spC (fun hb => ?_) fun hb => ?_ | refine saC ?_))
   ·have n2 := n2 p2
    subst n2
    by_cases p3 : mid < en ∧ en < b
    ·have k3 := k3 p3.1 p3.2
     (repeat' ((conv => whnf); first | (exfalso; omega)))
    ·rw [n3 p3]
     (repeat' ((conv => whnf); first | (exfalso; omega) | (refine callh [some 0] k1 rfl rfl ⟨rfl, trivial⟩ ?_) | (refine end_fn [some 0] (.inl rfl) ?_ ?_ rfl rfl; (focus exact vwV); exact hsV) | refine spC (fun hb => ?_) fun hb => ?_ | refine saC ?_))
  ·have n1 := n1 p1
   subst n1
   by_cases p2 : a < s ∧ s < mid
   ·have k2 := k2 p2.1 p2.2
    by_cases p3 : mid < en ∧ en < b
    ·have k3 := k3 p3.1 p3.2
     (repeat' ((conv => whnf); first | (exfalso; omega)))
    ·rw [n3 p3]
     (repeat' ((conv => whnf); first | (exfalso; omega)))
   ·have n2 := n2 p2
    subst n2
    by_cases p3 : mid < en ∧ en < b
    ·have k3 := k3 p3.1 p3.2
     (repeat' ((conv => whnf); first | (exfalso; omega) | (refine callh [some 0] k3 rfl rfl ⟨rfl, trivial⟩ ?_) | (refine end_fn [some 0] (.inl rfl) ?_ ?_ rfl rfl; (focus exact vwV); exact hsV) | refine spC (fun hb => ?_) fun hb => ?_ | refine saC ?_))
    ·rw [n3 p3]
     (repeat' ((conv => whnf); first | (exfalso; omega)))
theorem symC2 (D T : List Event) (a m b mid lo hi : Nat) (c1 : m ≠ a + 1) (c2 : b ≠ m + 1) (hs : Sym T D a m b) (hD : D.length ≤ 1000000) (hB : Bds a m b mid lo hi) (hcase : m ≤ mid ∧ lo = a ∧ hi = m) (ih : ∀ (D' T' : List Event) (a' m' b' : Nat), b' - a' < b - a → Sym T' D' a' m' b' → D'.length ≤ 1000000 → symMeets D' T' a' m' b') : symMeets D T a m b := by
 obtain ⟨z1, z2, z3, z4⟩ := hs.bd
 have hh := half_u ((a : Int) + b) (by omega)
 have hmid := hB.hm
 unfold symMeets
 refine meets_of_gx Ax tab_ok Tryz.func152 (c := _) rfl Tryz.call152 900 ?_
 (repeat' ((conv => whnf); first | (exfalso; omega) | refine spC (fun hb => ?_) fun hb => ?_ | refine saC ?_))
 refine loop_upT [some 0] (fun q : Int × Int × Int × Int × Int => [(20, iS q.1), (21, iS q.2.1), (18, iS q.2.2.1), (19, iS q.2.2.2.1), (22, iS q.2.2.2.2)]) (fun q => []) (fun q => (∃ s r : Nat, q.1 = s ∧ q.2.1 = r ∧ SrC D (mid + m - 1) lo hi s r) ∧ q.2.2.1 = mid ∧ q.2.2.2.1 = (mid : Int) + m ∧ q.2.2.2.2 = (mid : Int) + m - 1) (fun q => (q.2.1 - q.1).toNat) ((a : Int), (m : Int), shrop .u64 (IntKind.u64.wrap ((a : Int) + b)) 1, shrop .u64 (IntKind.u64.wrap ((a : Int) + b)) 1 + m, shrop .u64 (IntKind.u64.wrap ((a : Int) + b)) 1 + m - 1) ⟨⟨lo, hi, by dsimp only; omega, by dsimp only; omega, SrC.start hB⟩, by dsimp only; omega, by dsimp only; omega, by dsimp only; omega⟩ (by exact bkI) ?_
 rintro ⟨x, y, q1, q2, q3⟩ ⟨⟨s, r, hx, hy, hr⟩, w1, w2, w3⟩ K hK
 dsimp only at hx hy w1 w2 w3 hK ⊢
 subst hx hy w1 w2 w3
 obtain ⟨v1, v2, v3⟩ := hr.bd
 have hh2 := half_u ((s : Int) + r) (by omega)
 rcases Nat.lt_or_ge s r with hlt | hge
 ·have hm := compare_meets (D.getD (0 + ((mid : Int) + m - 1 - shrop .u64 (IntKind.u64.wrap ((s : Int) + r)) 1).toNat) (Cd.dflt U.event)) (D.getD (0 + (shrop .u64 (IntKind.u64.wrap ((s : Int) + r)) 1).toNat) (Cd.dflt U.event))
  have e1 : 0 + ((mid : Int) + m - 1 - shrop .u64 (IntKind.u64.wrap ((s : Int) + r)) 1).toNat = mid + m - 1 - (s + r) / 2 := by rw [hh2]; omega
  have e2 : 0 + (shrop .u64 (IntKind.u64.wrap ((s : Int) + r)) 1).toNat = (s + r) / 2 := by rw [hh2]; omega
  cases hC : befB (D.getD (0 + ((mid : Int) + m - 1 - shrop .u64 (IntKind.u64.wrap ((s : Int) + r)) 1).toNat) (Cd.dflt U.event)) (D.getD (0 + (shrop .u64 (IntKind.u64.wrap ((s : Int) + r)) 1).toNat) (Cd.dflt U.event)) with
  | false =>
   have hc := cmpE_nneg hC
   rw [e1, e2] at hC
   have hn := hr.inc hs hB (by omega) (by omega) hC
   (repeat' ((conv => whnf); first | (exfalso; omega) | refine dpC (hm) ?_ | refine hK (shrop .u64 (IntKind.u64.wrap ((s : Int) + r)) 1 + 1, (r : Int), (mid : Int), (mid : Int) + m, (mid : Int) + m - 1) [some 0] _ _ ⟨⟨⟨(s + r) / 2 + 1, r, by dsimp only; omega, rfl, hn⟩, rfl, rfl, rfl⟩⟩ ⟨by dsimp only; omega⟩ (by exact bkI) | refine spC (fun hb => ?_) fun hb => ?_ | refine taC ?_ | refine saC ?_ | refine drawX_of mixed ?_))
  | true =>
   have hc := cmpE_neg.2 hC
   rw [e1, e2] at hC
   have hn := hr.dec hs hB (by omega) (by omega) hC
   (repeat' ((conv => whnf); first | (exfalso; omega) | refine dpC (hm) ?_ | refine hK ((s : Int), shrop .u64 (IntKind.u64.wrap ((s : Int) + r)) 1, (mid : Int), (mid : Int) + m, (mid : Int) + m - 1) [some 0] _ _ ⟨⟨⟨s, (s + r) / 2, rfl, by dsimp only; omega, hn⟩, rfl, rfl, rfl⟩⟩ ⟨by dsimp only; omega⟩ (by exact bkI) | refine spC (fun hb => ?_) fun hb => ?_ | refine taC ?_ | refine saC ?_ | refine drawX_of mixed ?_))
 ·obtain rfl : s = r := by omega
  obtain ⟨en, hen⟩ : ∃ en, en = mid + m - s := ⟨_, rfl⟩
  obtain ⟨E, E1, hcut⟩ := cut_of hs (by omega) (by omega) hB hr hen
  have hb := hcut.bd
  have hlE := hcut.lE
  have hlE1 := hcut.lE1
  have hne : ((en : Nat) : Int) = (mid : Int) + m - s := by omega
  have k1 : s < m → m < en → Meets Tryz.prog Dc 157 [.slice 0 0 7 0 D.length, iS s, iS m, iS ((mid : Int) + m - s), cmpF] [.rows U.event D] (.tuple []) [.rows U.event E] := fun h1 h2 => by
   have := rotate D E s m en (m - s) (en - m) hD (by omega) (by omega) (hcut.rot h1 h2)
   rwa [hne] at this
  have k2 : a < s → s < mid → Meets Tryz.prog Dc 152 [.slice 0 0 7 0 D.length, iS a, iS s, iS mid, cmpF] [.rows U.event E] (.tuple []) [.rows U.event E1] := fun h1 h2 => by
   have := ih E E1 a s mid (by omega) (hcut.one h1 h2) (by omega)
   unfold symMeets at this
   rwa [hlE] at this
  have k3 : mid < en → en < b → Meets Tryz.prog Dc 152 [.slice 0 0 7 0 D.length, iS mid, iS ((mid : Int) + m - s), iS b, cmpF] [.rows U.event E1] (.tuple []) [.rows U.event T] := fun h1 h2 => by
   have := ih E1 T mid en b (by omega) (hcut.two h1 h2) (by omega)
   unfold symMeets at this
   rwa [hlE1, hne] at this
  have n1 := hcut.nrot
  have n2 := hcut.none
  have n3 := hcut.ntwo
  clear ih hcut hs hr
  by_cases p1 : s < m ∧ m < en
  ·have k1 := k1 p1.1 p1.2
   by_cases p2 : a < s ∧ s < mid
   ·have k2 := k2 p2.1 p2.2
    by_cases p3 : mid < en ∧ en < b
    ·have k3 := k3 p3.1 p3.2
     (repeat' ((conv => whnf); first | (exfalso; omega) | (refine callh [some 0] k1 rfl rfl ⟨rfl, trivial⟩ ?_) | (refine callh [some 0] k2 rfl rfl ⟨rfl, trivial⟩ ?_) | (refine callh [some 0] k3 rfl rfl ⟨rfl, trivial⟩ ?_) | (refine end_fn [some 0] (.inl rfl) ?_ ?_ rfl rfl; (focus exact vwV); exact hsV) | refine spC (fun hb => ?_) fun hb => ?_ | refine saC ?_))
    ·rw [n3 p3]
     (repeat' ((conv => whnf); first | (exfalso; omega)))
   ·have n2 := n2 p2
    subst n2
    by_cases p3 : mid < en ∧ en < b
    ·have k3 := k3 p3.1 p3.2
     (repeat' ((conv => whnf); first | (exfalso; omega) | (refine callh [some 0] k1 rfl rfl ⟨rfl, trivial⟩ ?_) | (refine callh [some 0] k3 rfl rfl ⟨rfl, trivial⟩ ?_) | (refine end_fn [some 0] (.inl rfl) ?_ ?_ rfl rfl; (focus exact vwV); exact hsV) | refine spC (fun hb => ?_) fun hb => ?_ | refine saC ?_))
    ·rw [n3 p3]
     (repeat' ((conv => whnf); first | (exfalso; omega) | (refine callh [some 0] k1 rfl rfl ⟨rfl, trivial⟩ ?_) | (refine end_fn [some 0] (.inl rfl) ?_ ?_ rfl rfl; (focus exact vwV); exact hsV) | refine spC (fun hb => ?_) fun hb => ?_ | refine saC ?_))
  ·have n1 := n1 p1
   subst n1
   by_cases p2 : a < s ∧ s < mid
   ·have k2 := k2 p2.1 p2.2
    by_cases p3 : mid < en ∧ en < b
    ·have k3 := k3 p3.1 p3.2
     (repeat' ((conv => whnf); first | (exfalso; omega)))
    ·rw [n3 p3]
     (repeat' ((conv => whnf); first | (exfalso; omega) | (refine callh [some 0] k2 rfl rfl ⟨rfl, trivial⟩ ?_) | (refine end_fn [some 0] (.inl rfl) ?_ ?_ rfl rfl; (focus exact vwV); exact hsV) | refine spC (fun hb => ?_) fun hb => ?_ | refine saC ?_))
   ·have n2 := n2 p2
    subst n2
    by_cases p3 : mid < en ∧ en < b
    ·have k3 := k3 p3.1 p3.2
     (repeat' ((conv => whnf); first | (exfalso; omega)))
    ·rw [n3 p3]
     (repeat' ((conv => whnf); first | (exfalso; omega) | (refine end_fn [some 0] (.inl rfl) ?_ ?_ rfl rfl; (focus exact vwV); exact hsV) | refine spC (fun hb => ?_) fun hb => ?_ | refine saC ?_))
theorem symMerge : ∀ (n : Nat) (D T : List Event) (a m b : Nat), b - a = n → Sym T D a m b → D.length ≤ 1000000 → symMeets D T a m b := by
 intro n
 induction n using Nat.strongRecOn with
 | ind n ih =>
  intro D T a m b hn hs hD
  by_cases c1 : m = a + 1
  ·exact symA D T a m b c1 hs hD
  ·by_cases c2 : b = m + 1
   ·exact symB D T a m b c1 c2 hs hD
   ·obtain ⟨z1, z2, z3, z4⟩ := hs.bd
    have ih' : ∀ (D' T' : List Event) (a' m' b' : Nat), b' - a' < b - a → Sym T' D' a' m' b' → D'.length ≤ 1000000 → symMeets D' T' a' m' b' := fun D' T' a' m' b' h1 h2 h3 => ih (b' - a') (by omega) D' T' a' m' b' rfl h2 h3
    rcases Nat.lt_or_ge ((a + b) / 2) m with h | h
    ·exact symC1 D T a m b ((a + b) / 2) _ _ c1 c2 hs hD ⟨rfl, ⟨z1, z2⟩, .inl ⟨h, rfl, rfl⟩⟩ ⟨h, rfl, rfl⟩ ih'
    ·exact symC2 D T a m b ((a + b) / 2) _ _ c1 c2 hs hD ⟨rfl, ⟨z1, z2⟩, .inr ⟨h, rfl, rfl⟩⟩ ⟨h, rfl, rfl⟩ ih'
/-- the blocks one after another -/
structure Blk (D J : List Event) (a : Nat) : Prop where
 ex : ∃ X rest : List Event, J = X ++ rest ∧ blocksE 20 D = X ++ blocksE 20 rest ∧ X.length = a
theorem Blk.bd {D J : List Event} {a : Nat} (h : Blk D J a) : a ≤ J.length ∧ J.length = D.length := by
 obtain ⟨X, rest, rfl, h1, rfl⟩ := h
 have := congrArg List.length h1
 rw [blocks_len] at this
 simp only [List.length_append, blocks_len] at *
 omega
theorem Blk.next {D J : List Event} {a : Nat} (h : Blk D J a) (hl : a + 20 ≤ J.length) : ∃ J', InsO J' J a (a + 20) (a + 1) ∧ Blk D J' (a + 20) := by
 obtain ⟨X, rest, rfl, h1, rfl⟩ := h
 have hr : 20 ≤ rest.length := by rw [List.length_append] at hl; omega
 have e := insO_start X (rest.take 20) (rest.drop 20) X.length (X.length + 20) rfl (by rw [List.length_take]; omega)
 rw [List.append_assoc X (rest.take 20), List.take_append_drop] at e
 refine ⟨_, e, X ++ isortE (rest.take 20), rest.drop 20, rfl, ?_, ?_⟩
 ·rw [h1, blocks_ge (by omega) hr, List.append_assoc]
 ·rw [List.length_append, isort_len, List.length_take]; omega
theorem Blk.last {D J : List Event} {a : Nat} (h : Blk D J a) (hl : J.length < a + 20) : InsO (blocksE 20 D) J a J.length (a + 1) := by
 obtain ⟨X, rest, rfl, h1, rfl⟩ := h
 have hr : rest.length ≤ 20 := by rw [List.length_append] at hl; omega
 have e := insO_start X rest [] X.length (X ++ rest).length rfl (by rw [List.length_append])
 rw [List.append_nil, List.append_nil] at e
 rwa [h1, blocks_le hr]
structure Mrg (bs : Nat) (D J : List Event) (a : Nat) : Prop where
 ex : ∃ X rest : List Event, J = X ++ blocksE bs rest ∧ blocksE (bs * 2) D = X ++ blocksE (bs * 2) rest ∧ X.length = a
theorem Mrg.bd {bs : Nat} {D J : List Event} {a : Nat} (h : Mrg bs D J a) : a ≤ J.length ∧ J.length = D.length := by
 obtain ⟨X, rest, rfl, h1, rfl⟩ := h
 have := congrArg List.length h1
 rw [blocks_len] at this
 simp only [List.length_append, blocks_len] at *
 omega
theorem Mrg.next {bs : Nat} (hb : 0 < bs) {D J : List Event} {a : Nat} (h : Mrg bs D J a) (hl : a + 2 * bs ≤ J.length) : ∃ J', Sym J' J a (a + bs) (a + 2 * bs) ∧ Mrg bs D J' (a + 2 * bs) := by
 obtain ⟨X, rest, rfl, h1, rfl⟩ := h
 have hr : 2 * bs ≤ rest.length := by rw [List.length_append, blocks_len] at hl; omega
 have e1 := blocks_ge hb (l := rest) (by omega)
 have e2 := blocks_ge hb (l := rest.drop bs) (by rw [List.length_drop]; omega)
 have e3 := blocks_ge (k := bs * 2) (by omega) (l := rest) (by omega)
 have et : rest.take (bs * 2) = rest.take bs ++ (rest.drop bs).take bs := by
  rw [show bs * 2 = bs + bs by omega, List.take_add]
 have ed : rest.drop (bs * 2) = (rest.drop bs).drop bs := by rw [List.drop_drop]; congr 1; omega
 refine ⟨X ++ isortE (rest.take (bs * 2)) ++ blocksE bs (rest.drop (bs * 2)), ⟨X, isortE (rest.take bs), isortE ((rest.drop bs).take bs), blocksE bs ((rest.drop bs).drop bs), ?_, ?_, isort_srt _, isort_srt _, rfl, ?_, ?_, ?_, ?_⟩, X ++ isortE (rest.take (bs * 2)), rest.drop (bs * 2), rfl, ?_, ?_⟩
 ·rw [e1, e2]; simp [List.append_assoc]
 ·rw [isort_app2, ← et, ed]
 ·rw [isort_len, List.length_take]; omega
 ·rw [isort_len, List.length_take, List.length_drop]; omega
 ·rw [isort_len, List.length_take]; omega
 ·rw [isort_len, List.length_take, List.length_drop]; omega
 ·rw [h1, e3, List.append_assoc]
 ·rw [List.length_append, isort_len, List.length_take]; omega
theorem Mrg.last {bs : Nat} (hb : 0 < bs) {D J : List Event} {a : Nat} (h : Mrg bs D J a) (hl : J.length < a + 2 * bs) (hm : a + bs < J.length) : Sym (blocksE (bs * 2) D) J a (a + bs) J.length := by
 obtain ⟨X, rest, rfl, h1, rfl⟩ := h
 simp only [List.length_append, blocks_len] at *
 have e1 := blocks_ge hb (l := rest) (by omega)
 have e2 := blocks_le (k := bs) (l := rest.drop bs) (by rw [List.length_drop]; omega)
 have e3 := blocks_le (k := bs * 2) (l := rest) (by omega)
 refine ⟨X, isortE (rest.take bs), isortE (rest.drop bs), [], ?_, ?_, isort_srt _, isort_srt _, rfl, ?_, ?_, ?_, ?_⟩
 ·rw [e1, e2]; simp [List.append_assoc]
 ·rw [h1, e3, isort_app2, List.take_append_drop]; simp
 ·rw [isort_len, List.length_take]; omega
 ·rw [isort_len, List.length_drop]; omega
 ·rw [isort_len, List.length_take]; omega
 ·rw [isort_len, List.length_drop]; omega
theorem Mrg.stop {bs : Nat} (hb : 0 < bs) {D J : List Event} {a : Nat} (h : Mrg bs D J a) (hm : J.length ≤ a + bs) : J = blocksE (bs * 2) D := by
 obtain ⟨X, rest, rfl, h1, rfl⟩ := h
 simp only [List.length_append, blocks_len] at *
 rw [h1, blocks_le (k := bs) (l := rest) (by omega), blocks_le (k := bs * 2) (l := rest) (by omega)]
theorem stable (D : List Event) (hD : D.length ≤ 1000000) : Meets Tryz.prog Dc 139 [.slice 0 0 7 0 D.length, iS D.length, cmpF] [.rows U.event D] (.tuple []) [.rows U.event (isortE D)] := by
 refine meets_of_gx Ax tab_ok Tryz.func139 (c := _) rfl Tryz.call139 600 ?_
 (repeat' ((conv => whnf); first | fail))
 refine loop_upT [some 0] (fun q : Int × Int × List Event => [(7, iS q.1), (8, iS q.2.1)]) (fun q => [(0, .rows U.event q.2.2)]) (fun q => ∃ a : Nat, q.1 = a ∧ q.2.1 = (a : Int) + 20 ∧ Blk D q.2.2 a) (fun q => (D.length + 20 - q.1).toNat) (0, 20, D) ⟨0, rfl, rfl, [], D, rfl, rfl, rfl⟩ (by exact bkI) ?_
 rintro ⟨x, y, J⟩ ⟨a, hx, hy, hq⟩ K hK
 dsimp only at hx hy hq hK ⊢
 subst hx hy
 obtain ⟨z1, z2⟩ := hq.bd
 rcases Nat.lt_or_ge D.length (a + 20) with hlt | hge
 ·have hi := insertion J (blocksE 20 D) a D.length (by omega) (by rw [← z2]; exact hq.last (by omega))
  rw [z2] at hi
  have hbl : (blocksE 20 D).length = D.length := blocks_len 20 D
  obtain ⟨J0, hJ0⟩ : ∃ J0, J0 = blocksE 20 D := ⟨_, rfl⟩
  rw [← hJ0] at hi hbl
  (repeat' ((conv => whnf); first | (exfalso; omega) | (refine callh [some 0] hi rfl rfl ⟨rfl, trivial⟩ ?_) | refine spC (fun hb => ?_) fun hb => ?_))
  refine loop_upT [some 0] (fun q : Int × List Event => [(6, iS q.1)]) (fun q => [(0, .rows U.event q.2)]) (fun q => ∃ bs : Nat, q.1 = bs ∧ 20 ≤ bs ∧ bs ≤ 2000040 ∧ q.2 = blocksE bs D) (fun q => (D.length - q.1).toNat) (20, J0) ⟨20, rfl, by omega, by omega, hJ0⟩ (by exact bkI) ?_
  rintro ⟨x, J1⟩ ⟨bs, hx, hb1, hb2, hJ1⟩ K1 hK1
  dsimp only at hx hJ1 hK1 ⊢
  subst hx
  have hl1 : J1.length = D.length := by rw [hJ1]; exact blocks_len bs D
  rcases Nat.lt_or_ge bs D.length with hlt1 | hge1
  ·(repeat' ((conv => whnf); first | (exfalso; omega) | refine spC (fun hb => ?_) fun hb => ?_ | refine saC ?_))
   refine loop_upT [some 0] (fun q : Int × Int × List Event => [(7, iS q.1), (8, iS q.2.1)]) (fun q => [(0, .rows U.event q.2.2)]) (fun q => ∃ a : Nat, q.1 = a ∧ q.2.1 = (a : Int) + 2 * bs ∧ Mrg bs D q.2.2 a) (fun q => (D.length + 2 * bs - q.1).toNat) (0, 2 * (bs : Int), J1) ⟨0, rfl, by dsimp only; omega, [], D, hJ1, rfl, rfl⟩ (by exact bkI) ?_
   rintro ⟨x, y, J⟩ ⟨a, hx, hy, hq⟩ K2 hK2
   dsimp only at hx hy hq hK2 ⊢
   subst hx hy
   obtain ⟨z1, z2⟩ := hq.bd
   rcases Nat.lt_or_ge D.length (a + 2 * bs) with hlt2 | hge2
   ·rcases Nat.lt_or_ge (a + bs) D.length with hlt3 | hge3
    ·have hm := symMerge _ J _ a (a + bs) J.length rfl (hq.last (by omega) (by omega) (by omega)) (by omega)
     unfold symMeets at hm
     rw [z2] at hm
     obtain ⟨J3, hJ3⟩ : ∃ J3, J3 = blocksE (bs * 2) D := ⟨_, rfl⟩
     rw [← hJ3] at hm
     have hm : Meets Tryz.prog Dc 152 [.slice 0 0 7 0 D.length, iS a, iS ((a : Int) + bs), iS D.length, cmpF] [.rows U.event J] (.tuple []) [.rows U.event J3] := hm
     (repeat' ((conv => whnf); first | (exfalso; omega) | (refine callh [some 0] hm rfl rfl ⟨rfl, trivial⟩ ?_) | refine hK1 ((bs : Int) * 2, J3) [some 0] _ _ ⟨⟨bs * 2, by dsimp only; omega, by omega, by omega, hJ3⟩⟩ ⟨by dsimp only; omega⟩ (by exact bkI) | refine spC (fun hb => ?_) fun hb => ?_ | refine saC ?_))
    ·have he := hq.stop (by omega) (by omega)
     (repeat' ((conv => whnf); first | (exfalso; omega) | refine hK1 ((bs : Int) * 2, J) [some 0] _ _ ⟨⟨bs * 2, by dsimp only; omega, by omega, by omega, he⟩⟩ ⟨by dsimp only; omega⟩ (by exact bkI) | refine spC (fun hb => ?_) fun hb => ?_ | refine saC ?_))
   ·obtain ⟨J', h1, h2⟩ := hq.next (by omega) (by omega)
    have hm := symMerge _ J J' a (a + bs) (a + 2 * bs) rfl h1 (by omega)
    unfold symMeets at hm
    rw [z2] at hm
    have hm : Meets Tryz.prog Dc 152 [.slice 0 0 7 0 D.length, iS a, iS ((a : Int) + bs), iS ((a : Int) + 2 * bs), cmpF] [.rows U.event J] (.tuple []) [.rows U.event J'] := hm
    (repeat' ((conv => whnf); first | (exfalso; omega) | (refine callh [some 0] hm rfl rfl ⟨rfl, trivial⟩ ?_) | refine hK2 ((a : Int) + 2 * bs, (a : Int) + 2 * bs + 2 * bs, J') [some 0] _ _ ⟨⟨a + 2 * bs, by dsimp only; omega, by dsimp only; omega, h2⟩⟩ ⟨by dsimp only; omega⟩ (by exact bkI) | refine spC (fun hb => ?_) fun hb => ?_ | refine saC ?_))
  ·have he : isortE D = J1 := by rw [hJ1, blocks_le hge1]
   rw [he]
   (repeat' ((conv => whnf); first | (exfalso; omega) | (refine end_fn [some 0] (.inl rfl) ?_ ?_ rfl rfl; (focus exact vwV); exact hsV) | refine spC (fun hb => ?_) fun hb => ?_))
 ·obtain ⟨J', h1, h2⟩ := hq.next (by omega)
  have hi := insertion J J' a (a + 20) (by omega) h1
  rw [z2] at hi
  have hi : Meets Tryz.prog Dc 151 [.slice 0 0 7 0 D.length, iS a, iS ((a : Int) + 20), cmpF] [.rows U.event J] (.tuple []) [.rows U.event J'] := hi
  (repeat' ((conv => whnf); first | (exfalso; omega) | (refine callh [some 0] hi rfl rfl ⟨rfl, trivial⟩ ?_) | refine hK ((a : Int) + 20, (a : Int) + 20 + 20, J') [some 0] _ _ ⟨⟨a + 20, by dsimp only; omega, by dsimp only; omega, h2⟩⟩ ⟨by dsimp only; omega⟩ (by exact bkI) | refine spC (fun hb => ?_) fun hb => ?_ | refine saC ?_))
theorem sortStable (D : List Event) (hD : D.length ≤ 1000000) : Meets Tryz.prog Dc 110 [.slice 0 0 7 0 D.length, cmpF] [.rows U.event D] (.tuple []) [.rows U.event (isortE D)] := by
 have h := stable D hD
 obtain ⟨J, hJ⟩ : ∃ J, J = isortE D := ⟨_, rfl⟩
 rw [← hJ] at h ⊢
 refine meets_of_gx Ax tab_ok Tryz.func110 (c := _) rfl Tryz.call110 100 ?_
 (repeat' ((conv => whnf); first | (refine callh [some 0] h rfl rfl ⟨rfl, trivial⟩ ?_) | (refine end_fn [some 0] (.inl rfl) ?_ ?_ rfl rfl; (focus exact vwV); exact hsV)))
end Go.SX

namespace Go.SX
open Go.Proofs Go.Shelf Go.RowKit
set_option maxRecDepth 100000
set_option maxHeartbeats 4000000
def repG (l : List (Nat × Nat)) (x : Nat) : Nat := match l with
 | [] => x
 | (a, b) :: l => if a = x then b else repG l x
def grow_laysR : Ren := ⟨repG [(4, 138)], repG [(0, 0), (3, 3), (4, 4), (9, 9), (20, 20), (22, 34), (25, 40)], fun x => x⟩
theorem grow_lays : Lays8.n4 Tryz.prog grow_laysR where
 mixed := by kernel_rfl
 f4 := ⟨ "slices.Grow[[]nadir/api.Event,nadir/api.Event]", rfl, by kernel_rfl⟩
 t0 := by kernel_rfl
 a0 := fun w => by kernel_rfl
 z0 := fun w => by kernel_rfl
 v0 := fun w => by kernel_rfl
 t3 := by kernel_rfl
 a3 := fun w => by kernel_rfl
 z3 := fun w => by kernel_rfl
 v3 := fun w => by kernel_rfl
 t4 := by kernel_rfl
 a4 := fun w => by kernel_rfl
 z4 := fun w => by kernel_rfl
 v4 := fun w => by kernel_rfl
 t9 := by kernel_rfl
 a9 := fun w => by kernel_rfl
 z9 := fun w => by kernel_rfl
 v9 := fun w => by kernel_rfl
 t20 := by kernel_rfl
 a20 := fun w => by kernel_rfl
 z20 := fun w => by kernel_rfl
 v20 := fun w => by kernel_rfl
 t22 := by kernel_rfl
 a22 := fun w => by kernel_rfl
 z22 := fun w => by kernel_rfl
 v22 := fun w => by kernel_rfl
theorem grow0 (n : Nat) (h0 : 0 < n) (hn : n ≤ 1000000) : Meets Tryz.prog Dc 138 [.p (.lit (.slice none 0 0)), iS n] [] (.slice 0 0 7 0 0) [.rows U.event []] := by
 refine ⟨Tryz.call138, fun w E hm vs hs hd => ?_⟩
 simp only [DenA, Den] at hd
 obtain ⟨v, v2, rfl, hv, v', v3, rfl, hv', rfl⟩ := hd
 cases hv
 cases hv'
 obtain ⟨j, htj, hb, hz7⟩ : ∃ j, tab 40 = some j ∧ j.bytes = 72 ∧ j.size = 7 := ⟨_, rfl, by kernel_rfl, by kernel_rfl⟩
 obtain ⟨ie, z, f1, f2, f3, f4, f5, f6⟩ := (tab_ok 40 j htj).info
 have h := Any8.slices_Grow_grow grow_lays ie z f1 f4 (by rw [f2]; exact (tab_ok 40 j htj).pos) none 0 0 n [] w (Nat.le_refl _) (by omega) (by rw [f3, hb]; omega) (by omega) (by simp) (fun _ => rfl) (fun a h => by cases h)
 have h2 : CallsIn (Fc none) 0 Tryz.prog 138 #[.slice none 0 0, .int .i64 n] w _ := callsIn_wide.2 h
 refine h2.mono ?_
 rintro e w' ⟨rfl, hw'⟩
 have hge := grownCap_ge w (0 + n) 0 (grow_laysR.t 25)
 have hcz : (([] : List Value).toArray ++ Builtin.zeroCells z.cells (0 + n - 0) ++ Builtin.zeroCells z.cells (grownCap w (0 + n) 0 (grow_laysR.t 25) - (0 + n))).size = grownCap w (0 + n) 0 (grow_laysR.t 25) * 7 := by
  simp only [Array.size_append, Builtin.zeroCells, Array.size_map, Array.size_range, f5, hz7]
  have e : 0 + n = n := by omega
  rw [e] at hge ⊢
  simp
  omega
 generalize grownCap w (0 + n) 0 (grow_laysR.t 25) = G at *
 generalize (([] : List Value).toArray ++ Builtin.zeroCells z.cells (0 + n - 0) ++ Builtin.zeroCells z.cells (G - (0 + n))) = cells at *
 subst hw'
 let B0 := Base.here w E 0 hm
 have hrel : Rel Dc B0 E (fun _ => .any) (getC ([] : List (HS Cd))) [] { tmps := #[], defers := [] } w := ⟨fun i => trivial, hs, Fr.here, rfl, Marks.nil⟩
 have hrow : Row (w.drew.alloc (.cells cells 40)) w.drew.heap.size cells 40 := Row.new (heap_alloc_new w.drew _)
 have hn1 := hrel.drew.alloc (c := 0) rfl cells 40 (hs := HS.rows (C := Cd) U.event []) ⟨cells, 40, ⟨hrow, fun t h => by cases h⟩, by simp, ⟨by simp, fun q pv v hp _ => by simp at hp⟩⟩
 have hH1 : upH (getC ([] : List (HS Cd))) 0 (.rows U.event []) = getC [.rows U.event []] := by
  funext i
  cases i with
  | zero => rfl
  | succ i => rfl
 rw [hH1] at hn1
 refine ⟨_, E.up 0 (.loc w.drew.heap.size), rfl, ?_, hn1.sat, hn1.fr⟩
 simp only [Den, Env.up_same]
 exact .inr ⟨G, cells, 40, by simp, by omega, hrow, by omega⟩
def catS (l : List Evs) : List Event := l.flatMap (·.l)
def catN (l : List Evs) (i : Nat) : Int := (catS (l.take i)).length
theorem catS_take {L : List Evs} {i : Nat} (h : i < L.length) : catS (L.take (i + 1)) = catS (L.take i) ++ (L.getD i (U.dflt .evs)).l := by
 unfold catS
 rw [take_getD (d := U.dflt .evs) h, List.flatMap_append]; simp
theorem catN_succ {L : List Evs} {i : Nat} (h : i < L.length) : catN L (i + 1) = catN L i + (L.getD i (U.dflt .evs)).l.length := by
 unfold catN
 rw [catS_take h, List.length_append]; omega
theorem catS_le (L : List Evs) (i : Nat) : (catS (L.take i)).length ≤ (catS L).length := by
 have h : catS L = catS (L.take i) ++ catS (L.drop i) := by
  unfold catS
  rw [← List.flatMap_append, List.take_append_drop]
 rw [h, List.length_append]; omega
theorem concat (L : List Evs) (hL : (L.length : Int) ≤ 1000) (hp : 0 < (catS L).length) (hl : (catS L).length ≤ 1000000) : Meets Tryz.prog Dc 109 [.p (.dsl U.evs L)] [] (.slice 0 0 7 0 (catS L).length) [.rows U.event (catS L)] := by
 have hg := grow0 (catS L).length hp hl
 refine meets_of_gx Ax tab_ok Tryz.func109 (c := _) rfl Tryz.call109 300 ?_
 (repeat' ((conv => whnf); first | fail))
 refine loop_upT [] (fun q : Nat => [(3, iS (catN L q)), (11, iS q)]) (fun q => []) (fun q => q ≤ L.length) (fun q => L.length - q) 0 (Nat.zero_le _) (by exact bkI) ?_
 intro i hi K hK
 rcases Nat.lt_or_ge i L.length with hlt | hge
 ·have h1 := catN_succ hlt
  have h2 := catS_le L i
  have h3 := catS_le L (i + 1)
  have h1' : catN L i + ((L.getD (i : Int).toNat (Cd.dflt U.evs)).l.length : Nat) = catN L (i + 1) := h1.symm
  have h4 : catN L i = (catS (L.take i)).length := rfl
  have h5 : catN L (i + 1) = (catS (L.take (i + 1))).length := rfl
  (repeat' ((conv => whnf); first | (exfalso; omega) | refine hK (i + 1) [] _ _ ⟨by omega⟩ ⟨by omega⟩ (by (rw [← h1']; exact bkI)) | refine spC (fun hb => ?_) fun hb => ?_ | refine saC ?_))
 ·have he : catN L i = (catS L).length := by unfold catN; rw [show i = L.length by omega, List.take_length]
  rw [he]
  (repeat' ((conv => whnf); first | (exfalso; omega) | (refine callh [] hg rfl rfl trivial ?_) | refine spC (fun hb => ?_) fun hb => ?_))
  refine loop_upT [some 0] (fun q : Nat × List Event => [(6, .slice 0 0 7 0 q.2.length), (24, .any), (27, iS q.1)]) (fun q => [(0, .rows U.event q.2)]) (fun q => q.1 ≤ L.length ∧ q.2 = catS (L.take q.1)) (fun q => L.length - q.1) (0, []) ⟨Nat.zero_le _, rfl⟩ (by exact bkI) ?_
  rintro ⟨k, J⟩ ⟨hk, hJ⟩ K2 hK2
  dsimp only at hk hJ hK2 ⊢
  have hJl := catS_le L k
  rw [← hJ] at hJl
  rcases Nat.lt_or_ge k L.length with hlt | hge
  ·have hst := catS_take hlt
   have hle := catS_le L (k + 1)
   rw [hst, List.length_append, ← hJ] at hle
   rw [← hJ] at hst
   have hle' : J.length + (L.getD (k : Int).toNat (Cd.dflt U.evs)).l.length ≤ (catS L).length := hle
   have hW : List.take J.length J ++ (L.getD (k : Int).toNat (Cd.dflt U.evs)).l = catS (L.take (k + 1)) := by rw [hst, List.take_length]; rfl
   (repeat' ((conv => whnf); first | (exfalso; omega) | refine hK2 (k + 1, List.take J.length J ++ (L.getD (k : Int).toNat (Cd.dflt U.evs)).l) [some 1] _ _ ⟨⟨by dsimp only; omega, hW⟩⟩ ⟨by dsimp only; omega⟩ (by exact bkI) | refine spC (fun hb => ?_) fun hb => ?_ | refine saC ?_ | refine side_and ?_ ?_))
   exact ⟨⟨⟨rfl, trivial⟩, Nat.le_refl _, rfl, rfl, (by show (J.length + (L.getD (k : Int).toNat (Cd.dflt U.evs)).l.length) * 72 ≤ _; omega), by omega, (fun h => by cases h), by omega⟩⟩
  ·have he : catS L = J := by rw [hJ, show k = L.length by omega, List.take_length]
   rw [he]
   (repeat' ((conv => whnf); first | (exfalso; omega) | (refine end_fn [some 0] (.inr rfl) ?_ ?_ rfl rfl; (focus exact vwV); exact hsV) | refine spC (fun hb => ?_) fun hb => ?_))
end Go.SX

namespace Go.SX
open Go.Proofs
set_option maxHeartbeats 4000000
set_option maxRecDepth 100000
theorem cmpE_zero (a b : Event) : decide (cmpE a b = 0) = keyE a b := by
 rw [Bool.eq_iff_iff, decide_eq_true_eq, keyE_iff]
 unfold cmpE cmpS
 repeat' split
 all_goals omega
theorem merged1 (a b : Event) : Meets Tryz.prog Dc 112 [evA a, evA b] [] (bS (keyE a b)) [] := by
 have h := compare_meets a b
 refine meets_of_gx Ax tab_ok Tryz.func112 (c := _) rfl Tryz.call112 100 ?_
 (repeat' ((conv => whnf); first | refine x0C (eB ?_ rfl) | refine cpC (h) ?_))
 all_goals exact cmpE_zero a b
theorem dedG_snoc (x : Event) : ∀ (l : List Event) (p : Option Event), dedG p (l ++ [x]) = dedG p l ++ (if (((l.getLast?.or p).map (keyE x)).getD false) then [] else [x])
 | [], p => by
  show dedG p [x] = _
  rw [dedG]
  simp only [dedG, List.getLast?_nil, Option.none_or, List.nil_append]
  congr
 | a :: l, p => by
  rw [List.cons_append, dedG, dedG, dedG_snoc x l (some a)]
  have e : (l.getLast?.or (some a)) = ((a :: l).getLast?.or p) := by
   cases l with
   | nil => rfl
   | cons b l => rw [List.getLast?_cons_cons]; cases h : (b :: l).getLast? with
    | none => simp at h
    | some y => rfl
  rw [e]
  split
  ·rfl
  ·rfl
def dedN (D : List Event) (i : Nat) : List Event := dedE (D.take i)
theorem dedN_one {D : List Event} (h : 0 < D.length) : dedN D 1 = D.take 1 := by
 match D, h with
 | a :: l, _ => rfl
theorem dedN_succ {D : List Event} {i : Nat} (h0 : 0 < i) (h : i < D.length) : dedN D (i + 1) = if keyE (D.getD i dE) (D.getD (i - 1) dE) then dedN D i else dedN D i ++ [D.getD i dE] := by
 unfold dedN dedE
 rw [take_tl h, dedG_snoc]
 have hl : (D.take i).getLast? = some (D.getD (i - 1) dE) := by
  rw [show i = i - 1 + 1 by omega, take_tl (l := D) (k := i - 1) (by omega)]
  simp
 rw [hl]
 show (dedG none (D.take i) ++ if keyE (D.getD i dE) (D.getD (i - 1) dE) = true then [] else [D.getD i dE]) = _
 split <;> simp
theorem dedN_end (D : List Event) : dedN D D.length = dedE D := by unfold dedN; rw [List.take_length]
theorem dedN_len (D : List Event) : ∀ i, (dedN D i).length ≤ i
 | 0 => by simp [dedN, dedE, dedG]
 | i + 1 => by
  have ih := dedN_len D i
  rcases Nat.lt_or_ge i D.length with h | h
  ·rcases Nat.eq_zero_or_pos i with rfl | h0
   ·rw [dedN_one (by omega)]; simp; omega
   ·rw [dedN_succ h0 h]
    split
    ·omega
    ·simp; omega
  ·have : dedN D (i + 1) = dedN D i := by unfold dedN; rw [List.take_of_length_le (by omega), List.take_of_length_le (by omega)]
   rw [this]; omega
def moveD (D : List Event) (i : Nat) : List Event := dedN D i ++ D.drop (dedN D i).length
theorem moveD_len (D : List Event) {i : Nat} (h : i ≤ D.length) : (moveD D i).length = D.length := by
 have := dedN_len D i
 unfold moveD
 simp only [List.length_append, List.length_drop]; omega
theorem moveD_get (D : List Event) {i j : Nat} (h : (dedN D i).length ≤ j) (hi : i ≤ D.length) : (moveD D i).getD j dE = D.getD j dE := by
 have := dedN_len D i
 unfold moveD
 simp only [List.getD_eq_getElem?_getD]
 rw [List.getElem?_append_right h, List.getElem?_drop]
 congr 2; omega
theorem moveD_keep {D : List Event} {i : Nat} (h0 : 0 < i) (h : i < D.length) (hk : keyE (D.getD i dE) (D.getD (i - 1) dE) = false) : (moveD D i).set (dedN D i).length (D.getD i dE) = moveD D (i + 1) ∧ (dedN D (i + 1)).length = (dedN D i).length + 1 := by
 have hl := dedN_len D i
 have e := dedN_succ h0 h
 rw [hk] at e
 simp only [Bool.false_eq_true, if_false] at e
 refine ⟨?_, by rw [e]; simp⟩
 unfold moveD
 rw [e]
 generalize D.getD i dE = v at *
 have e2 : (D.drop (dedN D i).length).set 0 v = v :: D.drop ((dedN D i).length + 1) := by
  rw [List.drop_eq_getElem_cons (show (dedN D i).length < D.length by omega)]; rfl
 rw [List.set_append_right _ _ (Nat.le_refl _), Nat.sub_self, e2]
 simp
theorem moveD_drop {D : List Event} {i : Nat} (h0 : 0 < i) (h : i < D.length) (hk : keyE (D.getD i dE) (D.getD (i - 1) dE) = true) : dedN D (i + 1) = dedN D i ∧ moveD D (i + 1) = moveD D i := by
 have e := dedN_succ h0 h
 rw [hk] at e
 simp only [if_true] at e
 exact ⟨e, by unfold moveD; rw [e]⟩
theorem moveD_clear (D : List Event) : copyTo (moveD D D.length) (List.replicate (D.length - (dedE D).length) dE) (dedE D).length (D.length - (dedE D).length) = dedE D ++ List.replicate (D.length - (dedE D).length) dE := by
 have hk := dedN_len D D.length
 have hl := moveD_len D (Nat.le_refl D.length)
 rw [dedN_end] at hk
 unfold copyTo
 rw [List.take_of_length_le (l := List.replicate _ _) (by simp)]
 have h1 : (moveD D D.length).take (dedE D).length = dedE D := by
  unfold moveD
  rw [dedN_end, List.take_left']
  rfl
 rw [h1, List.drop_of_length_le (by simp; omega), List.append_nil]
theorem compactFunc (D : List Event) (hD : D.length ≤ 1000000) : Meets Tryz.prog Dc 111 [.slice 0 0 7 0 D.length, .fn (.func 112) [] []] [.rows U.event D] (.slice 0 0 7 0 (dedE D).length) [.rows U.event (dedE D ++ List.replicate (D.length - (dedE D).length) dE)] := by
 have hdl := dedN_len D D.length
 rw [dedN_end] at hdl
 rcases Nat.lt_or_ge D.length 2 with h2 | h2
 ·have he : dedE D = D := by
   match D, h2 with
   | [], _ => rfl
   | [a], _ => rfl
   | a :: b :: l, h => simp at h; omega
  rw [he, Nat.sub_self, List.replicate_zero, List.append_nil]
  refine meets_of_gx Ax tab_ok Tryz.func111 (c := _) rfl Tryz.call111 400 ?_
  (repeat' ((conv => whnf); first | (exfalso; omega) | (refine end_fn [some 0] (.inr rfl) ?_ ?_ rfl rfl; (focus exact vwV); exact hsV) | refine spC (fun hb => ?_) fun hb => ?_))
 ·refine meets_of_gx Ax tab_ok Tryz.func111 (c := _) rfl Tryz.call111 400 ?_
  (repeat' ((conv => whnf); first | (exfalso; omega) | refine spC (fun hb => ?_) fun hb => ?_))
  refine loop_upT [some 0] (fun k : Int => [(5, iS k)]) (fun _ => []) (fun q => ∃ k : Nat, q = k ∧ 1 ≤ k ∧ k ≤ D.length ∧ dedN D k = D.take k) (fun q => (D.length - q).toNat) 1 ⟨1, rfl, by omega, by omega, dedN_one (by omega)⟩ (by exact bkI) ?_
  rintro x ⟨k, rfl, hk1, hk2, hk3⟩ K hK
  dsimp only at hK ⊢
  rcases Nat.lt_or_ge k D.length with hlt | hge
  ·have hm := merged1 (D.getD (0 + (k : Int).toNat) (Cd.dflt U.event)) (D.getD (0 + ((k : Int) - 1).toNat) (Cd.dflt U.event))
   have e1 : 0 + (k : Int).toNat = k := by omega
   have e2 : 0 + ((k : Int) - 1).toNat = k - 1 := by omega
   cases hB : keyE (D.getD (0 + (k : Int).toNat) (Cd.dflt U.event)) (D.getD (0 + ((k : Int) - 1).toNat) (Cd.dflt U.event)) with
   | false =>
    rw [hB] at hm
    rw [e1, e2] at hB
    have hn := dedN_succ (D := D) (i := k) (by omega) hlt
    rw [if_neg (by rw [show keyE (D.getD k dE) (D.getD (k - 1) dE) = false from hB]; simp), hk3, ← take_tl hlt] at hn
    (repeat' ((conv => whnf); first | (exfalso; omega) | refine dpC (hm) ?_ | refine hK ((k : Int) + 1) [some 0] _ _ ⟨⟨k + 1, by omega, by omega, by omega, hn⟩⟩ ⟨by omega⟩ (by exact bkI) | refine spC (fun hb => ?_) fun hb => ?_ | refine taC ?_ | refine saC ?_ | refine drawX_of mixed ?_))
   | true =>
    rw [hB] at hm
    rw [e1, e2] at hB
    (repeat' ((conv => whnf); first | (exfalso; omega) | refine dpC (hm) ?_ | refine spC (fun hb => ?_) fun hb => ?_ | refine taC ?_ | refine saC ?_ | refine drawX_of mixed ?_))
    obtain ⟨d1, d2⟩ := moveD_drop (D := D) (i := k) (by omega) hlt hB
    have d3 : moveD D k = D := by
     unfold moveD
     rw [hk3, List.length_take, Nat.min_eq_left (by omega), List.take_append_drop]
    have d4 : (dedN D (k + 1)).length = k := by rw [d1, hk3, List.length_take]; omega
    refine loop_upT [some 0] (fun q : Int × Int × List Event => [(5, iS q.1), (7, iS q.2.1)]) (fun q => [(0, .rows U.event q.2.2)]) (fun q => ∃ i : Nat, q.1 = (dedN D i).length ∧ (k : Int) + q.2.1 = i ∧ k + 1 ≤ i ∧ i ≤ D.length ∧ q.2.2 = moveD D i ∧ (dedN D i).length < i) (fun q => (D.length - (k + q.2.1)).toNat) ((k : Int), 1, D) ⟨k + 1, by dsimp only; omega, by dsimp only; omega, by omega, by omega, by rw [d2, d3], by omega⟩ (by exact bkI) ?_
    rintro ⟨x, y, J⟩ ⟨i, hx, hy, hi1, hi2, hJ, hlt2⟩ K2 hK2
    dsimp only at hx hy hJ hK2 ⊢
    subst hx
    have hJl : J.length = D.length := by rw [hJ]; exact moveD_len D hi2
    rcases Nat.lt_or_ge i D.length with hil | hig
    ·have w1 : 0 + (k : Int).toNat + y.toNat = i := by omega
     have w2 : 0 + (k : Int).toNat + (y - 1).toNat = i - 1 := by omega
     have g1 : J.getD (0 + (k : Int).toNat + y.toNat) (Cd.dflt U.event) = D.getD i dE := by rw [w1, hJ]; exact moveD_get D (by omega) hi2
     have g2 : J.getD (0 + (k : Int).toNat + (y - 1).toNat) (Cd.dflt U.event) = D.getD (i - 1) dE := by rw [w2, hJ]; exact moveD_get D (by omega) hi2
     have hm := merged1 (J.getD (0 + (k : Int).toNat + y.toNat) (Cd.dflt U.event)) (J.getD (0 + (k : Int).toNat + (y - 1).toNat) (Cd.dflt U.event))
     cases hC : keyE (J.getD (0 + (k : Int).toNat + y.toNat) (Cd.dflt U.event)) (J.getD (0 + (k : Int).toNat + (y - 1).toNat) (Cd.dflt U.event)) with
     | true =>
      rw [hC] at hm
      rw [g1, g2] at hC
      obtain ⟨e1, e2⟩ := moveD_drop (D := D) (i := i) (by omega) hil hC
      (repeat' ((conv => whnf); first | (exfalso; omega) | refine dpC (hm) ?_ | refine hK2 (((dedN D i).length : Nat), y + 1, J) [some 0] _ _ ⟨⟨i + 1, by dsimp only; rw [e1], by dsimp only; omega, by omega, by omega, by dsimp only; rw [e2]; exact hJ, by rw [e1]; omega⟩⟩ ⟨by dsimp only; omega⟩ (by exact bkI) | refine spC (fun hb => ?_) fun hb => ?_ | refine taC ?_ | refine saC ?_ | refine drawX_of mixed ?_))
     | false =>
      rw [hC] at hm
      rw [g1, g2] at hC
      obtain ⟨e1, e2⟩ := moveD_keep (D := D) (i := i) (by omega) hil hC
      have e3 : J.set (0 + (((dedN D i).length : Nat) : Int).toNat) (J.getD (0 + (k : Int).toNat + y.toNat) (Cd.dflt U.event)) = moveD D (i + 1) := by
       rw [← e1, ← hJ, ← g1, show 0 + (((dedN D i).length : Nat) : Int).toNat = (dedN D i).length by omega]
      (repeat' ((conv => whnf); first | (exfalso; omega) | refine dpC (hm) ?_ | refine hK2 (((dedN D i).length : Nat) + 1, y + 1, J.set (0 + (((dedN D i).length : Nat) : Int).toNat) (J.getD (0 + (k : Int).toNat + y.toNat) (Cd.dflt U.event))) [some 0] _ _ ⟨⟨i + 1, by dsimp only; omega, by dsimp only; omega, by omega, by omega, e3, by omega⟩⟩ ⟨by dsimp only; omega⟩ (by exact bkI) | refine spC (fun hb => ?_) fun hb => ?_ | refine taC ?_ | refine saC ?_ | refine drawX_of mixed ?_))
    ·obtain rfl : i = D.length := by omega
     have hdn := dedN_end D
     have e4 : copyTo J (List.replicate (((D.length : Nat) : Int).toNat - (((dedN D D.length).length : Nat) : Int).toNat) (Cd.dflt U.event)) (0 + (((dedN D D.length).length : Nat) : Int).toNat) (((D.length : Nat) : Int).toNat - (((dedN D D.length).length : Nat) : Int).toNat) = dedE D ++ List.replicate (D.length - (dedE D).length) dE := by
      rw [Nat.zero_add, Int.toNat_natCast, Int.toNat_natCast, hdn, hJ]
      exact moveD_clear D
     rw [← e4, ← hdn]
     (repeat' ((conv => whnf); first | (exfalso; omega) | (refine end_fn [some 0] (.inr rfl) ?_ ?_ rfl rfl; (focus exact vwV); exact hsV) | refine spC (fun hb => ?_) fun hb => ?_ | refine saC ?_))
  ·have he : dedE D = D := by rw [← dedN_end]; rw [show k = D.length by omega, List.take_length] at hk3; exact hk3
   rw [he, Nat.sub_self, List.replicate_zero, List.append_nil]
   (repeat' ((conv => whnf); first | (exfalso; omega) | (refine end_fn [some 0] (.inr rfl) ?_ ?_ rfl rfl; (focus exact vwV); exact hsV) | refine spC (fun hb => ?_) fun hb => ?_))
theorem grow00 : Meets Tryz.prog Dc 138 [.p (.lit (.slice none 0 0)), iS 0] [] (.p (.lit (.slice none 0 0))) [] := by
 refine meets_of_gx Ax tab_ok Tryz.func138 (c := _) rfl Tryz.call138 200 ?_
 (repeat' ((conv => whnf); first | refine x0C ?_ | refine saC ?_))
 all_goals exact vwV
theorem concat0 (L : List Evs) (hL : (L.length : Int) ≤ 1000) (hp : (catS L).length = 0) : Meets Tryz.prog Dc 109 [.p (.dsl U.evs L)] [] (.slice 0 0 7 0 (catS L).length) [.rows U.event (catS L)] := by
 have hg := grow00
 have hz : ∀ i : Nat, catN L i = 0 := fun i => by
  have := catS_le L i
  unfold catN; omega
 refine meets_of_gx Ax tab_ok Tryz.func109 (c := _) rfl Tryz.call109 300 ?_
 (repeat' ((conv => whnf); first | fail))
 refine loop_upT [] (fun q : Int × Nat => [(3, iS q.1), (11, iS q.2)]) (fun q => []) (fun q => q.1 = 0 ∧ q.2 ≤ L.length) (fun q => L.length - q.2) (0, 0) ⟨rfl, Nat.zero_le _⟩ (by exact bkI) ?_
 rintro ⟨z, i⟩ ⟨hz0, hi⟩ K hK
 dsimp only at hz0 hi hK ⊢
 subst hz0
 rcases Nat.lt_or_ge i L.length with hlt | hge
 ·have h1 := catN_succ hlt
  rw [hz, hz] at h1
  have h1' : (0 : Int) + ((L.getD (i : Int).toNat (Cd.dflt U.evs)).l.length : Nat) = 0 := h1.symm
  (repeat' ((conv => whnf); first | (exfalso; omega) | refine hK (0 + ((L.getD (i : Int).toNat (Cd.dflt U.evs)).l.length : Nat), i + 1) [] _ _ ⟨⟨h1', by dsimp only; omega⟩⟩ ⟨by dsimp only; omega⟩ (by exact bkI) | refine spC (fun hb => ?_) fun hb => ?_ | refine saC ?_))
 ·(repeat' ((conv => whnf); first | (exfalso; omega) | refine cpC (hg) ?_ | refine spC (fun hb => ?_) fun hb => ?_))
  refine loop_upT [none] (fun q : Nat × List Event => [(6, .slice 0 0 7 0 q.2.length), (24, .any), (27, iS q.1)]) (fun q => [(0, .rows U.event q.2)]) (fun q => q.1 ≤ L.length ∧ q.2 = catS (L.take q.1)) (fun q => L.length - q.1) (0, []) ⟨Nat.zero_le _, rfl⟩ (by exact bkI) ?_
  rintro ⟨k, J⟩ ⟨hk, hJ⟩ K2 hK2
  dsimp only at hk hJ hK2 ⊢
  have hJl := catS_le L k
  rw [← hJ] at hJl
  rcases Nat.lt_or_ge k L.length with hlt | hge
  ·have hst := catS_take hlt
   have hle := catS_le L (k + 1)
   rw [hst, List.length_append, ← hJ] at hle
   rw [← hJ] at hst
   have hle' : J.length + (L.getD (k : Int).toNat (Cd.dflt U.evs)).l.length ≤ (catS L).length := hle
   have hW : List.take J.length J ++ (L.getD (k : Int).toNat (Cd.dflt U.evs)).l = catS (L.take (k + 1)) := by rw [hst, List.take_length]; rfl
   (repeat' ((conv => whnf); first | (exfalso; omega) | refine hK2 (k + 1, List.take J.length J ++ (L.getD (k : Int).toNat (Cd.dflt U.evs)).l) [some 1] _ _ ⟨⟨by dsimp only; omega, hW⟩⟩ ⟨by dsimp only; omega⟩ (by exact bkI) | refine spC (fun hb => ?_) fun hb => ?_ | refine saC ?_ | refine side_and ?_ ?_))
   exact ⟨⟨⟨rfl, trivial⟩, Nat.le_refl _, rfl, rfl, (by show (J.length + (L.getD (k : Int).toNat (Cd.dflt U.evs)).l.length) * 72 ≤ _; omega), by omega, (fun h => by cases h), by omega⟩⟩
  ·have he : catS L = J := by rw [hJ, show k = L.length by omega, List.take_length]
   rw [he]
   (repeat' ((conv => whnf); first | (exfalso; omega) | (refine end_fn [some 0] (.inr rfl) ?_ ?_ rfl rfl; (focus exact vwV); exact hsV) | refine spC (fun hb => ?_) fun hb => ?_))
theorem merged (L : List Evs) (hL : (L.length : Int) ≤ 1000) (hl : (catS L).length ≤ 1000000) : Meets Tryz.prog Dc 76 [.p (.dsl U.evs L)] [] (eS (mergeS (catS L))) [] := by
 have h1 : Meets Tryz.prog Dc 109 [.p (.dsl U.evs L)] [] (.slice 0 0 7 0 (catS L).length) [.rows U.event (catS L)] := by
  rcases Nat.eq_zero_or_pos (catS L).length with h | h
  ·exact concat0 L hL h
  ·exact concat L hL h hl
 have h2 := sortStable (catS L) hl
 have h3 := compactFunc (isortE (catS L)) (by rw [isort_len]; exact hl)
 have hm : dedE (isortE (catS L)) = mergeS (catS L) := rfl
 have hml : (mergeS (catS L)).length ≤ (catS L).length := by
  have := dedN_len (isortE (catS L)) (isortE (catS L)).length
  rw [dedN_end, isort_len] at this
  exact this
 rw [hm, isort_len] at h3
 generalize mergeS (catS L) = M at *
 generalize isortE (catS L) = I at *
 generalize catS L = C at *
 refine meets_of_gx Ax tab_ok Tryz.func76 (c := _) rfl Tryz.call76 200 ?_
 (repeat' ((conv => whnf); first | (refine callh [] h1 rfl rfl trivial ?_) | (refine callh [some 0] h2 rfl rfl ⟨rfl, trivial⟩ ?_) | (refine callh [some 0] h3 rfl rfl ⟨rfl, trivial⟩ ?_) | refine x0C ?_))
 all_goals exact vwV
theorem grow00n (n : Nat) (h : n = 0) : Meets Tryz.prog Dc 138 [.p (.lit (.slice none 0 0)), iS n] [] (.p (.lit (.slice none 0 0))) [] := by subst h; exact grow00
theorem concatOA (a b : List Event) (hp : 0 < (a ++ b).length) (hl : (a ++ b).length ≤ 1000000) : Meets Tryz.prog Dc 109 [.slice 0 0 1 0 2] [.vart none [eS a, .slice 1 0 7 0 b.length], .rows U.event b] (.slice 2 0 7 0 (a ++ b).length) ([.vart none [eS a, .slice 1 0 7 0 b.length], .rows U.event b] ++ [.rows U.event (a ++ b)]) := by
 have hg := grow0 (a ++ b).length hp hl
 obtain ⟨M, hM⟩ : ∃ M, M = a ++ b := ⟨_, rfl⟩
 obtain ⟨n, hn⟩ : ∃ n, n = (a ++ b).length := ⟨_, rfl⟩
 have hn' : (n : Int) = a.length + b.length := by rw [hn, List.length_append]; omega
 rw [← hn] at hl hp
 rw [← hn] at hg
 have hMl : M.length = n := by rw [hM, hn]
 rw [← hM, hMl]
 refine meets_of_gx Ax tab_ok Tryz.func109 (c := _) rfl Tryz.call109 300 ?_
 (repeat' ((conv => whnf); first | fail))
 refine loop_upT [some 0, some 1] (fun q : Nat × Int => [(3, iS q.2), (11, iS q.1)]) (fun q => []) (fun q => (q.1 = 0 ∧ q.2 = 0) ∨ (q.1 = 1 ∧ q.2 = a.length) ∨ (q.1 = 2 ∧ q.2 = n)) (fun q => 2 - q.1) (0, 0) (.inl ⟨rfl, rfl⟩) (by exact bkI) ?_
 rintro ⟨i, z⟩ hq K hK
 dsimp only at hq hK ⊢
 rcases hq with ⟨rfl, rfl⟩ | ⟨rfl, rfl⟩ | ⟨rfl, rfl⟩
 ·(repeat' ((conv => whnf); first | refine hK (1, 0 + (a.length : Int)) [some 0, some 1] _ _ ⟨.inr (.inl ⟨rfl, by dsimp only; omega⟩)⟩ ⟨by dsimp only; omega⟩ (by exact bkI) | refine saC ?_))
 ·(repeat' ((conv => whnf); first | refine hK (2, (a.length : Int) + b.length) [some 0, some 1] _ _ ⟨.inr (.inr ⟨rfl, by dsimp only; omega⟩)⟩ ⟨by dsimp only; omega⟩ (by exact bkI) | refine saC ?_))
 ·(repeat' ((conv => whnf); first | (refine callh [] hg rfl rfl trivial ?_)))
  refine loop_upT [some 0, some 1, some 2] (fun q : Nat × List Event => [(6, .slice 2 0 7 0 q.2.length), (24, .any), (27, iS q.1)]) (fun q => [(2, .rows U.event q.2)]) (fun q => (q.1 = 0 ∧ q.2 = []) ∨ (q.1 = 1 ∧ q.2 = a) ∨ (q.1 = 2 ∧ q.2 = a ++ b)) (fun q => 2 - q.1) (0, []) (.inl ⟨rfl, rfl⟩) (by exact bkI) ?_
  rintro ⟨k, J⟩ hq K2 hK2
  dsimp only at hq hK2 ⊢
  have hJl : J.length ≤ n := by
   rcases hq with ⟨_, h⟩ | ⟨_, h⟩ | ⟨_, h⟩
   ·rw [h]; exact Nat.zero_le _
   ·rw [h]; omega
   ·rw [h]; exact Nat.le_of_eq hn.symm
  rcases hq with ⟨rfl, hJ⟩ | ⟨rfl, hJ⟩ | ⟨rfl, hJ⟩
  ·have hJ0 : J.length = 0 := by rw [hJ]; rfl
   have hW : List.take J.length J ++ a = a := by rw [hJ0]; simp
   (repeat' ((conv => whnf); first | refine hK2 (1, List.take J.length J ++ a) [some 0, some 1, some 3] _ _ ⟨.inr (.inl ⟨rfl, hW⟩)⟩ ⟨by dsimp only; omega⟩ (by exact bkI) | refine saC ?_))
  ·have hJa : J.length = a.length := by rw [hJ]
   have hW : List.take J.length J ++ List.take b.length (List.drop 0 b) = a ++ b := by rw [hJ]; simp
   (repeat' ((conv => whnf); first | refine hK2 (2, List.take J.length J ++ List.take b.length (List.drop 0 b)) [some 0, some 1, some 3] _ _ ⟨.inr (.inr ⟨rfl, hW⟩)⟩ ⟨by dsimp only; omega⟩ (by exact bkI) | refine saC ?_))
  ·have hJa : J.length = n := by rw [hJ, hn]
   have hJM : M = J := by rw [hM, hJ]
   rw [hJM, ← hJa]
   (repeat' ((conv => whnf); first | (refine end_fn [some 0, some 1, some 2] (.inr rfl) ?_ ?_ rfl rfl; (focus exact vwV); exact hsV)))
theorem concatOZ (a b : List Event) (hp : (a ++ b).length = 0) (hl : (a ++ b).length ≤ 1000000) : Meets Tryz.prog Dc 109 [.slice 0 0 1 0 2] [.vart none [eS a, .slice 1 0 7 0 b.length], .rows U.event b] (.slice 2 0 7 0 (a ++ b).length) ([.vart none [eS a, .slice 1 0 7 0 b.length], .rows U.event b] ++ [.rows U.event (a ++ b)]) := by
 have hg := grow00n (a ++ b).length hp
 obtain ⟨M, hM⟩ : ∃ M, M = a ++ b := ⟨_, rfl⟩
 obtain ⟨n, hn⟩ : ∃ n, n = (a ++ b).length := ⟨_, rfl⟩
 have hn' : (n : Int) = a.length + b.length := by rw [hn, List.length_append]; omega
 rw [← hn] at hl hp
 rw [← hn] at hg
 have hMl : M.length = n := by rw [hM, hn]
 rw [← hM, hMl]
 refine meets_of_gx Ax tab_ok Tryz.func109 (c := _) rfl Tryz.call109 300 ?_
 (repeat' ((conv => whnf); first | fail))
 refine loop_upT [some 0, some 1] (fun q : Nat × Int => [(3, iS q.2), (11, iS q.1)]) (fun q => []) (fun q => (q.1 = 0 ∧ q.2 = 0) ∨ (q.1 = 1 ∧ q.2 = a.length) ∨ (q.1 = 2 ∧ q.2 = n)) (fun q => 2 - q.1) (0, 0) (.inl ⟨rfl, rfl⟩) (by exact bkI) ?_
 rintro ⟨i, z⟩ hq K hK
 dsimp only at hq hK ⊢
 rcases hq with ⟨rfl, rfl⟩ | ⟨rfl, rfl⟩ | ⟨rfl, rfl⟩
 ·(repeat' ((conv => whnf); first | refine hK (1, 0 + (a.length : Int)) [some 0, some 1] _ _ ⟨.inr (.inl ⟨rfl, by dsimp only; omega⟩)⟩ ⟨by dsimp only; omega⟩ (by exact bkI) | refine saC ?_))
 ·(repeat' ((conv => whnf); first | refine hK (2, (a.length : Int) + b.length) [some 0, some 1] _ _ ⟨.inr (.inr ⟨rfl, by dsimp only; omega⟩)⟩ ⟨by dsimp only; omega⟩ (by exact bkI) | refine saC ?_))
 ·(repeat' ((conv => whnf); first | refine cpC (hg) ?_))
  refine loop_upT [some 0, some 1, none] (fun q : Nat × List Event => [(6, .slice 2 0 7 0 q.2.length), (24, .any), (27, iS q.1)]) (fun q => [(2, .rows U.event q.2)]) (fun q => (q.1 = 0 ∧ q.2 = []) ∨ (q.1 = 1 ∧ q.2 = a) ∨ (q.1 = 2 ∧ q.2 = a ++ b)) (fun q => 2 - q.1) (0, []) (.inl ⟨rfl, rfl⟩) (by exact bkI) ?_
  rintro ⟨k, J⟩ hq K2 hK2
  dsimp only at hq hK2 ⊢
  have hJl : J.length ≤ n := by
   rcases hq with ⟨_, h⟩ | ⟨_, h⟩ | ⟨_, h⟩
   ·rw [h]; exact Nat.zero_le _
   ·rw [h]; omega
   ·rw [h]; exact Nat.le_of_eq hn.symm
  rcases hq with ⟨rfl, hJ⟩ | ⟨rfl, hJ⟩ | ⟨rfl, hJ⟩
  ·have hJ0 : J.length = 0 := by rw [hJ]; rfl
   have hW : List.take J.length J ++ a = a := by rw [hJ0]; simp
   (repeat' ((conv => whnf); first | refine hK2 (1, List.take J.length J ++ a) [some 0, some 1, some 3] _ _ ⟨.inr (.inl ⟨rfl, hW⟩)⟩ ⟨by dsimp only; omega⟩ (by exact bkI) | refine saC ?_))
  ·have hJa : J.length = a.length := by rw [hJ]
   have hW : List.take J.length J ++ List.take b.length (List.drop 0 b) = a ++ b := by rw [hJ]; simp
   (repeat' ((conv => whnf); first | refine hK2 (2, List.take J.length J ++ List.take b.length (List.drop 0 b)) [some 0, some 1, some 3] _ _ ⟨.inr (.inr ⟨rfl, hW⟩)⟩ ⟨by dsimp only; omega⟩ (by exact bkI) | refine saC ?_))
  ·have hJa : J.length = n := by rw [hJ, hn]
   have hJM : M = J := by rw [hM, hJ]
   rw [hJM, ← hJa]
   (repeat' ((conv => whnf); first | (refine end_fn [some 0, some 1, some 2] (.inr rfl) ?_ ?_ rfl rfl; (focus exact vwV); exact hsV)))
theorem mergedO (a b : List Event) (hl : (a ++ b).length ≤ 1000000) : Meets Tryz.prog Dc 76 [.slice 0 0 1 0 2] [.vart none [eS a, .slice 1 0 7 0 b.length], .rows U.event b] (eS (mergeS (a ++ b))) [.vart none [eS a, .slice 1 0 7 0 b.length], .rows U.event b] := by
 have h1 : Meets Tryz.prog Dc 109 [.slice 0 0 1 0 2] [.vart none [eS a, .slice 1 0 7 0 b.length], .rows U.event b] (.slice 2 0 7 0 (a ++ b).length) ([.vart none [eS a, .slice 1 0 7 0 b.length], .rows U.event b] ++ [.rows U.event (a ++ b)]) := by
  rcases Nat.eq_zero_or_pos (a ++ b).length with h | h
  ·exact concatOZ a b h hl
  ·exact concatOA a b h hl
 have h2 := sortStable (a ++ b) hl
 have h3 := compactFunc (isortE (a ++ b)) (by rw [isort_len]; exact hl)
 have hm : dedE (isortE (a ++ b)) = mergeS (a ++ b) := rfl
 have hml : (mergeS (a ++ b)).length ≤ (a ++ b).length := by
  have := dedN_len (isortE (a ++ b)) (isortE (a ++ b)).length
  rw [dedN_end, isort_len] at this
  exact this
 rw [hm, isort_len] at h3
 generalize mergeS (a ++ b) = M at *
 generalize isortE (a ++ b) = I at *
 generalize a ++ b = C at *
 refine meets_of_gx Ax tab_ok Tryz.func76 (c := _) rfl Tryz.call76 200 ?_
 (repeat' ((conv => whnf); first | (refine callh [some 0, some 1] h1 rfl rfl (by exact ⟨rfl, rfl, trivial⟩) ?_) | (refine callh [some 2] h2 rfl rfl ⟨rfl, trivial⟩ ?_) | (refine callh [some 2] h3 rfl rfl ⟨rfl, trivial⟩ ?_) | (refine end_fn [some 0, some 1] (.inr rfl) ?_ ?_ rfl rfl; (focus exact vwV); exact hsV)))
end Go.SX

/-
 Plain law: what finishes a goal.
-/
namespace Go.SX
def shotE (g : Goal) (m image look : Int) : Event := ⟨1, m, image, g.rows, g.low, look, true⟩
def delT (at_ image : Int) : Event := ⟨2, at_, image, [], 0, 0, false⟩
def openB (l : List Event) (within now : Int) (e : Event) : Bool := decide (e.kind = 1) && decide (now ≤ e.at_ + within) && !delB l e within
def hopesS (l : List Event) (within now : Int) : List Event := (l.filter (openB l within now)).map fun e => delT now e.image
def hopedS (l : List Event) (within now : Int) : List Event := restE (mergeS (l ++ hopesS l within now)) within
def withDel (more : List Event) : List Event := more.flatMap fun e => [e, delT e.at_ e.image]
def imsOf (s : Sen) : List Int := match s with | none => [] | some (_, im) => im
def delOut (hopes more : List Event) (im : List Int) : List Event := mergeS (hopes.filter (fun e => decide (e.image ∈ im)) ++ withDel more)
def countE (l : List Event) : Int := ((l.filter fun e => decide (e.kind = 1)).length : Nat)
/-! runs that can be continued -/
def endK (g : Goal) (m : List Event) (long : List Int) (i : Nat) : Nat → Int
 | 0 => if doBeginB g (m.getD i (U.dflt .event)) then 1 else 0
 | k + 1 => if decide (0 < long.getD k 0) && doFollowB g (m.getD k (U.dflt .event)) (m.getD i (U.dflt .event)) then max (endK g m long i k) (1 + long.getD k 0) else endK g m long i k
def endsN (g : Goal) (m : List Event) : Nat → List Int
 | 0 => []
 | i + 1 => endsN g m i ++ [endK g m (endsN g m i) i i]
theorem endsN_len (g : Goal) (m : List Event) : ∀ i, (endsN g m i).length = i
 | 0 => rfl
 | i + 1 => by rw [endsN, List.length_append, endsN_len g m i]; rfl
theorem endsN_get (g : Goal) (m : List Event) {k : Nat} : ∀ {i : Nat}, k < i → (endsN g m i).getD k 0 = endK g m (endsN g m k) k k
 | 0, h => absurd h (Nat.not_lt_zero _)
 | i + 1, h => by
  rw [endsN]
  have hl := endsN_len g m i
  rcases Nat.lt_or_ge k i with h' | h'
  ·rw [List.getD_eq_getElem?_getD, List.getElem?_append_left (by omega), ← List.getD_eq_getElem?_getD]
   exact endsN_get g m h'
  ·obtain rfl : k = i := by omega
   rw [List.getD_eq_getElem?_getD, List.getElem?_append_right (by omega)]
   simp [hl]
def runI (g : Goal) (m : List Event) (i : Nat) : Int := endK g m (endsN g m i) i i
theorem endK_bd (g : Goal) (m : List Event) (long : List Int) (i : Nat) (n : Int) (hn : 0 ≤ n) (h : ∀ k, 0 ≤ long.getD k 0 ∧ long.getD k 0 ≤ n) : ∀ k, 0 ≤ endK g m long i k ∧ endK g m long i k ≤ n + 1
 | 0 => by rw [endK]; split <;> omega
 | k + 1 => by
  have := endK_bd g m long i n hn h k
  have := h k
  rw [endK]
  split <;> omega
theorem endsN_bd (g : Goal) (m : List Event) : ∀ (i k : Nat), 0 ≤ (endsN g m i).getD k 0 ∧ (endsN g m i).getD k 0 ≤ i
 | 0, k => by simp [endsN]
 | i + 1, k => by
  have hl := endsN_len g m i
  rw [endsN]
  rcases Nat.lt_trichotomy k i with h | h | h
  ·rw [List.getD_eq_getElem?_getD, List.getElem?_append_left (by omega), ← List.getD_eq_getElem?_getD]
   have := endsN_bd g m i k
   omega
  ·subst h
   rw [List.getD_eq_getElem?_getD, List.getElem?_append_right (by omega)]
   have := endK_bd g m (endsN g m k) k k (by omega) (endsN_bd g m k) k
   simp [hl]; omega
  ·rw [List.getD_eq_getElem?_getD, List.getElem?_eq_none (by rw [List.length_append, hl]; simp; omega)]
   simp; omega
theorem runI_bd (g : Goal) (m : List Event) (i : Nat) : 0 ≤ runI g m i ∧ runI g m i ≤ i + 1 := endK_bd g m _ i i (by omega) (endsN_bd g m i) i
def considerS (g : Goal) (to : Int) (s : Int × Int) (n from_ latest : Int) : Int × Int := if from_ ≤ latest ∧ from_ + (g.times - n - 1) * g.within < to ∧ s.1 ≤ n then (n, from_) else s
def goN (g kid : Goal) (m : List Event) (mm : Int) : Nat → Int × Int
 | 0 => considerS g kid.to_ (-1, 0) 0 mm (g.from_ + 1440 * g.days)
 | i + 1 => if 0 < runI g m i then considerS g kid.to_ (goN g kid m mm i) (runI g m i) (max mm ((m.getD i (U.dflt .event)).at_ + g.within)) ((m.getD i (U.dflt .event)).at_ + 1440 * g.days) else goN g kid m mm i
def shotsN (kid : Goal) (at_ w image : Int) : Nat → List Event
 | 0 => []
 | j + 1 => shotsN kid at_ w image j ++ [shotE kid (at_ + j * w) (image + j) 0]
def finEvery (g : Goal) (l : List Event) (now image : Int) : Option (List Event) :=
 if (goN g (kid0 g.kids) (seenS (kid0 g.kids) l) (max now (kid0 g.kids).from_) (seenS (kid0 g.kids) l).length).1 < 0 then none
 else some (shotsN (kid0 g.kids) (goN g (kid0 g.kids) (seenS (kid0 g.kids) l) (max now (kid0 g.kids).from_) (seenS (kid0 g.kids) l).length).2 g.within image (g.times - (goN g (kid0 g.kids) (seenS (kid0 g.kids) l) (max now (kid0 g.kids).from_) (seenS (kid0 g.kids) l).length).1).toNat)
def finSee (g : Goal) (now image : Int) : Option (List Event) := if max now g.from_ < g.to_ then some [shotE g (max now g.from_) image 0] else none
def finPair (g : Goal) (now image : Int) : Option (List Event) := if max now (kid0 g.kids).from_ < (kid0 g.kids).to_ then some [shotE (kid0 g.kids) (max now (kid0 g.kids).from_) image (-4), shotE (kid0 g.kids) (max now (kid0 g.kids).from_) (image + 1) 4] else none
mutual
def finG : Goal → List Event → Int → Int → Option (List Event)
 | ⟨kind, rows, from_, to_, low, high, clear, days, times, within, cents, kids⟩, l, now, image =>
  if (meanG ⟨kind, rows, from_, to_, low, high, clear, days, times, within, cents, kids⟩ l).isSome then some []
  else if kind = 1 then finSee ⟨kind, rows, from_, to_, low, high, clear, days, times, within, cents, kids⟩ now image
  else if kind = 2 then finPair ⟨kind, rows, from_, to_, low, high, clear, days, times, within, cents, kids⟩ now image
  else if kind = 3 then finEvery ⟨kind, rows, from_, to_, low, high, clear, days, times, within, cents, kids⟩ l now image
  else if kind = 4 then finH kids within l now image
  else if kind = 5 then finAll kids l now image []
  else finAny kids l now image
def finH : List Goal → Int → List Event → Int → Int → Option (List Event)
 | [], _, _, _, _ => none
 | k :: _, within, l, now, image => match finG k (hopedS l within now) now image with
  | none => none
  | some more => some (delOut (hopesS l within now) more (imsOf (meanG k (mergeS (hopedS l within now ++ more)))))
def finAll : List Goal → List Event → Int → Int → List Event → Option (List Event)
 | [], _, _, _, out => some out
 | k :: ks, l, now, image, out => match finG k l now image with
  | none => none
  | some more => finAll ks l now (image + countE more) (mergeS (out ++ more))
def finAny : List Goal → List Event → Int → Int → Option (List Event)
 | [], _, _, _ => none
 | k :: ks, l, now, image => match finG k l now image with
  | none => finAny ks l now image
  | some more => some more
end
theorem finG_eq (g : Goal) (l : List Event) (now image : Int) : finG g l now image = if (meanG g l).isSome then some [] else if g.kind = 1 then finSee g now image else if g.kind = 2 then finPair g now image else if g.kind = 3 then finEvery g l now image else if g.kind = 4 then finH g.kids g.within l now image else if g.kind = 5 then finAll g.kids l now image [] else finAny g.kids l now image := by
 cases g; rw [finG]
theorem finH_eq (ks : List Goal) (within : Int) (l : List Event) (now image : Int) (h : (ks.length : Int) = 1) : finH ks within l now image = match finG (kid0 ks) (hopedS l within now) now image with
  | none => none
  | some more => some (delOut (hopesS l within now) more (imsOf (meanG (kid0 ks) (mergeS (hopedS l within now ++ more))))) := by
 match ks with
 | [] => simp at h
 | k :: _ => rw [finH]; rfl
/-! the reference's way -/
theorem sorted_two {a : List Event} (h : StrE a) (b : List Event) : sortedS a (sortedS [] b) = mergeS (a ++ b) := by
 obtain ⟨h1, h2⟩ := sorted_spec b (a := []) List.Pairwise.nil
 obtain ⟨h3, h4⟩ := sorted_spec (sortedS [] b) h
 refine (merge_of h3 fun x => ?_).symm
 rw [h4, List.find?_append, h2, List.nil_append, ← List.find?_append]
theorem sorted_nil (b : List Event) : sortedS [] b = mergeS b := by
 have := merge_sorted (a := []) List.Pairwise.nil b
 simpa using this.symm
theorem sorted_app (a b c : List Event) : sortedS (sortedS a b) c = sortedS a (b ++ c) := by unfold sortedS; rw [List.foldl_append]
end Go.SX
