/-
  Walks: Dn1, Dn8: what single functions of the program compute.
-/
import Derived.Test.YtboldmbaiocjpaaDoorSxDm7
import Derived.Test.YtboldmbaiocjpaaDoorSxDn4
namespace Go.SX
open Go.Proofs
set_option linter.unusedSimpArgs false
set_option linter.unusedVariables false
set_option maxHeartbeats 4000000
set_option maxRecDepth 100000
theorem cut_eq (s : Bs) : List.drop (Int.toNat 0) (List.take (min ((List.length s : Nat) : Int) 60).toNat s) = s.take 60 := by
  show List.take (min ((List.length s : Nat) : Int) 60).toNat s = _
  rcases Nat.lt_or_ge s.length 60 with h | h
  · rw [show (min ((s.length : Nat) : Int) 60).toNat = s.length by omega, List.take_length, List.take_of_length_le (by omega)]
  · rw [show (min ((s.length : Nat) : Int) 60).toNat = 60 by omega]
theorem verify_walk (old root : Bs) (n i : Int) (s : Bs) (proof : List Bs) (hn : -9223372036854775808 ≤ n) (hn2 : n < 9223372036854775808) (hi : -9223372036854775808 ≤ i) (hi2 : i < 9223372036854775808) (hs : (s.length : Int) ≤ 9223372036854775807) :
    Meets Tryd.prog Dc 4 [.p (.str old), .p (.str root), .p (.int .i64 n), .p (.int .i64 i), .p (.str s), .p (.dsl U.str proof)] [] (.p (.bool true)) [] := by
  have hf := few_meets proof 70 (by omega)
  have hS := fewS_short proof 70
  have hL := fewS_length proof 70
  generalize fewS proof 70 = w at *
  have hsane := sane_meets
  have hsl : (s.take 60).length ≤ 100 := by simp; omega
  have c1 := verify_meets root n i hn2 hi (s.take 60) hsl w (by omega) hS
  have c2 := refVerify_meets root n i hn2 hi (s.take 60) hsl w (by omega) hS
  have c3 := verX_meets old i root n hn2 hi w (by omega) hS
  have c4 := refVerX_meets old i root n hn2 hi w (by omega) hS
  rw [← cut_eq s] at c1 c2
  generalize verB root n i (List.drop (Int.toNat 0) (List.take (min ((List.length s : Nat) : Int) 60).toNat s)) w = b1 at *
  generalize verXB old i root n w = b2 at *
  refine meets_of_gx Ax tab_ok Tryd.func4 (c := _) rfl Tryd.call4 400 ?_
  (repeat' ((conv => whnf); first | (exfalso; omega) | (refine callx_pure (hsane) rfl rfl ?_) | (refine dcallx_pure (hsane) rfl rfl ?_) | (refine callx_pure (hf) rfl rfl ?_) | (refine dcallx_pure (hf) rfl rfl ?_) | (refine callx_pure (c1) rfl rfl ?_) | (refine dcallx_pure (c1) rfl rfl ?_) | (refine callx_pure (c2) rfl rfl ?_) | (refine dcallx_pure (c2) rfl rfl ?_) | (refine callx_pure (c3) rfl rfl ?_) | (refine dcallx_pure (c3) rfl rfl ?_) | (refine callx_pure (c4) rfl rfl ?_) | (refine dcallx_pure (c4) rfl rfl ?_) | (exact absurd rfl hb) | (refine end_fn [] (.inr rfl) ?_ trivial rfl rfl) | (refine split_nd (fun hb => ?_) (fun hb => ?_)) | (refine split_d (fun hb => ?_) (fun hb => ?_)) | (refine split_n (fun hb => ?_) (fun hb => ?_)) | (refine split_x (fun hb => ?_) (fun hb => ?_)) | (refine And.intro (TraceOK.mk (by kernel_rfl)) ?_) | (refine Side.mk ?_; (repeat' (first | refine And.intro ?_ ?_ | exact inR_i64 (by omega) (by omega) | omega | rfl | exact trivial | exact none_ne rfl | exact some_ne rfl (Nat.ne_of_beq_eq_false rfl) | exact Nat.ne_of_beq_eq_false rfl | (dsimp only [srcSide]; omega) | (simp; done) | (simp; omega))); done) | (refine side_and ?_ ?_) | (refine drawX_of mixed ?_)))
  all_goals (repeat' (first | refine EndV.mk ?_ | exact trivial | exact rfl | refine And.intro ?_ ?_))
  all_goals ((conv => whnf); simp)
end Go.SX

namespace Go.SX
open Go.Proofs
set_option linter.unusedSimpArgs false
set_option linter.unusedVariables false
set_option maxHeartbeats 4000000
set_option maxRecDepth 100000
theorem binding_walk (root : Bs) (n i : Int) (s : Bs) (p : List Bs) (t : Bs) (q : List Bs) (hn : -9223372036854775808 ≤ n) (hn2 : n < 9223372036854775808) (hi : -9223372036854775808 ≤ i) (hi2 : i < 9223372036854775808) (hs : (s.length : Int) ≤ 9223372036854775807) (ht : (t.length : Int) ≤ 9223372036854775807) :
    Meets Tryd.prog Dc 7 [.p (.str root), .p (.int .i64 n), .p (.int .i64 i), .p (.str s), .p (.dsl U.str p), .p (.str t), .p (.dsl U.str q)] [] (.p (.bool true)) [] := by
  have f1 := few_meets p 70 (by omega)
  have f2 := few_meets q 70 (by omega)
  have hS1 := fewS_short p 70
  have hL1 := fewS_length p 70
  have hS2 := fewS_short q 70
  have hL2 := fewS_length q 70
  generalize fewS p 70 = p' at *
  generalize fewS q 70 = q' at *
  have hsane := sane_meets
  have hsl : (s.take 60).length ≤ 100 := by simp; omega
  have htl : (t.take 60).length ≤ 100 := by simp; omega
  have c1 := verify_meets root n i hn2 hi (s.take 60) hsl p' (by omega) hS1
  have c2 := verify_meets root n i hn2 hi (t.take 60) htl q' (by omega) hS2
  have es := cut_eq s
  have et := cut_eq t
  generalize s.take 60 = s' at *
  generalize t.take 60 = t' at *
  rw [← es] at c1
  rw [← et] at c2
  rw [es] at c1
  rw [et] at c2
  have key : verB root n i s' p' = true → verB root n i t' q' = true → s' ≠ t' → 0 ≤ i ∧ i < n ∧ collideB (wayR s' p'.reverse n.toNat i.toNat).1 (wayR t' q'.reverse n.toNat i.toNat).1 = true := fun h1 h2 h3 => binding root s' t' n i p' q' h3 h1 h2
  by_cases h1 : verB root n i s' p' = true
  · rw [h1] at c1
    by_cases h2 : verB root n i t' q' = true
    · rw [h2] at c2
      by_cases hst : s' = t'
      · rw [← es] at c1
        rw [← et] at c2
        have hst' : List.drop (Int.toNat 0) (List.take (min ((List.length s : Nat) : Int) 60).toNat s) = List.drop (Int.toNat 0) (List.take (min ((List.length t : Nat) : Int) 60).toNat t) := by rw [es, et, hst]
        refine meets_of_gx Ax tab_ok Tryd.func7 (c := _) rfl Tryd.call7 600 ?_
        (repeat' ((conv => whnf); first | (exfalso; omega) | (refine callx_pure (hsane) rfl rfl ?_) | (refine dcallx_pure (hsane) rfl rfl ?_) | (refine callx_pure (f1) rfl rfl ?_) | (refine dcallx_pure (f1) rfl rfl ?_) | (refine callx_pure (f2) rfl rfl ?_) | (refine dcallx_pure (f2) rfl rfl ?_) | (refine callx_pure (c1) rfl rfl ?_) | (refine dcallx_pure (c1) rfl rfl ?_) | (refine callx_pure (c2) rfl rfl ?_) | (refine dcallx_pure (c2) rfl rfl ?_) | (exact absurd hst' hb) | (refine end_fn [] (.inr rfl) ?_ trivial rfl rfl) | (refine split_nd (fun hb => ?_) (fun hb => ?_)) | (refine split_d (fun hb => ?_) (fun hb => ?_)) | (refine split_n (fun hb => ?_) (fun hb => ?_)) | (refine split_x (fun hb => ?_) (fun hb => ?_)) | (refine And.intro (TraceOK.mk (by kernel_rfl)) ?_) | (refine Side.mk ?_; (repeat' (first | refine And.intro ?_ ?_ | exact inR_i64 (by omega) (by omega) | omega | rfl | exact trivial | exact none_ne rfl | exact some_ne rfl (Nat.ne_of_beq_eq_false rfl) | exact Nat.ne_of_beq_eq_false rfl | (dsimp only [srcSide]; omega) | (simp; done) | (simp; omega))); done) | (refine side_and ?_ ?_) | (refine drawX_of mixed ?_)))
        all_goals (repeat' (first | refine EndV.mk ?_ | exact trivial | exact rfl | refine And.intro ?_ ?_))
      · obtain ⟨k1, k2, k3⟩ := key h1 h2 hst
        have w1 := way_meets s' hsl p'.reverse n.toNat i.toNat (by omega) (by omega) (by omega) (by simp; omega) (fun z hz => hS1 z (by simpa using hz))
        have w2 := way_meets t' htl q'.reverse n.toNat i.toNat (by omega) (by omega) (by omega) (by simp; omega) (fun z hz => hS2 z (by simpa using hz))
        have n1 := wayR_count s' p'.reverse n.toNat i.toNat
        have n2 := wayR_count t' q'.reverse n.toNat i.toNat
        have d1 := wayR_mid s' hsl p'.reverse n.toNat i.toNat (fun z hz => hS1 z (by simpa using hz))
        have d2 := wayR_mid t' htl q'.reverse n.toNat i.toNat (fun z hz => hS2 z (by simpa using hz))
        rw [List.reverse_reverse, Int.toNat_of_nonneg (by omega), Int.toNat_of_nonneg (by omega)] at w1 w2
        rw [List.length_reverse] at n1 n2
        generalize wayR s' p'.reverse n.toNat i.toNat = r1 at *
        generalize wayR t' q'.reverse n.toNat i.toNat = r2 at *
        obtain ⟨l1, v1⟩ := r1
        obtain ⟨l2, v2⟩ := r2
        dsimp only at *
        have c3 := collide_meets l1 l2 (by omega) (by omega) d1 d2
        rw [k3] at c3
        rw [← es] at c1 w1
        rw [← et] at c2 w2
        have hst' : ¬ List.drop (Int.toNat 0) (List.take (min ((List.length s : Nat) : Int) 60).toNat s) = List.drop (Int.toNat 0) (List.take (min ((List.length t : Nat) : Int) 60).toNat t) := by rw [es, et]; exact hst
        refine meets_of_gx Ax tab_ok Tryd.func7 (c := _) rfl Tryd.call7 600 ?_
        (repeat' ((conv => whnf); first | (exfalso; omega) | (refine callx_pure (hsane) rfl rfl ?_) | (refine dcallx_pure (hsane) rfl rfl ?_) | (refine callx_pure (f1) rfl rfl ?_) | (refine dcallx_pure (f1) rfl rfl ?_) | (refine callx_pure (f2) rfl rfl ?_) | (refine dcallx_pure (f2) rfl rfl ?_) | (refine callx_pure (c1) rfl rfl ?_) | (refine dcallx_pure (c1) rfl rfl ?_) | (refine callx_pure (c2) rfl rfl ?_) | (refine dcallx_pure (c2) rfl rfl ?_) | (refine callx_pure (w1) rfl rfl ?_) | (refine dcallx_pure (w1) rfl rfl ?_) | (refine callx_pure (w2) rfl rfl ?_) | (refine dcallx_pure (w2) rfl rfl ?_) | (refine callx_pure (c3) rfl rfl ?_) | (refine dcallx_pure (c3) rfl rfl ?_) | (exact absurd hb hst') | (refine end_fn [] (.inr rfl) ?_ trivial rfl rfl) | (refine split_nd (fun hb => ?_) (fun hb => ?_)) | (refine split_d (fun hb => ?_) (fun hb => ?_)) | (refine split_n (fun hb => ?_) (fun hb => ?_)) | (refine split_x (fun hb => ?_) (fun hb => ?_)) | (refine And.intro (TraceOK.mk (by kernel_rfl)) ?_) | (refine Side.mk ?_; (repeat' (first | refine And.intro ?_ ?_ | exact inR_i64 (by omega) (by omega) | omega | rfl | exact trivial | exact none_ne rfl | exact some_ne rfl (Nat.ne_of_beq_eq_false rfl) | exact Nat.ne_of_beq_eq_false rfl | (dsimp only [srcSide]; omega) | (simp; done) | (simp; omega))); done) | (refine side_and ?_ ?_) | (refine drawX_of mixed ?_)))
        all_goals (repeat' (first | refine EndV.mk ?_ | exact trivial | exact rfl | refine And.intro ?_ ?_))
    · rw [Bool.not_eq_true] at h2
      rw [h2] at c2
      rw [← es] at c1
      rw [← et] at c2
      refine meets_of_gx Ax tab_ok Tryd.func7 (c := _) rfl Tryd.call7 600 ?_
      (repeat' ((conv => whnf); first | (exfalso; omega) | (refine callx_pure (hsane) rfl rfl ?_) | (refine dcallx_pure (hsane) rfl rfl ?_) | (refine callx_pure (f1) rfl rfl ?_) | (refine dcallx_pure (f1) rfl rfl ?_) | (refine callx_pure (f2) rfl rfl ?_) | (refine dcallx_pure (f2) rfl rfl ?_) | (refine callx_pure (c1) rfl rfl ?_) | (refine dcallx_pure (c1) rfl rfl ?_) | (refine callx_pure (c2) rfl rfl ?_) | (refine dcallx_pure (c2) rfl rfl ?_) | (refine end_fn [] (.inr rfl) ?_ trivial rfl rfl) | (refine split_nd (fun hb => ?_) (fun hb => ?_)) | (refine split_d (fun hb => ?_) (fun hb => ?_)) | (refine split_n (fun hb => ?_) (fun hb => ?_)) | (refine split_x (fun hb => ?_) (fun hb => ?_)) | (refine And.intro (TraceOK.mk (by kernel_rfl)) ?_) | (refine Side.mk ?_; (repeat' (first | refine And.intro ?_ ?_ | exact inR_i64 (by omega) (by omega) | omega | rfl | exact trivial | exact none_ne rfl | exact some_ne rfl (Nat.ne_of_beq_eq_false rfl) | exact Nat.ne_of_beq_eq_false rfl | (dsimp only [srcSide]; omega) | (simp; done) | (simp; omega))); done) | (refine side_and ?_ ?_) | (refine drawX_of mixed ?_)))
      all_goals (repeat' (first | refine EndV.mk ?_ | exact trivial | exact rfl | refine And.intro ?_ ?_))
  · rw [Bool.not_eq_true] at h1
    rw [h1] at c1
    generalize verB root n i t' q' = b2 at *
    rw [← es] at c1
    rw [← et] at c2
    refine meets_of_gx Ax tab_ok Tryd.func7 (c := _) rfl Tryd.call7 600 ?_
    (repeat' ((conv => whnf); first | (exfalso; omega) | (refine callx_pure (hsane) rfl rfl ?_) | (refine dcallx_pure (hsane) rfl rfl ?_) | (refine callx_pure (f1) rfl rfl ?_) | (refine dcallx_pure (f1) rfl rfl ?_) | (refine callx_pure (f2) rfl rfl ?_) | (refine dcallx_pure (f2) rfl rfl ?_) | (refine callx_pure (c1) rfl rfl ?_) | (refine dcallx_pure (c1) rfl rfl ?_) | (refine callx_pure (c2) rfl rfl ?_) | (refine dcallx_pure (c2) rfl rfl ?_) | (refine end_fn [] (.inr rfl) ?_ trivial rfl rfl) | (refine split_nd (fun hb => ?_) (fun hb => ?_)) | (refine split_d (fun hb => ?_) (fun hb => ?_)) | (refine split_n (fun hb => ?_) (fun hb => ?_)) | (refine split_x (fun hb => ?_) (fun hb => ?_)) | (refine And.intro (TraceOK.mk (by kernel_rfl)) ?_) | (refine Side.mk ?_; (repeat' (first | refine And.intro ?_ ?_ | exact inR_i64 (by omega) (by omega) | omega | rfl | exact trivial | exact none_ne rfl | exact some_ne rfl (Nat.ne_of_beq_eq_false rfl) | exact Nat.ne_of_beq_eq_false rfl | (dsimp only [srcSide]; omega) | (simp; done) | (simp; omega))); done) | (refine side_and ?_ ?_) | (refine drawX_of mixed ?_)))
    all_goals (repeat' (first | refine EndV.mk ?_ | exact trivial | exact rfl | refine And.intro ?_ ?_))
theorem extbinding_walk (a : Bs) (p : List Bs) (b : Bs) (q : List Bs) (m : Int) (root : Bs) (n : Int) (hn : -9223372036854775808 ≤ n) (hn2 : n < 9223372036854775808) (hm : -9223372036854775808 ≤ m) (hm2 : m < 9223372036854775808) :
    Meets Tryd.prog Dc 8 [.p (.str a), .p (.dsl U.str p), .p (.str b), .p (.dsl U.str q), .p (.int .i64 m), .p (.str root), .p (.int .i64 n)] [] (.p (.bool true)) [] := by
  have f1 := few_meets p 70 (by omega)
  have f2 := few_meets q 70 (by omega)
  have hS1 := fewS_short p 70
  have hL1 := fewS_length p 70
  have hS2 := fewS_short q 70
  have hL2 := fewS_length q 70
  generalize fewS p 70 = p' at *
  generalize fewS q 70 = q' at *
  have hsane := sane_meets
  have c1 := verX_meets a m root n hn2 hm p' (by omega) hS1
  have c2 := verX_meets b m root n hn2 hm q' (by omega) hS2
  by_cases h1 : verXB a m root n p' = true
  · rw [h1] at c1
    by_cases h2 : verXB b m root n q' = true
    · rw [h2] at c2
      by_cases hab : a = b
      · refine meets_of_gx Ax tab_ok Tryd.func8 (c := _) rfl Tryd.call8 600 ?_
        (repeat' ((conv => whnf); first | (exfalso; omega) | (refine callx_pure (hsane) rfl rfl ?_) | (refine dcallx_pure (hsane) rfl rfl ?_) | (refine callx_pure (f1) rfl rfl ?_) | (refine dcallx_pure (f1) rfl rfl ?_) | (refine callx_pure (f2) rfl rfl ?_) | (refine dcallx_pure (f2) rfl rfl ?_) | (refine callx_pure (c1) rfl rfl ?_) | (refine dcallx_pure (c1) rfl rfl ?_) | (refine callx_pure (c2) rfl rfl ?_) | (refine dcallx_pure (c2) rfl rfl ?_) | (exact absurd hab hb) | (refine end_fn [] (.inr rfl) ?_ trivial rfl rfl) | (refine split_nd (fun hb => ?_) (fun hb => ?_)) | (refine split_d (fun hb => ?_) (fun hb => ?_)) | (refine split_n (fun hb => ?_) (fun hb => ?_)) | (refine split_x (fun hb => ?_) (fun hb => ?_)) | (refine And.intro (TraceOK.mk (by kernel_rfl)) ?_) | (refine Side.mk ?_; (repeat' (first | refine And.intro ?_ ?_ | exact inR_i64 (by omega) (by omega) | omega | rfl | exact trivial | exact none_ne rfl | exact some_ne rfl (Nat.ne_of_beq_eq_false rfl) | exact Nat.ne_of_beq_eq_false rfl | (dsimp only [srcSide]; omega) | (simp; done) | (simp; omega))); done) | (refine side_and ?_ ?_) | (refine drawX_of mixed ?_)))
        all_goals (repeat' (first | refine EndV.mk ?_ | exact trivial | exact rfl | refine And.intro ?_ ?_))
      · obtain ⟨k1, k2, k4, k5, k3⟩ := ext_binding a b root m n p' q' hab h1 h2
        have w1 := sides_meets a (by omega) p'.reverse m.toNat n.toNat true (by omega) (by omega) (by omega) (by simp; omega) (fun z hz => hS1 z (by simpa using hz))
        have w2 := sides_meets b (by omega) q'.reverse m.toNat n.toNat true (by omega) (by omega) (by omega) (by simp; omega) (fun z hz => hS2 z (by simpa using hz))
        have n1 := sidesR_count a p'.reverse m.toNat n.toNat true
        have n2 := sidesR_count b q'.reverse m.toNat n.toNat true
        have d1 := sidesR_mid a (by omega) p'.reverse m.toNat n.toNat true (fun z hz => hS1 z (by simpa using hz))
        have d2 := sidesR_mid b (by omega) q'.reverse m.toNat n.toNat true (fun z hz => hS2 z (by simpa using hz))
        rw [List.reverse_reverse, Int.toNat_of_nonneg (by omega), Int.toNat_of_nonneg (by omega)] at w1 w2
        rw [List.length_reverse] at n1 n2
        generalize sidesR a p'.reverse m.toNat n.toNat true = r1 at *
        generalize sidesR b q'.reverse m.toNat n.toNat true = r2 at *
        obtain ⟨l1, v1⟩ := r1
        obtain ⟨l2, v2⟩ := r2
        dsimp only at *
        have c3 := collide_meets l1 l2 (by omega) (by omega) d1 d2
        rw [k3] at c3
        refine meets_of_gx Ax tab_ok Tryd.func8 (c := _) rfl Tryd.call8 600 ?_
        (repeat' ((conv => whnf); first | (exfalso; omega) | (refine callx_pure (hsane) rfl rfl ?_) | (refine dcallx_pure (hsane) rfl rfl ?_) | (refine callx_pure (f1) rfl rfl ?_) | (refine dcallx_pure (f1) rfl rfl ?_) | (refine callx_pure (f2) rfl rfl ?_) | (refine dcallx_pure (f2) rfl rfl ?_) | (refine callx_pure (c1) rfl rfl ?_) | (refine dcallx_pure (c1) rfl rfl ?_) | (refine callx_pure (c2) rfl rfl ?_) | (refine dcallx_pure (c2) rfl rfl ?_) | (refine callx_pure (w1) rfl rfl ?_) | (refine dcallx_pure (w1) rfl rfl ?_) | (refine callx_pure (w2) rfl rfl ?_) | (refine dcallx_pure (w2) rfl rfl ?_) | (refine callx_pure (c3) rfl rfl ?_) | (refine dcallx_pure (c3) rfl rfl ?_) | (exact absurd hb hab) | (refine end_fn [] (.inr rfl) ?_ trivial rfl rfl) | (refine split_nd (fun hb => ?_) (fun hb => ?_)) | (refine split_d (fun hb => ?_) (fun hb => ?_)) | (refine split_n (fun hb => ?_) (fun hb => ?_)) | (refine split_x (fun hb => ?_) (fun hb => ?_)) | (refine And.intro (TraceOK.mk (by kernel_rfl)) ?_) | (refine Side.mk ?_; (repeat' (first | refine And.intro ?_ ?_ | exact inR_i64 (by omega) (by omega) | omega | rfl | exact trivial | exact none_ne rfl | exact some_ne rfl (Nat.ne_of_beq_eq_false rfl) | exact Nat.ne_of_beq_eq_false rfl | (dsimp only [srcSide]; omega) | (simp; done) | (simp; omega))); done) | (refine side_and ?_ ?_) | (refine drawX_of mixed ?_)))
        all_goals (repeat' (first | refine EndV.mk ?_ | exact trivial | exact rfl | refine And.intro ?_ ?_))
    · rw [Bool.not_eq_true] at h2
      rw [h2] at c2
      refine meets_of_gx Ax tab_ok Tryd.func8 (c := _) rfl Tryd.call8 600 ?_
      (repeat' ((conv => whnf); first | (exfalso; omega) | (refine callx_pure (hsane) rfl rfl ?_) | (refine dcallx_pure (hsane) rfl rfl ?_) | (refine callx_pure (f1) rfl rfl ?_) | (refine dcallx_pure (f1) rfl rfl ?_) | (refine callx_pure (f2) rfl rfl ?_) | (refine dcallx_pure (f2) rfl rfl ?_) | (refine callx_pure (c1) rfl rfl ?_) | (refine dcallx_pure (c1) rfl rfl ?_) | (refine callx_pure (c2) rfl rfl ?_) | (refine dcallx_pure (c2) rfl rfl ?_) | (refine end_fn [] (.inr rfl) ?_ trivial rfl rfl) | (refine split_nd (fun hb => ?_) (fun hb => ?_)) | (refine split_d (fun hb => ?_) (fun hb => ?_)) | (refine split_n (fun hb => ?_) (fun hb => ?_)) | (refine split_x (fun hb => ?_) (fun hb => ?_)) | (refine And.intro (TraceOK.mk (by kernel_rfl)) ?_) | (refine Side.mk ?_; (repeat' (first | refine And.intro ?_ ?_ | exact inR_i64 (by omega) (by omega) | omega | rfl | exact trivial | exact none_ne rfl | exact some_ne rfl (Nat.ne_of_beq_eq_false rfl) | exact Nat.ne_of_beq_eq_false rfl | (dsimp only [srcSide]; omega) | (simp; done) | (simp; omega))); done) | (refine side_and ?_ ?_) | (refine drawX_of mixed ?_)))
      all_goals (repeat' (first | refine EndV.mk ?_ | exact trivial | exact rfl | refine And.intro ?_ ?_))
  · rw [Bool.not_eq_true] at h1
    rw [h1] at c1
    generalize verXB b m root n q' = b2 at *
    refine meets_of_gx Ax tab_ok Tryd.func8 (c := _) rfl Tryd.call8 600 ?_
    (repeat' ((conv => whnf); first | (exfalso; omega) | (refine callx_pure (hsane) rfl rfl ?_) | (refine dcallx_pure (hsane) rfl rfl ?_) | (refine callx_pure (f1) rfl rfl ?_) | (refine dcallx_pure (f1) rfl rfl ?_) | (refine callx_pure (f2) rfl rfl ?_) | (refine dcallx_pure (f2) rfl rfl ?_) | (refine callx_pure (c1) rfl rfl ?_) | (refine dcallx_pure (c1) rfl rfl ?_) | (refine callx_pure (c2) rfl rfl ?_) | (refine dcallx_pure (c2) rfl rfl ?_) | (refine end_fn [] (.inr rfl) ?_ trivial rfl rfl) | (refine split_nd (fun hb => ?_) (fun hb => ?_)) | (refine split_d (fun hb => ?_) (fun hb => ?_)) | (refine split_n (fun hb => ?_) (fun hb => ?_)) | (refine split_x (fun hb => ?_) (fun hb => ?_)) | (refine And.intro (TraceOK.mk (by kernel_rfl)) ?_) | (refine Side.mk ?_; (repeat' (first | refine And.intro ?_ ?_ | exact inR_i64 (by omega) (by omega) | omega | rfl | exact trivial | exact none_ne rfl | exact some_ne rfl (Nat.ne_of_beq_eq_false rfl) | exact Nat.ne_of_beq_eq_false rfl | (dsimp only [srcSide]; omega) | (simp; done) | (simp; omega))); done) | (refine side_and ?_ ?_) | (refine drawX_of mixed ?_)))
    all_goals (repeat' (first | refine EndV.mk ?_ | exact trivial | exact rfl | refine And.intro ?_ ?_))
end Go.SX
