/-
  Walks: Ek1, Ek2, Ek3: what single functions of the program compute.
-/
import Derived.Test.YtboldmbaiocjpaaDoorSxEq1
set_option linter.unusedVariables false
namespace Go.SX
open Go.Proofs
set_option linter.unusedSimpArgs false
set_option maxHeartbeats 4000000
set_option maxRecDepth 100000
def w64 (n : Int) : Int := IntKind.i64.wrap n
theorem w64_of {n : Int} (h1 : -9223372036854775808 ≤ n) (h2 : n ≤ 9223372036854775807) : w64 n = n := inR_i64 h1 h2
def isFormedB (p : Posting) (acc : Int) : Bool :=
  if isInB p.day 0 359 && isInB p.debtor 0 (w64 (acc - 1)) && isInB p.creditor 0 (w64 (acc - 1)) && !decide (p.debtor = p.creditor) && isInB p.amount 1 1000000000000 && isInB p.subject 0 999 then
    if decide (p.kind = 1) || decide (p.kind = 2) then decide (p.of_ = -1) else decide (p.kind = 3) && isInB p.of_ 0 199
  else false
theorem isFormed_meets (p : Posting) (acc : Int) : Meets Tryd.prog Dc 127 [pa p, .p (.int .i64 acc)] [] (.p (.bool (isFormedB p acc))) [] := by
  refine meets_of_gx AxW tab_ok Tryd.func127 (c := _) rfl Tryd.call127 200 ?_
  (repeat' ((conv => whnf); first | (refine end_fn [] (.inr rfl) ?_ trivial rfl rfl) | (refine callx_pure (isIn_meets _ _ _) rfl rfl ?_) | (refine end_fn [] (.inr rfl) ?_ trivial rfl rfl) | (refine split_nd (fun hb => ?_) (fun hb => ?_)) | (refine split_d (fun hb => ?_) (fun hb => ?_)) | (refine split_n (fun hb => ?_) (fun hb => ?_)) | (refine split_x (fun hb => ?_) (fun hb => ?_)) | (refine And.intro (TraceOK.mk (by kernel_rfl)) ?_) | (refine Side.mk ?_; (repeat' (first | refine And.intro ?_ ?_ | exact inR_i64 (by omega) (by omega) | omega | rfl | exact trivial | exact none_ne rfl | exact some_ne rfl (Nat.ne_of_beq_eq_false rfl) | exact Nat.ne_of_beq_eq_false rfl | (dsimp only [srcSide]; omega) | (simp; done) | (simp; omega))); done) | (refine side_and ?_ ?_) | (refine drawX_of mixed ?_)))
  all_goals (refine EndV.mk ?_; (conv => whnf))
  all_goals (refine congrArg PV.bool ?_)
  all_goals simp_all [isFormedB, w64]
end Go.SX

namespace Go.SX
open Go.Proofs
set_option linter.unusedSimpArgs false
set_option maxHeartbeats 4000000
set_option maxRecDepth 100000
set_option linter.unusedVariables false
def lateB (xs : List Posting) (p : Posting) : Bool := decide (0 < (xs.length : Int)) && decide (p.day < (xs.getD ((xs.length : Int) - 1).toNat posting0).day)
def takesB (acc : Int) (xs : List Posting) (bk : List Bool) (p : Posting) : Bool :=
  if decide ((200 : Int) ≤ xs.length) || !isFormedB p acc || lateB xs p then false
  else if decide (p.kind = 3) then !(decide ((xs.length : Int) ≤ p.of_) || bk.getD p.of_.toNat false || !isBackB p (xs.getD p.of_.toNat posting0))
  else true
def newBk (bk : List Bool) (p : Posting) : List Bool := if p.kind = 3 then bk.set p.of_.toNat true else bk
def ledger (acc cl : Int) (xs : List Posting) (bk : List Bool) : List (HS Cd) :=
  [.var [.p (.int .i64 acc), .slice 1 0 7 0 xs.length, .p (.int .i64 cl), .arr U.bool 200 bk], .rows U.posting xs]
theorem of_bounds {p : Posting} {acc : Int} (h : (!isFormedB p acc) = false) (hk : p.kind = 3) : 0 ≤ p.of_ ∧ p.of_ ≤ 199 := by
  simp only [isFormedB, hk] at h
  split at h
  · simpa [isInB] using h
  · simp at h
def takesH (acc cl : Int) (xs : List Posting) (bk : List Bool) (p : Posting) : List (HS Cd) :=
  if takesB acc xs bk p then [.var [.p (.int .i64 acc), .slice 2 0 7 0 (xs ++ [p]).length, .p (.int .i64 cl), .arr U.bool 200 (newBk bk p)], .dead, .rows U.posting (xs ++ [p])]
  else ledger acc cl xs bk
theorem takes_meets (acc cl : Int) (xs : List Posting) (bk : List Bool) (p : Posting) (hbk : bk.length = 200) : Meets Tryd.prog Dc 114 [.ptr 0 0, pa p] (ledger acc cl xs bk)
    (.p (.bool (takesB acc xs bk p))) (takesH acc cl xs bk p) := by
  have hus : 0 + 7 = Cd.n U.posting := rfl
  have hub : 0 + 1 = Cd.n U.bool := rfl
  have x0 : ¬ (0 : Nat) = 1 := by decide
  have hf := isFormed_meets p acc
  have hk := isBack_meets p (xs.getD (0 + p.of_.toNat) (Cd.dflt U.posting))
  have es : List.take xs.length xs ++ List.take 1 (List.drop 0 [(⟨p.kind, p.day, p.debtor, p.creditor, p.amount, p.subject, p.of_⟩ : Posting)]) = xs ++ [p] := by rw [List.take_length]; rfl
  by_cases h1 : (200 : Int) ≤ xs.length
  · have d1 := decide_eq_true h1
    have ht : takesB acc xs bk p = false := by simp only [takesB, lateB, d1, Bool.or_self, Bool.false_eq_true, if_false, if_true, Bool.not_false, Bool.true_or, Bool.or_true, Bool.or_false, Bool.false_or, Bool.not_true, Bool.true_and, Bool.false_and, Bool.and_self]
    rw [ht, show takesH acc cl xs bk p = ledger acc cl xs bk by unfold takesH; rw [ht, if_neg (by simp)]]
    refine meets_of_gx Ax tab_ok Tryd.func114 (c := _) rfl Tryd.call114 600 ?_
    (repeat' ((conv => whnf); first | (exfalso; omega) | (refine callx_pure (hf) rfl rfl ?_) | (refine dcallx_pure (hf) rfl rfl ?_) | (refine callx_pure (hk) rfl rfl ?_) | (refine dcallx_pure (hk) rfl rfl ?_) | (exact absurd hb x0) | (exact absurd h2 hb) | (refine end_fn [some 0, some 1] (.inr rfl) ?_ ?_ rfl rfl) | (refine end_fn [] (.inr rfl) ?_ trivial rfl rfl) | (refine split_nd (fun hb => ?_) (fun hb => ?_)) | (refine split_d (fun hb => ?_) (fun hb => ?_)) | (refine split_n (fun hb => ?_) (fun hb => ?_)) | (refine split_x (fun hb => ?_) (fun hb => ?_)) | (refine And.intro (TraceOK.mk (by kernel_rfl)) ?_) | (refine Side.mk ?_; (repeat' (first | refine And.intro ?_ ?_ | exact inR_i64 (by omega) (by omega) | omega | rfl | exact trivial | exact none_ne rfl | exact some_ne rfl (Nat.ne_of_beq_eq_false rfl) | exact Nat.ne_of_beq_eq_false rfl | (dsimp only [srcSide]; omega) | (simp; done) | (simp; omega))); done) | (refine side_and ?_ ?_) | (refine drawX_of mixed ?_)))
    all_goals (repeat' (first | refine EndV.mk ?_ | exact trivial | exact rfl | refine And.intro ?_ ?_))
  have d1 := decide_eq_false h1
  by_cases h2 : isFormedB p acc = true
  rotate_left
  · rw [Bool.not_eq_true] at h2
    rw [h2] at hf
    have ht : takesB acc xs bk p = false := by simp only [takesB, lateB, d1, h2, Bool.or_self, Bool.false_eq_true, if_false, if_true, Bool.not_false, Bool.true_or, Bool.or_true, Bool.or_false, Bool.false_or, Bool.not_true, Bool.true_and, Bool.false_and, Bool.and_self]
    rw [ht, show takesH acc cl xs bk p = ledger acc cl xs bk by unfold takesH; rw [ht, if_neg (by simp)]]
    refine meets_of_gx Ax tab_ok Tryd.func114 (c := _) rfl Tryd.call114 600 ?_
    (repeat' ((conv => whnf); first | (exfalso; omega) | (refine callx_pure (hf) rfl rfl ?_) | (refine dcallx_pure (hf) rfl rfl ?_) | (refine callx_pure (hk) rfl rfl ?_) | (refine dcallx_pure (hk) rfl rfl ?_) | (exact absurd hb x0) | (exact absurd h2 hb) | (refine end_fn [some 0, some 1] (.inr rfl) ?_ ?_ rfl rfl) | (refine end_fn [] (.inr rfl) ?_ trivial rfl rfl) | (refine split_nd (fun hb => ?_) (fun hb => ?_)) | (refine split_d (fun hb => ?_) (fun hb => ?_)) | (refine split_n (fun hb => ?_) (fun hb => ?_)) | (refine split_x (fun hb => ?_) (fun hb => ?_)) | (refine And.intro (TraceOK.mk (by kernel_rfl)) ?_) | (refine Side.mk ?_; (repeat' (first | refine And.intro ?_ ?_ | exact inR_i64 (by omega) (by omega) | omega | rfl | exact trivial | exact none_ne rfl | exact some_ne rfl (Nat.ne_of_beq_eq_false rfl) | exact Nat.ne_of_beq_eq_false rfl | (dsimp only [srcSide]; omega) | (simp; done) | (simp; omega))); done) | (refine side_and ?_ ?_) | (refine drawX_of mixed ?_)))
    all_goals (repeat' (first | refine EndV.mk ?_ | exact trivial | exact rfl | refine And.intro ?_ ?_))
  rw [h2] at hf
  have hof : p.kind = 3 → 0 ≤ p.of_ ∧ p.of_ ≤ 199 := fun h => of_bounds (by rw [h2]; rfl) h
  by_cases h3 : (0 : Int) < xs.length
  · have d3 := decide_eq_true h3
    by_cases h4 : p.day < (xs.getD (0 + ((xs.length : Int) - 1).toNat) (Cd.dflt U.posting)).day
    · have d4 : decide (p.day < (xs.getD ((xs.length : Int) - 1).toNat posting0).day) = true := by rw [Nat.zero_add] at h4; exact decide_eq_true h4
      have ht : takesB acc xs bk p = false := by simp only [takesB, lateB, d1, h2, d3, d4, Bool.or_self, Bool.false_eq_true, if_false, if_true, Bool.not_false, Bool.true_or, Bool.or_true, Bool.or_false, Bool.false_or, Bool.not_true, Bool.true_and, Bool.false_and, Bool.and_self]
      rw [ht, show takesH acc cl xs bk p = ledger acc cl xs bk by unfold takesH; rw [ht, if_neg (by simp)]]
      refine meets_of_gx Ax tab_ok Tryd.func114 (c := _) rfl Tryd.call114 600 ?_
      (repeat' ((conv => whnf); first | (exfalso; omega) | (refine callx_pure (hf) rfl rfl ?_) | (refine dcallx_pure (hf) rfl rfl ?_) | (refine callx_pure (hk) rfl rfl ?_) | (refine dcallx_pure (hk) rfl rfl ?_) | (exact absurd hb x0) | (exact absurd h2 hb) | (refine end_fn [some 0, some 1] (.inr rfl) ?_ ?_ rfl rfl) | (refine end_fn [] (.inr rfl) ?_ trivial rfl rfl) | (refine split_nd (fun hb => ?_) (fun hb => ?_)) | (refine split_d (fun hb => ?_) (fun hb => ?_)) | (refine split_n (fun hb => ?_) (fun hb => ?_)) | (refine split_x (fun hb => ?_) (fun hb => ?_)) | (refine And.intro (TraceOK.mk (by kernel_rfl)) ?_) | (refine Side.mk ?_; (repeat' (first | refine And.intro ?_ ?_ | exact inR_i64 (by omega) (by omega) | omega | rfl | exact trivial | exact none_ne rfl | exact some_ne rfl (Nat.ne_of_beq_eq_false rfl) | exact Nat.ne_of_beq_eq_false rfl | (dsimp only [srcSide]; omega) | (simp; done) | (simp; omega))); done) | (refine side_and ?_ ?_) | (refine drawX_of mixed ?_)))
      all_goals (repeat' (first | refine EndV.mk ?_ | exact trivial | exact rfl | refine And.intro ?_ ?_))
    · have d4 : decide (p.day < (xs.getD ((xs.length : Int) - 1).toNat posting0).day) = false := by rw [Nat.zero_add] at h4; exact decide_eq_false h4
      by_cases h5 : p.kind = 3
      · have d5 := decide_eq_true h5
        obtain ⟨o1, o2⟩ := hof h5
        by_cases h6 : (xs.length : Int) ≤ p.of_
        · have d6 := decide_eq_true h6
          have ht : takesB acc xs bk p = false := by simp only [takesB, lateB, d1, h2, d3, d4, d5, d6, Bool.or_self, Bool.false_eq_true, if_false, if_true, Bool.not_false, Bool.true_or, Bool.or_true, Bool.or_false, Bool.false_or, Bool.not_true, Bool.true_and, Bool.false_and, Bool.and_self]
          rw [ht, show takesH acc cl xs bk p = ledger acc cl xs bk by unfold takesH; rw [ht, if_neg (by simp)]]
          refine meets_of_gx Ax tab_ok Tryd.func114 (c := _) rfl Tryd.call114 600 ?_
          (repeat' ((conv => whnf); first | (exfalso; omega) | (refine callx_pure (hf) rfl rfl ?_) | (refine dcallx_pure (hf) rfl rfl ?_) | (refine callx_pure (hk) rfl rfl ?_) | (refine dcallx_pure (hk) rfl rfl ?_) | (exact absurd hb x0) | (exact absurd h2 hb) | (refine end_fn [some 0, some 1] (.inr rfl) ?_ ?_ rfl rfl) | (refine end_fn [] (.inr rfl) ?_ trivial rfl rfl) | (refine split_nd (fun hb => ?_) (fun hb => ?_)) | (refine split_d (fun hb => ?_) (fun hb => ?_)) | (refine split_n (fun hb => ?_) (fun hb => ?_)) | (refine split_x (fun hb => ?_) (fun hb => ?_)) | (refine And.intro (TraceOK.mk (by kernel_rfl)) ?_) | (refine Side.mk ?_; (repeat' (first | refine And.intro ?_ ?_ | exact inR_i64 (by omega) (by omega) | omega | rfl | exact trivial | exact none_ne rfl | exact some_ne rfl (Nat.ne_of_beq_eq_false rfl) | exact Nat.ne_of_beq_eq_false rfl | (dsimp only [srcSide]; omega) | (simp; done) | (simp; omega))); done) | (refine side_and ?_ ?_) | (refine drawX_of mixed ?_)))
          all_goals (repeat' (first | refine EndV.mk ?_ | exact trivial | exact rfl | refine And.intro ?_ ?_))
        · have d6 := decide_eq_false h6
          by_cases h7 : bk.getD p.of_.toNat false = true
          · have y7 : ¬ bk.getD p.of_.toNat (Cd.dflt U.bool) = false := fun h => by have h8 := h7.symm.trans h; cases h8
            have ht : takesB acc xs bk p = false := by simp only [takesB, lateB, d1, h2, d3, d4, d5, d6, h7, Bool.or_self, Bool.false_eq_true, if_false, if_true, Bool.not_false, Bool.true_or, Bool.or_true, Bool.or_false, Bool.false_or, Bool.not_true, Bool.true_and, Bool.false_and, Bool.and_self]
            rw [ht, show takesH acc cl xs bk p = ledger acc cl xs bk by unfold takesH; rw [ht, if_neg (by simp)]]
            refine meets_of_gx Ax tab_ok Tryd.func114 (c := _) rfl Tryd.call114 600 ?_
            (repeat' ((conv => whnf); first | (exfalso; omega) | (refine callx_pure (hf) rfl rfl ?_) | (refine dcallx_pure (hf) rfl rfl ?_) | (refine callx_pure (hk) rfl rfl ?_) | (refine dcallx_pure (hk) rfl rfl ?_) | (exact absurd hb y7) | (exact absurd h2 hb) | (refine end_fn [some 0, some 1] (.inr rfl) ?_ ?_ rfl rfl) | (refine end_fn [] (.inr rfl) ?_ trivial rfl rfl) | (refine split_nd (fun hb => ?_) (fun hb => ?_)) | (refine split_d (fun hb => ?_) (fun hb => ?_)) | (refine split_n (fun hb => ?_) (fun hb => ?_)) | (refine split_x (fun hb => ?_) (fun hb => ?_)) | (refine And.intro (TraceOK.mk (by kernel_rfl)) ?_) | (refine Side.mk ?_; (repeat' (first | refine And.intro ?_ ?_ | exact inR_i64 (by omega) (by omega) | omega | rfl | exact trivial | exact none_ne rfl | exact some_ne rfl (Nat.ne_of_beq_eq_false rfl) | exact Nat.ne_of_beq_eq_false rfl | (dsimp only [srcSide]; omega) | (simp; done) | (simp; omega))); done) | (refine side_and ?_ ?_) | (refine drawX_of mixed ?_)))
            all_goals (repeat' (first | refine EndV.mk ?_ | exact trivial | exact rfl | refine And.intro ?_ ?_))
          · rw [Bool.not_eq_true] at h7
            have y7 : ¬ bk.getD p.of_.toNat (Cd.dflt U.bool) = true := fun h => by have h8 := h7.symm.trans h; cases h8
            by_cases h8 : isBackB p (xs.getD p.of_.toNat posting0) = true
            · rw [show isBackB p (xs.getD (0 + p.of_.toNat) (Cd.dflt U.posting)) = true by rw [Nat.zero_add]; exact h8] at hk
              have ht : takesB acc xs bk p = true := by simp only [takesB, lateB, d1, h2, d3, d4, d5, d6, h7, h8, Bool.or_self, Bool.false_eq_true, if_false, if_true, Bool.not_false, Bool.true_or, Bool.or_true, Bool.or_false, Bool.false_or, Bool.not_true, Bool.true_and, Bool.false_and, Bool.and_self]
              have hnb : newBk bk p = bk.set p.of_.toNat true := by unfold newBk; rw [if_pos h5]
              rw [ht, show takesH acc cl xs bk p = [.var [.p (.int .i64 acc), .slice 2 0 7 0 (xs ++ [p]).length, .p (.int .i64 cl), .arr U.bool 200 (bk.set p.of_.toNat true)], .dead, .rows U.posting (xs ++ [p])] by unfold takesH; rw [ht, if_pos rfl, hnb]]
              refine meets_of_gx Ax tab_ok Tryd.func114 (c := _) rfl Tryd.call114 600 ?_
              (repeat' ((conv => whnf); first | (exfalso; omega) | (refine callx_pure (hf) rfl rfl ?_) | (refine dcallx_pure (hf) rfl rfl ?_) | (refine callx_pure (hk) rfl rfl ?_) | (refine dcallx_pure (hk) rfl rfl ?_) | (exact absurd hb y7) | (exact absurd h2 hb) | (rw [es]) | (refine end_fn [some 0, some 1, some 4] (.inr rfl) ?_ ?_ rfl rfl) | (refine end_fn [] (.inr rfl) ?_ trivial rfl rfl) | (refine split_nd (fun hb => ?_) (fun hb => ?_)) | (refine split_d (fun hb => ?_) (fun hb => ?_)) | (refine split_n (fun hb => ?_) (fun hb => ?_)) | (refine split_x (fun hb => ?_) (fun hb => ?_)) | (refine And.intro (TraceOK.mk (by kernel_rfl)) ?_) | (refine Side.mk ?_; (repeat' (first | refine And.intro ?_ ?_ | exact inR_i64 (by omega) (by omega) | omega | rfl | exact trivial | exact none_ne rfl | exact some_ne rfl (Nat.ne_of_beq_eq_false rfl) | exact Nat.ne_of_beq_eq_false rfl | (dsimp only [srcSide]; omega) | (simp; done) | (simp; omega))); done) | (refine side_and ?_ ?_) | (refine drawX_of mixed ?_)))
              all_goals (repeat' (first | refine EndV.mk ?_ | exact trivial | exact rfl | refine And.intro ?_ ?_))
            · rw [Bool.not_eq_true] at h8
              rw [show isBackB p (xs.getD (0 + p.of_.toNat) (Cd.dflt U.posting)) = false by rw [Nat.zero_add]; exact h8] at hk
              have ht : takesB acc xs bk p = false := by simp only [takesB, lateB, d1, h2, d3, d4, d5, d6, h7, h8, Bool.or_self, Bool.false_eq_true, if_false, if_true, Bool.not_false, Bool.true_or, Bool.or_true, Bool.or_false, Bool.false_or, Bool.not_true, Bool.true_and, Bool.false_and, Bool.and_self]
              rw [ht, show takesH acc cl xs bk p = ledger acc cl xs bk by unfold takesH; rw [ht, if_neg (by simp)]]
              refine meets_of_gx Ax tab_ok Tryd.func114 (c := _) rfl Tryd.call114 600 ?_
              (repeat' ((conv => whnf); first | (exfalso; omega) | (refine callx_pure (hf) rfl rfl ?_) | (refine dcallx_pure (hf) rfl rfl ?_) | (refine callx_pure (hk) rfl rfl ?_) | (refine dcallx_pure (hk) rfl rfl ?_) | (exact absurd hb y7) | (exact absurd h2 hb) | (refine end_fn [some 0, some 1] (.inr rfl) ?_ ?_ rfl rfl) | (refine end_fn [] (.inr rfl) ?_ trivial rfl rfl) | (refine split_nd (fun hb => ?_) (fun hb => ?_)) | (refine split_d (fun hb => ?_) (fun hb => ?_)) | (refine split_n (fun hb => ?_) (fun hb => ?_)) | (refine split_x (fun hb => ?_) (fun hb => ?_)) | (refine And.intro (TraceOK.mk (by kernel_rfl)) ?_) | (refine Side.mk ?_; (repeat' (first | refine And.intro ?_ ?_ | exact inR_i64 (by omega) (by omega) | omega | rfl | exact trivial | exact none_ne rfl | exact some_ne rfl (Nat.ne_of_beq_eq_false rfl) | exact Nat.ne_of_beq_eq_false rfl | (dsimp only [srcSide]; omega) | (simp; done) | (simp; omega))); done) | (refine side_and ?_ ?_) | (refine drawX_of mixed ?_)))
              all_goals (repeat' (first | refine EndV.mk ?_ | exact trivial | exact rfl | refine And.intro ?_ ?_))
      · have d5 := decide_eq_false h5
        have ht : takesB acc xs bk p = true := by simp only [takesB, lateB, d1, h2, d3, d4, d5, Bool.or_self, Bool.false_eq_true, if_false, if_true, Bool.not_false, Bool.true_or, Bool.or_true, Bool.or_false, Bool.false_or, Bool.not_true, Bool.true_and, Bool.false_and, Bool.and_self]
        have hnb : newBk bk p = bk := by unfold newBk; rw [if_neg h5]
        rw [ht, show takesH acc cl xs bk p = [.var [.p (.int .i64 acc), .slice 2 0 7 0 (xs ++ [p]).length, .p (.int .i64 cl), .arr U.bool 200 (bk)], .dead, .rows U.posting (xs ++ [p])] by unfold takesH; rw [ht, if_pos rfl, hnb]]
        refine meets_of_gx Ax tab_ok Tryd.func114 (c := _) rfl Tryd.call114 600 ?_
        (repeat' ((conv => whnf); first | (exfalso; omega) | (refine callx_pure (hf) rfl rfl ?_) | (refine dcallx_pure (hf) rfl rfl ?_) | (refine callx_pure (hk) rfl rfl ?_) | (refine dcallx_pure (hk) rfl rfl ?_) | (exact absurd hb x0) | (exact absurd h2 hb) | (rw [es]) | (refine end_fn [some 0, some 1, some 4] (.inr rfl) ?_ ?_ rfl rfl) | (refine end_fn [] (.inr rfl) ?_ trivial rfl rfl) | (refine split_nd (fun hb => ?_) (fun hb => ?_)) | (refine split_d (fun hb => ?_) (fun hb => ?_)) | (refine split_n (fun hb => ?_) (fun hb => ?_)) | (refine split_x (fun hb => ?_) (fun hb => ?_)) | (refine And.intro (TraceOK.mk (by kernel_rfl)) ?_) | (refine Side.mk ?_; (repeat' (first | refine And.intro ?_ ?_ | exact inR_i64 (by omega) (by omega) | omega | rfl | exact trivial | exact none_ne rfl | exact some_ne rfl (Nat.ne_of_beq_eq_false rfl) | exact Nat.ne_of_beq_eq_false rfl | (dsimp only [srcSide]; omega) | (simp; done) | (simp; omega))); done) | (refine side_and ?_ ?_) | (refine drawX_of mixed ?_)))
        all_goals (repeat' (first | refine EndV.mk ?_ | exact trivial | exact rfl | refine And.intro ?_ ?_))
  · have d3 := decide_eq_false h3
    by_cases h5 : p.kind = 3
    · have d5 := decide_eq_true h5
      obtain ⟨o1, o2⟩ := hof h5
      have h6 : (xs.length : Int) ≤ p.of_ := by omega
      have d6 := decide_eq_true h6
      have ht : takesB acc xs bk p = false := by simp only [takesB, lateB, d1, h2, d3, d5, d6, Bool.or_self, Bool.false_eq_true, if_false, if_true, Bool.not_false, Bool.true_or, Bool.or_true, Bool.or_false, Bool.false_or, Bool.not_true, Bool.true_and, Bool.false_and, Bool.and_self]
      rw [ht, show takesH acc cl xs bk p = ledger acc cl xs bk by unfold takesH; rw [ht, if_neg (by simp)]]
      refine meets_of_gx Ax tab_ok Tryd.func114 (c := _) rfl Tryd.call114 600 ?_
      (repeat' ((conv => whnf); first | (exfalso; omega) | (refine callx_pure (hf) rfl rfl ?_) | (refine dcallx_pure (hf) rfl rfl ?_) | (refine callx_pure (hk) rfl rfl ?_) | (refine dcallx_pure (hk) rfl rfl ?_) | (exact absurd hb x0) | (exact absurd h2 hb) | (refine end_fn [some 0, some 1] (.inr rfl) ?_ ?_ rfl rfl) | (refine end_fn [] (.inr rfl) ?_ trivial rfl rfl) | (refine split_nd (fun hb => ?_) (fun hb => ?_)) | (refine split_d (fun hb => ?_) (fun hb => ?_)) | (refine split_n (fun hb => ?_) (fun hb => ?_)) | (refine split_x (fun hb => ?_) (fun hb => ?_)) | (refine And.intro (TraceOK.mk (by kernel_rfl)) ?_) | (refine Side.mk ?_; (repeat' (first | refine And.intro ?_ ?_ | exact inR_i64 (by omega) (by omega) | omega | rfl | exact trivial | exact none_ne rfl | exact some_ne rfl (Nat.ne_of_beq_eq_false rfl) | exact Nat.ne_of_beq_eq_false rfl | (dsimp only [srcSide]; omega) | (simp; done) | (simp; omega))); done) | (refine side_and ?_ ?_) | (refine drawX_of mixed ?_)))
      all_goals (repeat' (first | refine EndV.mk ?_ | exact trivial | exact rfl | refine And.intro ?_ ?_))
    · have d5 := decide_eq_false h5
      have ht : takesB acc xs bk p = true := by simp only [takesB, lateB, d1, h2, d3, d5, Bool.or_self, Bool.false_eq_true, if_false, if_true, Bool.not_false, Bool.true_or, Bool.or_true, Bool.or_false, Bool.false_or, Bool.not_true, Bool.true_and, Bool.false_and, Bool.and_self]
      have hnb : newBk bk p = bk := by unfold newBk; rw [if_neg h5]
      rw [ht, show takesH acc cl xs bk p = [.var [.p (.int .i64 acc), .slice 2 0 7 0 (xs ++ [p]).length, .p (.int .i64 cl), .arr U.bool 200 (bk)], .dead, .rows U.posting (xs ++ [p])] by unfold takesH; rw [ht, if_pos rfl, hnb]]
      refine meets_of_gx Ax tab_ok Tryd.func114 (c := _) rfl Tryd.call114 600 ?_
      (repeat' ((conv => whnf); first | (exfalso; omega) | (refine callx_pure (hf) rfl rfl ?_) | (refine dcallx_pure (hf) rfl rfl ?_) | (refine callx_pure (hk) rfl rfl ?_) | (refine dcallx_pure (hk) rfl rfl ?_) | (exact absurd hb x0) | (exact absurd h2 hb) | (rw [es]) | (refine end_fn [some 0, some 1, some 4] (.inr rfl) ?_ ?_ rfl rfl) | (refine end_fn [] (.inr rfl) ?_ trivial rfl rfl) | (refine split_nd (fun hb => ?_) (fun hb => ?_)) | (refine split_d (fun hb => ?_) (fun hb => ?_)) | (refine split_n (fun hb => ?_) (fun hb => ?_)) | (refine split_x (fun hb => ?_) (fun hb => ?_)) | (refine And.intro (TraceOK.mk (by kernel_rfl)) ?_) | (refine Side.mk ?_; (repeat' (first | refine And.intro ?_ ?_ | exact inR_i64 (by omega) (by omega) | omega | rfl | exact trivial | exact none_ne rfl | exact some_ne rfl (Nat.ne_of_beq_eq_false rfl) | exact Nat.ne_of_beq_eq_false rfl | (dsimp only [srcSide]; omega) | (simp; done) | (simp; omega))); done) | (refine side_and ?_ ?_) | (refine drawX_of mixed ?_)))
      all_goals (repeat' (first | refine EndV.mk ?_ | exact trivial | exact rfl | refine And.intro ?_ ?_))
end Go.SX

namespace Go.SX
open Go.Proofs
set_option linter.unusedSimpArgs false
set_option maxHeartbeats 4000000
set_option maxRecDepth 100000
/-- which postings are taken back, once all of the rest have been taken -/
def bkRun (acc : Int) : List Posting → List Bool → List Posting → Option (List Bool)
  | _, bk, [] => some bk
  | done, bk, p :: r => if takesB acc done bk p then bkRun acc (done ++ [p]) (newBk bk p) r else none
def bk0 : List Bool := List.replicate 200 false
def openS (b : Book) : Option (List Bool) := bkRun b.accounts [] bk0 b.postings
def ba (b : Book) : SV Cd := .agg [.p (.int .i64 b.accounts), .p (.dsl U.posting b.postings), .p (.int .i64 b.closed)]
def openRet (b : Book) : SV Cd := match openS b with
  | some _ => .tuple [.ptr 0 0, .p (.bool (isInB b.accounts 2 16 && isInB b.closed 0 12))]
  | none => .tuple [.p (.lit (.pointer none)), .p (.bool false)]
def openH (b : Book) : List (HS Cd) := match openS b with
  | some bk => ledger b.accounts b.closed b.postings bk
  | none => []
theorem newBk_length (bk : List Bool) (p : Posting) : (newBk bk p).length = bk.length := by unfold newBk; split <;> simp
def openI (b : Book) (g : Nat × List Bool) : List (SV Cd) × List (HS Cd) :=
  ([.any, .ptr 0 0, .p (.lit (.pointer none)), .p (.bool false), .ptr 1 0, .any, .any, .any, .any, .any, .any, .any, .any, .any, .any, .p (.dsl U.posting b.postings), .p (.int .i64 b.postings.length), .p (.int .i64 g.1),
    .any, .any, .any, .any, .any, .any, .any, .any, .any, .any, .any, .any, .any, .any, .any, .any, .any],
   [.var [.p (.int .i64 b.accounts), .p (.dsl U.posting b.postings), .p (.int .i64 b.closed)],
    .var [.p (.int .i64 b.accounts), .slice 2 0 7 0 (b.postings.take g.1).length, .p (.int .i64 b.closed), .arr U.bool 200 g.2],
    .rows U.posting (b.postings.take g.1)])
theorem takes_yes (acc cl : Int) (xs : List Posting) (bk : List Bool) (p : Posting) (hbk : bk.length = 200) (h : takesB acc xs bk p = true) : Meets Tryd.prog Dc 114 [.ptr 0 0, pa p] (ledger acc cl xs bk)
    (.p (.bool true)) [.var [.p (.int .i64 acc), .slice 2 0 7 0 (xs ++ [p]).length, .p (.int .i64 cl), .arr U.bool 200 (newBk bk p)], .dead, .rows U.posting (xs ++ [p])] := by
  have := takes_meets acc cl xs bk p hbk
  rw [takesH, h, if_pos rfl] at this
  exact this
theorem takes_no (acc cl : Int) (xs : List Posting) (bk : List Bool) (p : Posting) (hbk : bk.length = 200) (h : takesB acc xs bk p = false) : Meets Tryd.prog Dc 114 [.ptr 0 0, pa p] (ledger acc cl xs bk)
    (.p (.bool false)) (ledger acc cl xs bk) := by
  have := takes_meets acc cl xs bk p hbk
  rw [takesH, h, if_neg (by simp)] at this
  exact this
theorem open_meets (b : Book) (hL : (b.postings.length : Int) < 9223372036854775807) : Meets Tryd.prog Dc 87 [ba b] [] (openRet b) (openH b) := by
  refine meets_of_go Ax tab_ok Tryd.func87 (c := _) rfl Tryd.call87 300 ?_
  simp -implicitDefEqProofs only [condVC_t, condVC_f, condVC_dt, condVC_df, condVC_ot, condVC_of, go_nil, go_skip, go_label, go_seq, go_region, go_drawn, go_cond, go_block, go_loop, go_exit, go_ret, go_blk, go_endLoop, go_opsNil, go_op, go_opG, guardD_some, go_op1, afterOp_val, afterOp_side, afterOp_mem, afterOp_smem, afterOp_call, afterOp_stuck, atGuard_t, atGuard_f, atGuard_n, atCond_b, atExit_some, atExit_none, drawVC_eq, drawGo_nil, drawGo_op, drawGo_opG, dGuardD_some, dGuard_t, dGuard_f, dGuard_n, drawOp_eq, drawOpAt_eq, drawOut_val, drawOut_side, drawOut_mem, drawOut_smem, drawOut_call, drawOut_stuck, drawK_eq, freshAt_eq, isFr_fresh, newAt_eq, unwind, List.length_cons, List.length_nil, Nat.reduceSub, Nat.reduceAdd, Nat.reduceMul, Nat.reduceDiv, Nat.reduceMod, List.cons_append, List.nil_append, valsOf, opnds, evT, getT, setT, setO, getC, setC, setCs, exec, ofV, ofCell, hsOf, hlen, SV.topId, gslot, ixL, lk, lays, tmpsOf, fcOf, topIds, idsOf, allOne, ofCells, oneV, doLoad, loadVarAt, loadCellsAt, optSV, condSide, hitW, takeW, dropW, subO, spliceW, cellsOf, toPV, toPVs, doStore, setElem, putSeq, setArr, takeP, dropP, spliceP, seqAt, doBuild, fillW, placeOf, decParts, zipIx, doBuildSlice, arith, arithW, wr_Ax, intBin, strBin, doBinP, doConv, loadSeqAt, TI.typed, TI.seq, tyIf, srcZ, doBin, doUn, doConvert, HS.live, ifLive, doFieldAddr, doField, partW, doIndexAddr, doIndex, doExtract, boundOr, doSlice, doMakeSlice, doLen, srcOf, srcSide, appRes, doAppend, doCall, minmax, TK.agg, pcells, tab, dflt_posting, dflt_int, dflt_bool, dflt_str, un_int, un_bool, un_str, un_posting, un_book, un_arr5, n_int, n_bool, n_str, n_posting, n_book, n_arr5, cast_int, cast_bool, cast_str, cast_posting, cast_book, cast_arr5, enc_int, enc_bool, enc_str, enc_posting, enc_book, enc_arr5, dec_int, dec_bool, dec_str, dec_posting, dec_book, dec_arr5, List.getD_cons_zero, List.getD_cons_succ, ↓reduceIte, List.map_cons, List.map_nil, List.take_succ_cons, List.take_zero, List.drop_succ_cons, List.drop_zero, List.size_toArray, List.append_nil, Nat.add_zero, Nat.zero_add, mixed, Int.toNat_natCast, Nat.reduceLeDiff, Nat.reduceEqDiff, reduceCtorEq, ne_eq, Option.some.injEq, not_false_eq_true, not_true_eq_false, List.take_length, if_true, and_true, true_and, Bool.not_true, Bool.not_false, Tryd.f87, anys, ba]
  refine ⟨Nat × List Bool, openI b, fun g => g.1 ≤ b.postings.length ∧ g.2.length = 200 ∧ bkRun b.accounts (b.postings.take g.1) g.2 (b.postings.drop g.1) = openS b, fun g => b.postings.length - g.1, (0, bk0), ⟨Nat.zero_le _, List.length_replicate, rfl⟩, ?_, ?_⟩
  · refine sub_of [some 0, some 1, none] ?_ ⟨?_, rfl, rfl⟩
    · simp only [openI, ViewL, View, getC, renS, ixO, and_true, true_and, Int.natCast_zero, List.take_zero, List.length_nil]
      try rfl
    · simp only [openI, ViewHs, ViewH, ViewL, View, getC, renS, ixO, ixL, and_true, true_and, List.take_zero, List.length_nil]
      exact ⟨rfl, _, rfl⟩
  rintro ⟨i, bk⟩ ⟨hi, hbk, hrun⟩ J hJ
  simp only [openI]
  simp -implicitDefEqProofs only [condVC_t, condVC_f, condVC_dt, condVC_df, condVC_ot, condVC_of, go_nil, go_skip, go_label, go_seq, go_region, go_drawn, go_cond, go_block, go_loop, go_exit, go_ret, go_blk, go_endLoop, go_opsNil, go_op, go_opG, guardD_some, go_op1, afterOp_val, afterOp_side, afterOp_mem, afterOp_smem, afterOp_call, afterOp_stuck, atGuard_t, atGuard_f, atGuard_n, atCond_b, atExit_some, atExit_none, drawVC_eq, drawGo_nil, drawGo_op, drawGo_opG, dGuardD_some, dGuard_t, dGuard_f, dGuard_n, drawOp_eq, drawOpAt_eq, drawOut_val, drawOut_side, drawOut_mem, drawOut_smem, drawOut_call, drawOut_stuck, drawK_eq, freshAt_eq, isFr_fresh, newAt_eq, unwind, List.length_cons, List.length_nil, Nat.reduceSub, Nat.reduceAdd, Nat.reduceMul, Nat.reduceDiv, Nat.reduceMod, List.cons_append, List.nil_append, valsOf, opnds, evT, getT, setT, setO, getC, setC, setCs, exec, ofV, ofCell, hsOf, hlen, SV.topId, gslot, ixL, lk, lays, tmpsOf, fcOf, topIds, idsOf, allOne, ofCells, oneV, doLoad, loadVarAt, loadCellsAt, optSV, condSide, hitW, takeW, dropW, subO, spliceW, cellsOf, toPV, toPVs, doStore, setElem, putSeq, setArr, takeP, dropP, spliceP, seqAt, doBuild, fillW, placeOf, decParts, zipIx, doBuildSlice, arith, arithW, wr_Ax, intBin, strBin, doBinP, doConv, loadSeqAt, TI.typed, TI.seq, tyIf, srcZ, doBin, doUn, doConvert, HS.live, ifLive, doFieldAddr, doField, partW, doIndexAddr, doIndex, doExtract, boundOr, doSlice, doMakeSlice, doLen, srcOf, srcSide, appRes, doAppend, doCall, minmax, TK.agg, pcells, tab, dflt_posting, dflt_int, dflt_bool, dflt_str, un_int, un_bool, un_str, un_posting, un_book, un_arr5, n_int, n_bool, n_str, n_posting, n_book, n_arr5, cast_int, cast_bool, cast_str, cast_posting, cast_book, cast_arr5, enc_int, enc_bool, enc_str, enc_posting, enc_book, enc_arr5, dec_int, dec_bool, dec_str, dec_posting, dec_book, dec_arr5, List.getD_cons_zero, List.getD_cons_succ, ↓reduceIte, List.map_cons, List.map_nil, List.take_succ_cons, List.take_zero, List.drop_succ_cons, List.drop_zero, List.size_toArray, List.append_nil, Nat.add_zero, Nat.zero_add, mixed, Int.toNat_natCast, Nat.reduceLeDiff, Nat.reduceEqDiff, reduceCtorEq, ne_eq, Option.some.injEq, not_false_eq_true, not_true_eq_false, List.take_length, if_true, and_true, true_and, Bool.not_true, Bool.not_false]
  (first | refine split_w (fun h1 => ?_) (fun h1 => ?_) | refine split_t (fun h1 => ?_) (fun h1 => ?_) | refine split_f (fun h1 => ?_) (fun h1 => ?_)) <;> simp -implicitDefEqProofs only [condVC_t, condVC_f, condVC_dt, condVC_df, condVC_ot, condVC_of, go_nil, go_skip, go_label, go_seq, go_region, go_drawn, go_cond, go_block, go_loop, go_exit, go_ret, go_blk, go_endLoop, go_opsNil, go_op, go_opG, guardD_some, go_op1, afterOp_val, afterOp_side, afterOp_mem, afterOp_smem, afterOp_call, afterOp_stuck, atGuard_t, atGuard_f, atGuard_n, atCond_b, atExit_some, atExit_none, drawVC_eq, drawGo_nil, drawGo_op, drawGo_opG, dGuardD_some, dGuard_t, dGuard_f, dGuard_n, drawOp_eq, drawOpAt_eq, drawOut_val, drawOut_side, drawOut_mem, drawOut_smem, drawOut_call, drawOut_stuck, drawK_eq, freshAt_eq, isFr_fresh, newAt_eq, unwind, List.length_cons, List.length_nil, Nat.reduceSub, Nat.reduceAdd, Nat.reduceMul, Nat.reduceDiv, Nat.reduceMod, List.cons_append, List.nil_append, valsOf, opnds, evT, getT, setT, setO, getC, setC, setCs, exec, ofV, ofCell, hsOf, hlen, SV.topId, gslot, ixL, lk, lays, tmpsOf, fcOf, topIds, idsOf, allOne, ofCells, oneV, doLoad, loadVarAt, loadCellsAt, optSV, condSide, hitW, takeW, dropW, subO, spliceW, cellsOf, toPV, toPVs, doStore, setElem, putSeq, setArr, takeP, dropP, spliceP, seqAt, doBuild, fillW, placeOf, decParts, zipIx, doBuildSlice, arith, arithW, wr_Ax, intBin, strBin, doBinP, doConv, loadSeqAt, TI.typed, TI.seq, tyIf, srcZ, doBin, doUn, doConvert, HS.live, ifLive, doFieldAddr, doField, partW, doIndexAddr, doIndex, doExtract, boundOr, doSlice, doMakeSlice, doLen, srcOf, srcSide, appRes, doAppend, doCall, minmax, TK.agg, pcells, tab, dflt_posting, dflt_int, dflt_bool, dflt_str, un_int, un_bool, un_str, un_posting, un_book, un_arr5, n_int, n_bool, n_str, n_posting, n_book, n_arr5, cast_int, cast_bool, cast_str, cast_posting, cast_book, cast_arr5, enc_int, enc_bool, enc_str, enc_posting, enc_book, enc_arr5, dec_int, dec_bool, dec_str, dec_posting, dec_book, dec_arr5, List.getD_cons_zero, List.getD_cons_succ, ↓reduceIte, List.map_cons, List.map_nil, List.take_succ_cons, List.take_zero, List.drop_succ_cons, List.drop_zero, List.size_toArray, List.append_nil, Nat.add_zero, Nat.zero_add, mixed, Int.toNat_natCast, Nat.reduceLeDiff, Nat.reduceEqDiff, reduceCtorEq, ne_eq, Option.some.injEq, not_false_eq_true, not_true_eq_false, List.take_length, if_true, and_true, true_and, Bool.not_true, Bool.not_false, h1]
  · have h1' : (i : Int) < b.postings.length := by simpa using h1
    have hp : i < b.postings.length := by omega
    have hcons : b.postings.drop i = b.postings.getD i posting0 :: b.postings.drop (i + 1) := by
      rw [List.drop_eq_getElem_cons hp]; simp [hp]
    have htake : b.postings.take i ++ [b.postings.getD i posting0] = b.postings.take (i + 1) := by
      rw [List.take_add_one]; simp [hp]
    simp only at hrun hbk
    rw [hcons, bkRun] at hrun
    refine ⟨⟨by omega, by omega⟩, ?_⟩
    cases ht : takesB b.accounts (b.postings.take i) bk (b.postings.getD i posting0) with
    | true =>
      rw [ht, if_pos rfl] at hrun
      refine call_heap [some 1, some 2] (takes_yes b.accounts b.closed (b.postings.take i) bk (b.postings.getD i posting0) hbk ht) rfl rfl ⟨rfl, rfl, trivial⟩ [some 1, some 2, some 4] rfl rfl (Nat.le_of_ble_eq_true rfl) rfl rfl ?_
      simp -implicitDefEqProofs only [condVC_t, condVC_f, condVC_dt, condVC_df, condVC_ot, condVC_of, go_nil, go_skip, go_label, go_seq, go_region, go_drawn, go_cond, go_block, go_loop, go_exit, go_ret, go_blk, go_endLoop, go_opsNil, go_op, go_opG, guardD_some, go_op1, afterOp_val, afterOp_side, afterOp_mem, afterOp_smem, afterOp_call, afterOp_stuck, atGuard_t, atGuard_f, atGuard_n, atCond_b, atExit_some, atExit_none, drawVC_eq, drawGo_nil, drawGo_op, drawGo_opG, dGuardD_some, dGuard_t, dGuard_f, dGuard_n, drawOp_eq, drawOpAt_eq, drawOut_val, drawOut_side, drawOut_mem, drawOut_smem, drawOut_call, drawOut_stuck, drawK_eq, freshAt_eq, isFr_fresh, newAt_eq, unwind, List.length_cons, List.length_nil, Nat.reduceSub, Nat.reduceAdd, Nat.reduceMul, Nat.reduceDiv, Nat.reduceMod, List.cons_append, List.nil_append, valsOf, opnds, evT, getT, setT, setO, getC, setC, setCs, exec, ofV, ofCell, hsOf, hlen, SV.topId, gslot, ixL, lk, lays, tmpsOf, fcOf, topIds, idsOf, allOne, ofCells, oneV, doLoad, loadVarAt, loadCellsAt, optSV, condSide, hitW, takeW, dropW, subO, spliceW, cellsOf, toPV, toPVs, doStore, setElem, putSeq, setArr, takeP, dropP, spliceP, seqAt, doBuild, fillW, placeOf, decParts, zipIx, doBuildSlice, arith, arithW, wr_Ax, intBin, strBin, doBinP, doConv, loadSeqAt, TI.typed, TI.seq, tyIf, srcZ, doBin, doUn, doConvert, HS.live, ifLive, doFieldAddr, doField, partW, doIndexAddr, doIndex, doExtract, boundOr, doSlice, doMakeSlice, doLen, srcOf, srcSide, appRes, doAppend, doCall, minmax, TK.agg, pcells, tab, dflt_posting, dflt_int, dflt_bool, dflt_str, un_int, un_bool, un_str, un_posting, un_book, un_arr5, n_int, n_bool, n_str, n_posting, n_book, n_arr5, cast_int, cast_bool, cast_str, cast_posting, cast_book, cast_arr5, enc_int, enc_bool, enc_str, enc_posting, enc_book, enc_arr5, dec_int, dec_bool, dec_str, dec_posting, dec_book, dec_arr5, List.getD_cons_zero, List.getD_cons_succ, ↓reduceIte, List.map_cons, List.map_nil, List.take_succ_cons, List.take_zero, List.drop_succ_cons, List.drop_zero, List.size_toArray, List.append_nil, Nat.add_zero, Nat.zero_add, mixed, Int.toNat_natCast, Nat.reduceLeDiff, Nat.reduceEqDiff, reduceCtorEq, ne_eq, Option.some.injEq, not_false_eq_true, not_true_eq_false, List.take_length, if_true, and_true, true_and, Bool.not_true, Bool.not_false, zipW]
      refine ⟨inR_i64 (by omega) (by omega), ?_⟩
      refine hJ _ _ (i + 1, newBk bk (b.postings.getD i posting0)) ⟨hp, by rw [newBk_length]; exact hbk, by rw [← htake]; exact hrun⟩ (by simp only; omega) ?_
      refine sub_of [some 0, some 1, some 4] ?_ ⟨?_, rfl, rfl⟩
      · simp only [openI, ViewL, View, getC, renS, ixO, and_true, true_and]
        rfl
      · simp only [openI, ViewHs, ViewH, ViewL, View, getC, renS, ixO, ixL, and_true, true_and, htake]
    | false =>
      rw [ht, if_neg (by simp)] at hrun
      refine call_heap [some 1, some 2] (takes_no b.accounts b.closed (b.postings.take i) bk (b.postings.getD i posting0) hbk ht) rfl rfl ⟨rfl, rfl, trivial⟩ [some 1, some 2] rfl rfl (Nat.le_of_ble_eq_true rfl) rfl rfl ?_
      simp -implicitDefEqProofs only [condVC_t, condVC_f, condVC_dt, condVC_df, condVC_ot, condVC_of, go_nil, go_skip, go_label, go_seq, go_region, go_drawn, go_cond, go_block, go_loop, go_exit, go_ret, go_blk, go_endLoop, go_opsNil, go_op, go_opG, guardD_some, go_op1, afterOp_val, afterOp_side, afterOp_mem, afterOp_smem, afterOp_call, afterOp_stuck, atGuard_t, atGuard_f, atGuard_n, atCond_b, atExit_some, atExit_none, drawVC_eq, drawGo_nil, drawGo_op, drawGo_opG, dGuardD_some, dGuard_t, dGuard_f, dGuard_n, drawOp_eq, drawOpAt_eq, drawOut_val, drawOut_side, drawOut_mem, drawOut_smem, drawOut_call, drawOut_stuck, drawK_eq, freshAt_eq, isFr_fresh, newAt_eq, unwind, List.length_cons, List.length_nil, Nat.reduceSub, Nat.reduceAdd, Nat.reduceMul, Nat.reduceDiv, Nat.reduceMod, List.cons_append, List.nil_append, valsOf, opnds, evT, getT, setT, setO, getC, setC, setCs, exec, ofV, ofCell, hsOf, hlen, SV.topId, gslot, ixL, lk, lays, tmpsOf, fcOf, topIds, idsOf, allOne, ofCells, oneV, doLoad, loadVarAt, loadCellsAt, optSV, condSide, hitW, takeW, dropW, subO, spliceW, cellsOf, toPV, toPVs, doStore, setElem, putSeq, setArr, takeP, dropP, spliceP, seqAt, doBuild, fillW, placeOf, decParts, zipIx, doBuildSlice, arith, arithW, wr_Ax, intBin, strBin, doBinP, doConv, loadSeqAt, TI.typed, TI.seq, tyIf, srcZ, doBin, doUn, doConvert, HS.live, ifLive, doFieldAddr, doField, partW, doIndexAddr, doIndex, doExtract, boundOr, doSlice, doMakeSlice, doLen, srcOf, srcSide, appRes, doAppend, doCall, minmax, TK.agg, pcells, tab, dflt_posting, dflt_int, dflt_bool, dflt_str, un_int, un_bool, un_str, un_posting, un_book, un_arr5, n_int, n_bool, n_str, n_posting, n_book, n_arr5, cast_int, cast_bool, cast_str, cast_posting, cast_book, cast_arr5, enc_int, enc_bool, enc_str, enc_posting, enc_book, enc_arr5, dec_int, dec_bool, dec_str, dec_posting, dec_book, dec_arr5, List.getD_cons_zero, List.getD_cons_succ, ↓reduceIte, List.map_cons, List.map_nil, List.take_succ_cons, List.take_zero, List.drop_succ_cons, List.drop_zero, List.size_toArray, List.append_nil, Nat.add_zero, Nat.zero_add, mixed, Int.toNat_natCast, Nat.reduceLeDiff, Nat.reduceEqDiff, reduceCtorEq, ne_eq, Option.some.injEq, not_false_eq_true, not_true_eq_false, List.take_length, if_true, and_true, true_and, Bool.not_true, Bool.not_false, zipW]
      refine ⟨.inr rfl, [], _, rfl, ?_, ?_⟩
      · simp only [openRet, ← hrun, retOf, View, ViewL, getT, and_true]
      · simp only [openH, ← hrun]
        exact ⟨trivial, rfl, rfl⟩
  · have h1' : ¬ (i : Int) < b.postings.length := by simpa using h1
    have hie : i = b.postings.length := by simp only at hi; omega
    simp only at hrun hbk
    rw [hie, List.take_length, List.drop_length, bkRun] at hrun
    refine call_pure (isIn_meets _ _ _) rfl rfl ?_
    simp -implicitDefEqProofs only [condVC_t, condVC_f, condVC_dt, condVC_df, condVC_ot, condVC_of, go_nil, go_skip, go_label, go_seq, go_region, go_drawn, go_cond, go_block, go_loop, go_exit, go_ret, go_blk, go_endLoop, go_opsNil, go_op, go_opG, guardD_some, go_op1, afterOp_val, afterOp_side, afterOp_mem, afterOp_smem, afterOp_call, afterOp_stuck, atGuard_t, atGuard_f, atGuard_n, atCond_b, atExit_some, atExit_none, drawVC_eq, drawGo_nil, drawGo_op, drawGo_opG, dGuardD_some, dGuard_t, dGuard_f, dGuard_n, drawOp_eq, drawOpAt_eq, drawOut_val, drawOut_side, drawOut_mem, drawOut_smem, drawOut_call, drawOut_stuck, drawK_eq, freshAt_eq, isFr_fresh, newAt_eq, unwind, List.length_cons, List.length_nil, Nat.reduceSub, Nat.reduceAdd, Nat.reduceMul, Nat.reduceDiv, Nat.reduceMod, List.cons_append, List.nil_append, valsOf, opnds, evT, getT, setT, setO, getC, setC, setCs, exec, ofV, ofCell, hsOf, hlen, SV.topId, gslot, ixL, lk, lays, tmpsOf, fcOf, topIds, idsOf, allOne, ofCells, oneV, doLoad, loadVarAt, loadCellsAt, optSV, condSide, hitW, takeW, dropW, subO, spliceW, cellsOf, toPV, toPVs, doStore, setElem, putSeq, setArr, takeP, dropP, spliceP, seqAt, doBuild, fillW, placeOf, decParts, zipIx, doBuildSlice, arith, arithW, wr_Ax, intBin, strBin, doBinP, doConv, loadSeqAt, TI.typed, TI.seq, tyIf, srcZ, doBin, doUn, doConvert, HS.live, ifLive, doFieldAddr, doField, partW, doIndexAddr, doIndex, doExtract, boundOr, doSlice, doMakeSlice, doLen, srcOf, srcSide, appRes, doAppend, doCall, minmax, TK.agg, pcells, tab, dflt_posting, dflt_int, dflt_bool, dflt_str, un_int, un_bool, un_str, un_posting, un_book, un_arr5, n_int, n_bool, n_str, n_posting, n_book, n_arr5, cast_int, cast_bool, cast_str, cast_posting, cast_book, cast_arr5, enc_int, enc_bool, enc_str, enc_posting, enc_book, enc_arr5, dec_int, dec_bool, dec_str, dec_posting, dec_book, dec_arr5, List.getD_cons_zero, List.getD_cons_succ, ↓reduceIte, List.map_cons, List.map_nil, List.take_succ_cons, List.take_zero, List.drop_succ_cons, List.drop_zero, List.size_toArray, List.append_nil, Nat.add_zero, Nat.zero_add, mixed, Int.toNat_natCast, Nat.reduceLeDiff, Nat.reduceEqDiff, reduceCtorEq, ne_eq, Option.some.injEq, not_false_eq_true, not_true_eq_false, List.take_length, if_true, and_true, true_and, Bool.not_true, Bool.not_false]
    (first | refine split_w (fun h2 => ?_) (fun h2 => ?_) | refine split_t (fun h2 => ?_) (fun h2 => ?_) | refine split_f (fun h2 => ?_) (fun h2 => ?_)) <;> simp -implicitDefEqProofs only [condVC_t, condVC_f, condVC_dt, condVC_df, condVC_ot, condVC_of, go_nil, go_skip, go_label, go_seq, go_region, go_drawn, go_cond, go_block, go_loop, go_exit, go_ret, go_blk, go_endLoop, go_opsNil, go_op, go_opG, guardD_some, go_op1, afterOp_val, afterOp_side, afterOp_mem, afterOp_smem, afterOp_call, afterOp_stuck, atGuard_t, atGuard_f, atGuard_n, atCond_b, atExit_some, atExit_none, drawVC_eq, drawGo_nil, drawGo_op, drawGo_opG, dGuardD_some, dGuard_t, dGuard_f, dGuard_n, drawOp_eq, drawOpAt_eq, drawOut_val, drawOut_side, drawOut_mem, drawOut_smem, drawOut_call, drawOut_stuck, drawK_eq, freshAt_eq, isFr_fresh, newAt_eq, unwind, List.length_cons, List.length_nil, Nat.reduceSub, Nat.reduceAdd, Nat.reduceMul, Nat.reduceDiv, Nat.reduceMod, List.cons_append, List.nil_append, valsOf, opnds, evT, getT, setT, setO, getC, setC, setCs, exec, ofV, ofCell, hsOf, hlen, SV.topId, gslot, ixL, lk, lays, tmpsOf, fcOf, topIds, idsOf, allOne, ofCells, oneV, doLoad, loadVarAt, loadCellsAt, optSV, condSide, hitW, takeW, dropW, subO, spliceW, cellsOf, toPV, toPVs, doStore, setElem, putSeq, setArr, takeP, dropP, spliceP, seqAt, doBuild, fillW, placeOf, decParts, zipIx, doBuildSlice, arith, arithW, wr_Ax, intBin, strBin, doBinP, doConv, loadSeqAt, TI.typed, TI.seq, tyIf, srcZ, doBin, doUn, doConvert, HS.live, ifLive, doFieldAddr, doField, partW, doIndexAddr, doIndex, doExtract, boundOr, doSlice, doMakeSlice, doLen, srcOf, srcSide, appRes, doAppend, doCall, minmax, TK.agg, pcells, tab, dflt_posting, dflt_int, dflt_bool, dflt_str, un_int, un_bool, un_str, un_posting, un_book, un_arr5, n_int, n_bool, n_str, n_posting, n_book, n_arr5, cast_int, cast_bool, cast_str, cast_posting, cast_book, cast_arr5, enc_int, enc_bool, enc_str, enc_posting, enc_book, enc_arr5, dec_int, dec_bool, dec_str, dec_posting, dec_book, dec_arr5, List.getD_cons_zero, List.getD_cons_succ, ↓reduceIte, List.map_cons, List.map_nil, List.take_succ_cons, List.take_zero, List.drop_succ_cons, List.drop_zero, List.size_toArray, List.append_nil, Nat.add_zero, Nat.zero_add, mixed, Int.toNat_natCast, Nat.reduceLeDiff, Nat.reduceEqDiff, reduceCtorEq, ne_eq, Option.some.injEq, not_false_eq_true, not_true_eq_false, List.take_length, if_true, and_true, true_and, Bool.not_true, Bool.not_false, h2]
    · refine call_pure (isIn_meets _ _ _) rfl rfl ?_
      simp -implicitDefEqProofs only [condVC_t, condVC_f, condVC_dt, condVC_df, condVC_ot, condVC_of, go_nil, go_skip, go_label, go_seq, go_region, go_drawn, go_cond, go_block, go_loop, go_exit, go_ret, go_blk, go_endLoop, go_opsNil, go_op, go_opG, guardD_some, go_op1, afterOp_val, afterOp_side, afterOp_mem, afterOp_smem, afterOp_call, afterOp_stuck, atGuard_t, atGuard_f, atGuard_n, atCond_b, atExit_some, atExit_none, drawVC_eq, drawGo_nil, drawGo_op, drawGo_opG, dGuardD_some, dGuard_t, dGuard_f, dGuard_n, drawOp_eq, drawOpAt_eq, drawOut_val, drawOut_side, drawOut_mem, drawOut_smem, drawOut_call, drawOut_stuck, drawK_eq, freshAt_eq, isFr_fresh, newAt_eq, unwind, List.length_cons, List.length_nil, Nat.reduceSub, Nat.reduceAdd, Nat.reduceMul, Nat.reduceDiv, Nat.reduceMod, List.cons_append, List.nil_append, valsOf, opnds, evT, getT, setT, setO, getC, setC, setCs, exec, ofV, ofCell, hsOf, hlen, SV.topId, gslot, ixL, lk, lays, tmpsOf, fcOf, topIds, idsOf, allOne, ofCells, oneV, doLoad, loadVarAt, loadCellsAt, optSV, condSide, hitW, takeW, dropW, subO, spliceW, cellsOf, toPV, toPVs, doStore, setElem, putSeq, setArr, takeP, dropP, spliceP, seqAt, doBuild, fillW, placeOf, decParts, zipIx, doBuildSlice, arith, arithW, wr_Ax, intBin, strBin, doBinP, doConv, loadSeqAt, TI.typed, TI.seq, tyIf, srcZ, doBin, doUn, doConvert, HS.live, ifLive, doFieldAddr, doField, partW, doIndexAddr, doIndex, doExtract, boundOr, doSlice, doMakeSlice, doLen, srcOf, srcSide, appRes, doAppend, doCall, minmax, TK.agg, pcells, tab, dflt_posting, dflt_int, dflt_bool, dflt_str, un_int, un_bool, un_str, un_posting, un_book, un_arr5, n_int, n_bool, n_str, n_posting, n_book, n_arr5, cast_int, cast_bool, cast_str, cast_posting, cast_book, cast_arr5, enc_int, enc_bool, enc_str, enc_posting, enc_book, enc_arr5, dec_int, dec_bool, dec_str, dec_posting, dec_book, dec_arr5, List.getD_cons_zero, List.getD_cons_succ, ↓reduceIte, List.map_cons, List.map_nil, List.take_succ_cons, List.take_zero, List.drop_succ_cons, List.drop_zero, List.size_toArray, List.append_nil, Nat.add_zero, Nat.zero_add, mixed, Int.toNat_natCast, Nat.reduceLeDiff, Nat.reduceEqDiff, reduceCtorEq, ne_eq, Option.some.injEq, not_false_eq_true, not_true_eq_false, List.take_length, if_true, and_true, true_and, Bool.not_true, Bool.not_false]
      refine ⟨.inr rfl, [some 1, some 2], _, rfl, ?_, ?_⟩
      · simp only [openRet, ← hrun, retOf, View, ViewL, getT, and_true, h2, Bool.true_and, renS, ixO]
      · simp only [openH, ← hrun, hie, List.take_length]
        refine ⟨?_, rfl, rfl⟩
        simp only [ledger, ViewHs, ViewH, ViewL, View, getC, renS, ixO, ixL, and_true, true_and]
    · refine ⟨.inr rfl, [some 1, some 2], _, rfl, ?_, ?_⟩
      · simp only [openRet, ← hrun, retOf, View, ViewL, getT, and_true, h2, Bool.false_and, renS, ixO]
      · simp only [openH, ← hrun, hie, List.take_length]
        refine ⟨?_, rfl, rfl⟩
        simp only [ledger, ViewHs, ViewH, ViewL, View, getC, renS, ixO, ixL, and_true, true_and]
end Go.SX
