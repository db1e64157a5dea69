/-
  Walks: El1, El2, El3: what single functions of the program compute.
-/
import Derived.Test.YtboldmbaiocjpaaDoorSxEp1
set_option linter.unusedVariables false
namespace Go.SX
open Go.Proofs
set_option linter.unusedSimpArgs false
set_option maxHeartbeats 4000000
set_option maxRecDepth 100000
theorem bkRun_append {acc : Int} : ∀ (r done : List Posting) (bk : List Bool) (p : Posting), bkRun acc done bk (r ++ [p]) = (bkRun acc done bk r).bind fun bk' => if takesB acc (done ++ r) bk' p then some (newBk bk' p) else none
  | [], done, bk, p => by simp [bkRun]
  | q :: r, done, bk, p => by
    simp only [List.cons_append, bkRun]
    split
    · rw [bkRun_append r]; simp
    · rfl
theorem openS_append (a c : Int) (xs : List Posting) (p : Posting) : openS ⟨a, xs ++ [p], c⟩ = (openS ⟨a, xs, c⟩).bind fun bk => if takesB a xs bk p then some (newBk bk p) else none := by
  unfold openS
  simp only [bkRun_append, List.nil_append]
theorem postS_eq (b : Book) (p : Posting) : postS b p = if validB b && validB ⟨b.accounts, b.postings ++ [p], b.closed⟩ && !decide (p.day < 30 * b.closed) then some ⟨b.accounts, b.postings ++ [p], b.closed⟩ else none := by
  unfold postS validB
  rw [openS_append]
  cases h : openS b with
  | none => simp
  | some bk =>
    simp only [Option.bind_some, Option.isSome_some, Bool.true_and, postB]
    cases hv : (isInB b.accounts 2 16 && isInB b.closed 0 12) with
    | false => simp [hv]
    | true =>
      simp only [hv, Bool.true_and, Bool.and_true]
      cases ht : takesB b.accounts b.postings bk p with
      | true => rw [show (!decide (p.day < 30 * b.closed)) = decide (30 * b.closed ≤ p.day) by rw [← decide_not]; simp]; simp
      | false => simp
theorem refPost_meets (b : Book) (p : Posting) (hL : b.postings.length ≤ 1000) : Meets Tryd.prog Dc 84 [ba b, pa p] [] (postRet b p) [] := by
  have hL2 : ((b.postings ++ [p]).length : Int) < 9223372036854775807 := by simp; omega
  refine meets_of_gx Ax tab_ok Tryd.func84 (c := _) rfl Tryd.call84 400 ?_
  (repeat' ((conv => whnf); first | (refine callx_pure (refValid_meets _ (by omega)) rfl rfl ?_) | (refine callx_read (refValid_meets ⟨b.accounts, b.postings ++ [p], b.closed⟩ hL2) ?_ rfl ?_) | (refine end_fn [] (.inr rfl) ?_ trivial rfl rfl) | (refine split_nd (fun hb => ?_) (fun hb => ?_)) | (refine split_d (fun hb => ?_) (fun hb => ?_)) | (refine split_n (fun hb => ?_) (fun hb => ?_)) | (refine split_x (fun hb => ?_) (fun hb => ?_)) | (refine And.intro (TraceOK.mk (by kernel_rfl)) ?_) | (refine Side.mk ?_; (repeat' (first | refine And.intro ?_ ?_ | exact inR_i64 (by omega) (by omega) | omega | rfl | exact trivial | exact none_ne rfl | exact some_ne rfl (Nat.ne_of_beq_eq_false rfl) | exact Nat.ne_of_beq_eq_false rfl | (dsimp only [srcSide]; omega) | (simp; done) | (simp; omega))); done) | (refine side_and ?_ ?_) | (refine drawX_of mixed ?_)))

  · have hr : postRet b p = .tuple [ba b0, .p (.int .i64 0), .p (.int .i64 240)] := by simp [postRet, postS_eq, hb]
    rw [hr]; (repeat' (first | refine EndV.mk ?_ | exact trivial | exact rfl | refine And.intro ?_ ?_))
  · refine ⟨?_⟩; (repeat' (first | refine EndV.mk ?_ | exact trivial | exact rfl | refine And.intro ?_ ?_)); exact ⟨_, rfl, rfl, rfl, by simp, by (first | (simp; done) | (simp [List.take_of_length_le]; done) | (simp [List.take_of_length_le]; rfl)), rfl⟩
  · rename_i h1
    have hr : postRet b p = .tuple [ba b0, .p (.int .i64 0), .p (.int .i64 240)] := by simp [postRet, postS_eq, h1, hb]
    rw [hr]; (repeat' (first | refine EndV.mk ?_ | exact trivial | exact rfl | refine And.intro ?_ ?_))
  · rename_i h1
    simp only [validB, Bool.and_eq_true, isInB, decide_eq_true_eq] at h1
    (refine Side.mk ?_; (repeat' (first | refine And.intro ?_ ?_ | exact inR_i64 (by omega) (by omega) | omega | rfl | exact trivial | exact none_ne rfl | exact some_ne rfl (Nat.ne_of_beq_eq_false rfl) | exact Nat.ne_of_beq_eq_false rfl | (dsimp only [srcSide]; omega) | (simp; done) | (simp; omega))); done)
  · rename_i h1 h2
    have hr : postRet b p = .tuple [ba b0, .p (.int .i64 0), .p (.int .i64 240)] := by simp [postRet, postS_eq, h1, h2, hb]
    rw [hr]; (repeat' (first | refine EndV.mk ?_ | exact trivial | exact rfl | refine And.intro ?_ ?_))
  · rename_i h1 h2
    have hr : postRet b p = .tuple [ba ⟨b.accounts, b.postings ++ [p], b.closed⟩, .p (.int .i64 b.postings.length), .p (.int .i64 0)] := by simp [postRet, postS_eq, h1, h2, hb]
    rw [hr]; (repeat' (first | refine EndV.mk ?_ | exact trivial | exact rfl | refine And.intro ?_ ?_)); exact ⟨_, rfl, rfl, rfl, by simp, by (first | (simp; done) | (simp [List.take_of_length_le]; done) | (simp [List.take_of_length_le]; rfl)), rfl⟩
end Go.SX

namespace Go.SX
open Go.Proofs
set_option linter.unusedSimpArgs false
set_option maxHeartbeats 4000000
set_option maxRecDepth 100000
theorem postS_some {b b' : Book} {p : Posting} (h : postS b p = some b') : b' = ⟨b.accounts, b.postings ++ [p], b.closed⟩ := by
  unfold postS at h
  split at h
  · cases h
  · split at h
    · injection h with h; exact h.symm
    · cases h
theorem refPost_none {b : Book} {p : Posting} (hL : b.postings.length ≤ 1000) (h : postS b p = none) : Meets Tryd.prog Dc 84 [ba b, pa p] [] (.tuple [ba b0, .p (.int .i64 0), .p (.int .i64 240)]) [] := by
  have := refPost_meets b p hL; rwa [postRet, h] at this
theorem refPost_some {b b' : Book} {p : Posting} (hL : b.postings.length ≤ 1000) (h : postS b p = some b') : Meets Tryd.prog Dc 84 [ba b, pa p] [] (.tuple [ba b', .p (.int .i64 b.postings.length), .p (.int .i64 0)]) [] := by
  have := refPost_meets b p hL; rwa [postRet, h] at this
theorem dispS_eq (b : Book) (i day amount : Int) : dispS b i day amount = if !decide (i < 0) && !decide ((b.postings.length : Int) ≤ i) && isInB amount 0 1000000000000 then
    (postS b (backOf (b.postings.getD i.toNat posting0) i day)).bind fun b1 => if amount = 0 then some b1 else postS b1 (againOf (b.postings.getD i.toNat posting0) day amount) else none := by
  unfold dispS
  cases ho : openS b with
  | none =>
    have : postS b (backOf (b.postings.getD i.toNat posting0) i day) = none := by simp [postS, ho]
    rw [this]; simp
  | some bk =>
    simp only [Bool.and_assoc]
    cases hv : (isInB b.accounts 2 16 && isInB b.closed 0 12) with
    | false =>
      have : postS b (backOf (b.postings.getD i.toNat posting0) i day) = none := by simp [postS, ho, hv]
      rw [this, Option.bind_none, ite_self]
      rw [← Bool.and_assoc, hv]; simp
    | true =>
      rw [← Bool.and_assoc (isInB b.accounts 2 16), hv, Bool.true_and]
      split
      · rename_i hc
        have hp : postS b (backOf (b.postings.getD i.toNat posting0) i day) = if postB b.accounts b.closed b.postings bk (backOf (b.postings.getD i.toNat posting0) i day) then some ⟨b.accounts, b.postings ++ [backOf (b.postings.getD i.toNat posting0) i day], b.closed⟩ else none := by
          simp only [postS, ho, hv, Bool.true_and]
        rw [hp]
        split
        · rename_i h1
          have h1t : takesB b.accounts b.postings bk (backOf (b.postings.getD i.toNat posting0) i day) = true := by simp [postB] at h1; exact h1.2
          have hb1 : openS ⟨b.accounts, b.postings ++ [backOf (b.postings.getD i.toNat posting0) i day], b.closed⟩ = some (newBk bk (backOf (b.postings.getD i.toNat posting0) i day)) := by
            rw [openS_append, show (⟨b.accounts, b.postings, b.closed⟩ : Book) = b from rfl, ho, Option.bind_some, h1t, if_pos rfl]
          have ham : 0 ≤ amount := by simp [isInB] at hc; omega
          simp only [Option.bind_some]
          by_cases h0 : 0 < amount
          · rw [if_pos (by simpa using h0), if_neg (show ¬ amount = 0 by omega)]
            simp only [postS, hb1, hv, Bool.true_and]
          · rw [if_neg (by simpa using h0), if_pos (show amount = 0 by omega)]
        · simp
      · rfl
theorem refDispute_meets (b : Book) (i day amount : Int) (hL : b.postings.length ≤ 900) : Meets Tryd.prog Dc 85 [ba b, .p (.int .i64 i), .p (.int .i64 day), .p (.int .i64 amount)] [] (bookRet (dispS b i day amount)) [] := by
  obtain ⟨r, he⟩ : ∃ r, r = dispS b i day amount := ⟨_, rfl⟩
  rw [← he]
  rw [dispS_eq] at he
  cases h1 : postS b (backOf (b.postings.getD i.toNat posting0) i day) with
  | none =>
    refine meets_of_gx Ax tab_ok Tryd.func85 (c := _) rfl Tryd.call85 300 ?_
    (repeat' ((conv => whnf); first | (refine callx_pure (in_meets _ _ _) rfl rfl ?_) | (refine callx_pure (refPost_none (p := backOf (b.postings.getD i.toNat posting0) i day) (by omega) h1) rfl rfl ?_) | (refine end_fn [] (.inr rfl) ?_ trivial rfl rfl) | (refine split_nd (fun hb => ?_) (fun hb => ?_)) | (refine split_d (fun hb => ?_) (fun hb => ?_)) | (refine split_n (fun hb => ?_) (fun hb => ?_)) | (refine split_x (fun hb => ?_) (fun hb => ?_)) | (refine And.intro (TraceOK.mk (by kernel_rfl)) ?_) | (refine Side.mk ?_; (repeat' (first | refine And.intro ?_ ?_ | exact inR_i64 (by omega) (by omega) | omega | rfl | exact trivial | exact none_ne rfl | exact some_ne rfl (Nat.ne_of_beq_eq_false rfl) | exact Nat.ne_of_beq_eq_false rfl | (dsimp only [srcSide]; omega) | (simp; done) | (simp; omega))); done) | (refine side_and ?_ ?_) | (refine drawX_of mixed ?_)))
    all_goals (obtain rfl : r = none := by simp_all)
    all_goals (repeat' (first | refine EndV.mk ?_ | exact trivial | exact rfl | refine And.intro ?_ ?_))
  | some b1 =>
    have hb1 := postS_some h1
    have hL1 : b1.postings.length ≤ 1000 := by rw [hb1]; simp; omega
    cases h2 : postS b1 (againOf (b.postings.getD i.toNat posting0) day amount) with
    | none =>
      refine meets_of_gx Ax tab_ok Tryd.func85 (c := _) rfl Tryd.call85 300 ?_
      (repeat' ((conv => whnf); first | (refine callx_pure (in_meets _ _ _) rfl rfl ?_) | (refine callx_pure (refPost_some (p := backOf (b.postings.getD i.toNat posting0) i day) (by omega) h1) rfl rfl ?_) | (refine callx_pure (refPost_none (p := againOf (b.postings.getD i.toNat posting0) day amount) hL1 h2) rfl rfl ?_) | (refine end_fn [] (.inr rfl) ?_ trivial rfl rfl) | (refine split_nd (fun hb => ?_) (fun hb => ?_)) | (refine split_d (fun hb => ?_) (fun hb => ?_)) | (refine split_n (fun hb => ?_) (fun hb => ?_)) | (refine split_x (fun hb => ?_) (fun hb => ?_)) | (refine And.intro (TraceOK.mk (by kernel_rfl)) ?_) | (refine Side.mk ?_; (repeat' (first | refine And.intro ?_ ?_ | exact inR_i64 (by omega) (by omega) | omega | rfl | exact trivial | exact none_ne rfl | exact some_ne rfl (Nat.ne_of_beq_eq_false rfl) | exact Nat.ne_of_beq_eq_false rfl | (dsimp only [srcSide]; omega) | (simp; done) | (simp; omega))); done) | (refine side_and ?_ ?_) | (refine drawX_of mixed ?_)))
      all_goals first
        | ((refine (fun (hr_ : r = none) => ?_) ?_; rotate_left; (focus (simp_all; done)); subst hr_); (repeat' (first | refine EndV.mk ?_ | exact trivial | exact rfl | refine And.intro ?_ ?_)))
        | ((refine (fun (hr_ : r = some b1) => ?_) ?_; rotate_left; (focus (simp_all; done)); subst hr_); (repeat' (first | refine EndV.mk ?_ | exact trivial | exact rfl | refine And.intro ?_ ?_)))
    | some b2 =>
      refine meets_of_gx Ax tab_ok Tryd.func85 (c := _) rfl Tryd.call85 300 ?_
      (repeat' ((conv => whnf); first | (refine callx_pure (in_meets _ _ _) rfl rfl ?_) | (refine callx_pure (refPost_some (p := backOf (b.postings.getD i.toNat posting0) i day) (by omega) h1) rfl rfl ?_) | (refine callx_pure (refPost_some (p := againOf (b.postings.getD i.toNat posting0) day amount) hL1 h2) rfl rfl ?_) | (refine end_fn [] (.inr rfl) ?_ trivial rfl rfl) | (refine split_nd (fun hb => ?_) (fun hb => ?_)) | (refine split_d (fun hb => ?_) (fun hb => ?_)) | (refine split_n (fun hb => ?_) (fun hb => ?_)) | (refine split_x (fun hb => ?_) (fun hb => ?_)) | (refine And.intro (TraceOK.mk (by kernel_rfl)) ?_) | (refine Side.mk ?_; (repeat' (first | refine And.intro ?_ ?_ | exact inR_i64 (by omega) (by omega) | omega | rfl | exact trivial | exact none_ne rfl | exact some_ne rfl (Nat.ne_of_beq_eq_false rfl) | exact Nat.ne_of_beq_eq_false rfl | (dsimp only [srcSide]; omega) | (simp; done) | (simp; omega))); done) | (refine side_and ?_ ?_) | (refine drawX_of mixed ?_)))
      all_goals first
        | ((refine (fun (hr_ : r = none) => ?_) ?_; rotate_left; (focus (simp_all; done)); subst hr_); (repeat' (first | refine EndV.mk ?_ | exact trivial | exact rfl | refine And.intro ?_ ?_)))
        | ((refine (fun (hr_ : r = some b1) => ?_) ?_; rotate_left; (focus (simp_all; done)); subst hr_); (repeat' (first | refine EndV.mk ?_ | exact trivial | exact rfl | refine And.intro ?_ ?_)))
        | ((refine (fun (hr_ : r = some b2) => ?_) ?_; rotate_left; (focus (simp_all; done)); subst hr_); (repeat' (first | refine EndV.mk ?_ | exact trivial | exact rfl | refine And.intro ?_ ?_)))
end Go.SX

namespace Go.SX
open Go.Proofs
set_option linter.unusedSimpArgs false
set_option maxHeartbeats 4000000
set_option maxRecDepth 100000
theorem refClose_meets (b : Book) (m : Int) (hL : b.postings.length ≤ 1000) : Meets Tryd.prog Dc 86 [ba b, .p (.int .i64 m)] [] (bookRet (closeS b m)) [] := by
  obtain ⟨r, he⟩ : ∃ r, r = closeS b m := ⟨_, rfl⟩
  rw [← he]
  unfold closeS at he
  refine meets_of_gx Ax tab_ok Tryd.func86 (c := _) rfl Tryd.call86 400 ?_
  (repeat' ((conv => whnf); first | (refine callx_pure (refValid_meets _ (by omega)) rfl rfl ?_) | (refine callx_pure (in_meets _ _ _) rfl rfl ?_) | (refine end_fn [] (.inr rfl) ?_ trivial rfl rfl) | (refine split_nd (fun hb => ?_) (fun hb => ?_)) | (refine split_d (fun hb => ?_) (fun hb => ?_)) | (refine split_n (fun hb => ?_) (fun hb => ?_)) | (refine split_x (fun hb => ?_) (fun hb => ?_)) | (refine And.intro (TraceOK.mk (by kernel_rfl)) ?_) | (refine Side.mk ?_; (repeat' (first | refine And.intro ?_ ?_ | exact inR_i64 (by omega) (by omega) | omega | rfl | exact trivial | exact none_ne rfl | exact some_ne rfl (Nat.ne_of_beq_eq_false rfl) | exact Nat.ne_of_beq_eq_false rfl | (dsimp only [srcSide]; omega) | (simp; done) | (simp; omega))); done) | (refine side_and ?_ ?_) | (refine drawX_of mixed ?_)))
  all_goals first
    | ((refine (fun (hr_ : r = none) => ?_) ?_; rotate_left; (focus (simp_all; done)); subst hr_); (repeat' (first | refine EndV.mk ?_ | exact trivial | exact rfl | refine And.intro ?_ ?_)); done)
    | ((refine (fun (hr_ : r = some ⟨b.accounts, b.postings, m + 1⟩) => ?_) ?_; rotate_left; (focus (simp_all; done)); subst hr_); (repeat' (first | refine EndV.mk ?_ | exact trivial | exact rfl | refine And.intro ?_ ?_)); exact ⟨_, rfl, rfl, rfl, by simp, by (first | (simp; done) | (simp [List.take_of_length_le]; done) | (simp [List.take_of_length_le]; rfl)), rfl⟩)
    | (simp only [isInB, Bool.and_eq_true, decide_eq_true_eq] at *
       (refine Side.mk ?_; (repeat' (first | refine And.intro ?_ ?_ | exact inR_i64 (by omega) (by omega) | omega | rfl | exact trivial | exact none_ne rfl | exact some_ne rfl (Nat.ne_of_beq_eq_false rfl) | exact Nat.ne_of_beq_eq_false rfl | (dsimp only [srcSide]; omega) | (simp; done) | (simp; omega))); done))
theorem bkRun_formed {acc : Int} : ∀ (r done : List Posting) (bk bk' : List Bool), bkRun acc done bk r = some bk' → ∀ p ∈ r, isFormedB p acc = true
  | [], _, _, _, _, p, hp => by simp at hp
  | q :: r, done, bk, bk', h, p, hp => by
    simp only [bkRun] at h
    split at h
    · rename_i ht
      rcases List.mem_cons.1 hp with rfl | hp
      · unfold takesB at ht
        split at ht
        · cases ht
        · rename_i hc; simp at hc; exact hc.1.2
      · exact bkRun_formed r _ _ _ h p hp
    · cases h
structure Formed (p : Posting) (acc : Int) : Prop where
  day : 0 ≤ p.day ∧ p.day ≤ 359
  deb : 0 ≤ p.debtor ∧ p.debtor ≤ acc - 1
  cre : 0 ≤ p.creditor ∧ p.creditor ≤ acc - 1
  ne : p.debtor ≠ p.creditor
  amt : 1 ≤ p.amount ∧ p.amount ≤ 1000000000000
  sub : 0 ≤ p.subject ∧ p.subject ≤ 999
  kind : p.kind = 1 ∧ p.of_ = -1 ∨ p.kind = 2 ∧ p.of_ = -1 ∨ p.kind = 3 ∧ 0 ≤ p.of_ ∧ p.of_ ≤ 199
theorem formed_of {p : Posting} {acc : Int} (h : isFormedB p acc = true) (h1 : 2 ≤ acc) (h2 : acc ≤ 16) : Formed p acc := by
  unfold isFormedB at h
  rw [w64_of (by omega) (by omega)] at h
  split at h
  · rename_i hc
    simp only [isInB, Bool.and_eq_true, Bool.not_eq_true', decide_eq_true_eq, decide_eq_false_iff_not] at hc
    refine ⟨by omega, by omega, by omega, hc.1.1.2, by omega, by omega, ?_⟩
    split at h
    · rename_i hk; simp at hk h; rcases hk with hk | hk
      · exact .inl ⟨hk, h⟩
      · exact .inr (.inl ⟨hk, h⟩)
    · simp [isInB] at h; exact .inr (.inr ⟨h.1, h.2⟩)
  · cases h
structure ValidBook (b : Book) : Prop where
  acc : 2 ≤ b.accounts ∧ b.accounts ≤ 16
  closed : 0 ≤ b.closed ∧ b.closed ≤ 12
  len : b.postings.length ≤ 200
  formed : ∀ p ∈ b.postings, Formed p b.accounts
theorem validBook_of {b : Book} (h : validB b = true) : ValidBook b := by
  unfold validB at h
  simp only [Bool.and_eq_true, isInB, decide_eq_true_eq] at h
  obtain ⟨h1, h2, h3⟩ := h
  obtain ⟨bk, hbk⟩ := Option.isSome_iff_exists.1 h1
  refine ⟨h2, h3, ?_, fun p hp => formed_of (bkRun_formed _ _ _ _ hbk p hp) h2.1 h2.2⟩
  by_cases hl : (200 : Int) < (([] : List Posting).length + b.postings.length : Nat)
  · have := bkRun_long (acc := b.accounts) b.postings [] bk0 hl (by simp)
    unfold openS at hbk; rw [this] at hbk; cases hbk
  · simp at hl; omega
def entry (t m : Int) (p : Posting) : Int := if p.day.tdiv 30 = m then (if p.creditor = t then p.amount else 0) - (if p.debtor = t then p.amount else 0) else 0
def balL (xs : List Posting) (t m : Int) : Int := (xs.map (entry t m)).sum
theorem sum_take_succ (f : Posting → Int) (xs : List Posting) (i : Nat) (h : i < xs.length) : ((xs.take (i + 1)).map f).sum = ((xs.take i).map f).sum + f (xs.getD i posting0) := by
  rw [List.take_add_one, List.map_append, List.sum_append]; simp [h]
theorem sum_bound (f : Posting → Int) (A : Int) : ∀ (xs : List Posting), (∀ p ∈ xs, -A ≤ f p ∧ f p ≤ A) → -(A * xs.length) ≤ (xs.map f).sum ∧ (xs.map f).sum ≤ A * xs.length
  | [], _ => by simp
  | p :: xs, h => by
    have ih := sum_bound f A xs fun q hq => h q (by simp [hq])
    have := h p (by simp)
    simp only [List.map_cons, List.sum_cons, List.length_cons]
    have e : A * ((xs.length + 1 : Nat) : Int) = A * xs.length + A := by rw [Int.natCast_add, Int.mul_add]; simp
    rw [e]; omega
theorem entry_bound {p : Posting} {acc : Int} (h : Formed p acc) (t m : Int) : -1000000000000 ≤ entry t m p ∧ entry t m p ≤ 1000000000000 := by
  have := h.amt
  unfold entry
  split
  · split <;> split <;> omega
  · omega
theorem bal_bound {b : Book} (h : ValidBook b) (t m : Int) (i : Nat) : -200000000000000 ≤ balL (b.postings.take i) t m ∧ balL (b.postings.take i) t m ≤ 200000000000000 := by
  have := sum_bound (entry t m) 1000000000000 (b.postings.take i) fun p hp => entry_bound (h.formed p (List.mem_of_mem_take hp)) t m
  have hl : (b.postings.take i).length ≤ 200 := by have := h.len; simp; omega
  unfold balL
  omega
def balS (b : Book) (t m : Int) : Option Int := if validB b && isInB t 0 (b.accounts - 1) && isInB m 0 11 then some (balL b.postings t m) else none
def intRet (r : Option Int) : SV Cd := match r with
  | some n => .tuple [.p (.int .i64 n), .p (.int .i64 0)]
  | none => .tuple [.p (.int .i64 0), .p (.int .i64 240)]
theorem formed_at {b : Book} (h : ValidBook b) {i : Nat} (hi : i < b.postings.length) : Formed (b.postings.getD i posting0) b.accounts :=
  h.formed _ (by simp [hi])
theorem tdiv30 {n : Int} (h : 0 ≤ n ∧ n ≤ 359) : 0 ≤ n.tdiv 30 ∧ n.tdiv 30 ≤ 11 := by
  rw [Int.tdiv_eq_ediv_of_nonneg h.1]; omega
theorem refValid_t {b : Book} (hL : b.postings.length ≤ 1000) (hv : validB b = true) : Meets Tryd.prog Dc 90 [ba b] [] (.p (.bool true)) [] := by
  have := refValid_meets b (by omega); rwa [hv] at this
theorem refValid_f {b : Book} (hL : b.postings.length ≤ 1000) (hv : validB b = false) : Meets Tryd.prog Dc 90 [ba b] [] (.p (.bool false)) [] := by
  have := refValid_meets b (by omega); rwa [hv] at this
end Go.SX
