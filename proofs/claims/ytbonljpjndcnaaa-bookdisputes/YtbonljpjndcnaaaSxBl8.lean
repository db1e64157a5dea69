/-
  Walks: Bl8, Bl9, Bn0: what single functions of the program compute.
-/
import Derived.Test.YtbonljpjndcnaaaSxBl5
import Derived.Test.YtbonljpjndcnaaaSxZ2
import Derived.Test.YtbonljpjndcnaaaSxTabA
set_option linter.unusedVariables false
namespace Go.SX
open Go.Proofs
set_option linter.unusedSimpArgs false
set_option maxHeartbeats 4000000
set_option maxRecDepth 100000
def errI {α : Type} (r : Option α) : Int := match r with
  | some _ => 0
  | none => 240
theorem errI_ok {α : Type} (r : Option α) : (decide (errI r = 0)) = r.isSome := by cases r <;> rfl
theorem errI_eq {α : Type} (r : Option α) : errI r = 0 ↔ r.isSome = true := by cases r <;> simp [errI]
def bookU (r : Option Book) : SV Cd := .tuple [ba (r.getD b0), .p (.int .i64 (errI r))]
def postU (b : Book) (r : Option Book) : SV Cd := .tuple [ba (r.getD b0), .p (.int .i64 (match r with | some _ => (b.postings.length : Int) | none => 0)), .p (.int .i64 (errI r))]
theorem bookRet_U (r : Option Book) : bookRet r = bookU r := by cases r <;> rfl
theorem postRet_U (b : Book) (p : Posting) : postRet b p = postU b (postS b p) := by unfold postRet; cases postS b p <;> rfl
theorem PostU (b : Book) (p : Posting) (hL : b.postings.length ≤ 1000) : Meets Try.prog Dc 9 [ba b, pa p] [] (postU b (postS b p)) [] := by
  rw [← postRet_U]; exact Post_meets b p (by omega)
theorem refPostU (b : Book) (p : Posting) (hL : b.postings.length ≤ 1000) : Meets Try.prog Dc 10 [ba b, pa p] [] (postU b (postS b p)) [] := by
  rw [← postRet_U]; exact refPost_meets b p hL
theorem DisputeU (b : Book) (i day amount : Int) (hL : b.postings.length ≤ 900) : Meets Try.prog Dc 15 [ba b, .p (.int .i64 i), .p (.int .i64 day), .p (.int .i64 amount)] [] (bookU (dispS b i day amount)) [] := by
  rw [← bookRet_U]; exact Dispute_meets b i day amount (by omega)
theorem refDisputeU (b : Book) (i day amount : Int) (hL : b.postings.length ≤ 900) : Meets Try.prog Dc 16 [ba b, .p (.int .i64 i), .p (.int .i64 day), .p (.int .i64 amount)] [] (bookU (dispS b i day amount)) [] := by
  rw [← bookRet_U]; exact refDispute_meets b i day amount hL
theorem CloseU (b : Book) (m : Int) (hL : b.postings.length ≤ 1000) : Meets Try.prog Dc 17 [ba b, .p (.int .i64 m)] [] (bookU (closeS b m)) [] := by
  rw [← bookRet_U]; exact Close_meets b m (by omega)
theorem refCloseU (b : Book) (m : Int) (hL : b.postings.length ≤ 1000) : Meets Try.prog Dc 18 [ba b, .p (.int .i64 m)] [] (bookU (closeS b m)) [] := by
  rw [← bookRet_U]; exact refClose_meets b m hL
def listU (r : Option (List Int)) : SV Cd := .tuple [.p (.dsl U.int (r.getD [])), .p (.int .i64 (errI r))]
theorem listRet_U (r : Option (List Int)) : listRet r = listU r := by cases r <;> rfl
theorem StatementU (b : Book) (m : Int) (hL : b.postings.length ≤ 1000) : Meets Try.prog Dc 19 [ba b, .p (.int .i64 m)] [] (listU (stmtS b m)) [] := by rw [← listRet_U]; exact statement_meets b m hL
theorem refStatementU (b : Book) (m : Int) (hL : b.postings.length ≤ 1000) : Meets Try.prog Dc 20 [ba b, .p (.int .i64 m)] [] (listU (stmtS b m)) [] := by rw [← listRet_U]; exact refStatement_meets b m hL
theorem OwedU (b : Book) (m : Int) (hL : b.postings.length ≤ 1000) : Meets Try.prog Dc 24 [ba b, .p (.int .i64 m)] [] (listU (owedS b m)) [] := by rw [← listRet_U]; exact owed_meets b m hL
theorem refOwedU (b : Book) (m : Int) (hL : b.postings.length ≤ 1000) : Meets Try.prog Dc 25 [ba b, .p (.int .i64 m)] [] (listU (owedS b m)) [] := by rw [← listRet_U]; exact refOwed_meets b m hL
def intU (r : Option Int) : SV Cd := .tuple [.p (.int .i64 (r.getD 0)), .p (.int .i64 (errI r))]
theorem refBalanceU (b : Book) (t m : Int) (hL : b.postings.length ≤ 1000) : Meets Try.prog Dc 22 [ba b, .p (.int .i64 t), .p (.int .i64 m)] [] (intU (balS b t m)) [] := by
  have := refBalance_meets b t m hL
  unfold intRet at this
  cases h : balS b t m <;> rw [h] at this <;> exact this
theorem BalanceU (b : Book) (t m : Int) (hL : b.postings.length ≤ 1000) : Meets Try.prog Dc 21 [ba b, .p (.int .i64 t), .p (.int .i64 m)] [] (intU (balS b t m)) [] := by
  obtain ⟨r, he⟩ : ∃ r, r = balS b t m := ⟨_, rfl⟩
  rw [← he]
  unfold balS at he
  cases hs : stmtS b m with
  | none =>
    have h1 := StatementU b m hL
    rw [hs] at h1
    have hn : (validB b && isInB m 0 11) = false := by
      unfold stmtS at hs; split at hs
      · cases hs
      · rename_i h; simpa using h
    have hr : r = none := by rw [he, if_neg]; intro hh; simp only [Bool.and_eq_true] at hh hn; simp [hh.1.1, hh.2] at hn
    subst hr
    refine meets_of_gx Ax tab_ok Try.func21 (c := _) rfl Try.call21 200 ?_
    (repeat' ((conv => whnf); first | (refine callx_pure h1 rfl rfl ?_) | (refine end_fn [] (.inr rfl) ?_ trivial rfl rfl) | (refine split_nd (fun hb => ?_) (fun hb => ?_)) | (refine split_d (fun hb => ?_) (fun hb => ?_)) | (refine split_n (fun hb => ?_) (fun hb => ?_)) | (refine split_x (fun hb => ?_) (fun hb => ?_)) | (refine And.intro (TraceOK.mk (by kernel_rfl)) ?_) | (refine Side.mk ?_; (repeat' (first | refine And.intro ?_ ?_ | exact inR_i64 (by omega) (by omega) | omega | rfl | exact trivial | exact none_ne rfl | exact some_ne rfl (Nat.ne_of_beq_eq_false rfl) | exact Nat.ne_of_beq_eq_false rfl | (dsimp only [srcSide]; omega) | (simp; done) | (simp; omega))); done) | (refine side_and ?_ ?_) | (refine drawX_of mixed ?_)))
    all_goals (repeat' (first | refine EndV.mk ?_ | exact trivial | exact rfl | refine And.intro ?_ ?_))
  | some l =>
    have h1 := StatementU b m hL
    rw [hs] at h1
    have hv : validB b = true ∧ isInB m 0 11 = true ∧ l = stmtL b m b.accounts.toNat := by
      unfold stmtS at hs; split at hs
      · rename_i h; injection hs with hs; simp at h; exact ⟨h.1, h.2, hs.symm⟩
      · cases hs
    obtain ⟨hv, hm, rfl⟩ := hv
    have hacc := (validBook_of hv).acc
    have hl : (stmtL b m b.accounts.toNat).length = b.accounts.toNat := by simp [stmtL]
    refine meets_of_gx Ax tab_ok Try.func21 (c := _) rfl Try.call21 200 ?_
    (repeat' ((conv => whnf); first | (refine callx_pure h1 rfl rfl ?_) | (refine end_fn [] (.inr rfl) ?_ trivial rfl rfl) | (refine split_nd (fun hb => ?_) (fun hb => ?_)) | (refine split_d (fun hb => ?_) (fun hb => ?_)) | (refine split_n (fun hb => ?_) (fun hb => ?_)) | (refine split_x (fun hb => ?_) (fun hb => ?_)) | (refine And.intro (TraceOK.mk (by kernel_rfl)) ?_) | (refine Side.mk ?_; (repeat' (first | refine And.intro ?_ ?_ | exact inR_i64 (by omega) (by omega) | omega | rfl | exact trivial | exact none_ne rfl | exact some_ne rfl (Nat.ne_of_beq_eq_false rfl) | exact Nat.ne_of_beq_eq_false rfl | (dsimp only [srcSide]; omega) | (simp; done) | (simp; omega))); done) | (refine side_and ?_ ?_) | (refine drawX_of mixed ?_)))
    · have ht : isInB t 0 (b.accounts - 1) = false := by simp [isInB]; omega
      (refine (fun (hr_ : r = none) => ?_) ?_; rotate_left; (focus (simp_all; done)); subst hr_); (repeat' (first | refine EndV.mk ?_ | exact trivial | exact rfl | refine And.intro ?_ ?_))
    · have hb' : ((stmtL b m b.accounts.toNat).length : Int) ≤ t := hb
      have ht : isInB t 0 (b.accounts - 1) = false := by simp [isInB]; omega
      (refine (fun (hr_ : r = none) => ?_) ?_; rotate_left; (focus (simp_all; done)); subst hr_); (repeat' (first | refine EndV.mk ?_ | exact trivial | exact rfl | refine And.intro ?_ ?_))
    · have hb' : ¬ ((stmtL b m b.accounts.toNat).length : Int) ≤ t := hb
      have ht : isInB t 0 (b.accounts - 1) = true := by simp [isInB]; omega
      (refine (fun (hr_ : r = some (balL b.postings t m)) => ?_) ?_; rotate_left; (focus (simp_all; done)); subst hr_)
      have hg : (stmtL b m b.accounts.toNat).getD t.toNat 0 = balL b.postings t m := by
        rw [stmtL, getD_map_range _ _ _ _ (by omega), Int.toNat_of_nonneg (by omega)]
      rw [← hg]
      (repeat' (first | refine EndV.mk ?_ | exact trivial | exact rfl | refine And.intro ?_ ?_))
theorem same_meets (a b : Book) (hL : a.postings.length ≤ 1000) : Meets Try.prog Dc 13 [ba a, ba b] [] (.p (.bool (decide (a = b)))) [] := by
  refine meets_of_gx Ax tab_ok Try.func13 (c := _) rfl Try.call13 200 ?_
  (repeat' ((conv => whnf); first | (refine callx_pure (samePostings_meets _ _ (by omega)) rfl rfl ?_) | (refine end_fn [] (.inr rfl) ?_ trivial rfl rfl) | (refine split_nd (fun hb => ?_) (fun hb => ?_)) | (refine split_d (fun hb => ?_) (fun hb => ?_)) | (refine split_n (fun hb => ?_) (fun hb => ?_)) | (refine split_x (fun hb => ?_) (fun hb => ?_)) | (refine And.intro (TraceOK.mk (by kernel_rfl)) ?_) | (refine Side.mk ?_; (repeat' (first | refine And.intro ?_ ?_ | exact inR_i64 (by omega) (by omega) | omega | rfl | exact trivial | exact none_ne rfl | exact some_ne rfl (Nat.ne_of_beq_eq_false rfl) | exact Nat.ne_of_beq_eq_false rfl | (dsimp only [srcSide]; omega) | (simp; done) | (simp; omega))); done) | (refine side_and ?_ ?_) | (refine drawX_of mixed ?_)))
  all_goals (refine EndV.mk ?_; (conv => whnf); refine congrArg PV.bool ?_)
  all_goals (obtain ⟨a1, a2, a3⟩ := a; obtain ⟨b1, b2, b3⟩ := b; simp_all)
end Go.SX

namespace Go.SX
open Go.Proofs
set_option linter.unusedSimpArgs false
set_option maxHeartbeats 4000000
set_option maxRecDepth 100000
structure A5OK (x : A5) : Prop where
  a : I64 x.a
  b : I64 x.b
  c : I64 x.c
  d : I64 x.d
  e : I64 x.e
theorem pickS_bound (c n : Int) (hn : 0 < n) : 0 ≤ pickS c n ∧ pickS c n < n := by
  unfold pickS
  rw [Int.tmod_eq_emod_of_nonneg (by split <;> omega)]
  exact ⟨Int.emod_nonneg _ (by omega), Int.emod_lt_of_pos _ hn⟩
def madeP (b : Book) (day1 : Int) (x : A5) : Posting :=
  ⟨1 + pickS (x.e.tdiv 7) 2, day1, pickS x.c b.accounts, (pickS x.c b.accounts + 1 + pickS x.d (b.accounts - 1)).tmod b.accounts, 1 + pickS x.e 1000, pickS x.e 6, -1⟩
def madeNext (b : Book) (day1 : Int) (x : A5) : Option Book :=
  if pickS x.a 6 = 4 then dispS b (pickS x.d (b.postings.length + 1)) day1 (pickS x.e 1000) else if pickS x.a 6 = 5 then closeS b b.closed else postS b (madeP b day1 x)
def madeStep (s : Book × Int) (x : A5) : Book × Int :=
  ((madeNext s.1 (min 359 (s.2 + pickS x.b 20)) x).getD s.1,
   if pickS x.a 6 = 5 then max (min 359 (s.2 + pickS x.b 20)) (min 359 (30 * ((closeS s.1 s.1.closed).getD b0).closed)) else min 359 (s.2 + pickS x.b 20))
def madeSt (accounts : Int) (l : List A5) (i : Nat) : Book × Int := (l.take i).foldl madeStep (⟨2 + pickS accounts 15, [], 0⟩, 0)
def madeS (accounts : Int) (l : List A5) : Book := (madeSt accounts l (min l.length 24)).1
theorem postS_valid {b b' : Book} {p : Posting} (h : postS b p = some b') : validB b' = true := by
  rw [postS_eq] at h
  split at h
  · rename_i hc; injection h with h; subst h; simp at hc; exact hc.1.2
  · cases h
theorem dispS_valid {b b' : Book} {i d a : Int} (h : dispS b i d a = some b') : validB b' = true := by
  rw [dispS_eq] at h
  split at h
  · cases h1 : postS b (backOf (b.postings.getD i.toNat posting0) i d) with
    | none => rw [h1] at h; cases h
    | some b1 =>
      rw [h1, Option.bind_some] at h
      split at h
      · injection h with h; subst h; exact postS_valid h1
      · exact postS_valid h
  · cases h
theorem closeS_valid {b b' : Book} {m : Int} (h : closeS b m = some b') : validB b' = true := by
  unfold closeS at h
  split at h
  · rename_i hc
    injection h with h; subst h
    simp only [Bool.and_eq_true, decide_eq_true_eq, isInB] at hc
    have hv := hc.1.1
    unfold validB at hv ⊢
    simp only [Bool.and_eq_true, isInB, decide_eq_true_eq] at hv ⊢
    refine ⟨?_, hv.2.1, by omega, by omega⟩
    have : openS ⟨b.accounts, b.postings, m + 1⟩ = openS b := rfl
    rw [this]; exact hv.1
  · cases h
theorem validB_empty (a : Int) (h : 2 ≤ a) (h' : a ≤ 16) : validB ⟨a, [], 0⟩ = true := by
  simp [validB, openS, bkRun, isInB, h, h']
theorem madeNext_valid {b b' : Book} {d : Int} {x : A5} (h : madeNext b d x = some b') : validB b' = true := by
  unfold madeNext at h
  split at h
  · exact dispS_valid h
  · split at h
    · exact closeS_valid h
    · exact postS_valid h
theorem closeS_closed {b b' : Book} {m : Int} (h : closeS b m = some b') : 0 ≤ b'.closed ∧ b'.closed ≤ 12 := (validBook_of (closeS_valid h)).closed
structure MadeOK (s : Book × Int) : Prop where
  v : validB s.1 = true
  d : 0 ≤ s.2 ∧ s.2 ≤ 359
theorem min359 {x : Int} (h : 0 ≤ x) : 0 ≤ min 359 x ∧ min 359 x ≤ 359 := by rw [Int.min_def]; split <;> omega
theorem max359 {x y : Int} (h : 0 ≤ x ∧ x ≤ 359) (h' : y ≤ 359) : 0 ≤ max x y ∧ max x y ≤ 359 := by rw [Int.max_def]; split <;> omega
theorem madeStep_ok {s : Book × Int} (h : MadeOK s) (x : A5) : MadeOK (madeStep s x) := by
  have hp := pickS_bound x.b 20 (by omega)
  have hd := h.d
  refine ⟨?_, ?_⟩
  · show validB ((madeNext s.1 _ x).getD s.1) = true
    cases hn : madeNext s.1 (min 359 (s.2 + pickS x.b 20)) x with
    | none => exact h.v
    | some b' => exact madeNext_valid hn
  · show 0 ≤ (if _ then _ else _ : Int) ∧ (if _ then _ else _ : Int) ≤ 359
    have hm := min359 (x := s.2 + pickS x.b 20) (by omega)
    split
    · have hc : 0 ≤ 30 * ((closeS s.1 s.1.closed).getD b0).closed := by
        cases hc : closeS s.1 s.1.closed with
        | none => simp [b0]
        | some b' => have := closeS_closed hc; simp; omega
      exact max359 hm (min359 hc).2
    · exact hm
theorem madeSt_succ (accounts : Int) (l : List A5) (i : Nat) (h : i < l.length) : madeSt accounts l (i + 1) = madeStep (madeSt accounts l i) (l.getD i arr50) := by
  have e : l.take (i + 1) = l.take i ++ [l.getD i arr50] := by rw [List.take_add_one]; simp [h]
  unfold madeSt
  rw [e, List.foldl_append]
  rfl
theorem madeSt_ok (accounts : Int) (l : List A5) : ∀ i, MadeOK (madeSt accounts l i)
  | 0 => by
    have := pickS_bound accounts 15 (by omega)
    exact ⟨validB_empty _ (by omega) (by omega), by simp [madeSt]⟩
  | i + 1 => by
    by_cases h : i < l.length
    · rw [madeSt_succ _ _ _ h]; exact madeStep_ok (madeSt_ok accounts l i) _
    · have : madeSt accounts l (i + 1) = madeSt accounts l i := by
        unfold madeSt; rw [List.take_of_length_le (by omega), List.take_of_length_le (by omega)]
      rw [this]; exact madeSt_ok accounts l i
theorem refpickS (c n : Int) (hc : Side (-9223372036854775808 ≤ c ∧ c ≤ 9223372036854775807)) (hn : Side (0 < n)) : Meets Try.prog Dc 27 [.p (.int .i64 c), .p (.int .i64 n)] [] (.p (.int .i64 (pickS c n))) [] := refpick_meets c n hc.h (by have := hn.h; omega)
theorem tdiv7 {n : Int} (h : -9223372036854775808 ≤ n ∧ n ≤ 9223372036854775807) : -9223372036854775808 ≤ n.tdiv 7 ∧ n.tdiv 7 ≤ 9223372036854775807 := by
  rcases Int.lt_or_le n 0 with h0 | h0
  · have : n.tdiv 7 = -((-n).tdiv 7) := by rw [Int.neg_tdiv, Int.neg_neg]
    rw [this, Int.tdiv_eq_ediv_of_nonneg (by omega)]; omega
  · rw [Int.tdiv_eq_ediv_of_nonneg h0]; omega
theorem tmod_bound {a n : Int} (ha : 0 ≤ a) (hn : 0 < n) : 0 ≤ a.tmod n ∧ a.tmod n < n := by
  rw [Int.tmod_eq_emod_of_nonneg ha]
  exact ⟨Int.emod_nonneg _ (by omega), Int.emod_lt_of_pos _ hn⟩
theorem madeStep_eq (b : Book) (day : Int) (x : A5) : madeStep (b, day) x =
    if pickS x.a 6 = 4 then (if errI (dispS b (pickS x.d (b.postings.length + 1)) (min 359 (day + pickS x.b 20)) (pickS x.e 1000)) = 0 then ((dispS b (pickS x.d (b.postings.length + 1)) (min 359 (day + pickS x.b 20)) (pickS x.e 1000)).getD b0, min 359 (day + pickS x.b 20)) else (b, min 359 (day + pickS x.b 20)))
    else if pickS x.a 6 = 5 then (if errI (closeS b b.closed) = 0 then ((closeS b b.closed).getD b0, max (min 359 (day + pickS x.b 20)) (min 359 (30 * ((closeS b b.closed).getD b0).closed))) else (b, max (min 359 (day + pickS x.b 20)) (min 359 (30 * ((closeS b b.closed).getD b0).closed))))
    else (if errI (postS b (madeP b (min 359 (day + pickS x.b 20)) x)) = 0 then ((postS b (madeP b (min 359 (day + pickS x.b 20)) x)).getD b0, min 359 (day + pickS x.b 20)) else (b, min 359 (day + pickS x.b 20))) := by
  have key : ∀ (r : Option Book) (d : Int), (if errI r = 0 then (r.getD b0, d) else (b, d)) = (r.getD b, d) := by
    intro r d; cases r <;> simp [errI]
  rw [key, key, key]
  unfold madeStep madeNext
  dsimp only
  split
  · rename_i h
    rw [if_neg (by omega)]
  · split <;> rfl
theorem made_meets (accounts : Int) (l : List A5) (ha : I64 accounts) (hl : ∀ x ∈ l, A5OK x) (hL : (l.length : Int) ≤ 9223372036854775807) : Meets Try.prog Dc 8 [.p (.int .i64 accounts), .p (.dsl U.arr5 l)] [] (ba (madeS accounts l)) [] := by
  have hp0 := pickS_bound accounts 15 (by omega)
  have ha' := ha.h
  refine meets_of_gx Ax tab_ok Try.func8 (c := _) rfl Try.call8 600 ?_
  (repeat' ((conv => whnf); first | (refine callx_pure (refpick_meets accounts 15 ha' (by omega)) rfl rfl ?_) | (refine end_fn [] (.inr rfl) ?_ trivial rfl rfl) | (refine split_nd (fun hb => ?_) (fun hb => ?_)) | (refine split_d (fun hb => ?_) (fun hb => ?_)) | (refine split_n (fun hb => ?_) (fun hb => ?_)) | (refine split_x (fun hb => ?_) (fun hb => ?_)) | (refine And.intro (TraceOK.mk (by kernel_rfl)) ?_) | (refine Side.mk ?_; (repeat' (first | refine And.intro ?_ ?_ | exact inR_i64 (by omega) (by omega) | omega | rfl | exact trivial | exact none_ne rfl | exact some_ne rfl (Nat.ne_of_beq_eq_false rfl) | exact Nat.ne_of_beq_eq_false rfl | (dsimp only [srcSide]; omega) | (simp; done) | (simp; omega))); done) | (refine side_and ?_ ?_) | (refine drawX_of mixed ?_)))
  refine loop_up (fun i : Nat => [(6, .p (.int .i64 (madeSt accounts l i).2)), (7, .p (.int .i64 i))]) (fun i => [(1, .var [.p (.int .i64 (madeSt accounts l i).1.accounts), .p (.dsl U.posting (madeSt accounts l i).1.postings), .p (.int .i64 (madeSt accounts l i).1.closed)])]) (fun i => i ≤ l.length ∧ i ≤ 24) (fun i => l.length - i) 0 ⟨Nat.zero_le _, Nat.zero_le _⟩ ⟨by (repeat' (first | refine EndV.mk ?_ | exact trivial | exact rfl | refine And.intro ?_ ?_)), by (repeat' (first | refine EndV.mk ?_ | exact trivial | exact rfl | refine And.intro ?_ ?_)), rfl, rfl⟩ ?_
  rintro i ⟨hi, hi24⟩ K hK
  have hM := madeSt_ok accounts l i
  have hV := validBook_of hM.v
  have hd := hM.d
  have hsucc := madeSt_succ accounts l i
  dsimp only
  generalize hst : madeSt accounts l i = st at *
  obtain ⟨b, day⟩ := st
  dsimp only at hM hV hd hsucc ⊢
  have hacc := hV.acc
  have hcl := hV.closed
  have hlen := hV.len
  by_cases hc : i < l.length ∧ i < 24
  · obtain ⟨hlt, hlt24⟩ := hc
    have hx : A5OK (l.getD (i : Int).toNat (Cd.dflt U.arr5)) := hl _ (by show l.getD i arr50 ∈ l; simp [hlt])
    have hsucc' := hsucc hlt
    generalize hxe : l.getD (i : Int).toNat (Cd.dflt U.arr5) = x at hx
    have hxe' : l.getD i arr50 = x := hxe
    rw [hxe'] at hsucc'
    have xa := hx.a.h
    have xb := hx.b.h
    have xc := hx.c.h
    have xd := hx.d.h
    have xe := hx.e.h
    have p20 := pickS_bound x.b 20 (by omega)
    have t7 := tdiv7 xe
    have q1 := pickS_bound (x.e.tdiv 7) 2 (by omega)
    have q2 := pickS_bound x.c b.accounts (by omega)
    have q3 := pickS_bound x.d (b.accounts - 1) (by omega)
    have q4 := pickS_bound x.e 1000 (by omega)
    have q5 := pickS_bound x.e 6 (by omega)
    have q6 := pickS_bound x.d (b.postings.length + 1) (by omega)
    have q7 := pickS_bound x.a 6 (by omega)
    have m359 := min359 (x := day + pickS x.b 20) (by omega)
    have h30 : 0 ≤ 30 * ((closeS b b.closed).getD b0).closed ∧ 30 * ((closeS b b.closed).getD b0).closed ≤ 360 := by
      cases hc : closeS b b.closed with
      | none => simp [b0]
      | some b' => have := closeS_closed hc; simp; omega
    (repeat' ((conv => whnf); first | (exfalso; omega) | (rw [hxe]) | (refine callx_pure (refpickS _ _ ?_ ?_) rfl rfl ?_) | (refine dcallx_pure (refpickS _ _ ?_ ?_) rfl rfl ?_) | (refine callx_pure (refPostU b (madeP b (min 359 (day + pickS x.b 20)) x) (by omega)) rfl rfl ?_) | (refine dcallx_pure (refDisputeU b (pickS x.d (b.postings.length + 1)) (min 359 (day + pickS x.b 20)) (pickS x.e 1000) (by omega)) rfl rfl ?_) | (refine callx_pure (refCloseU b b.closed (by omega)) rfl rfl ?_) | (refine hK (i + 1) [some 0, some 1] _ _ ?_ ?_ ?_) | (refine end_fn [] (.inr rfl) ?_ trivial rfl rfl) | (refine split_nd (fun hb => ?_) (fun hb => ?_)) | (refine split_d (fun hb => ?_) (fun hb => ?_)) | (refine split_n (fun hb => ?_) (fun hb => ?_)) | (refine split_x (fun hb => ?_) (fun hb => ?_)) | (refine And.intro (TraceOK.mk (by kernel_rfl)) ?_) | (refine Side.mk ?_; (repeat' (first | refine And.intro ?_ ?_ | exact inR_i64 (by omega) (by omega) | omega | rfl | exact trivial | exact none_ne rfl | exact some_ne rfl (Nat.ne_of_beq_eq_false rfl) | exact Nat.ne_of_beq_eq_false rfl | (dsimp only [srcSide]; omega) | (simp; done) | (simp; omega))); done) | (refine side_and ?_ ?_) | (refine drawX_of mixed ?_)))
    all_goals (have hE := hsucc'.trans (madeStep_eq b day x); clear hsucc hsucc' hK; repeat' split at hE)
    all_goals first | (exfalso; omega) | (rw [hE]; (refine Back.mk ?_ ?_ rfl rfl <;> (repeat' (first | refine EndV.mk ?_ | exact trivial | exact rfl | refine And.intro ?_ ?_))))
  · have hie : i = min l.length 24 := by omega
    have hmade : madeS accounts l = b := by unfold madeS; rw [← hie, hst]
    rw [hmade]
    (repeat' ((conv => whnf); first | (exfalso; omega) | (refine end_fn [] (.inr rfl) ?_ trivial rfl rfl) | (refine split_nd (fun hb => ?_) (fun hb => ?_)) | (refine split_d (fun hb => ?_) (fun hb => ?_)) | (refine split_n (fun hb => ?_) (fun hb => ?_)) | (refine split_x (fun hb => ?_) (fun hb => ?_)) | (refine And.intro (TraceOK.mk (by kernel_rfl)) ?_) | (refine Side.mk ?_; (repeat' (first | refine And.intro ?_ ?_ | exact inR_i64 (by omega) (by omega) | omega | rfl | exact trivial | exact none_ne rfl | exact some_ne rfl (Nat.ne_of_beq_eq_false rfl) | exact Nat.ne_of_beq_eq_false rfl | (dsimp only [srcSide]; omega) | (simp; done) | (simp; omega))); done) | (refine side_and ?_ ?_) | (refine drawX_of mixed ?_)))
    all_goals (repeat' (first | refine EndV.mk ?_ | exact trivial | exact rfl | refine And.intro ?_ ?_))
end Go.SX

namespace Go.SX
open Go.Proofs Go.Proofs.Ytbonljpjndcnaaa Go.ChangeShapes Go.WideShapes Go.ChangeAt Go.RowKit
set_option linter.unusedSimpArgs false
set_option maxHeartbeats 4000000
set_option maxRecDepth 100000
variable {H : Type} {enc : TypeId × Value → H} {W : World}
theorem rposting : ReadsAs (C := Cd) Dc enc Try.prog W 27 U.posting (fun p => I64 p.subject) := by
  refine ⟨by kernel_rfl, fun fuel cs x h => ?_⟩
  obtain ⟨zs, hlen, rfl, hz⟩ := trod_struct_ints Try.underlying27 (by kernel_rfl) (by kernel_rfl) h
  match zs, hlen, hz with
  | [a, b, c, d, e, f, g], _, hz => exact ⟨⟨a, b, c, d, e, f, g⟩, pdenL_ints Dc W (Old W) [a, b, c, d, e, f, g], hz f (by simp)⟩
theorem rarr5 : ReadsAs (C := Cd) Dc enc Try.prog W 48 U.arr5 A5OK := by
  refine ⟨by kernel_rfl, fun fuel cs x h => ?_⟩
  obtain ⟨zs, hlen, rfl, hz⟩ := trod_array_ints Try.underlying48 (by kernel_rfl) (by kernel_rfl) h
  match zs, hlen, hz with
  | [a, b, c, d, e], _, hz => exact ⟨⟨a, b, c, d, e⟩, pdenL_ints Dc W (Old W) [a, b, c, d, e], ⟨hz a (by simp), hz b (by simp), hz c (by simp), hz d (by simp), hz e (by simp)⟩⟩
variable {r : Reach} {b0' : Nat} {v : Value} {d : DataW H} {ps : List MemPlace}
theorem argPosting (ho : Value.okWide Try.prog W r b0' 27 v) (h : DataW.Trod enc Try.prog W 0 (fun _ => true) true 27 v d ps) : ∃ p : Posting, Den Dc W (En W) (pa p) v ∧ I64 p.subject := by
  obtain ⟨zs, hlen, rfl, hz⟩ := argInts Try.underlying27 (by kernel_rfl) (by kernel_rfl) ho h
  match zs, hlen, hz with
  | [a, b, c, d, e, f, g], _, hz =>
    refine ⟨⟨a, b, c, d, e, f, g⟩, ?_, hz f (by simp)⟩
    simp only [pa, Den]
    exact ⟨_, rfl, argC_int (argC_int (argC_int (argC_int (argC_int (argC_int (argC_int argC_nil))))))⟩
theorem argBook (ho : Value.okWide Try.prog W r b0' 24 v) (h : DataW.Trod enc Try.prog W 0 (fun _ => true) true 24 v d ps) : ∃ b : Book, Den Dc W (En W) (ba b) v ∧ (b.postings.length : Int) ≤ 9223372036854775807 := by
  obtain ⟨cs, rfl, hsz⟩ := okWide_struct Try.underlying24 ho
  obtain ⟨fuel, hx⟩ := h
  obtain ⟨xs, n, _, _, hlen, hxs, hel⟩ := DataW.trod_struct Try.underlying24 hx
  have hlen' : cs.toList.length = 3 := hlen.trans (by kernel_rfl)
  have hxs' : xs.length = 3 := hxs
  have e0 : DataW.trod enc Try.prog W 0 (fun _ => true) true n 3 ((cs.toList.drop 0).take (Try.prog.cellsOf 3)) = xs[0]? := hel 0 _ rfl
  have e1 : DataW.trod enc Try.prog W 0 (fun _ => true) true n 22 ((cs.toList.drop 1).take (Try.prog.cellsOf 22)) = xs[1]? := hel 1 _ rfl
  have e2 : DataW.trod enc Try.prog W 0 (fun _ => true) true n 3 ((cs.toList.drop 2).take (Try.prog.cellsOf 3)) = xs[2]? := hel 2 _ rfl
  have k0 : Try.prog.cellsOf 3 = 1 := by kernel_rfl
  have k1 : Try.prog.cellsOf 22 = 1 := by kernel_rfl
  rw [List.getElem?_eq_getElem (by omega)] at e0 e1 e2
  rw [k0] at e0 e2
  rw [k1] at e1
  obtain ⟨l⟩ := cs
  match l, hlen' with
  | [c0, c1, c2], _ =>
    simp only [List.drop, List.take] at e0 e1 e2
    obtain ⟨z0, h0, i0⟩ := trod_i64 Try.underlying3 e0
    obtain ⟨v1, ll, h1, i1, _, l1⟩ := readSlice rposting Try.underlying22 e1
    obtain ⟨z2, h2, i2⟩ := trod_i64 Try.underlying3 e2
    injection h0 with h0; injection h1 with h1; injection h2 with h2
    subst h0 h1 h2
    have hm : maxLen = 9223372036854775807 := rfl
    refine ⟨⟨z0, ll, z2⟩, ?_, by show (ll.length : Int) ≤ _; omega⟩
    simp only [ba, Den]
    exact ⟨_, rfl, argC_int (argC_dsl i1 (argC_int argC_nil))⟩
end Go.SX
