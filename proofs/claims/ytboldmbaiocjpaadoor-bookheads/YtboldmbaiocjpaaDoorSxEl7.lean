/-
  Walks: El7, El8, El9: what single functions of the program compute.
-/
import Derived.Test.YtboldmbaiocjpaaDoorSxEl4
import Derived.Test.YtboldmbaiocjpaaDoorSxZ2
set_option linter.unusedVariables false
namespace Go.SX
open Go.Proofs
set_option linter.unusedSimpArgs false
set_option maxHeartbeats 4000000
set_option maxRecDepth 100000
def backAt (xs : List Posting) (i : Nat) : Bool := xs.any fun p => decide (p.kind = 3) && decide (p.of_ = (i : Int))
theorem takesB_formed {acc : Int} {xs : List Posting} {bk : List Bool} {p : Posting} (h : takesB acc xs bk p = true) : isFormedB p acc = true := by
  unfold takesB at h
  split at h
  · cases h
  · rename_i hc; simp at hc; exact hc.1.2
theorem takesB_of {acc : Int} {xs : List Posting} {bk : List Bool} {p : Posting} (h : takesB acc xs bk p = true) (hk : p.kind = 3) : p.of_ < xs.length := by
  unfold takesB at h
  split at h
  · cases h
  · simp [hk] at h; exact h.1.1
theorem bkRun_back {acc : Int} : ∀ (r done : List Posting) (bk bk' : List Bool), bkRun acc done bk r = some bk' → bk.length = 200 → (∀ i, bk.getD i false = backAt done i) → ∀ i, bk'.getD i false = backAt (done ++ r) i
  | [], done, bk, bk', h, _, hb, i => by simp only [bkRun, Option.some.injEq] at h; subst h; simpa using hb i
  | p :: r, done, bk, bk', h, hl, hb, i => by
    simp only [bkRun] at h
    split at h
    · rename_i ht
      have := bkRun_back r (done ++ [p]) (newBk bk p) bk' h (by rw [newBk_length]; exact hl) (fun j => ?_) i
      · simpa using this
      · have e : backAt (done ++ [p]) j = (backAt done j || (decide (p.kind = 3) && decide (p.of_ = (j : Int)))) := by simp [backAt]
        rw [e, ← hb j]
        unfold newBk
        by_cases hk : p.kind = 3
        · have hf := takesB_formed ht
          obtain ⟨o1, o2⟩ := of_bounds (p := p) (acc := acc) (by simp [hf]) hk
          rw [if_pos hk, decide_eq_true hk, Bool.true_and]
          by_cases hj : p.of_ = (j : Int)
          · have e1 : p.of_.toNat = j := by omega
            have e2 : j < bk.length := by omega
            rw [e1, decide_eq_true hj, Bool.or_true]
            simp [List.getD_eq_getElem?_getD, e2]
          · have e1 : p.of_.toNat ≠ j := by omega
            rw [getD_set_ne _ _ _ _ _ e1, decide_eq_false hj, Bool.or_false]
        · rw [if_neg hk, decide_eq_false hk, Bool.false_and, Bool.or_false]
    · cases h
theorem bkRun_of {acc : Int} : ∀ (r done : List Posting) (bk bk' : List Bool), bkRun acc done bk r = some bk' → ∀ j, j < r.length → (r.getD j posting0).kind = 3 → (r.getD j posting0).of_ < (done.length + j : Nat)
  | [], _, _, _, _, j, hj, _ => by simp at hj
  | p :: r, done, bk, bk', h, j, hj, hk => by
    simp only [bkRun] at h
    split at h
    · rename_i ht
      cases j with
      | zero => have := takesB_of ht (by simpa using hk); simpa using this
      | succ j =>
        have := bkRun_of r (done ++ [p]) _ bk' h j (by simpa using hj) (by simpa using hk)
        simp at this ⊢; omega
    · cases h
theorem getD_mem {xs : List Posting} {j : Nat} (h : j < xs.length) : xs.getD j posting0 ∈ xs := by simp [h]
theorem back_notBack {b : Book} {bk : List Bool} (h : openS b = some bk) (hV : ValidBook b) (i : Nat) : bk.getD i false = !notBack b.postings i b.postings.length := by
  have h1 := bkRun_back b.postings [] bk0 bk h List.length_replicate (fun i => by show bk0.getD i false = false; rw [bk0, List.getD_eq_getElem?_getD, List.getElem?_replicate]; split <;> rfl) i
  rw [List.nil_append] at h1
  rw [h1, Bool.eq_iff_iff]
  simp only [backAt, notBack, List.any_eq_true, Bool.not_eq_true', List.all_eq_false, List.mem_range, Bool.and_eq_true, decide_eq_true_eq]
  constructor
  · rintro ⟨p, hp, hk, ho⟩
    obtain ⟨j, hj, e⟩ := List.getElem_of_mem hp
    have e' : b.postings.getD j posting0 = p := by simp [hj, e]
    have := bkRun_of b.postings [] bk0 bk h j hj (by rw [e']; exact hk)
    rw [e'] at this
    refine ⟨j, hj, ?_⟩
    rw [e', ho]
    have hji : ¬ j ≤ i := by simp at this; omega
    simp [hji]
  · rintro ⟨j, hj, hn⟩
    simp only [Bool.or_eq_true, not_or, Bool.not_eq_true', decide_eq_true_eq, decide_eq_false_iff_not, Decidable.not_not] at hn
    have hF := hV.formed _ (getD_mem hj)
    have ho := hn.2
    refine ⟨_, getD_mem hj, ?_, ho⟩
    rcases hF.kind with hk | hk | hk
    · omega
    · omega
    · exact hk.1
theorem addOK_owed {b : Book} (hV : ValidBook b) {q : Posting} (hF : Formed q b.accounts) (s : Int) (i : Nat) (hi : i ≤ b.postings.length) : AddOK (owedL b.postings s 16 i) q := by
  have hacc := hV.acc
  have h1 := hF.cre
  have h2 := hF.deb
  have h3 := hF.amt
  have h4 := hV.len
  refine ⟨owedL_length _ _ _ _, by omega, by omega, hF.ne, by omega, ?_, ?_⟩
  · rw [owedL_getD _ _ _ _ _ (by omega)]
    have := owedP_bound hV s (q.creditor.toNat : Nat) i hi; omega
  · rw [owedL_getD _ _ _ _ _ (by omega)]
    have := owedP_bound hV s (q.debtor.toNat : Nat) i hi; omega
theorem owed16_add {b : Book} (h : ValidBook b) (s : Int) {i : Nat} (hi : i < b.postings.length) (hs : standsB b.postings s i = true) : addL (owedL b.postings s 16 i) (b.postings.getD i posting0) = owedL b.postings s 16 (i + 1) := by
  have hF := formed_at h hi
  have hacc := h.acc
  have := hF.cre
  have := hF.deb
  unfold owedL
  rw [add_map_range _ _ _ (by omega) (by omega) hF.ne]
  simp only [owedP, hs, if_true]
theorem owed16_skip (b : Book) (s : Int) {i : Nat} (hs : standsB b.postings s i = false) : owedL b.postings s 16 (i + 1) = owedL b.postings s 16 i := by
  simp [owedL, owedP, hs]
theorem owed_meets (b : Book) (s : Int) (hL : b.postings.length ≤ 1000) : Meets Tryd.prog Dc 74 [ba b, .p (.int .i64 s)] [] (listRet (owedS b s)) [] := by
  obtain ⟨r, he⟩ : ∃ r, r = owedS b s := ⟨_, rfl⟩
  rw [← he]
  unfold owedS at he
  cases ho : openS b with
  | none =>
    refine meets_of_gx Ax tab_ok Tryd.func74 (c := _) rfl Tryd.call74 400 ?_
    (repeat' ((conv => whnf); first | (refine callh [] (open_none (by omega) ho) rfl rfl trivial ?_) | (refine end_fn [] (.inr rfl) ?_ trivial rfl rfl) | (refine split_nd (fun hb => ?_) (fun hb => ?_)) | (refine split_d (fun hb => ?_) (fun hb => ?_)) | (refine split_n (fun hb => ?_) (fun hb => ?_)) | (refine split_x (fun hb => ?_) (fun hb => ?_)) | (refine And.intro (TraceOK.mk (by kernel_rfl)) ?_) | (refine Side.mk ?_; (repeat' (first | refine And.intro ?_ ?_ | exact inR_i64 (by omega) (by omega) | omega | rfl | exact trivial | exact none_ne rfl | exact some_ne rfl (Nat.ne_of_beq_eq_false rfl) | exact Nat.ne_of_beq_eq_false rfl | (dsimp only [srcSide]; omega) | (simp; done) | (simp; omega))); done) | (refine side_and ?_ ?_) | (refine drawX_of mixed ?_)))
    all_goals ((refine (fun (hr_ : r = none) => ?_) ?_; rotate_left; (focus (simp_all [validB]; done)); subst hr_); (repeat' (first | refine EndV.mk ?_ | exact trivial | exact rfl | refine And.intro ?_ ?_)))
  | some bk =>
    cases hw : (isInB b.accounts 2 16 && isInB b.closed 0 12) with
    | false =>
      refine meets_of_gx Ax tab_ok Tryd.func74 (c := _) rfl Tryd.call74 400 ?_
      (repeat' ((conv => whnf); first | (refine callh [] (open_some' (by omega) ho hw) rfl rfl trivial ?_) | (refine end_fn [] (.inr rfl) ?_ trivial rfl rfl) | (refine split_nd (fun hb => ?_) (fun hb => ?_)) | (refine split_d (fun hb => ?_) (fun hb => ?_)) | (refine split_n (fun hb => ?_) (fun hb => ?_)) | (refine split_x (fun hb => ?_) (fun hb => ?_)) | (refine And.intro (TraceOK.mk (by kernel_rfl)) ?_) | (refine Side.mk ?_; (repeat' (first | refine And.intro ?_ ?_ | exact inR_i64 (by omega) (by omega) | omega | rfl | exact trivial | exact none_ne rfl | exact some_ne rfl (Nat.ne_of_beq_eq_false rfl) | exact Nat.ne_of_beq_eq_false rfl | (dsimp only [srcSide]; omega) | (simp; done) | (simp; omega))); done) | (refine side_and ?_ ?_) | (refine drawX_of mixed ?_)))
      all_goals ((refine (fun (hr_ : r = none) => ?_) ?_; rotate_left; (focus (simp_all [validB]; done)); subst hr_); (repeat' (first | refine EndV.mk ?_ | exact trivial | exact rfl | refine And.intro ?_ ?_)))
    | true =>
      have hv : validB b = true := by simp [validB, ho, hw]
      have hV := validBook_of hv
      refine meets_of_gx Ax tab_ok Tryd.func74 (c := _) rfl Tryd.call74 400 ?_
      (repeat' ((conv => whnf); first | (refine callh [] (open_some' (by omega) ho hw) rfl rfl trivial ?_) | (refine callx_pure (isIn_meets _ _ _) rfl rfl ?_) | (refine call_in Ax tab_ok Tryd.func105 (c := _) rfl Tryd.call105 200 ?_) | (refine range_in Ax tab_ok rfl Tryd.func124 (c := _) rfl Tryd.call124 rfl rfl 300 ?_) | (refine end_fn [] (.inr rfl) ?_ trivial rfl rfl) | (refine split_nd (fun hb => ?_) (fun hb => ?_)) | (refine split_d (fun hb => ?_) (fun hb => ?_)) | (refine split_n (fun hb => ?_) (fun hb => ?_)) | (refine split_x (fun hb => ?_) (fun hb => ?_)) | (refine And.intro (TraceOK.mk (by kernel_rfl)) ?_) | (refine Side.mk ?_; (repeat' (first | refine And.intro ?_ ?_ | exact inR_i64 (by omega) (by omega) | omega | rfl | exact trivial | exact none_ne rfl | exact some_ne rfl (Nat.ne_of_beq_eq_false rfl) | exact Nat.ne_of_beq_eq_false rfl | (dsimp only [srcSide]; omega) | (simp; done) | (simp; omega))); done) | (refine side_and ?_ ?_) | (refine drawX_of mixed ?_)))
      · (refine (fun (hr_ : r = none) => ?_) ?_; rotate_left; (focus (simp_all; done)); subst hr_); (repeat' (first | refine EndV.mk ?_ | exact trivial | exact rfl | refine And.intro ?_ ?_))
      intro gn tmps bd
      (repeat' ((conv => whnf); first | (refine end_fn [] (.inr rfl) ?_ trivial rfl rfl) | (refine split_nd (fun hb => ?_) (fun hb => ?_)) | (refine split_d (fun hb => ?_) (fun hb => ?_)) | (refine split_n (fun hb => ?_) (fun hb => ?_)) | (refine split_x (fun hb => ?_) (fun hb => ?_)) | (refine And.intro (TraceOK.mk (by kernel_rfl)) ?_) | (refine Side.mk ?_; (repeat' (first | refine And.intro ?_ ?_ | exact inR_i64 (by omega) (by omega) | omega | rfl | exact trivial | exact none_ne rfl | exact some_ne rfl (Nat.ne_of_beq_eq_false rfl) | exact Nat.ne_of_beq_eq_false rfl | (dsimp only [srcSide]; omega) | (simp; done) | (simp; omega))); done) | (refine side_and ?_ ?_) | (refine drawX_of mixed ?_)))
      refine loop_up (fun i : Nat => [(12, .p (.int .i64 i))]) (fun i => [(5, .var [.arr U.int 16 (owedL b.postings s 16 i)])]) (fun i => i ≤ b.postings.length) (fun i => b.postings.length - i) 0 (Nat.zero_le _) ⟨by (repeat' (first | refine EndV.mk ?_ | exact trivial | exact rfl | refine And.intro ?_ ?_)), by (repeat' (first | refine EndV.mk ?_ | exact trivial | exact rfl | refine And.intro ?_ ?_)), rfl, rfl⟩ ?_
      intro i hi K hK
      have hacc := hV.acc
      have hlen := hV.len
      have hbl := openS_length ho
      rcases Nat.lt_or_ge i b.postings.length with hlt | hge
      · have hF : Formed (b.postings.getD (0 + (i : Int).toNat) (Cd.dflt U.posting)) b.accounts := by rw [Nat.zero_add]; exact formed_at hV hlt
        have hOK : AddOK (owedL b.postings s 16 i) (b.postings.getD (0 + (i : Int).toNat) (Cd.dflt U.posting)) := addOK_owed hV hF s i hi
        have hbk := back_notBack ho hV i
        have hst : standsB b.postings s i = (!decide ((b.postings.getD (0 + (i : Int).toNat) (Cd.dflt U.posting)).kind = 3) && decide ((b.postings.getD (0 + (i : Int).toNat) (Cd.dflt U.posting)).subject = s) && !(bk.getD (i : Int).toNat (Cd.dflt U.bool))) := by
          rw [Nat.zero_add]
          show _ = (_ && _ && !bk.getD i false)
          rw [hbk, Bool.not_not]; rfl
        (repeat' ((conv => whnf); first | (exfalso; omega) | (refine call_in Ax tab_ok Tryd.func109 (c := _) rfl Tryd.call109 100 ?_) | (refine yield_in Ax tab_ok rfl rfl rfl 200 200 ?_) | (refine hK (i+1) ([some 0, some 1, some 2, some 3, some 4, some 5, some 6, some 7, some 8]) _ _ ?_ ?_ ?_) | (refine callh [some 5] (badd_meets _ _ hOK) rfl rfl ⟨rfl, trivial⟩ ?_) | (refine end_fn [] (.inr rfl) ?_ trivial rfl rfl) | (refine split_nd (fun hb => ?_) (fun hb => ?_)) | (refine split_d (fun hb => ?_) (fun hb => ?_)) | (refine split_n (fun hb => ?_) (fun hb => ?_)) | (refine split_x (fun hb => ?_) (fun hb => ?_)) | (refine And.intro (TraceOK.mk (by kernel_rfl)) ?_) | (refine Side.mk ?_; (repeat' (first | refine And.intro ?_ ?_ | exact inR_i64 (by omega) (by omega) | omega | rfl | exact trivial | exact none_ne rfl | exact some_ne rfl (Nat.ne_of_beq_eq_false rfl) | exact Nat.ne_of_beq_eq_false rfl | (dsimp only [srcSide]; omega) | (simp; done) | (simp; omega))); done) | (refine side_and ?_ ?_) | (refine drawX_of mixed ?_)))
        all_goals (clear hK; dsimp only)
        · have hsb : standsB b.postings s i = true := by rw [hst]; simp_all
          rw [← owed16_add hV s hlt hsb]
          simp only [Nat.zero_add (Int.toNat (i : Int))]
          (refine Back.mk ?_ ?_ rfl rfl <;> (repeat' (first | refine EndV.mk ?_ | exact trivial | exact rfl | refine And.intro ?_ ?_)))
        all_goals
          have hsb : standsB b.postings s i = false := by rw [hst]; simp_all
          rw [owed16_skip b s hsb]
          (refine Back.mk ?_ ?_ rfl rfl <;> (repeat' (first | refine EndV.mk ?_ | exact trivial | exact rfl | refine And.intro ?_ ?_)))
      · have hie : i = b.postings.length := by omega
        subst hie
        (repeat' ((conv => whnf); first | (exfalso; omega) | (refine callx_pure (list_meets _ b.accounts (owedL_length _ _ _ _) (by omega) (by omega)) rfl rfl ?_) | (refine end_fn [] (.inr rfl) ?_ trivial rfl rfl) | (refine split_nd (fun hb => ?_) (fun hb => ?_)) | (refine split_d (fun hb => ?_) (fun hb => ?_)) | (refine split_n (fun hb => ?_) (fun hb => ?_)) | (refine split_x (fun hb => ?_) (fun hb => ?_)) | (refine And.intro (TraceOK.mk (by kernel_rfl)) ?_) | (refine Side.mk ?_; (repeat' (first | refine And.intro ?_ ?_ | exact inR_i64 (by omega) (by omega) | omega | rfl | exact trivial | exact none_ne rfl | exact some_ne rfl (Nat.ne_of_beq_eq_false rfl) | exact Nat.ne_of_beq_eq_false rfl | (dsimp only [srcSide]; omega) | (simp; done) | (simp; omega))); done) | (refine side_and ?_ ?_) | (refine drawX_of mixed ?_)))
        (refine (fun (hr_ : r = some (owedL b.postings s b.accounts.toNat b.postings.length)) => ?_) ?_; rotate_left; (focus (simp_all; done)); subst hr_)
        have hfin : List.take b.accounts.toNat (owedL b.postings s 16 b.postings.length) = owedL b.postings s b.accounts.toNat b.postings.length := by
          unfold owedL
          rw [← List.map_take, List.take_range, Nat.min_eq_left (by omega)]
        rw [hfin]
        (repeat' (first | refine EndV.mk ?_ | exact trivial | exact rfl | refine And.intro ?_ ?_))
end Go.SX

namespace Go.SX
open Go.Proofs
set_option linter.unusedSimpArgs false
set_option maxHeartbeats 4000000
set_option maxRecDepth 100000
def errI {α : Type} (r : Option α) : Int := match r with
  | some _ => 0
  | none => 240
theorem errI_ok {α : Type} (r : Option α) : (decide (errI r = 0)) = r.isSome := by cases r <;> rfl
theorem errI_eq {α : Type} (r : Option α) : errI r = 0 ↔ r.isSome = true := by cases r <;> simp [errI]
def bookU (r : Option Book) : SV Cd := .tuple [ba (r.getD b0), .p (.int .i64 (errI r))]
def postU (b : Book) (r : Option Book) : SV Cd := .tuple [ba (r.getD b0), .p (.int .i64 (match r with | some _ => (b.postings.length : Int) | none => 0)), .p (.int .i64 (errI r))]
theorem bookRet_U (r : Option Book) : bookRet r = bookU r := by cases r <;> rfl
theorem postRet_U (b : Book) (p : Posting) : postRet b p = postU b (postS b p) := by unfold postRet; cases postS b p <;> rfl
theorem PostU (b : Book) (p : Posting) (hL : b.postings.length ≤ 1000) : Meets Tryd.prog Dc 71 [ba b, pa p] [] (postU b (postS b p)) [] := by
  rw [← postRet_U]; exact Post_meets b p (by omega)
theorem refPostU (b : Book) (p : Posting) (hL : b.postings.length ≤ 1000) : Meets Tryd.prog Dc 84 [ba b, pa p] [] (postU b (postS b p)) [] := by
  rw [← postRet_U]; exact refPost_meets b p hL
theorem DisputeU (b : Book) (i day amount : Int) (hL : b.postings.length ≤ 900) : Meets Tryd.prog Dc 73 [ba b, .p (.int .i64 i), .p (.int .i64 day), .p (.int .i64 amount)] [] (bookU (dispS b i day amount)) [] := by
  rw [← bookRet_U]; exact Dispute_meets b i day amount (by omega)
theorem refDisputeU (b : Book) (i day amount : Int) (hL : b.postings.length ≤ 900) : Meets Tryd.prog Dc 85 [ba b, .p (.int .i64 i), .p (.int .i64 day), .p (.int .i64 amount)] [] (bookU (dispS b i day amount)) [] := by
  rw [← bookRet_U]; exact refDispute_meets b i day amount hL
theorem CloseU (b : Book) (m : Int) (hL : b.postings.length ≤ 1000) : Meets Tryd.prog Dc 75 [ba b, .p (.int .i64 m)] [] (bookU (closeS b m)) [] := by
  rw [← bookRet_U]; exact Close_meets b m (by omega)
theorem refCloseU (b : Book) (m : Int) (hL : b.postings.length ≤ 1000) : Meets Tryd.prog Dc 86 [ba b, .p (.int .i64 m)] [] (bookU (closeS b m)) [] := by
  rw [← bookRet_U]; exact refClose_meets b m hL
def listU (r : Option (List Int)) : SV Cd := .tuple [.p (.dsl U.int (r.getD [])), .p (.int .i64 (errI r))]
theorem listRet_U (r : Option (List Int)) : listRet r = listU r := by cases r <;> rfl
theorem StatementU (b : Book) (m : Int) (hL : b.postings.length ≤ 1000) : Meets Tryd.prog Dc 72 [ba b, .p (.int .i64 m)] [] (listU (stmtS b m)) [] := by rw [← listRet_U]; exact statement_meets b m hL
theorem OwedU (b : Book) (m : Int) (hL : b.postings.length ≤ 1000) : Meets Tryd.prog Dc 74 [ba b, .p (.int .i64 m)] [] (listU (owedS b m)) [] := by rw [← listRet_U]; exact owed_meets b m hL
def intU (r : Option Int) : SV Cd := .tuple [.p (.int .i64 (r.getD 0)), .p (.int .i64 (errI r))]
theorem BalanceU (b : Book) (t m : Int) (hL : b.postings.length ≤ 1000) : Meets Tryd.prog Dc 76 [ba b, .p (.int .i64 t), .p (.int .i64 m)] [] (intU (balS b t m)) [] := by
  obtain ⟨r, he⟩ : ∃ r, r = balS b t m := ⟨_, rfl⟩
  rw [← he]
  unfold balS at he
  cases hs : stmtS b m with
  | none =>
    have h1 := StatementU b m hL
    rw [hs] at h1
    have hn : (validB b && isInB m 0 11) = false := by
      unfold stmtS at hs; split at hs
      · cases hs
      · rename_i h; simpa using h
    have hr : r = none := by rw [he, if_neg]; intro hh; simp only [Bool.and_eq_true] at hh hn; simp [hh.1.1, hh.2] at hn
    subst hr
    refine meets_of_gx Ax tab_ok Tryd.func76 (c := _) rfl Tryd.call76 200 ?_
    (repeat' ((conv => whnf); first | (refine callx_pure h1 rfl rfl ?_) | (refine end_fn [] (.inr rfl) ?_ trivial rfl rfl) | (refine split_nd (fun hb => ?_) (fun hb => ?_)) | (refine split_d (fun hb => ?_) (fun hb => ?_)) | (refine split_n (fun hb => ?_) (fun hb => ?_)) | (refine split_x (fun hb => ?_) (fun hb => ?_)) | (refine And.intro (TraceOK.mk (by kernel_rfl)) ?_) | (refine Side.mk ?_; (repeat' (first | refine And.intro ?_ ?_ | exact inR_i64 (by omega) (by omega) | omega | rfl | exact trivial | exact none_ne rfl | exact some_ne rfl (Nat.ne_of_beq_eq_false rfl) | exact Nat.ne_of_beq_eq_false rfl | (dsimp only [srcSide]; omega) | (simp; done) | (simp; omega))); done) | (refine side_and ?_ ?_) | (refine drawX_of mixed ?_)))
    all_goals (repeat' (first | refine EndV.mk ?_ | exact trivial | exact rfl | refine And.intro ?_ ?_))
  | some l =>
    have h1 := StatementU b m hL
    rw [hs] at h1
    have hv : validB b = true ∧ isInB m 0 11 = true ∧ l = stmtL b m b.accounts.toNat := by
      unfold stmtS at hs; split at hs
      · rename_i h; injection hs with hs; simp at h; exact ⟨h.1, h.2, hs.symm⟩
      · cases hs
    obtain ⟨hv, hm, rfl⟩ := hv
    have hacc := (validBook_of hv).acc
    have hl : (stmtL b m b.accounts.toNat).length = b.accounts.toNat := by simp [stmtL]
    refine meets_of_gx Ax tab_ok Tryd.func76 (c := _) rfl Tryd.call76 200 ?_
    (repeat' ((conv => whnf); first | (refine callx_pure h1 rfl rfl ?_) | (refine end_fn [] (.inr rfl) ?_ trivial rfl rfl) | (refine split_nd (fun hb => ?_) (fun hb => ?_)) | (refine split_d (fun hb => ?_) (fun hb => ?_)) | (refine split_n (fun hb => ?_) (fun hb => ?_)) | (refine split_x (fun hb => ?_) (fun hb => ?_)) | (refine And.intro (TraceOK.mk (by kernel_rfl)) ?_) | (refine Side.mk ?_; (repeat' (first | refine And.intro ?_ ?_ | exact inR_i64 (by omega) (by omega) | omega | rfl | exact trivial | exact none_ne rfl | exact some_ne rfl (Nat.ne_of_beq_eq_false rfl) | exact Nat.ne_of_beq_eq_false rfl | (dsimp only [srcSide]; omega) | (simp; done) | (simp; omega))); done) | (refine side_and ?_ ?_) | (refine drawX_of mixed ?_)))
    · have ht : isInB t 0 (b.accounts - 1) = false := by simp [isInB]; omega
      (refine (fun (hr_ : r = none) => ?_) ?_; rotate_left; (focus (simp_all; done)); subst hr_); (repeat' (first | refine EndV.mk ?_ | exact trivial | exact rfl | refine And.intro ?_ ?_))
    · have hb' : ((stmtL b m b.accounts.toNat).length : Int) ≤ t := hb
      have ht : isInB t 0 (b.accounts - 1) = false := by simp [isInB]; omega
      (refine (fun (hr_ : r = none) => ?_) ?_; rotate_left; (focus (simp_all; done)); subst hr_); (repeat' (first | refine EndV.mk ?_ | exact trivial | exact rfl | refine And.intro ?_ ?_))
    · have hb' : ¬ ((stmtL b m b.accounts.toNat).length : Int) ≤ t := hb
      have ht : isInB t 0 (b.accounts - 1) = true := by simp [isInB]; omega
      (refine (fun (hr_ : r = some (balL b.postings t m)) => ?_) ?_; rotate_left; (focus (simp_all; done)); subst hr_)
      have hg : (stmtL b m b.accounts.toNat).getD t.toNat 0 = balL b.postings t m := by
        rw [stmtL, getD_map_range _ _ _ _ (by omega), Int.toNat_of_nonneg (by omega)]
      rw [← hg]
      (repeat' (first | refine EndV.mk ?_ | exact trivial | exact rfl | refine And.intro ?_ ?_))
end Go.SX

namespace Go.SX
open Go.Proofs
set_option linter.unusedSimpArgs false
set_option maxHeartbeats 4000000
set_option maxRecDepth 100000
structure A5OK (x : A5) : Prop where
  a : I64 x.a
  b : I64 x.b
  c : I64 x.c
  d : I64 x.d
  e : I64 x.e
theorem pickS_bound (c n : Int) (hn : 0 < n) : 0 ≤ pickS c n ∧ pickS c n < n := by
  unfold pickS
  rw [Int.tmod_eq_emod_of_nonneg (by split <;> omega)]
  exact ⟨Int.emod_nonneg _ (by omega), Int.emod_lt_of_pos _ hn⟩
def madeP (b : Book) (day1 : Int) (x : A5) : Posting :=
  ⟨1 + pickS (x.e.tdiv 7) 2, day1, pickS x.c b.accounts, (pickS x.c b.accounts + 1 + pickS x.d (b.accounts - 1)).tmod b.accounts, 1 + pickS x.e 1000, pickS x.e 6, -1⟩
def madeNext (b : Book) (day1 : Int) (x : A5) : Option Book :=
  if pickS x.a 6 = 4 then dispS b (pickS x.d (b.postings.length + 1)) day1 (pickS x.e 1000) else if pickS x.a 6 = 5 then closeS b b.closed else postS b (madeP b day1 x)
def madeStep (s : Book × Int) (x : A5) : Book × Int :=
  ((madeNext s.1 (min 359 (s.2 + pickS x.b 20)) x).getD s.1,
   if pickS x.a 6 = 5 then max (min 359 (s.2 + pickS x.b 20)) (min 359 (30 * ((closeS s.1 s.1.closed).getD b0).closed)) else min 359 (s.2 + pickS x.b 20))
def madeSt (accounts : Int) (l : List A5) (i : Nat) : Book × Int := (l.take i).foldl madeStep (⟨2 + pickS accounts 15, [], 0⟩, 0)
def madeS (accounts : Int) (l : List A5) : Book := (madeSt accounts l (min l.length 24)).1
theorem postS_valid {b b' : Book} {p : Posting} (h : postS b p = some b') : validB b' = true := by
  rw [postS_eq] at h
  split at h
  · rename_i hc; injection h with h; subst h; simp at hc; exact hc.1.2
  · cases h
theorem dispS_valid {b b' : Book} {i d a : Int} (h : dispS b i d a = some b') : validB b' = true := by
  rw [dispS_eq] at h
  split at h
  · cases h1 : postS b (backOf (b.postings.getD i.toNat posting0) i d) with
    | none => rw [h1] at h; cases h
    | some b1 =>
      rw [h1, Option.bind_some] at h
      split at h
      · injection h with h; subst h; exact postS_valid h1
      · exact postS_valid h
  · cases h
theorem closeS_valid {b b' : Book} {m : Int} (h : closeS b m = some b') : validB b' = true := by
  unfold closeS at h
  split at h
  · rename_i hc
    injection h with h; subst h
    simp only [Bool.and_eq_true, decide_eq_true_eq, isInB] at hc
    have hv := hc.1.1
    unfold validB at hv ⊢
    simp only [Bool.and_eq_true, isInB, decide_eq_true_eq] at hv ⊢
    refine ⟨?_, hv.2.1, by omega, by omega⟩
    have : openS ⟨b.accounts, b.postings, m + 1⟩ = openS b := rfl
    rw [this]; exact hv.1
  · cases h
theorem validB_empty (a : Int) (h : 2 ≤ a) (h' : a ≤ 16) : validB ⟨a, [], 0⟩ = true := by
  simp [validB, openS, bkRun, isInB, h, h']
theorem madeNext_valid {b b' : Book} {d : Int} {x : A5} (h : madeNext b d x = some b') : validB b' = true := by
  unfold madeNext at h
  split at h
  · exact dispS_valid h
  · split at h
    · exact closeS_valid h
    · exact postS_valid h
theorem closeS_closed {b b' : Book} {m : Int} (h : closeS b m = some b') : 0 ≤ b'.closed ∧ b'.closed ≤ 12 := (validBook_of (closeS_valid h)).closed
structure MadeOK (s : Book × Int) : Prop where
  v : validB s.1 = true
  d : 0 ≤ s.2 ∧ s.2 ≤ 359
theorem min359 {x : Int} (h : 0 ≤ x) : 0 ≤ min 359 x ∧ min 359 x ≤ 359 := by rw [Int.min_def]; split <;> omega
theorem max359 {x y : Int} (h : 0 ≤ x ∧ x ≤ 359) (h' : y ≤ 359) : 0 ≤ max x y ∧ max x y ≤ 359 := by rw [Int.max_def]; split <;> omega
theorem madeStep_ok {s : Book × Int} (h : MadeOK s) (x : A5) : MadeOK (madeStep s x) := by
  have hp := pickS_bound x.b 20 (by omega)
  have hd := h.d
  refine ⟨?_, ?_⟩
  · show validB ((madeNext s.1 _ x).getD s.1) = true
    cases hn : madeNext s.1 (min 359 (s.2 + pickS x.b 20)) x with
    | none => exact h.v
    | some b' => exact madeNext_valid hn
  · show 0 ≤ (if _ then _ else _ : Int) ∧ (if _ then _ else _ : Int) ≤ 359
    have hm := min359 (x := s.2 + pickS x.b 20) (by omega)
    split
    · have hc : 0 ≤ 30 * ((closeS s.1 s.1.closed).getD b0).closed := by
        cases hc : closeS s.1 s.1.closed with
        | none => simp [b0]
        | some b' => have := closeS_closed hc; simp; omega
      exact max359 hm (min359 hc).2
    · exact hm
theorem madeSt_succ (accounts : Int) (l : List A5) (i : Nat) (h : i < l.length) : madeSt accounts l (i + 1) = madeStep (madeSt accounts l i) (l.getD i arr50) := by
  have e : l.take (i + 1) = l.take i ++ [l.getD i arr50] := by rw [List.take_add_one]; simp [h]
  unfold madeSt
  rw [e, List.foldl_append]
  rfl
theorem madeSt_ok (accounts : Int) (l : List A5) : ∀ i, MadeOK (madeSt accounts l i)
  | 0 => by
    have := pickS_bound accounts 15 (by omega)
    exact ⟨validB_empty _ (by omega) (by omega), by simp [madeSt]⟩
  | i + 1 => by
    by_cases h : i < l.length
    · rw [madeSt_succ _ _ _ h]; exact madeStep_ok (madeSt_ok accounts l i) _
    · have : madeSt accounts l (i + 1) = madeSt accounts l i := by
        unfold madeSt; rw [List.take_of_length_le (by omega), List.take_of_length_le (by omega)]
      rw [this]; exact madeSt_ok accounts l i
theorem refpickS (c n : Int) (hc : Side (-9223372036854775808 ≤ c ∧ c ≤ 9223372036854775807)) (hn : Side (0 < n)) : Meets Tryd.prog Dc 83 [.p (.int .i64 c), .p (.int .i64 n)] [] (.p (.int .i64 (pickS c n))) [] := refpick_meets c n hc.h (by have := hn.h; omega)
theorem tdiv7 {n : Int} (h : -9223372036854775808 ≤ n ∧ n ≤ 9223372036854775807) : -9223372036854775808 ≤ n.tdiv 7 ∧ n.tdiv 7 ≤ 9223372036854775807 := by
  rcases Int.lt_or_le n 0 with h0 | h0
  · have : n.tdiv 7 = -((-n).tdiv 7) := by rw [Int.neg_tdiv, Int.neg_neg]
    rw [this, Int.tdiv_eq_ediv_of_nonneg (by omega)]; omega
  · rw [Int.tdiv_eq_ediv_of_nonneg h0]; omega
theorem tmod_bound {a n : Int} (ha : 0 ≤ a) (hn : 0 < n) : 0 ≤ a.tmod n ∧ a.tmod n < n := by
  rw [Int.tmod_eq_emod_of_nonneg ha]
  exact ⟨Int.emod_nonneg _ (by omega), Int.emod_lt_of_pos _ hn⟩
theorem madeStep_eq (b : Book) (day : Int) (x : A5) : madeStep (b, day) x =
    if pickS x.a 6 = 4 then (if errI (dispS b (pickS x.d (b.postings.length + 1)) (min 359 (day + pickS x.b 20)) (pickS x.e 1000)) = 0 then ((dispS b (pickS x.d (b.postings.length + 1)) (min 359 (day + pickS x.b 20)) (pickS x.e 1000)).getD b0, min 359 (day + pickS x.b 20)) else (b, min 359 (day + pickS x.b 20)))
    else if pickS x.a 6 = 5 then (if errI (closeS b b.closed) = 0 then ((closeS b b.closed).getD b0, max (min 359 (day + pickS x.b 20)) (min 359 (30 * ((closeS b b.closed).getD b0).closed))) else (b, max (min 359 (day + pickS x.b 20)) (min 359 (30 * ((closeS b b.closed).getD b0).closed))))
    else (if errI (postS b (madeP b (min 359 (day + pickS x.b 20)) x)) = 0 then ((postS b (madeP b (min 359 (day + pickS x.b 20)) x)).getD b0, min 359 (day + pickS x.b 20)) else (b, min 359 (day + pickS x.b 20))) := by
  have key : ∀ (r : Option Book) (d : Int), (if errI r = 0 then (r.getD b0, d) else (b, d)) = (r.getD b, d) := by
    intro r d; cases r <;> simp [errI]
  rw [key, key, key]
  unfold madeStep madeNext
  dsimp only
  split
  · rename_i h
    rw [if_neg (by omega)]
  · split <;> rfl
theorem made_meets (accounts : Int) (l : List A5) (ha : I64 accounts) (hl : ∀ x ∈ l, A5OK x) (hL : (l.length : Int) ≤ 9223372036854775807) : Meets Tryd.prog Dc 44 [.p (.int .i64 accounts), .p (.dsl U.arr5 l)] [] (ba (madeS accounts l)) [] := by
  have hp0 := pickS_bound accounts 15 (by omega)
  have ha' := ha.h
  refine meets_of_gx Ax tab_ok Tryd.func44 (c := _) rfl Tryd.call44 600 ?_
  (repeat' ((conv => whnf); first | (refine callx_pure (refpick_meets accounts 15 ha' (by omega)) rfl rfl ?_) | (refine end_fn [] (.inr rfl) ?_ trivial rfl rfl) | (refine split_nd (fun hb => ?_) (fun hb => ?_)) | (refine split_d (fun hb => ?_) (fun hb => ?_)) | (refine split_n (fun hb => ?_) (fun hb => ?_)) | (refine split_x (fun hb => ?_) (fun hb => ?_)) | (refine And.intro (TraceOK.mk (by kernel_rfl)) ?_) | (refine Side.mk ?_; (repeat' (first | refine And.intro ?_ ?_ | exact inR_i64 (by omega) (by omega) | omega | rfl | exact trivial | exact none_ne rfl | exact some_ne rfl (Nat.ne_of_beq_eq_false rfl) | exact Nat.ne_of_beq_eq_false rfl | (dsimp only [srcSide]; omega) | (simp; done) | (simp; omega))); done) | (refine side_and ?_ ?_) | (refine drawX_of mixed ?_)))
  refine loop_up (fun i : Nat => [(6, .p (.int .i64 (madeSt accounts l i).2)), (7, .p (.int .i64 i))]) (fun i => [(1, .var [.p (.int .i64 (madeSt accounts l i).1.accounts), .p (.dsl U.posting (madeSt accounts l i).1.postings), .p (.int .i64 (madeSt accounts l i).1.closed)])]) (fun i => i ≤ l.length ∧ i ≤ 24) (fun i => l.length - i) 0 ⟨Nat.zero_le _, Nat.zero_le _⟩ ⟨by (repeat' (first | refine EndV.mk ?_ | exact trivial | exact rfl | refine And.intro ?_ ?_)), by (repeat' (first | refine EndV.mk ?_ | exact trivial | exact rfl | refine And.intro ?_ ?_)), rfl, rfl⟩ ?_
  rintro i ⟨hi, hi24⟩ K hK
  have hM := madeSt_ok accounts l i
  have hV := validBook_of hM.v
  have hd := hM.d
  have hsucc := madeSt_succ accounts l i
  dsimp only
  generalize hst : madeSt accounts l i = st at *
  obtain ⟨b, day⟩ := st
  dsimp only at hM hV hd hsucc ⊢
  have hacc := hV.acc
  have hcl := hV.closed
  have hlen := hV.len
  by_cases hc : i < l.length ∧ i < 24
  · obtain ⟨hlt, hlt24⟩ := hc
    have hx : A5OK (l.getD (i : Int).toNat (Cd.dflt U.arr5)) := hl _ (by show l.getD i arr50 ∈ l; simp [hlt])
    have hsucc' := hsucc hlt
    generalize hxe : l.getD (i : Int).toNat (Cd.dflt U.arr5) = x at hx
    have hxe' : l.getD i arr50 = x := hxe
    rw [hxe'] at hsucc'
    have xa := hx.a.h
    have xb := hx.b.h
    have xc := hx.c.h
    have xd := hx.d.h
    have xe := hx.e.h
    have p20 := pickS_bound x.b 20 (by omega)
    have t7 := tdiv7 xe
    have q1 := pickS_bound (x.e.tdiv 7) 2 (by omega)
    have q2 := pickS_bound x.c b.accounts (by omega)
    have q3 := pickS_bound x.d (b.accounts - 1) (by omega)
    have q4 := pickS_bound x.e 1000 (by omega)
    have q5 := pickS_bound x.e 6 (by omega)
    have q6 := pickS_bound x.d (b.postings.length + 1) (by omega)
    have q7 := pickS_bound x.a 6 (by omega)
    have m359 := min359 (x := day + pickS x.b 20) (by omega)
    have h30 : 0 ≤ 30 * ((closeS b b.closed).getD b0).closed ∧ 30 * ((closeS b b.closed).getD b0).closed ≤ 360 := by
      cases hc : closeS b b.closed with
      | none => simp [b0]
      | some b' => have := closeS_closed hc; simp; omega
    (repeat' ((conv => whnf); first | (exfalso; omega) | (rw [hxe]) | (refine callx_pure (refpickS _ _ ?_ ?_) rfl rfl ?_) | (refine dcallx_pure (refpickS _ _ ?_ ?_) rfl rfl ?_) | (refine callx_pure (refPostU b (madeP b (min 359 (day + pickS x.b 20)) x) (by omega)) rfl rfl ?_) | (refine dcallx_pure (refDisputeU b (pickS x.d (b.postings.length + 1)) (min 359 (day + pickS x.b 20)) (pickS x.e 1000) (by omega)) rfl rfl ?_) | (refine callx_pure (refCloseU b b.closed (by omega)) rfl rfl ?_) | (refine hK (i + 1) [some 0, some 1] _ _ ?_ ?_ ?_) | (refine end_fn [] (.inr rfl) ?_ trivial rfl rfl) | (refine split_nd (fun hb => ?_) (fun hb => ?_)) | (refine split_d (fun hb => ?_) (fun hb => ?_)) | (refine split_n (fun hb => ?_) (fun hb => ?_)) | (refine split_x (fun hb => ?_) (fun hb => ?_)) | (refine And.intro (TraceOK.mk (by kernel_rfl)) ?_) | (refine Side.mk ?_; (repeat' (first | refine And.intro ?_ ?_ | exact inR_i64 (by omega) (by omega) | omega | rfl | exact trivial | exact none_ne rfl | exact some_ne rfl (Nat.ne_of_beq_eq_false rfl) | exact Nat.ne_of_beq_eq_false rfl | (dsimp only [srcSide]; omega) | (simp; done) | (simp; omega))); done) | (refine side_and ?_ ?_) | (refine drawX_of mixed ?_)))
    all_goals (have hE := hsucc'.trans (madeStep_eq b day x); clear hsucc hsucc' hK; repeat' split at hE)
    all_goals first | (exfalso; omega) | (rw [hE]; (refine Back.mk ?_ ?_ rfl rfl <;> (repeat' (first | refine EndV.mk ?_ | exact trivial | exact rfl | refine And.intro ?_ ?_))))
  · have hie : i = min l.length 24 := by omega
    have hmade : madeS accounts l = b := by unfold madeS; rw [← hie, hst]
    rw [hmade]
    (repeat' ((conv => whnf); first | (exfalso; omega) | (refine end_fn [] (.inr rfl) ?_ trivial rfl rfl) | (refine split_nd (fun hb => ?_) (fun hb => ?_)) | (refine split_d (fun hb => ?_) (fun hb => ?_)) | (refine split_n (fun hb => ?_) (fun hb => ?_)) | (refine split_x (fun hb => ?_) (fun hb => ?_)) | (refine And.intro (TraceOK.mk (by kernel_rfl)) ?_) | (refine Side.mk ?_; (repeat' (first | refine And.intro ?_ ?_ | exact inR_i64 (by omega) (by omega) | omega | rfl | exact trivial | exact none_ne rfl | exact some_ne rfl (Nat.ne_of_beq_eq_false rfl) | exact Nat.ne_of_beq_eq_false rfl | (dsimp only [srcSide]; omega) | (simp; done) | (simp; omega))); done) | (refine side_and ?_ ?_) | (refine drawX_of mixed ?_)))
    all_goals (repeat' (first | refine EndV.mk ?_ | exact trivial | exact rfl | refine And.intro ?_ ?_))
end Go.SX
