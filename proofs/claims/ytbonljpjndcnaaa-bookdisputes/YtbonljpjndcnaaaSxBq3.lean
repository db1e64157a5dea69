/-
  Walks: Bq3, Bq4, Bq1: what single functions of the program compute.
-/
import Derived.Test.YtbonljpjndcnaaaSxBm4
namespace Go.SX
open Go.Proofs
set_option linter.unusedSimpArgs false
set_option linter.unusedVariables false
set_option maxHeartbeats 4000000
set_option maxRecDepth 100000
/-- an amount in the place of a posting's own -/
def deltaA (q : Posting) (a : Int) (t : Int) : Int := (if q.creditor = t then a else 0) - (if q.debtor = t then a else 0)
theorem deltaA_zero (q : Posting) (t : Int) : deltaA q 0 t = 0 := by unfold deltaA; split <;> split <;> rfl
theorem dispOf_post (b : Book) (i : Nat) (d a : Int) : (dispOf b i d a).postings = b.postings ++ [backOf (b.postings.getD i posting0) i d] ++ (if 0 < a then [againOf (b.postings.getD i posting0) d a] else []) := rfl
theorem bal_disp {b : Book} {i : Nat} {d a : Int} (ha : 0 ≤ a) (t m : Int) : balL (dispOf b i d a).postings t m = balL b.postings t m + (if d.tdiv 30 = m then deltaA (b.postings.getD i posting0) a t - delta (b.postings.getD i posting0) t else 0) := by
  rw [dispOf_post]
  generalize b.postings.getD i posting0 = q
  unfold balL
  rw [List.map_append, List.map_append, List.sum_append, List.sum_append, Int.add_assoc]
  congr 1
  have e1 : (([backOf q (i : Int) d].map (entry t m))).sum = if d.tdiv 30 = m then - delta q t else 0 := by
    simp only [List.map_cons, List.map_nil, List.sum_cons, List.sum_nil, Int.add_zero, entry, backOf, delta]
    split <;> omega
  have e2 : (((if 0 < a then [againOf q d a] else []).map (entry t m))).sum = if d.tdiv 30 = m then deltaA q a t else 0 := by
    by_cases h : 0 < a
    · rw [if_pos h]
      simp only [List.map_cons, List.map_nil, List.sum_cons, List.sum_nil, Int.add_zero, entry, againOf, deltaA]
    · have : a = 0 := by omega
      subst this
      rw [if_neg h, deltaA_zero]
      simp
  rw [e1, e2]
  split <;> omega
theorem owed_disp {b : Book} {i : Nat} {d a : Int} (hv : validB b = true) (hv' : validB (dispOf b i d a) = true) (hi : i < b.postings.length) (ha : 0 ≤ a) (hk : (b.postings.getD i posting0).kind ≠ 3) (hb : anyOf b.postings i = false) (s t : Int) :
    owedP (dispOf b i d a).postings s t (dispOf b i d a).postings.length = owedP b.postings s t b.postings.length + (if s = (b.postings.getD i posting0).subject then deltaA (b.postings.getD i posting0) a t - delta (b.postings.getD i posting0) t else 0) := by
  have hV := validBook_of hv
  have hF := formed_at hV hi
  have hof : (b.postings.getD i posting0).of_ = -1 := by
    rcases hF.kind with h | h | h
    · exact h.2
    · exact h.2
    · exact absurd h.1 hk
  obtain ⟨ys, hys⟩ : ∃ ys, (dispOf b i d a).postings = ys := ⟨_, rfl⟩
  have hpost := dispOf_post b i d a
  have hlen : ys.length = b.postings.length + 1 + (if 0 < a then 1 else 0) := by
    rw [← hys, hpost]; split <;> simp
  have hany : ∀ j : Nat, anyOf ys j = (anyOf b.postings j || decide (i = j)) := by
    intro j
    rw [← hys, hpost, anyOf_append, anyOf_append, Bool.or_assoc]
    congr 1
    have e1 : anyOf [backOf (b.postings.getD i posting0) (i : Int) d] j = decide (i = j) := by
      show (decide ((i : Int) = (j : Int)) || false) = _
      rw [Bool.or_false]; exact decide_eq_decide.2 (by omega)
    have e2 : anyOf (if 0 < a then [againOf (b.postings.getD i posting0) d a] else []) j = false := by
      split
      · simp only [anyOf, againOf, List.any_cons, List.any_nil, Bool.or_false, hof, decide_eq_false_iff_not]; omega
      · rfl
    rw [e1, e2, Bool.or_false]
  have hget : ∀ j, j < b.postings.length → ys.getD j posting0 = b.postings.getD j posting0 := by
    intro j hj
    rw [← hys, hpost, List.append_assoc]; exact getD_left hj
  have hst' : ∀ j, standsB ys s j = (!decide ((ys.getD j posting0).kind = 3) && decide ((ys.getD j posting0).subject = s) && !anyOf ys j) := by
    intro j; rw [← hys]; exact standsB_eq hv' s j
  have h1 : ∀ j, j < b.postings.length → j ≠ i → standsB ys s j = standsB b.postings s j := by
    intro j hj hne
    rw [hst', standsB_eq hv, hget j hj, hany, decide_eq_false (show ¬ i = j from fun e => hne e.symm), Bool.or_false]
  have h3 : standsB ys s i = false := by
    rw [hst', hany, decide_eq_true rfl, Bool.or_true]; simp
  have hsi : standsB b.postings s i = decide ((b.postings.getD i posting0).subject = s) := by
    rw [standsB_eq hv, hb, decide_eq_false hk]; simp
  have hsL : standsB ys s b.postings.length = false := by
    have e : ys.getD b.postings.length posting0 = backOf (b.postings.getD i posting0) (i : Int) d := by
      rw [← hys, hpost]
      rw [getD_left (xs := b.postings ++ [backOf (b.postings.getD i posting0) (i : Int) d]) (by simp)]
      exact getD_last _
    rw [hst', e]; rfl
  have key : owedP ys s t (b.postings.length + 1) = owedP b.postings s t b.postings.length - (if (b.postings.getD i posting0).subject = s then delta (b.postings.getD i posting0) t else 0) := by
    simp only [owedP]
    rw [hsL, owedP_but i hi h1 hget h3 _ (Nat.le_refl _), if_pos hi, hsi]
    simp
  rw [hys, hlen]
  by_cases h0 : 0 < a
  · rw [if_pos h0]
    have e : ys.getD (b.postings.length + 1) posting0 = againOf (b.postings.getD i posting0) d a := by
      rw [← hys, hpost, if_pos h0]
      have := getD_last (xs := b.postings ++ [backOf (b.postings.getD i posting0) (i : Int) d]) (againOf (b.postings.getD i posting0) d a)
      rwa [List.length_append, List.length_singleton] at this
    have hs2 : standsB ys s (b.postings.length + 1) = decide ((b.postings.getD i posting0).subject = s) := by
      rw [hst', e, hany, anyOf_large hv (i := b.postings.length + 1) (by omega), decide_eq_false (show ¬ i = b.postings.length + 1 by omega)]
      show (!decide ((b.postings.getD i posting0).kind = 3) && _ && _) = _
      rw [decide_eq_false hk]; simp [againOf]
    show owedP ys s t (b.postings.length + 1 + 1) = _
    rw [owedP, key, hs2, e]
    by_cases hs : (b.postings.getD i posting0).subject = s
    · rw [if_pos hs, if_pos hs.symm, decide_eq_true hs, if_pos rfl]
      show _ + (deltaA (b.postings.getD i posting0) a t) = _
      omega
    · rw [if_neg hs, decide_eq_false hs, if_neg (show ¬ s = (b.postings.getD i posting0).subject from fun e => hs e.symm)]; simp
  · rw [if_neg h0]
    have : a = 0 := by omega
    subst this
    rw [Nat.add_zero, key, deltaA_zero]
    by_cases hs : (b.postings.getD i posting0).subject = s
    · rw [if_pos hs, if_pos hs.symm]; omega
    · rw [if_neg hs, if_neg (show ¬ s = (b.postings.getD i posting0).subject from fun e => hs e.symm)]; omega
end Go.SX

namespace Go.SX
open Go.Proofs
set_option linter.unusedSimpArgs false
set_option linter.unusedVariables false
set_option maxHeartbeats 4000000
set_option maxRecDepth 100000
theorem listO_meets (L : List Int) (n : Int) (hL : L.length = 16) (h0 : 0 ≤ n) (h16 : n ≤ 16) : Meets Try.prog Dc 36 [.agg [.arr U.int 16 L], .p (.int .i64 n)] [] (.slice 0 0 1 0 n.toNat) [.rows U.int (L.take n.toNat)] := by
  by_cases he : L = List.replicate 16 0
  · subst he
    refine meets_of_gx Ax tab_ok Try.func36 (c := _) rfl Try.call36 300 ?_
    (repeat' ((conv => whnf); first | (refine end_fn [some 1] (.inr rfl) ?_ ?_ rfl rfl) | (refine end_fn [] (.inr rfl) ?_ trivial rfl rfl) | (refine split_nd (fun hb => ?_) (fun hb => ?_)) | (refine split_d (fun hb => ?_) (fun hb => ?_)) | (refine split_n (fun hb => ?_) (fun hb => ?_)) | (refine split_x (fun hb => ?_) (fun hb => ?_)) | (refine And.intro (TraceOK.mk (by kernel_rfl)) ?_) | (refine Side.mk ?_; (repeat' (first | refine And.intro ?_ ?_ | exact inR_i64 (by omega) (by omega) | omega | rfl | exact trivial | exact none_ne rfl | exact some_ne rfl (Nat.ne_of_beq_eq_false rfl) | exact Nat.ne_of_beq_eq_false rfl | (dsimp only [srcSide]; omega) | (simp; done) | (simp; omega))); done) | (refine side_and ?_ ?_) | (refine drawX_of mixed ?_)))
    · (repeat' (first | refine EndV.mk ?_ | exact trivial | exact rfl | refine And.intro ?_ ?_))
    · refine ⟨?_⟩
      show (HS.rows U.int (List.take n.toNat (List.replicate 16 (0 : Int))) : HS Cd) = HS.rows U.int (List.replicate n.toNat (0 : Int))
      rw [List.take_replicate, Nat.min_eq_left (by omega)]
    · exact trivial
  · have hx : ¬ (decide (L = List.replicate 16 (Cd.dflt U.int)) && true) = true := by rw [Bool.and_true, decide_eq_true_iff]; exact he
    have hlen : (List.take 0 ([] : List Int) ++ List.take (n.toNat - Int.toNat 0) (List.drop (Int.toNat 0) L)).length = n.toNat := by simp [hL]; omega
    refine meets_of_gx Ax tab_ok Try.func36 (c := _) rfl Try.call36 300 ?_
    (repeat' ((conv => whnf); first | (exact absurd hb hx) | (refine end_fn [some 2] (.inr rfl) ?_ ?_ rfl rfl) | (refine end_fn [] (.inr rfl) ?_ trivial rfl rfl) | (refine split_nd (fun hb => ?_) (fun hb => ?_)) | (refine split_d (fun hb => ?_) (fun hb => ?_)) | (refine split_n (fun hb => ?_) (fun hb => ?_)) | (refine split_x (fun hb => ?_) (fun hb => ?_)) | (refine And.intro (TraceOK.mk (by kernel_rfl)) ?_) | (refine Side.mk ?_; (repeat' (first | refine And.intro ?_ ?_ | exact inR_i64 (by omega) (by omega) | omega | rfl | exact trivial | exact none_ne rfl | exact some_ne rfl (Nat.ne_of_beq_eq_false rfl) | exact Nat.ne_of_beq_eq_false rfl | (dsimp only [srcSide]; omega) | (simp; done) | (simp; omega))); done) | (refine side_and ?_ ?_) | (refine drawX_of mixed ?_)))
    · refine EndV.mk ?_
      (conv => whnf)
      exact congrArg (fun k => some (SV.slice 2 0 1 0 k)) hlen.symm
    · exact trivial
theorem statementO_meets (b : Book) (m : Int) (hL : b.postings.length ≤ 1000) (hv : validB b = true) (hm : 0 ≤ m ∧ m ≤ 11) : Meets Try.prog Dc 19 [ba b, .p (.int .i64 m)] [] (.tuple [.slice 0 0 1 0 b.accounts.toNat, .p (.int .i64 0)]) [.rows U.int (stmtL b m b.accounts.toNat)] := by
  obtain ⟨bk, ho⟩ := openS_isSome hv
  have hw : (isInB b.accounts 2 16 && isInB b.closed 0 12) = true := by
    have := hv; unfold validB at this; simp only [Bool.and_eq_true] at this ⊢; exact this.2
  have hin : Meets Try.prog Dc 32 [.p (.int .i64 m), .p (.int .i64 0), .p (.int .i64 11)] [] (.p (.bool true)) [] := by
    have := isIn_meets m 0 11
    rwa [isInB_iff.2 hm] at this
  have hV := validBook_of hv
  refine meets_of_gx Ax tab_ok Try.func19 (c := _) rfl Try.call19 400 ?_
  (repeat' ((conv => whnf); first | (refine callh [] (open_some' (by omega) ho hw) rfl rfl trivial ?_) | (refine callx_pure hin rfl rfl ?_) | (refine call_in Ax tab_ok Try.func33 (c := _) rfl Try.call33 200 ?_) | (refine range_in Ax tab_ok rfl Try.func39 (c := _) rfl Try.call39 rfl rfl 300 ?_) | (refine end_fn [] (.inr rfl) ?_ trivial rfl rfl) | (refine split_nd (fun hb => ?_) (fun hb => ?_)) | (refine split_d (fun hb => ?_) (fun hb => ?_)) | (refine split_n (fun hb => ?_) (fun hb => ?_)) | (refine split_x (fun hb => ?_) (fun hb => ?_)) | (refine And.intro (TraceOK.mk (by kernel_rfl)) ?_) | (refine Side.mk ?_; (repeat' (first | refine And.intro ?_ ?_ | exact inR_i64 (by omega) (by omega) | omega | rfl | exact trivial | exact none_ne rfl | exact some_ne rfl (Nat.ne_of_beq_eq_false rfl) | exact Nat.ne_of_beq_eq_false rfl | (dsimp only [srcSide]; omega) | (simp; done) | (simp; omega))); done) | (refine side_and ?_ ?_) | (refine drawX_of mixed ?_)))
  intro gn tmps bd
  (repeat' ((conv => whnf); first | (refine end_fn [] (.inr rfl) ?_ trivial rfl rfl) | (refine split_nd (fun hb => ?_) (fun hb => ?_)) | (refine split_d (fun hb => ?_) (fun hb => ?_)) | (refine split_n (fun hb => ?_) (fun hb => ?_)) | (refine split_x (fun hb => ?_) (fun hb => ?_)) | (refine And.intro (TraceOK.mk (by kernel_rfl)) ?_) | (refine Side.mk ?_; (repeat' (first | refine And.intro ?_ ?_ | exact inR_i64 (by omega) (by omega) | omega | rfl | exact trivial | exact none_ne rfl | exact some_ne rfl (Nat.ne_of_beq_eq_false rfl) | exact Nat.ne_of_beq_eq_false rfl | (dsimp only [srcSide]; omega) | (simp; done) | (simp; omega))); done) | (refine side_and ?_ ?_) | (refine drawX_of mixed ?_)))
  refine loop_up (fun i : Nat => [(12, .p (.int .i64 i))]) (fun i => [(4, .var [.arr U.int 16 ((List.range 16).map fun t : Nat => balL (b.postings.take i) (t : Int) m)])]) (fun i => i ≤ b.postings.length) (fun i => b.postings.length - i) 0 (Nat.zero_le _) ⟨by (repeat' (first | refine EndV.mk ?_ | exact trivial | exact rfl | refine And.intro ?_ ?_)), by (repeat' (first | refine EndV.mk ?_ | exact trivial | exact rfl | refine And.intro ?_ ?_)), rfl, rfl⟩ ?_
  intro i hi K hK
  have hacc := hV.acc
  rcases Nat.lt_or_ge i b.postings.length with hlt | hge
  · have hF : Formed (b.postings.getD (0 + (i : Int).toNat) (Cd.dflt U.posting)) b.accounts := by rw [Nat.zero_add]; exact formed_at hV hlt
    have htd := tdiv30 hF.day
    have hOK : AddOK ((List.range 16).map fun t : Nat => balL (b.postings.take i) (t : Int) m) (b.postings.getD (0 + (i : Int).toNat) (Cd.dflt U.posting)) := addOK_bal hV hF m i
    have hs := bal_step (b := b) (m := m) hV hlt
    (repeat' ((conv => whnf); first | (exfalso; omega) | (refine call_in Ax tab_ok Try.func34 (c := _) rfl Try.call34 100 ?_) | (refine yield_in Ax tab_ok rfl rfl rfl 200 200 ?_) | (refine hK (i+1) ([some 0, some 1, some 2, some 3, some 4, some 5, some 6, some 7]) _ _ ?_ ?_ ?_) | (refine callh [some 4] (add_meets _ _ hOK) rfl rfl ⟨rfl, trivial⟩ ?_) | (refine end_fn [] (.inr rfl) ?_ trivial rfl rfl) | (refine split_nd (fun hb => ?_) (fun hb => ?_)) | (refine split_d (fun hb => ?_) (fun hb => ?_)) | (refine split_n (fun hb => ?_) (fun hb => ?_)) | (refine split_x (fun hb => ?_) (fun hb => ?_)) | (refine And.intro (TraceOK.mk (by kernel_rfl)) ?_) | (refine Side.mk ?_; (repeat' (first | refine And.intro ?_ ?_ | exact inR_i64 (by omega) (by omega) | omega | rfl | exact trivial | exact none_ne rfl | exact some_ne rfl (Nat.ne_of_beq_eq_false rfl) | exact Nat.ne_of_beq_eq_false rfl | (dsimp only [srcSide]; omega) | (simp; done) | (simp; omega))); done) | (refine side_and ?_ ?_) | (refine drawX_of mixed ?_)))
    · rw [Nat.zero_add] at hb
      dsimp only
      rw [← hs.1 hb]
      simp only [Nat.zero_add (Int.toNat (i : Int))]
      (refine Back.mk ?_ ?_ rfl rfl <;> (repeat' (first | refine EndV.mk ?_ | exact trivial | exact rfl | refine And.intro ?_ ?_)))
    · rw [Nat.zero_add] at hb
      dsimp only
      rw [hs.2 hb]
      (refine Back.mk ?_ ?_ rfl rfl <;> (repeat' (first | refine EndV.mk ?_ | exact trivial | exact rfl | refine And.intro ?_ ?_)))
  · have hie : i = b.postings.length := by omega
    subst hie
    have hfin : List.take b.accounts.toNat ((List.range 16).map fun t : Nat => balL (b.postings.take b.postings.length) (t : Int) m) = stmtL b m b.accounts.toNat := by
      rw [← List.map_take, List.take_range, Nat.min_eq_left (by omega), List.take_length]; rfl
    (repeat' ((conv => whnf); first | (exfalso; omega) | (refine callh [] (listO_meets _ b.accounts (by simp) (by omega) (by omega)) rfl rfl trivial ?_) | (refine end_fn [some 8] (.inr rfl) ?_ ?_ rfl rfl) | (refine end_fn [] (.inr rfl) ?_ trivial rfl rfl) | (refine split_nd (fun hb => ?_) (fun hb => ?_)) | (refine split_d (fun hb => ?_) (fun hb => ?_)) | (refine split_n (fun hb => ?_) (fun hb => ?_)) | (refine split_x (fun hb => ?_) (fun hb => ?_)) | (refine And.intro (TraceOK.mk (by kernel_rfl)) ?_) | (refine Side.mk ?_; (repeat' (first | refine And.intro ?_ ?_ | exact inR_i64 (by omega) (by omega) | omega | rfl | exact trivial | exact none_ne rfl | exact some_ne rfl (Nat.ne_of_beq_eq_false rfl) | exact Nat.ne_of_beq_eq_false rfl | (dsimp only [srcSide]; omega) | (simp; done) | (simp; omega))); done) | (refine side_and ?_ ?_) | (refine drawX_of mixed ?_)))
    · (repeat' (first | refine EndV.mk ?_ | exact trivial | exact rfl | refine And.intro ?_ ?_))
    · refine ⟨?_⟩
      exact congrArg (fun l : List Int => (HS.rows U.int l : HS Cd)) hfin.symm
    · exact trivial
theorem owedO_meets (b : Book) (s : Int) (hL : b.postings.length ≤ 1000) (hv : validB b = true) (hm : 0 ≤ s ∧ s ≤ 999) : Meets Try.prog Dc 24 [ba b, .p (.int .i64 s)] [] (.tuple [.slice 0 0 1 0 b.accounts.toNat, .p (.int .i64 0)]) [.rows U.int (owedL b.postings s b.accounts.toNat b.postings.length)] := by
  obtain ⟨bk, ho⟩ := openS_isSome hv
  have hw : (isInB b.accounts 2 16 && isInB b.closed 0 12) = true := by
    have := hv; unfold validB at this; simp only [Bool.and_eq_true] at this ⊢; exact this.2
  have hin : Meets Try.prog Dc 32 [.p (.int .i64 s), .p (.int .i64 0), .p (.int .i64 999)] [] (.p (.bool true)) [] := by
    have := isIn_meets s 0 999
    rwa [isInB_iff.2 hm] at this
  have hV := validBook_of hv
  refine meets_of_gx Ax tab_ok Try.func24 (c := _) rfl Try.call24 400 ?_
  (repeat' ((conv => whnf); first | (refine callh [] (open_some' (by omega) ho hw) rfl rfl trivial ?_) | (refine callx_pure hin rfl rfl ?_) | (refine call_in Ax tab_ok Try.func33 (c := _) rfl Try.call33 200 ?_) | (refine range_in Ax tab_ok rfl Try.func39 (c := _) rfl Try.call39 rfl rfl 300 ?_) | (refine end_fn [] (.inr rfl) ?_ trivial rfl rfl) | (refine split_nd (fun hb => ?_) (fun hb => ?_)) | (refine split_d (fun hb => ?_) (fun hb => ?_)) | (refine split_n (fun hb => ?_) (fun hb => ?_)) | (refine split_x (fun hb => ?_) (fun hb => ?_)) | (refine And.intro (TraceOK.mk (by kernel_rfl)) ?_) | (refine Side.mk ?_; (repeat' (first | refine And.intro ?_ ?_ | exact inR_i64 (by omega) (by omega) | omega | rfl | exact trivial | exact none_ne rfl | exact some_ne rfl (Nat.ne_of_beq_eq_false rfl) | exact Nat.ne_of_beq_eq_false rfl | (dsimp only [srcSide]; omega) | (simp; done) | (simp; omega))); done) | (refine side_and ?_ ?_) | (refine drawX_of mixed ?_)))
  intro gn tmps bd
  (repeat' ((conv => whnf); first | (refine end_fn [] (.inr rfl) ?_ trivial rfl rfl) | (refine split_nd (fun hb => ?_) (fun hb => ?_)) | (refine split_d (fun hb => ?_) (fun hb => ?_)) | (refine split_n (fun hb => ?_) (fun hb => ?_)) | (refine split_x (fun hb => ?_) (fun hb => ?_)) | (refine And.intro (TraceOK.mk (by kernel_rfl)) ?_) | (refine Side.mk ?_; (repeat' (first | refine And.intro ?_ ?_ | exact inR_i64 (by omega) (by omega) | omega | rfl | exact trivial | exact none_ne rfl | exact some_ne rfl (Nat.ne_of_beq_eq_false rfl) | exact Nat.ne_of_beq_eq_false rfl | (dsimp only [srcSide]; omega) | (simp; done) | (simp; omega))); done) | (refine side_and ?_ ?_) | (refine drawX_of mixed ?_)))
  refine loop_up (fun i : Nat => [(12, .p (.int .i64 i))]) (fun i => [(5, .var [.arr U.int 16 (owedL b.postings s 16 i)])]) (fun i => i ≤ b.postings.length) (fun i => b.postings.length - i) 0 (Nat.zero_le _) ⟨by (repeat' (first | refine EndV.mk ?_ | exact trivial | exact rfl | refine And.intro ?_ ?_)), by (repeat' (first | refine EndV.mk ?_ | exact trivial | exact rfl | refine And.intro ?_ ?_)), rfl, rfl⟩ ?_
  intro i hi K hK
  have hacc := hV.acc
  have hlen := hV.len
  have hbl := openS_length ho
  rcases Nat.lt_or_ge i b.postings.length with hlt | hge
  · have hF : Formed (b.postings.getD (0 + (i : Int).toNat) (Cd.dflt U.posting)) b.accounts := by rw [Nat.zero_add]; exact formed_at hV hlt
    have hOK : AddOK (owedL b.postings s 16 i) (b.postings.getD (0 + (i : Int).toNat) (Cd.dflt U.posting)) := addOK_owed hV hF s i hi
    have hbk := back_notBack ho hV i
    have hst : standsB b.postings s i = (!decide ((b.postings.getD (0 + (i : Int).toNat) (Cd.dflt U.posting)).kind = 3) && decide ((b.postings.getD (0 + (i : Int).toNat) (Cd.dflt U.posting)).subject = s) && !(bk.getD (i : Int).toNat (Cd.dflt U.bool))) := by
      rw [Nat.zero_add]
      show _ = (_ && _ && !bk.getD i false)
      rw [hbk, Bool.not_not]; rfl
    (repeat' ((conv => whnf); first | (exfalso; omega) | (refine call_in Ax tab_ok Try.func37 (c := _) rfl Try.call37 100 ?_) | (refine yield_in Ax tab_ok rfl rfl rfl 200 200 ?_) | (refine hK (i+1) ([some 0, some 1, some 2, some 3, some 4, some 5, some 6, some 7, some 8]) _ _ ?_ ?_ ?_) | (refine callh [some 5] (add_meets _ _ hOK) rfl rfl ⟨rfl, trivial⟩ ?_) | (refine end_fn [] (.inr rfl) ?_ trivial rfl rfl) | (refine split_nd (fun hb => ?_) (fun hb => ?_)) | (refine split_d (fun hb => ?_) (fun hb => ?_)) | (refine split_n (fun hb => ?_) (fun hb => ?_)) | (refine split_x (fun hb => ?_) (fun hb => ?_)) | (refine And.intro (TraceOK.mk (by kernel_rfl)) ?_) | (refine Side.mk ?_; (repeat' (first | refine And.intro ?_ ?_ | exact inR_i64 (by omega) (by omega) | omega | rfl | exact trivial | exact none_ne rfl | exact some_ne rfl (Nat.ne_of_beq_eq_false rfl) | exact Nat.ne_of_beq_eq_false rfl | (dsimp only [srcSide]; omega) | (simp; done) | (simp; omega))); done) | (refine side_and ?_ ?_) | (refine drawX_of mixed ?_)))
    all_goals (clear hK; dsimp only)
    · have hsb : standsB b.postings s i = true := by rw [hst]; simp_all
      rw [← owed16_add hV s hlt hsb]
      simp only [Nat.zero_add (Int.toNat (i : Int))]
      (refine Back.mk ?_ ?_ rfl rfl <;> (repeat' (first | refine EndV.mk ?_ | exact trivial | exact rfl | refine And.intro ?_ ?_)))
    all_goals
      have hsb : standsB b.postings s i = false := by rw [hst]; simp_all
      rw [owed16_skip b s hsb]
      (refine Back.mk ?_ ?_ rfl rfl <;> (repeat' (first | refine EndV.mk ?_ | exact trivial | exact rfl | refine And.intro ?_ ?_)))
  · have hie : i = b.postings.length := by omega
    subst hie
    have hfin : List.take b.accounts.toNat (owedL b.postings s 16 b.postings.length) = owedL b.postings s b.accounts.toNat b.postings.length := by
      unfold owedL
      rw [← List.map_take, List.take_range, Nat.min_eq_left (by omega)]
    (repeat' ((conv => whnf); first | (exfalso; omega) | (refine callh [] (listO_meets _ b.accounts (owedL_length _ _ _ _) (by omega) (by omega)) rfl rfl trivial ?_) | (refine end_fn [some 9] (.inr rfl) ?_ ?_ rfl rfl) | (refine end_fn [] (.inr rfl) ?_ trivial rfl rfl) | (refine split_nd (fun hb => ?_) (fun hb => ?_)) | (refine split_d (fun hb => ?_) (fun hb => ?_)) | (refine split_n (fun hb => ?_) (fun hb => ?_)) | (refine split_x (fun hb => ?_) (fun hb => ?_)) | (refine And.intro (TraceOK.mk (by kernel_rfl)) ?_) | (refine Side.mk ?_; (repeat' (first | refine And.intro ?_ ?_ | exact inR_i64 (by omega) (by omega) | omega | rfl | exact trivial | exact none_ne rfl | exact some_ne rfl (Nat.ne_of_beq_eq_false rfl) | exact Nat.ne_of_beq_eq_false rfl | (dsimp only [srcSide]; omega) | (simp; done) | (simp; omega))); done) | (refine side_and ?_ ?_) | (refine drawX_of mixed ?_)))
    · (repeat' (first | refine EndV.mk ?_ | exact trivial | exact rfl | refine And.intro ?_ ?_))
    · refine ⟨?_⟩
      exact congrArg (fun l : List Int => (HS.rows U.int l : HS Cd)) hfin.symm
    · exact trivial
end Go.SX

namespace Go.SX
open Go.Proofs
set_option linter.unusedSimpArgs false
set_option linter.unusedVariables false
set_option maxHeartbeats 4000000
set_option maxRecDepth 100000
theorem lawpickS (c n : Int) (hc : Side (-9223372036854775808 ≤ c ∧ c ≤ 9223372036854775807)) (hn : Side (0 < n)) : Meets Try.prog Dc 14 [.p (.int .i64 c), .p (.int .i64 n)] [] (.p (.int .i64 (pickS c n))) [] := lawpick_meets c n hc.h (by have := hn.h; omega)
theorem sameSelf (a : Book) (h : a.postings.length ≤ 1000) : Meets Try.prog Dc 13 [ba a, ba a] [] (.p (.bool true)) [] := by
  have := same_meets a a h
  rwa [decide_eq_true rfl] at this
theorem sameNil : Meets Try.prog Dc 13 [ba b0, .agg [.p (.int .i64 0), .p (.lit (.slice none 0 0)), .p (.int .i64 0)]] [] (.p (.bool true)) [] := meets_view (sameSelf b0 (by decide)) (by refine ⟨?_⟩; (repeat' (first | refine EndV.mk ?_ | exact trivial | exact rfl | refine And.intro ?_ ?_)))
theorem validT {b : Book} (h : validB b = true) : Meets Try.prog Dc 11 [ba b] [] (.p (.bool true)) [] := by
  have := valid_meets b (by have := (validBook_of h).len; omega)
  rwa [h] at this
theorem keepsSame {b c : Book} (h : Keeps b c) : Meets Try.prog Dc 26 [.p (.dsl U.posting (c.postings.take ((b.postings.length : Int)).toNat)), .p (.dsl U.posting b.postings)] [] (.p (.bool true)) [] := by
  obtain ⟨ex, e, _, _⟩ := h.ext
  have e2 : c.postings.take ((b.postings.length : Int)).toNat = b.postings := by rw [e]; simp
  rw [e2]
  have := samePostings_meets b.postings b.postings (by have := (validBook_of h.v).len; rw [e] at this; simp at this; omega)
  rwa [decide_eq_true rfl] at this
theorem keeps_meets (accounts : Int) (l more : List A5) (ha : I64 accounts) (hl : ∀ x ∈ l, A5OK x) (hL : (l.length : Int) ≤ 9223372036854775807) (hm : ∀ x ∈ more, A5OK x) (hM : (more.length : Int) ≤ 9223372036854775807) : Meets Try.prog Dc 5 [.p (.int .i64 accounts), .p (.dsl U.arr5 l), .p (.dsl U.arr5 more)] [] (.p (.bool true)) [] := by
  have hv := madeS_valid accounts l
  have hmade := made_meets accounts l ha hl hL
  generalize madeS accounts l = b0' at hv hmade
  have hvm := validT hv
  refine meets_of_gx Ax tab_ok Try.func5 (c := _) rfl Try.call5 1000 ?_
  (repeat' ((conv => whnf); first | (exfalso; omega) | (refine callx_pure (sane_meets) rfl rfl ?_) | (refine dcallx_pure (sane_meets) rfl rfl ?_) | (refine callx_pure (hmade) rfl rfl ?_) | (refine dcallx_pure (hmade) rfl rfl ?_) | (refine callx_pure (hvm) rfl rfl ?_) | (refine dcallx_pure (hvm) rfl rfl ?_) | (refine end_fn [] (.inr rfl) ?_ trivial rfl rfl) | (refine split_nd (fun hb => ?_) (fun hb => ?_)) | (refine split_d (fun hb => ?_) (fun hb => ?_)) | (refine split_n (fun hb => ?_) (fun hb => ?_)) | (refine split_x (fun hb => ?_) (fun hb => ?_)) | (refine And.intro (TraceOK.mk (by kernel_rfl)) ?_) | (refine Side.mk ?_; (repeat' (first | refine And.intro ?_ ?_ | exact inR_i64 (by omega) (by omega) | omega | rfl | exact trivial | exact none_ne rfl | exact some_ne rfl (Nat.ne_of_beq_eq_false rfl) | exact Nat.ne_of_beq_eq_false rfl | (dsimp only [srcSide]; omega) | (simp; done) | (simp; omega))); done) | (refine side_and ?_ ?_) | (refine drawX_of mixed ?_)))
  refine loop_up (fun g : Nat × Book => [(9, .p (.int .i64 g.1))]) (fun g => [(0, .var [.p (.int .i64 g.2.accounts), .p (.dsl U.posting g.2.postings), .p (.int .i64 g.2.closed)])]) (fun g => g.1 ≤ more.length ∧ g.1 ≤ 8 ∧ validB g.2 = true) (fun g => more.length - g.1) (0, b0') ⟨Nat.zero_le _, Nat.zero_le _, hv⟩ ⟨by (repeat' (first | refine EndV.mk ?_ | exact trivial | exact rfl | refine And.intro ?_ ?_)), by (repeat' (first | refine EndV.mk ?_ | exact trivial | exact rfl | refine And.intro ?_ ?_)), rfl, rfl⟩ ?_
  clear hv hmade hvm
  rintro ⟨i, b⟩ ⟨hi, hi8, hv⟩ K hK
  dsimp only at hi hi8 hv ⊢
  have hV := validBook_of hv
  have hacc := hV.acc
  have hcl := hV.closed
  have hlen := hV.len
  by_cases hc : i < more.length ∧ i < 8
  · obtain ⟨hlt, hlt8⟩ := hc
    have hx : A5OK (more.getD (i : Int).toNat (Cd.dflt U.arr5)) := hm _ (by show more.getD i arr50 ∈ more; simp [hlt])
    generalize hxe : more.getD (i : Int).toNat (Cd.dflt U.arr5) = x at hx
    have xa := hx.a.h
    have xb := hx.b.h
    have xc := hx.c.h
    have xd := hx.d.h
    have xe := hx.e.h
    have q1 := pickS_bound x.b 360 (by omega)
    have q2 := pickS_bound x.c 4 (by omega)
    have q3 := pickS_bound x.d 4 (by omega)
    have q4 := pickS_bound x.e 1000 (by omega)
    have q5 := pickS_bound x.e 6 (by omega)
    have q6 := pickS_bound x.c 30 (by omega)
    have q7 := pickS_bound x.a 4 (by omega)
    have q8 := pickS_bound x.b 13 (by omega)
    obtain ⟨p, hp⟩ : ∃ p : Posting, p = ⟨2, pickS x.b 360, pickS x.c 4, pickS x.d 4, pickS x.e 1000, pickS x.e 6, -1⟩ := ⟨_, rfl⟩
    have hpost := PostU b p (by omega)
    by_cases k2 : pickS x.a 4 = 2
    · rw [hp] at hpost
      have hd := DisputeU b (pickS x.c 30) (pickS x.b 360) (pickS x.e 1000) (by omega)
      cases hr : dispS b (pickS x.c 30) (pickS x.b 360) (pickS x.e 1000) with
      | none =>
        rw [hr] at hd
        replace hd : Meets Try.prog Dc 15 [ba b, .p (.int .i64 (pickS x.c 30)), .p (.int .i64 (pickS x.b 360)), .p (.int .i64 (pickS x.e 1000))] [] (.tuple [ba Go.SX.b0, .p (.int .i64 240)]) [] := hd
        have hz : (Go.SX.b0.postings.length : Int) = 0 := rfl
        (repeat' ((conv => whnf); first | (exfalso; omega) | (rw [hxe]) | (refine callx_pure (lawpickS _ _ ?_ ?_) rfl rfl ?_) | (refine dcallx_pure (lawpickS _ _ ?_ ?_) rfl rfl ?_) | (refine callx_pure (hpost) rfl rfl ?_) | (refine dcallx_pure (hpost) rfl rfl ?_) | (refine callx_pure (hd) rfl rfl ?_) | (refine dcallx_pure (hd) rfl rfl ?_) | (refine dcallx_pure (lawpickS _ _ ?_ ?_) rfl rfl ?_) | (refine callx_pure (sameNil) rfl rfl ?_) | (refine dcallx_pure (sameNil) rfl rfl ?_) | (refine hK (i + 1, b) ([some 0]) _ _ ?_ ?_ ?_) | (refine end_fn [] (.inr rfl) ?_ trivial rfl rfl) | (refine split_nd (fun hb => ?_) (fun hb => ?_)) | (refine split_d (fun hb => ?_) (fun hb => ?_)) | (refine split_n (fun hb => ?_) (fun hb => ?_)) | (refine split_x (fun hb => ?_) (fun hb => ?_)) | (refine And.intro (TraceOK.mk (by kernel_rfl)) ?_) | (refine Side.mk ?_; (repeat' (first | refine And.intro ?_ ?_ | exact inR_i64 (by omega) (by omega) | omega | rfl | exact trivial | exact none_ne rfl | exact some_ne rfl (Nat.ne_of_beq_eq_false rfl) | exact Nat.ne_of_beq_eq_false rfl | (dsimp only [srcSide]; omega) | (simp; done) | (simp; omega))); done) | (refine side_and ?_ ?_) | (refine drawX_of mixed ?_)))
        dsimp only
        (refine Back.mk ?_ ?_ rfl rfl <;> (repeat' (first | refine EndV.mk ?_ | exact trivial | exact rfl | refine And.intro ?_ ?_)))
      | some c =>
        have hk := dispS_keeps hr
        obtain ⟨ex, e1, e2, _⟩ := hk.ext
        have hcv := hk.v
        have hCV := validBook_of hcv
        have hcacc := hk.acc
        have hccl := hk.cl
        have hclen := hCV.len
        have hcL : (b.postings.length : Int) ≤ c.postings.length ∧ (c.postings.length : Int) ≤ b.postings.length + 2 := by rw [e1]; simp; omega
        rw [hr] at hd
        replace hd : Meets Try.prog Dc 15 [ba b, .p (.int .i64 (pickS x.c 30)), .p (.int .i64 (pickS x.b 360)), .p (.int .i64 (pickS x.e 1000))] [] (.tuple [ba c, .p (.int .i64 0)]) [] := hd
        (repeat' ((conv => whnf); first | (exfalso; omega) | (rw [hxe]) | (refine callx_pure (lawpickS _ _ ?_ ?_) rfl rfl ?_) | (refine dcallx_pure (lawpickS _ _ ?_ ?_) rfl rfl ?_) | (refine callx_pure (hpost) rfl rfl ?_) | (refine dcallx_pure (hpost) rfl rfl ?_) | (refine callx_pure (hd) rfl rfl ?_) | (refine dcallx_pure (hd) rfl rfl ?_) | (refine dcallx_pure (lawpickS _ _ ?_ ?_) rfl rfl ?_) | (refine callx_pure (validT hcv) rfl rfl ?_) | (refine dcallx_pure (validT hcv) rfl rfl ?_) | (refine callx_pure (keepsSame hk) rfl rfl ?_) | (refine dcallx_pure (keepsSame hk) rfl rfl ?_) | (refine end_fn [] (.inr rfl) ?_ trivial rfl rfl) | (refine split_nd (fun hb => ?_) (fun hb => ?_)) | (refine split_d (fun hb => ?_) (fun hb => ?_)) | (refine split_n (fun hb => ?_) (fun hb => ?_)) | (refine split_x (fun hb => ?_) (fun hb => ?_)) | (refine And.intro (TraceOK.mk (by kernel_rfl)) ?_) | (refine Side.mk ?_; (repeat' (first | refine And.intro ?_ ?_ | exact inR_i64 (by omega) (by omega) | omega | rfl | exact trivial | exact none_ne rfl | exact some_ne rfl (Nat.ne_of_beq_eq_false rfl) | exact Nat.ne_of_beq_eq_false rfl | (dsimp only [srcSide]; omega) | (simp; done) | (simp; omega))); done) | (refine side_and ?_ ?_) | (refine drawX_of mixed ?_)))
        refine loop_up (fun m : Nat => [(17, .p (.int .i64 m))]) (fun _ => []) (fun m => (m : Int) ≤ b.closed) (fun m => b.closed.toNat - m) 0 (by show ((0 : Nat) : Int) ≤ b.closed; omega) ⟨by (repeat' (first | refine EndV.mk ?_ | exact trivial | exact rfl | refine And.intro ?_ ?_)), by (repeat' (first | refine EndV.mk ?_ | exact trivial | exact rfl | refine And.intro ?_ ?_)), rfl, rfl⟩ ?_
        intro m hm' K2 hK2
        by_cases hmc : (m : Int) < b.closed
        · have hs1 := StatementU b m (by omega)
          have hs2 := StatementU c m (by omega)
          rw [stmtS_some hv (by omega)] at hs1
          rw [stmtS_some hcv (by omega), keeps_stmt hk (by omega) hmc, hcacc] at hs2
          replace hs1 : Meets Try.prog Dc 19 [ba b, .p (.int .i64 (m : Int))] [] (.tuple [.p (.dsl U.int (stmtL b m b.accounts.toNat)), .p (.int .i64 0)]) [] := hs1
          replace hs2 : Meets Try.prog Dc 19 [ba c, .p (.int .i64 (m : Int))] [] (.tuple [.p (.dsl U.int (stmtL b m b.accounts.toNat)), .p (.int .i64 0)]) [] := hs2
          have hin := saneInts (stmtL b m b.accounts.toNat) (ints_meets _ _ (by simp [stmtL]; omega))
          (repeat' ((conv => whnf); first | (exfalso; omega) | (refine callx_pure (hs1) rfl rfl ?_) | (refine dcallx_pure (hs1) rfl rfl ?_) | (refine callx_pure (hs2) rfl rfl ?_) | (refine dcallx_pure (hs2) rfl rfl ?_) | (refine callx_pure (hin) rfl rfl ?_) | (refine dcallx_pure (hin) rfl rfl ?_) | (refine hK2 (m + 1) ([some 0, some 1, some 2, some 3]) _ _ ?_ ?_ ?_) | (refine end_fn [] (.inr rfl) ?_ trivial rfl rfl) | (refine split_nd (fun hb => ?_) (fun hb => ?_)) | (refine split_d (fun hb => ?_) (fun hb => ?_)) | (refine split_n (fun hb => ?_) (fun hb => ?_)) | (refine split_x (fun hb => ?_) (fun hb => ?_)) | (refine And.intro (TraceOK.mk (by kernel_rfl)) ?_) | (refine Side.mk ?_; (repeat' (first | refine And.intro ?_ ?_ | exact inR_i64 (by omega) (by omega) | omega | rfl | exact trivial | exact none_ne rfl | exact some_ne rfl (Nat.ne_of_beq_eq_false rfl) | exact Nat.ne_of_beq_eq_false rfl | (dsimp only [srcSide]; omega) | (simp; done) | (simp; omega))); done) | (refine side_and ?_ ?_) | (refine drawX_of mixed ?_)))
          dsimp only
          (refine Back.mk ?_ ?_ rfl rfl <;> (repeat' (first | refine EndV.mk ?_ | exact trivial | exact rfl | refine And.intro ?_ ?_)))
        · (repeat' ((conv => whnf); first | (exfalso; omega) | (refine hK (i + 1, c) ([some 0]) _ _ ?_ ?_ ?_) | (refine end_fn [] (.inr rfl) ?_ trivial rfl rfl) | (refine split_nd (fun hb => ?_) (fun hb => ?_)) | (refine split_d (fun hb => ?_) (fun hb => ?_)) | (refine split_n (fun hb => ?_) (fun hb => ?_)) | (refine split_x (fun hb => ?_) (fun hb => ?_)) | (refine And.intro (TraceOK.mk (by kernel_rfl)) ?_) | (refine Side.mk ?_; (repeat' (first | refine And.intro ?_ ?_ | exact inR_i64 (by omega) (by omega) | omega | rfl | exact trivial | exact none_ne rfl | exact some_ne rfl (Nat.ne_of_beq_eq_false rfl) | exact Nat.ne_of_beq_eq_false rfl | (dsimp only [srcSide]; omega) | (simp; done) | (simp; omega))); done) | (refine side_and ?_ ?_) | (refine drawX_of mixed ?_)))
          dsimp only
          (refine Back.mk ?_ ?_ rfl rfl <;> (repeat' (first | refine EndV.mk ?_ | exact trivial | exact rfl | refine And.intro ?_ ?_)))
    by_cases k3 : pickS x.a 4 = 3
    · rw [hp] at hpost
      have hd := CloseU b (pickS x.b 13) (by omega)
      cases hr : closeS b (pickS x.b 13) with
      | none =>
        rw [hr] at hd
        replace hd : Meets Try.prog Dc 17 [ba b, .p (.int .i64 (pickS x.b 13))] [] (.tuple [ba Go.SX.b0, .p (.int .i64 240)]) [] := hd
        have hz : (Go.SX.b0.postings.length : Int) = 0 := rfl
        (repeat' ((conv => whnf); first | (exfalso; omega) | (rw [hxe]) | (refine callx_pure (lawpickS _ _ ?_ ?_) rfl rfl ?_) | (refine dcallx_pure (lawpickS _ _ ?_ ?_) rfl rfl ?_) | (refine callx_pure (hpost) rfl rfl ?_) | (refine dcallx_pure (hpost) rfl rfl ?_) | (refine callx_pure (hd) rfl rfl ?_) | (refine dcallx_pure (hd) rfl rfl ?_) | (refine dcallx_pure (lawpickS _ _ ?_ ?_) rfl rfl ?_) | (refine callx_pure (sameNil) rfl rfl ?_) | (refine dcallx_pure (sameNil) rfl rfl ?_) | (refine hK (i + 1, b) ([some 0]) _ _ ?_ ?_ ?_) | (refine end_fn [] (.inr rfl) ?_ trivial rfl rfl) | (refine split_nd (fun hb => ?_) (fun hb => ?_)) | (refine split_d (fun hb => ?_) (fun hb => ?_)) | (refine split_n (fun hb => ?_) (fun hb => ?_)) | (refine split_x (fun hb => ?_) (fun hb => ?_)) | (refine And.intro (TraceOK.mk (by kernel_rfl)) ?_) | (refine Side.mk ?_; (repeat' (first | refine And.intro ?_ ?_ | exact inR_i64 (by omega) (by omega) | omega | rfl | exact trivial | exact none_ne rfl | exact some_ne rfl (Nat.ne_of_beq_eq_false rfl) | exact Nat.ne_of_beq_eq_false rfl | (dsimp only [srcSide]; omega) | (simp; done) | (simp; omega))); done) | (refine side_and ?_ ?_) | (refine drawX_of mixed ?_)))
        dsimp only
        (refine Back.mk ?_ ?_ rfl rfl <;> (repeat' (first | refine EndV.mk ?_ | exact trivial | exact rfl | refine And.intro ?_ ?_)))
      | some c =>
        obtain ⟨hk, e1⟩ := closeS_keeps hr
        have hcv := hk.v
        have hCV := validBook_of hcv
        have hcacc := hk.acc
        have hccl := hk.cl
        have hclen := hCV.len
        have hcL : (c.postings.length : Int) = b.postings.length := by rw [e1]
        rw [hr] at hd
        replace hd : Meets Try.prog Dc 17 [ba b, .p (.int .i64 (pickS x.b 13))] [] (.tuple [ba c, .p (.int .i64 0)]) [] := hd
        (repeat' ((conv => whnf); first | (exfalso; omega) | (rw [hxe]) | (refine callx_pure (lawpickS _ _ ?_ ?_) rfl rfl ?_) | (refine dcallx_pure (lawpickS _ _ ?_ ?_) rfl rfl ?_) | (refine callx_pure (hpost) rfl rfl ?_) | (refine dcallx_pure (hpost) rfl rfl ?_) | (refine callx_pure (hd) rfl rfl ?_) | (refine dcallx_pure (hd) rfl rfl ?_) | (refine dcallx_pure (lawpickS _ _ ?_ ?_) rfl rfl ?_) | (refine callx_pure (validT hcv) rfl rfl ?_) | (refine dcallx_pure (validT hcv) rfl rfl ?_) | (refine callx_pure (keepsSame hk) rfl rfl ?_) | (refine dcallx_pure (keepsSame hk) rfl rfl ?_) | (refine end_fn [] (.inr rfl) ?_ trivial rfl rfl) | (refine split_nd (fun hb => ?_) (fun hb => ?_)) | (refine split_d (fun hb => ?_) (fun hb => ?_)) | (refine split_n (fun hb => ?_) (fun hb => ?_)) | (refine split_x (fun hb => ?_) (fun hb => ?_)) | (refine And.intro (TraceOK.mk (by kernel_rfl)) ?_) | (refine Side.mk ?_; (repeat' (first | refine And.intro ?_ ?_ | exact inR_i64 (by omega) (by omega) | omega | rfl | exact trivial | exact none_ne rfl | exact some_ne rfl (Nat.ne_of_beq_eq_false rfl) | exact Nat.ne_of_beq_eq_false rfl | (dsimp only [srcSide]; omega) | (simp; done) | (simp; omega))); done) | (refine side_and ?_ ?_) | (refine drawX_of mixed ?_)))
        refine loop_up (fun m : Nat => [(17, .p (.int .i64 m))]) (fun _ => []) (fun m => (m : Int) ≤ b.closed) (fun m => b.closed.toNat - m) 0 (by show ((0 : Nat) : Int) ≤ b.closed; omega) ⟨by (repeat' (first | refine EndV.mk ?_ | exact trivial | exact rfl | refine And.intro ?_ ?_)), by (repeat' (first | refine EndV.mk ?_ | exact trivial | exact rfl | refine And.intro ?_ ?_)), rfl, rfl⟩ ?_
        intro m hm' K2 hK2
        by_cases hmc : (m : Int) < b.closed
        · have hs1 := StatementU b m (by omega)
          have hs2 := StatementU c m (by omega)
          rw [stmtS_some hv (by omega)] at hs1
          rw [stmtS_some hcv (by omega), keeps_stmt hk (by omega) hmc, hcacc] at hs2
          replace hs1 : Meets Try.prog Dc 19 [ba b, .p (.int .i64 (m : Int))] [] (.tuple [.p (.dsl U.int (stmtL b m b.accounts.toNat)), .p (.int .i64 0)]) [] := hs1
          replace hs2 : Meets Try.prog Dc 19 [ba c, .p (.int .i64 (m : Int))] [] (.tuple [.p (.dsl U.int (stmtL b m b.accounts.toNat)), .p (.int .i64 0)]) [] := hs2
          have hin := saneInts (stmtL b m b.accounts.toNat) (ints_meets _ _ (by simp [stmtL]; omega))
          (repeat' ((conv => whnf); first | (exfalso; omega) | (refine callx_pure (hs1) rfl rfl ?_) | (refine dcallx_pure (hs1) rfl rfl ?_) | (refine callx_pure (hs2) rfl rfl ?_) | (refine dcallx_pure (hs2) rfl rfl ?_) | (refine callx_pure (hin) rfl rfl ?_) | (refine dcallx_pure (hin) rfl rfl ?_) | (refine hK2 (m + 1) ([some 0, some 1, some 2, some 3]) _ _ ?_ ?_ ?_) | (refine end_fn [] (.inr rfl) ?_ trivial rfl rfl) | (refine split_nd (fun hb => ?_) (fun hb => ?_)) | (refine split_d (fun hb => ?_) (fun hb => ?_)) | (refine split_n (fun hb => ?_) (fun hb => ?_)) | (refine split_x (fun hb => ?_) (fun hb => ?_)) | (refine And.intro (TraceOK.mk (by kernel_rfl)) ?_) | (refine Side.mk ?_; (repeat' (first | refine And.intro ?_ ?_ | exact inR_i64 (by omega) (by omega) | omega | rfl | exact trivial | exact none_ne rfl | exact some_ne rfl (Nat.ne_of_beq_eq_false rfl) | exact Nat.ne_of_beq_eq_false rfl | (dsimp only [srcSide]; omega) | (simp; done) | (simp; omega))); done) | (refine side_and ?_ ?_) | (refine drawX_of mixed ?_)))
          dsimp only
          (refine Back.mk ?_ ?_ rfl rfl <;> (repeat' (first | refine EndV.mk ?_ | exact trivial | exact rfl | refine And.intro ?_ ?_)))
        · (repeat' ((conv => whnf); first | (exfalso; omega) | (refine hK (i + 1, c) ([some 0]) _ _ ?_ ?_ ?_) | (refine end_fn [] (.inr rfl) ?_ trivial rfl rfl) | (refine split_nd (fun hb => ?_) (fun hb => ?_)) | (refine split_d (fun hb => ?_) (fun hb => ?_)) | (refine split_n (fun hb => ?_) (fun hb => ?_)) | (refine split_x (fun hb => ?_) (fun hb => ?_)) | (refine And.intro (TraceOK.mk (by kernel_rfl)) ?_) | (refine Side.mk ?_; (repeat' (first | refine And.intro ?_ ?_ | exact inR_i64 (by omega) (by omega) | omega | rfl | exact trivial | exact none_ne rfl | exact some_ne rfl (Nat.ne_of_beq_eq_false rfl) | exact Nat.ne_of_beq_eq_false rfl | (dsimp only [srcSide]; omega) | (simp; done) | (simp; omega))); done) | (refine side_and ?_ ?_) | (refine drawX_of mixed ?_)))
          dsimp only
          (refine Back.mk ?_ ?_ rfl rfl <;> (repeat' (first | refine EndV.mk ?_ | exact trivial | exact rfl | refine And.intro ?_ ?_)))
    cases hr : postS b p with
    | none =>
      rw [hr, hp] at hpost
      replace hpost : Meets Try.prog Dc 9 [ba b, pa ⟨2, pickS x.b 360, pickS x.c 4, pickS x.d 4, pickS x.e 1000, pickS x.e 6, -1⟩] [] (.tuple [ba Go.SX.b0, .p (.int .i64 0), .p (.int .i64 240)]) [] := hpost
      have hz : (Go.SX.b0.postings.length : Int) = 0 := rfl
      (repeat' ((conv => whnf); first | (exfalso; omega) | (rw [hxe]) | (refine callx_pure (lawpickS _ _ ?_ ?_) rfl rfl ?_) | (refine dcallx_pure (lawpickS _ _ ?_ ?_) rfl rfl ?_) | (refine callx_pure (hpost) rfl rfl ?_) | (refine dcallx_pure (hpost) rfl rfl ?_) | (refine callx_pure (sameNil) rfl rfl ?_) | (refine dcallx_pure (sameNil) rfl rfl ?_) | (refine hK (i + 1, b) ([some 0]) _ _ ?_ ?_ ?_) | (refine end_fn [] (.inr rfl) ?_ trivial rfl rfl) | (refine split_nd (fun hb => ?_) (fun hb => ?_)) | (refine split_d (fun hb => ?_) (fun hb => ?_)) | (refine split_n (fun hb => ?_) (fun hb => ?_)) | (refine split_x (fun hb => ?_) (fun hb => ?_)) | (refine And.intro (TraceOK.mk (by kernel_rfl)) ?_) | (refine Side.mk ?_; (repeat' (first | refine And.intro ?_ ?_ | exact inR_i64 (by omega) (by omega) | omega | rfl | exact trivial | exact none_ne rfl | exact some_ne rfl (Nat.ne_of_beq_eq_false rfl) | exact Nat.ne_of_beq_eq_false rfl | (dsimp only [srcSide]; omega) | (simp; done) | (simp; omega))); done) | (refine side_and ?_ ?_) | (refine drawX_of mixed ?_)))
      dsimp only
      (refine Back.mk ?_ ?_ rfl rfl <;> (repeat' (first | refine EndV.mk ?_ | exact trivial | exact rfl | refine And.intro ?_ ?_)))
    | some c =>
      obtain ⟨hk, e1, e2, e3⟩ := postS_keeps hr
      have hcv := hk.v
      have hCV := validBook_of hcv
      have hcacc := hk.acc
      have hccl := hk.cl
      have hclen := hCV.len
      have hcL : (c.postings.length : Int) = b.postings.length + 1 := by rw [e1]; simp
      rw [hr, hp] at hpost
      replace hpost : Meets Try.prog Dc 9 [ba b, pa ⟨2, pickS x.b 360, pickS x.c 4, pickS x.d 4, pickS x.e 1000, pickS x.e 6, -1⟩] [] (.tuple [ba c, .p (.int .i64 b.postings.length), .p (.int .i64 0)]) [] := hpost
      (repeat' ((conv => whnf); first | (exfalso; omega) | (rw [hxe]) | (refine callx_pure (lawpickS _ _ ?_ ?_) rfl rfl ?_) | (refine dcallx_pure (lawpickS _ _ ?_ ?_) rfl rfl ?_) | (refine callx_pure (hpost) rfl rfl ?_) | (refine dcallx_pure (hpost) rfl rfl ?_) | (refine callx_pure (validT hcv) rfl rfl ?_) | (refine dcallx_pure (validT hcv) rfl rfl ?_) | (refine callx_pure (keepsSame hk) rfl rfl ?_) | (refine dcallx_pure (keepsSame hk) rfl rfl ?_) | (refine end_fn [] (.inr rfl) ?_ trivial rfl rfl) | (refine split_nd (fun hb => ?_) (fun hb => ?_)) | (refine split_d (fun hb => ?_) (fun hb => ?_)) | (refine split_n (fun hb => ?_) (fun hb => ?_)) | (refine split_x (fun hb => ?_) (fun hb => ?_)) | (refine And.intro (TraceOK.mk (by kernel_rfl)) ?_) | (refine Side.mk ?_; (repeat' (first | refine And.intro ?_ ?_ | exact inR_i64 (by omega) (by omega) | omega | rfl | exact trivial | exact none_ne rfl | exact some_ne rfl (Nat.ne_of_beq_eq_false rfl) | exact Nat.ne_of_beq_eq_false rfl | (dsimp only [srcSide]; omega) | (simp; done) | (simp; omega))); done) | (refine side_and ?_ ?_) | (refine drawX_of mixed ?_)))
      refine loop_up (fun m : Nat => [(17, .p (.int .i64 m))]) (fun _ => []) (fun m => (m : Int) ≤ b.closed) (fun m => b.closed.toNat - m) 0 (by show ((0 : Nat) : Int) ≤ b.closed; omega) ⟨by (repeat' (first | refine EndV.mk ?_ | exact trivial | exact rfl | refine And.intro ?_ ?_)), by (repeat' (first | refine EndV.mk ?_ | exact trivial | exact rfl | refine And.intro ?_ ?_)), rfl, rfl⟩ ?_
      intro m hm' K2 hK2
      by_cases hmc : (m : Int) < b.closed
      · have hs1 := StatementU b m (by omega)
        have hs2 := StatementU c m (by omega)
        rw [stmtS_some hv (by omega)] at hs1
        rw [stmtS_some hcv (by omega), keeps_stmt hk (by omega) hmc, hcacc] at hs2
        replace hs1 : Meets Try.prog Dc 19 [ba b, .p (.int .i64 (m : Int))] [] (.tuple [.p (.dsl U.int (stmtL b m b.accounts.toNat)), .p (.int .i64 0)]) [] := hs1
        replace hs2 : Meets Try.prog Dc 19 [ba c, .p (.int .i64 (m : Int))] [] (.tuple [.p (.dsl U.int (stmtL b m b.accounts.toNat)), .p (.int .i64 0)]) [] := hs2
        have hin := saneInts (stmtL b m b.accounts.toNat) (ints_meets _ _ (by simp [stmtL]; omega))
        (repeat' ((conv => whnf); first | (exfalso; omega) | (refine callx_pure (hs1) rfl rfl ?_) | (refine dcallx_pure (hs1) rfl rfl ?_) | (refine callx_pure (hs2) rfl rfl ?_) | (refine dcallx_pure (hs2) rfl rfl ?_) | (refine callx_pure (hin) rfl rfl ?_) | (refine dcallx_pure (hin) rfl rfl ?_) | (refine hK2 (m + 1) ([some 0, some 1, some 2, some 3]) _ _ ?_ ?_ ?_) | (refine end_fn [] (.inr rfl) ?_ trivial rfl rfl) | (refine split_nd (fun hb => ?_) (fun hb => ?_)) | (refine split_d (fun hb => ?_) (fun hb => ?_)) | (refine split_n (fun hb => ?_) (fun hb => ?_)) | (refine split_x (fun hb => ?_) (fun hb => ?_)) | (refine And.intro (TraceOK.mk (by kernel_rfl)) ?_) | (refine Side.mk ?_; (repeat' (first | refine And.intro ?_ ?_ | exact inR_i64 (by omega) (by omega) | omega | rfl | exact trivial | exact none_ne rfl | exact some_ne rfl (Nat.ne_of_beq_eq_false rfl) | exact Nat.ne_of_beq_eq_false rfl | (dsimp only [srcSide]; omega) | (simp; done) | (simp; omega))); done) | (refine side_and ?_ ?_) | (refine drawX_of mixed ?_)))
        dsimp only
        (refine Back.mk ?_ ?_ rfl rfl <;> (repeat' (first | refine EndV.mk ?_ | exact trivial | exact rfl | refine And.intro ?_ ?_)))
      · (repeat' ((conv => whnf); first | (exfalso; omega) | (refine hK (i + 1, c) ([some 0]) _ _ ?_ ?_ ?_) | (refine end_fn [] (.inr rfl) ?_ trivial rfl rfl) | (refine split_nd (fun hb => ?_) (fun hb => ?_)) | (refine split_d (fun hb => ?_) (fun hb => ?_)) | (refine split_n (fun hb => ?_) (fun hb => ?_)) | (refine split_x (fun hb => ?_) (fun hb => ?_)) | (refine And.intro (TraceOK.mk (by kernel_rfl)) ?_) | (refine Side.mk ?_; (repeat' (first | refine And.intro ?_ ?_ | exact inR_i64 (by omega) (by omega) | omega | rfl | exact trivial | exact none_ne rfl | exact some_ne rfl (Nat.ne_of_beq_eq_false rfl) | exact Nat.ne_of_beq_eq_false rfl | (dsimp only [srcSide]; omega) | (simp; done) | (simp; omega))); done) | (refine side_and ?_ ?_) | (refine drawX_of mixed ?_)))
        dsimp only
        (refine Back.mk ?_ ?_ rfl rfl <;> (repeat' (first | refine EndV.mk ?_ | exact trivial | exact rfl | refine And.intro ?_ ?_)))
  · (repeat' ((conv => whnf); first | (exfalso; omega) | (refine end_fn [] (.inr rfl) ?_ trivial rfl rfl) | (refine split_nd (fun hb => ?_) (fun hb => ?_)) | (refine split_d (fun hb => ?_) (fun hb => ?_)) | (refine split_n (fun hb => ?_) (fun hb => ?_)) | (refine split_x (fun hb => ?_) (fun hb => ?_)) | (refine And.intro (TraceOK.mk (by kernel_rfl)) ?_) | (refine Side.mk ?_; (repeat' (first | refine And.intro ?_ ?_ | exact inR_i64 (by omega) (by omega) | omega | rfl | exact trivial | exact none_ne rfl | exact some_ne rfl (Nat.ne_of_beq_eq_false rfl) | exact Nat.ne_of_beq_eq_false rfl | (dsimp only [srcSide]; omega) | (simp; done) | (simp; omega))); done) | (refine side_and ?_ ?_) | (refine drawX_of mixed ?_)))
    all_goals (repeat' (first | refine EndV.mk ?_ | exact trivial | exact rfl | refine And.intro ?_ ?_))
end Go.SX
