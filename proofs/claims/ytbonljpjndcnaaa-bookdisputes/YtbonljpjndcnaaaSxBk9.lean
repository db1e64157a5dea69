/-
  Walks: Bk9, Bl0, Bl1: what single functions of the program compute.
-/
import Derived.Test.YtbonljpjndcnaaaSxBk6
set_option linter.unusedVariables false
namespace Go.SX
open Go.Proofs
set_option linter.unusedSimpArgs false
set_option maxHeartbeats 4000000
set_option maxRecDepth 100000
theorem take_eq_succ {α : Type} (xs ys : List α) (d : α) (i : Nat) (hi : i < xs.length) (hy : i < ys.length) (h : xs.take i = ys.take i) (e : xs.getD i d = ys.getD i d) : xs.take (i + 1) = ys.take (i + 1) := by
  have e' : xs[i] = ys[i] := by simpa [hi, hy] using e
  rw [List.take_add_one, List.take_add_one, h, List.getElem?_eq_getElem hi, List.getElem?_eq_getElem hy, e']
theorem samePostings_meets (xs ys : List Posting) (hx : (xs.length : Int) < 9223372036854775807) : Meets Try.prog Dc 26 [.p (.dsl U.posting xs), .p (.dsl U.posting ys)] [] (.p (.bool (decide (xs = ys)))) [] := by
  refine meets_of_gx Ax tab_ok Try.func26 (c := _) rfl Try.call26 200 ?_
  (repeat' ((conv => whnf); first | (refine end_fn [] (.inr rfl) ?_ trivial rfl rfl) | (refine loop_inv (fun i : Nat => [(5, .p (.int .i64 i))]) (fun _ => []) (fun i => i ≤ xs.length ∧ xs.take i = ys.take i) (fun i => xs.length - i) 0 ⟨Nat.zero_le _, rfl⟩ [] ?_ ?_) | (refine end_fn [] (.inr rfl) ?_ trivial rfl rfl) | (refine split_nd (fun hb => ?_) (fun hb => ?_)) | (refine split_d (fun hb => ?_) (fun hb => ?_)) | (refine split_n (fun hb => ?_) (fun hb => ?_)) | (refine split_x (fun hb => ?_) (fun hb => ?_)) | (refine And.intro (TraceOK.mk (by kernel_rfl)) ?_) | (refine Side.mk ?_; (repeat' (first | refine And.intro ?_ ?_ | exact inR_i64 (by omega) (by omega) | omega | rfl | exact trivial | exact none_ne rfl | exact some_ne rfl (Nat.ne_of_beq_eq_false rfl) | exact Nat.ne_of_beq_eq_false rfl | (dsimp only [srcSide]; omega) | (simp; done) | (simp; omega))); done) | (refine side_and ?_ ?_) | (refine drawX_of mixed ?_)))
  · have : ¬ xs = ys := fun e => by subst e; exact hb rfl
    rw [decide_eq_false this]; (repeat' (first | refine EndV.mk ?_ | exact trivial | exact rfl | refine And.intro ?_ ?_))
  · exact ⟨by (repeat' (first | refine EndV.mk ?_ | exact trivial | exact rfl | refine And.intro ?_ ?_)), trivial, rfl, rfl⟩
  rintro i ⟨hi, htk⟩ K hK
  (repeat' ((conv => whnf); first | (refine end_fn [] (.inr rfl) ?_ trivial rfl rfl) | (refine hK (i+1) [] _ _ ?_ ?_ ?_) | (refine split_en (eqB_posting _ _) (fun hb => ?_) (fun hb => ?_)) | (refine end_fn [] (.inr rfl) ?_ trivial rfl rfl) | (refine split_nd (fun hb => ?_) (fun hb => ?_)) | (refine split_d (fun hb => ?_) (fun hb => ?_)) | (refine split_n (fun hb => ?_) (fun hb => ?_)) | (refine split_x (fun hb => ?_) (fun hb => ?_)) | (refine And.intro (TraceOK.mk (by kernel_rfl)) ?_) | (refine Side.mk ?_; (repeat' (first | refine And.intro ?_ ?_ | exact inR_i64 (by omega) (by omega) | omega | rfl | exact trivial | exact none_ne rfl | exact some_ne rfl (Nat.ne_of_beq_eq_false rfl) | exact Nat.ne_of_beq_eq_false rfl | (dsimp only [srcSide]; omega) | (simp; done) | (simp; omega))); done) | (refine side_and ?_ ?_) | (refine drawX_of mixed ?_)))
  · have : ¬ xs = ys := fun e => by subst e; exact hb rfl
    rw [decide_eq_false this]; (repeat' (first | refine EndV.mk ?_ | exact trivial | exact rfl | refine And.intro ?_ ?_))
  · exact ⟨⟨by omega, take_eq_succ xs ys posting0 i (by omega) (by omega) htk hb⟩⟩
  · exact ⟨by (repeat' (first | refine EndV.mk ?_ | exact trivial | exact rfl | refine And.intro ?_ ?_)), trivial, rfl, rfl⟩
  · have hie : i = xs.length := by omega
    have : xs = ys := by
      rw [hie, List.take_length, show xs.length = ys.length by omega, List.take_length] at htk
      exact htk
    rw [decide_eq_true this]; (repeat' (first | refine EndV.mk ?_ | exact trivial | exact rfl | refine And.intro ?_ ?_))
end Go.SX

namespace Go.SX
open Go.Proofs
set_option linter.unusedSimpArgs false
set_option maxHeartbeats 4000000
set_option maxRecDepth 100000
theorem getD_take {α : Type} (xs : List α) (i j : Nat) (d : α) (h : j < i) : (xs.take i).getD j d = xs.getD j d := by
  simp [List.getD_eq_getElem?_getD, List.getElem?_take, h]
theorem takesB_at (acc : Int) (xs : List Posting) (bk : List Bool) (i : Nat) (q : Posting) (hi : i < xs.length) (h200 : xs.length ≤ 200) : takesB acc (xs.take i) bk q =
    (isFormedB q acc && !(decide (0 < (i : Int)) && decide (q.day < (xs.getD ((i : Int) - 1).toNat posting0).day)) && (!decide (q.kind = 3) || !(decide ((i : Int) ≤ q.of_) || bk.getD q.of_.toNat false || !isBackB q (xs.getD q.of_.toNat posting0)))) := by
  have hl : (xs.take i).length = i := by simp; omega
  have h1 : ¬ (200 : Int) ≤ (i : Int) := by omega
  have h2 : lateB (xs.take i) q = (decide (0 < (i : Int)) && decide (q.day < (xs.getD ((i : Int) - 1).toNat posting0).day)) := by
    unfold lateB
    rw [hl]
    by_cases h0 : 0 < (i : Int)
    · rw [getD_take _ _ _ _ (by omega)]
    · rw [decide_eq_false h0]; rfl
  unfold takesB
  rw [h2, hl, decide_eq_false h1]
  by_cases hf : isFormedB q acc = true
  · cases hlt : (decide (0 < (i : Int)) && decide (q.day < (xs.getD ((i : Int) - 1).toNat posting0).day)) with
    | true => simp [hf]
    | false =>
      by_cases hk : q.kind = 3
      · obtain ⟨o1, o2⟩ := of_bounds (p := q) (acc := acc) (by simp [hf]) hk
        by_cases ho : (i : Int) ≤ q.of_
        · simp [hf, hk, ho]
        · rw [getD_take _ _ _ _ (by omega)]; simp [hf, hk]
      · simp [hf, hk]
  · simp [hf]
theorem bkRun_stop {b : Book} {i : Nat} {bk : List Bool} (hrun : bkRun b.accounts (b.postings.take i) bk (b.postings.drop i) = openS b) (hi : i < b.postings.length)
    (ht : takesB b.accounts (b.postings.take i) bk (b.postings.getD i posting0) = false) : openS b = none := by
  have hcons : b.postings.drop i = b.postings.getD i posting0 :: b.postings.drop (i + 1) := by rw [List.drop_eq_getElem_cons hi]; simp [hi]
  rw [hcons, bkRun, ht, if_neg (by simp)] at hrun
  exact hrun.symm
theorem bkRun_step {b : Book} {i : Nat} {bk : List Bool} (hrun : bkRun b.accounts (b.postings.take i) bk (b.postings.drop i) = openS b) (hi : i < b.postings.length)
    (ht : takesB b.accounts (b.postings.take i) bk (b.postings.getD i posting0) = true) : bkRun b.accounts (b.postings.take (i + 1)) (newBk bk (b.postings.getD i posting0)) (b.postings.drop (i + 1)) = openS b := by
  have hcons : b.postings.drop i = b.postings.getD i posting0 :: b.postings.drop (i + 1) := by rw [List.drop_eq_getElem_cons hi]; simp [hi]
  have htake : b.postings.take i ++ [b.postings.getD i posting0] = b.postings.take (i + 1) := by rw [List.take_add_one]; simp [hi]
  rw [hcons, bkRun, ht, if_pos rfl, htake] at hrun
  exact hrun
theorem validB_none {b : Book} (h : openS b = none) : validB b = false := by simp [validB, h]
theorem bkRun_long {acc : Int} : ∀ (r done : List Posting) (bk : List Bool), (200 : Int) < (done.length + r.length : Nat) → (done.length : Int) ≤ 200 → bkRun acc done bk r = none
  | [], done, bk, h, h' => by simp at h; omega
  | p :: r, done, bk, h, h' => by
    simp only [bkRun]
    split
    · rename_i ht
      refine bkRun_long r _ _ (by simp at h ⊢; omega) ?_
      by_cases h2 : (200 : Int) ≤ done.length
      · unfold takesB at ht; simp [h2] at ht
      · simp; omega
    · rfl
theorem formed_kind {p : Posting} {acc : Int} (h : isFormedB p acc = true) (h1 : ¬ p.kind = 1) (h2 : ¬ p.kind = 2) : p.kind = 3 ∧ 0 ≤ p.of_ ∧ p.of_ ≤ 199 := by
  have hk : p.kind = 3 := by
    unfold isFormedB at h
    split at h
    · simp [h1, h2] at h; exact h.1
    · cases h
  exact ⟨hk, of_bounds (acc := acc) (by simp [h]) hk⟩
theorem refV_stop {b : Book} {i : Nat} {bk : List Bool} (hrun : bkRun b.accounts (b.postings.take i) bk (b.postings.drop i) = openS b) (hi : i < b.postings.length)
    (ht : takesB b.accounts (b.postings.take i) bk (b.postings.getD i posting0) = false) : (PV.bool false : PV Cd) = PV.bool (validB b) := by
  rw [validB_none (bkRun_stop hrun hi ht)]
theorem refV_step {b : Book} {i : Nat} {bk : List Bool} (hrun : bkRun b.accounts (b.postings.take i) bk (b.postings.drop i) = openS b) (hbk : bk.length = 200) (hi : i < b.postings.length)
    (ht : takesB b.accounts (b.postings.take i) bk (b.postings.getD i posting0) = true) :
    Side (i + 1 ≤ b.postings.length ∧ (newBk bk (b.postings.getD i posting0)).length = 200 ∧ bkRun b.accounts (b.postings.take (i + 1)) (newBk bk (b.postings.getD i posting0)) (b.postings.drop (i + 1)) = openS b) :=
  ⟨hi, by rw [newBk_length]; exact hbk, bkRun_step hrun hi ht⟩
theorem refValid_meets (b : Book) (hL : (b.postings.length : Int) < 9223372036854775807) : Meets Try.prog Dc 12 [ba b] [] (.p (.bool (validB b))) [] := by
  refine meets_of_gx Ax tab_ok Try.func12 (c := _) rfl Try.call12 400 ?_
  (repeat' ((conv => whnf); first | (refine end_fn [] (.inr rfl) ?_ trivial rfl rfl) | (refine callx_pure (in_meets _ _ _) rfl rfl ?_) | (refine loop_inv (fun g : Nat × List Bool => [(4, .p (.int .i64 g.1))]) (fun g => [.var [.p (.int .i64 b.accounts), .p (.dsl U.posting b.postings), .p (.int .i64 b.closed)], .rows U.bool (g.2.take b.postings.length)]) (fun g => g.1 ≤ b.postings.length ∧ g.2.length = 200 ∧ bkRun b.accounts (b.postings.take g.1) g.2 (b.postings.drop g.1) = openS b) (fun g => b.postings.length - g.1) (0, bk0) ⟨Nat.zero_le _, List.length_replicate, rfl⟩ [some 0, some 1] ?_ ?_) | (refine end_fn [] (.inr rfl) ?_ trivial rfl rfl) | (refine split_nd (fun hb => ?_) (fun hb => ?_)) | (refine split_d (fun hb => ?_) (fun hb => ?_)) | (refine split_n (fun hb => ?_) (fun hb => ?_)) | (refine split_x (fun hb => ?_) (fun hb => ?_)) | (refine And.intro (TraceOK.mk (by kernel_rfl)) ?_) | (refine Side.mk ?_; (repeat' (first | refine And.intro ?_ ?_ | exact inR_i64 (by omega) (by omega) | omega | rfl | exact trivial | exact none_ne rfl | exact some_ne rfl (Nat.ne_of_beq_eq_false rfl) | exact Nat.ne_of_beq_eq_false rfl | (dsimp only [srcSide]; omega) | (simp; done) | (simp; omega))); done) | (refine side_and ?_ ?_) | (refine drawX_of mixed ?_)))
  · rw [show validB b = false by simp [validB, hb]]; (repeat' (first | refine EndV.mk ?_ | exact trivial | exact rfl | refine And.intro ?_ ?_))
  · rw [show validB b = false by simp [validB, hb]]; (repeat' (first | refine EndV.mk ?_ | exact trivial | exact rfl | refine And.intro ?_ ?_))
  · have h200 : (200 : Int) < (([] : List Posting).length + b.postings.length : Nat) := by rw [List.length_nil, Nat.zero_add]; exact hb
    rw [validB_none (bkRun_long b.postings [] bk0 h200 (by simp))]; (repeat' (first | refine EndV.mk ?_ | exact trivial | exact rfl | refine And.intro ?_ ?_))
  · have : bk0.take b.postings.length = List.replicate b.postings.length false := by rw [bk0, List.take_replicate, Nat.min_eq_left (by omega)]
    refine ⟨by (repeat' (first | refine EndV.mk ?_ | exact trivial | exact rfl | refine And.intro ?_ ?_)), ?_, rfl, rfl⟩
    simp only [this]
    (repeat' (first | refine EndV.mk ?_ | exact trivial | exact rfl | refine And.intro ?_ ?_))
  rename_i hv1 hv2
  rintro ⟨i, bk⟩ ⟨hi, hbk, hrun⟩ K hK
  simp only at hi hbk hrun
  have hTB : i < b.postings.length → takesB b.accounts (b.postings.take i) bk (b.postings.getD i posting0) =
    (isFormedB (b.postings.getD (i : Int).toNat (Cd.dflt U.posting)) b.accounts && !(decide (0 < (i : Int)) && decide ((b.postings.getD (i : Int).toNat (Cd.dflt U.posting)).day < (b.postings.getD ((i : Int) - 1).toNat (Cd.dflt U.posting)).day)) &&
      (!decide ((b.postings.getD (i : Int).toNat (Cd.dflt U.posting)).kind = 3) || !(decide ((i : Int) ≤ (b.postings.getD (i : Int).toNat (Cd.dflt U.posting)).of_) || bk.getD (b.postings.getD (i : Int).toNat (Cd.dflt U.posting)).of_.toNat false || !isBackB (b.postings.getD (i : Int).toNat (Cd.dflt U.posting)) (b.postings.getD (b.postings.getD (i : Int).toNat (Cd.dflt U.posting)).of_.toNat (Cd.dflt U.posting))))) :=
    fun h => takesB_at _ _ _ _ _ h (by omega)
  have hob := @formed_kind (b.postings.getD (i : Int).toNat (Cd.dflt U.posting)) b.accounts
  have hnb : ¬ (b.postings.getD (i : Int).toNat (Cd.dflt U.posting)).kind = 3 → newBk bk (b.postings.getD i posting0) = bk := fun h => if_neg h
  generalize hq : b.postings.getD (i : Int).toNat (Cd.dflt U.posting) = q at hTB hob hnb
  have hq' : b.postings.getD i posting0 = q := hq
  rw [hq'] at hTB hnb
  dsimp only
  (repeat' ((conv => whnf); first | (refine end_fn [] (.inr rfl) ?_ trivial rfl rfl) | (refine dcallx_pure (formed_meets _ _) rfl rfl ?_) | (refine hK (i + 1, newBk bk (b.postings.getD i posting0)) [some 0, some 1] _ _ ?_ ?_ ?_) | (refine end_fn [] (.inr rfl) ?_ trivial rfl rfl) | (refine split_nd (fun hb => ?_) (fun hb => ?_)) | (refine split_d (fun hb => ?_) (fun hb => ?_)) | (refine split_n (fun hb => ?_) (fun hb => ?_)) | (refine split_x (fun hb => ?_) (fun hb => ?_)) | (refine And.intro (TraceOK.mk (by kernel_rfl)) ?_) | (refine Side.mk ?_; (repeat' (first | refine And.intro ?_ ?_ | exact inR_i64 (by omega) (by omega) | omega | rfl | exact trivial | exact none_ne rfl | exact some_ne rfl (Nat.ne_of_beq_eq_false rfl) | exact Nat.ne_of_beq_eq_false rfl | (dsimp only [srcSide]; omega) | (simp; done) | (simp; omega))); done) | (refine side_and ?_ ?_) | (refine drawX_of mixed ?_)))
  all_goals (clear hK; simp only [hq, Nat.zero_add] at *)
  all_goals first
    | (refine EndV.mk (refV_stop hrun ?_ ?_)
       · omega
       · rw [hq', hTB]
         · simp_all; done
         · omega)
    | (refine refV_step hrun hbk ?_ ?_
       · omega
       · rw [hq', hTB]
         · simp_all; done
         · omega)
    | (have h3 : ¬ q.kind = 3 := by omega
       refine ⟨by (repeat' (first | refine EndV.mk ?_ | exact trivial | exact rfl | refine And.intro ?_ ?_)), ?_, rfl, rfl⟩
       rw [hq', hnb h3]
       (repeat' (first | refine EndV.mk ?_ | exact trivial | exact rfl | refine And.intro ?_ ?_))
       done)
    | (have h0 := hob (by assumption) (by assumption) (by assumption)
       have k3 := h0.1
       have o1 := h0.2.1
       have hbt : (bk.take b.postings.length).getD q.of_.toNat false = bk.getD q.of_.toNat false := getD_take _ _ _ _ (by omega)
       first
       | (refine Side.mk ?_; (try simp only [List.length_take, hbk]); (repeat' (first | refine And.intro ?_ ?_ | omega | rfl | exact trivial)); done)
       | (refine EndV.mk (refV_stop hrun ?_ ?_)
          · omega
          · rw [hq', hTB]
            · simp_all [isBackB, dflt_bool]; done
            · omega)
       | (refine refV_step hrun hbk ?_ ?_
          · omega
          · rw [hq', hTB]
            · simp_all [isBackB, dflt_bool]; done
            · omega)
       | (refine ⟨by (repeat' (first | refine EndV.mk ?_ | exact trivial | exact rfl | refine And.intro ?_ ?_)), ?_, rfl, rfl⟩
          have hset : newBk bk (b.postings.getD i posting0) = bk.set q.of_.toNat true := by rw [hq']; exact if_pos k3
          rw [hset, List.take_set]
          (repeat' (first | refine EndV.mk ?_ | exact trivial | exact rfl | refine And.intro ?_ ?_))
          done))
    | (have hie : i = b.postings.length := by omega
       rw [hie, List.take_length, List.drop_length, bkRun] at hrun
       have hv : validB b = true := by simp only [validB, ← hrun, Option.isSome_some, hv1, hv2, Bool.and_self]
       rw [hv]; (repeat' (first | refine EndV.mk ?_ | exact trivial | exact rfl | refine And.intro ?_ ?_)))
end Go.SX

namespace Go.SX
open Go.Proofs
set_option linter.unusedSimpArgs false
set_option maxHeartbeats 4000000
set_option maxRecDepth 100000
theorem bkRun_append {acc : Int} : ∀ (r done : List Posting) (bk : List Bool) (p : Posting), bkRun acc done bk (r ++ [p]) = (bkRun acc done bk r).bind fun bk' => if takesB acc (done ++ r) bk' p then some (newBk bk' p) else none
  | [], done, bk, p => by simp [bkRun]
  | q :: r, done, bk, p => by
    simp only [List.cons_append, bkRun]
    split
    · rw [bkRun_append r]; simp
    · rfl
theorem openS_append (a c : Int) (xs : List Posting) (p : Posting) : openS ⟨a, xs ++ [p], c⟩ = (openS ⟨a, xs, c⟩).bind fun bk => if takesB a xs bk p then some (newBk bk p) else none := by
  unfold openS
  simp only [bkRun_append, List.nil_append]
theorem postS_eq (b : Book) (p : Posting) : postS b p = if validB b && validB ⟨b.accounts, b.postings ++ [p], b.closed⟩ && !decide (p.day < 30 * b.closed) then some ⟨b.accounts, b.postings ++ [p], b.closed⟩ else none := by
  unfold postS validB
  rw [openS_append]
  cases h : openS b with
  | none => simp
  | some bk =>
    simp only [Option.bind_some, Option.isSome_some, Bool.true_and, postB]
    cases hv : (isInB b.accounts 2 16 && isInB b.closed 0 12) with
    | false => simp [hv]
    | true =>
      simp only [hv, Bool.true_and, Bool.and_true]
      cases ht : takesB b.accounts b.postings bk p with
      | true => rw [show (!decide (p.day < 30 * b.closed)) = decide (30 * b.closed ≤ p.day) by rw [← decide_not]; simp]; simp
      | false => simp
theorem refPost_meets (b : Book) (p : Posting) (hL : b.postings.length ≤ 1000) : Meets Try.prog Dc 10 [ba b, pa p] [] (postRet b p) [] := by
  have hL2 : ((b.postings ++ [p]).length : Int) < 9223372036854775807 := by simp; omega
  refine meets_of_gx Ax tab_ok Try.func10 (c := _) rfl Try.call10 400 ?_
  (repeat' ((conv => whnf); first | (refine callx_pure (refValid_meets _ (by omega)) rfl rfl ?_) | (refine callx_read (refValid_meets ⟨b.accounts, b.postings ++ [p], b.closed⟩ hL2) ?_ rfl ?_) | (refine end_fn [] (.inr rfl) ?_ trivial rfl rfl) | (refine split_nd (fun hb => ?_) (fun hb => ?_)) | (refine split_d (fun hb => ?_) (fun hb => ?_)) | (refine split_n (fun hb => ?_) (fun hb => ?_)) | (refine split_x (fun hb => ?_) (fun hb => ?_)) | (refine And.intro (TraceOK.mk (by kernel_rfl)) ?_) | (refine Side.mk ?_; (repeat' (first | refine And.intro ?_ ?_ | exact inR_i64 (by omega) (by omega) | omega | rfl | exact trivial | exact none_ne rfl | exact some_ne rfl (Nat.ne_of_beq_eq_false rfl) | exact Nat.ne_of_beq_eq_false rfl | (dsimp only [srcSide]; omega) | (simp; done) | (simp; omega))); done) | (refine side_and ?_ ?_) | (refine drawX_of mixed ?_)))

  · have hr : postRet b p = .tuple [ba b0, .p (.int .i64 0), .p (.int .i64 240)] := by simp [postRet, postS_eq, hb]
    rw [hr]; (repeat' (first | refine EndV.mk ?_ | exact trivial | exact rfl | refine And.intro ?_ ?_))
  · refine ⟨?_⟩; (repeat' (first | refine EndV.mk ?_ | exact trivial | exact rfl | refine And.intro ?_ ?_)); exact ⟨_, rfl, rfl, rfl, by simp, by (first | (simp; done) | (simp [List.take_of_length_le]; done) | (simp [List.take_of_length_le]; rfl)), rfl⟩
  · rename_i h1
    have hr : postRet b p = .tuple [ba b0, .p (.int .i64 0), .p (.int .i64 240)] := by simp [postRet, postS_eq, h1, hb]
    rw [hr]; (repeat' (first | refine EndV.mk ?_ | exact trivial | exact rfl | refine And.intro ?_ ?_))
  · rename_i h1
    simp only [validB, Bool.and_eq_true, isInB, decide_eq_true_eq] at h1
    (refine Side.mk ?_; (repeat' (first | refine And.intro ?_ ?_ | exact inR_i64 (by omega) (by omega) | omega | rfl | exact trivial | exact none_ne rfl | exact some_ne rfl (Nat.ne_of_beq_eq_false rfl) | exact Nat.ne_of_beq_eq_false rfl | (dsimp only [srcSide]; omega) | (simp; done) | (simp; omega))); done)
  · rename_i h1 h2
    have hr : postRet b p = .tuple [ba b0, .p (.int .i64 0), .p (.int .i64 240)] := by simp [postRet, postS_eq, h1, h2, hb]
    rw [hr]; (repeat' (first | refine EndV.mk ?_ | exact trivial | exact rfl | refine And.intro ?_ ?_))
  · rename_i h1 h2
    have hr : postRet b p = .tuple [ba ⟨b.accounts, b.postings ++ [p], b.closed⟩, .p (.int .i64 b.postings.length), .p (.int .i64 0)] := by simp [postRet, postS_eq, h1, h2, hb]
    rw [hr]; (repeat' (first | refine EndV.mk ?_ | exact trivial | exact rfl | refine And.intro ?_ ?_)); exact ⟨_, rfl, rfl, rfl, by simp, by (first | (simp; done) | (simp [List.take_of_length_le]; done) | (simp [List.take_of_length_le]; rfl)), rfl⟩
end Go.SX
