/-
  Walks: Ep9: what single functions of the program compute.
-/
import Derived.Test.YtboldmbaiocjpaaDoorSxEp5
namespace Go.SX
open Go.Proofs
set_option linter.unusedSimpArgs false
set_option linter.unusedVariables false
set_option maxHeartbeats 4000000
set_option maxRecDepth 100000
theorem encs_ok {b : Book} (h : validB b = true) : encsB b.postings = true := encs_true fun j hj => valid_enc h j hj
theorem headsV (b : Book) (h : validB b = true) : Meets Tryd.prog Dc 45 [ba b] [] (.tuple [.p (.str (headL b.postings)), .p (.int .i64 0)]) [] := by
  have hv := validBook_of h
  have := head_meets b (by have := hv.len; omega)
  rw [h, if_pos rfl] at this
  exact this
theorem chainedV (b : Book) (h : validB b = true) : Meets Tryd.prog Dc 47 [.p (.dsl U.posting b.postings)] [] (.p (.dsl U.str (oneL b.postings))) [] := by
  have hv := validBook_of h
  exact chained_meets b.postings (by have := hv.len; omega) (encs_ok h) (encs_short h)
theorem head_nil : Meets Tryd.prog Dc 48 [.p (.lit (.slice none 0 0))] [] (.p (.str z32)) [] := by
  have h := refHead2_meets [] (by simp) (fun s hs => by simp at hs)
  exact meets_viewB h (by refine ⟨?_⟩; (repeat' (first | refine EndV.mk ?_ | exact trivial | exact rfl | refine And.intro ?_ ?_)))
theorem prefix_valid (acc c : Int) (xs : List Posting) (p : Posting) (h : validB ⟨acc, xs ++ [p], c⟩ = true) : validB ⟨acc, xs, 0⟩ = true := by
  have hv := validBook_of h
  unfold validB at h ⊢
  rw [Bool.and_eq_true] at h
  have h1 := h.1
  rw [openS_append] at h1
  have h2 : (openS ⟨acc, xs, c⟩).isSome = true := by
    cases ho : openS ⟨acc, xs, c⟩ with
    | none => rw [ho] at h1; simp at h1
    | some bk => rfl
  have h3 : openS ⟨acc, xs, 0⟩ = openS ⟨acc, xs, c⟩ := rfl
  rw [h3, h2]
  have ha := hv.acc
  simp [isInB]
  exact ha
structure TailOK (ap : List Posting) (aa : Int) : Prop where
  h : ap = [] ∧ headL ap = z32 ∨ ∃ xs p, ap.length ≠ 0 ∧ List.drop (Int.toNat 0) (List.take ((ap.length : Int) - 1).toNat ap) = xs ∧ ap.getD ((ap.length : Int) - 1).toNat (Cd.dflt U.posting) = p ∧ encB p = true ∧ validB ⟨aa, xs, 0⟩ = true ∧ headL ap = sumB (2 :: (headL xs ++ encL (fldL p)))
theorem tail_ok (ap : List Posting) (aa ac : Int) (hv : validB ⟨aa, ap, ac⟩ = true) : TailOK ap aa := by
  refine ⟨?_⟩
  rcases List.eq_nil_or_concat ap with rfl | ⟨xs, p, rfl⟩
  · exact .inl ⟨rfl, rfl⟩
  · right
    refine ⟨xs, p, by simp, ?_, ?_, ?_, prefix_valid aa ac xs p (by simpa using hv), ?_⟩
    · rw [show (((xs.concat p).length : Int) - 1).toNat = xs.length by simp]; simp
    · rw [show (((xs.concat p).length : Int) - 1).toNat = xs.length by simp, List.concat_eq_append, List.getD_eq_getElem?_getD, List.getElem?_append_right (Nat.le_refl _)]; simp
    · have := valid_enc hv xs.length (by simp)
      rw [List.concat_eq_append, List.getD_eq_getElem?_getD, List.getElem?_append_right (Nat.le_refl _)] at this
      simpa using this
    · rw [List.concat_eq_append]; exact headL_snoc xs p
theorem heads_walk (accounts : Int) (l m : List A5) (ha : I64 accounts) (hl : ∀ x ∈ l, A5OK x) (hL : (l.length : Int) ≤ 9223372036854775807) (hm : ∀ x ∈ m, A5OK x) (hM : (m.length : Int) ≤ 9223372036854775807) :
    Meets Tryd.prog Dc 13 [.p (.int .i64 accounts), .p (.dsl U.arr5 l), .p (.dsl U.arr5 m)] [] (.p (.bool true)) [] := by
  have hsane := bsane_meets
  have m1 := made_meets accounts l ha hl hL
  have m2 := made_meets accounts m ha hm hM
  have v1 := (madeSt_ok accounts l (min l.length 24)).v
  have v2 := (madeSt_ok accounts m (min m.length 24)).v
  rw [show (madeSt accounts l (min l.length 24)).1 = madeS accounts l from rfl] at v1
  rw [show (madeSt accounts m (min m.length 24)).1 = madeS accounts m from rfl] at v2
  generalize madeS accounts l = a at *
  generalize madeS accounts m = b at *
  have h1 := headsV a v1
  have h2 := headsV b v2
  have o1 := chainedV a v1
  have o2 := chainedV b v2
  have hn := head_nil
  have hl1 : (headL a.postings).length = 32 := hdR_length _
  have hl2 : (headL b.postings).length = 32 := hdR_length _
  obtain ⟨aa, ap, ac⟩ := a
  obtain ⟨ba', bp, bc⟩ := b
  dsimp only at *
  have hva := validBook_of v1
  have hvb := validBook_of v2
  have la : ap.length ≤ 200 := hva.len
  have lb : bp.length ≤ 200 := hvb.len
  have lo1 := oneL_length ap
  have lo2 := oneL_length bp
  have mid1 := oneL_mid (encs_short v1)
  have mid2 := oneL_mid (encs_short v2)
  have key := heads_law ap bp
  have hsame := samePostings_meets ap bp (by omega)
  have hcoll := collided_meets (oneL ap) (oneL bp) (by omega) (by omega) mid1 mid2
  obtain ⟨htl⟩ := tail_ok ap aa ac v1
  have hse : ap = bp → headL ap = headL bp := fun e => by rw [e]
  clear v2
  dsimp only at mid1 mid2
  generalize oneL ap = o1' at *
  generalize oneL bp = o2' at *
  have eq1 : List.take (List.take 0 [] ++ o1').length (List.take 0 [] ++ o1') ++ o2' = o1' ++ o2' := by simp
  have eql : (List.take 0 ([] : List Bs) ++ o1').length = o1'.length := by simp
  have eqL : (o1' ++ o2').length = o1'.length + o2'.length := by simp
  have midQ : Mid (o1' ++ o2') := fun z hz => by
    rcases List.mem_append.1 hz with h | h
    · exact mid1 z h
    · exact mid2 z h
  generalize hQ : o1' ++ o2' = Q at *
  generalize hhb : headL bp = yb at *
  generalize hha : headL ap = xa at *
  refine meets_of_gx Ax tab_ok Tryd.func13 (c := _) rfl Tryd.call13 1000 ?_
  (repeat' ((conv => whnf); first | (exfalso; omega) | (refine callx_pure (hsane) rfl rfl ?_) | (refine dcallx_pure (hsane) rfl rfl ?_) | (refine callx_pure (m1) rfl rfl ?_) | (refine dcallx_pure (m1) rfl rfl ?_) | (refine callx_pure (m2) rfl rfl ?_) | (refine dcallx_pure (m2) rfl rfl ?_) | (refine callx_pure (h1) rfl rfl ?_) | (refine dcallx_pure (h1) rfl rfl ?_) | (refine callx_pure (h2) rfl rfl ?_) | (refine dcallx_pure (h2) rfl rfl ?_) | (refine callx_pure (o1) rfl rfl ?_) | (refine dcallx_pure (o1) rfl rfl ?_) | (refine callx_pure (o2) rfl rfl ?_) | (refine dcallx_pure (o2) rfl rfl ?_) | (refine callx_pure (hn) rfl rfl ?_) | (refine dcallx_pure (hn) rfl rfl ?_) | (rw [eq1]) | (refine end_fn [] (.inr rfl) ?_ trivial rfl rfl) | (refine split_nd (fun hb => ?_) (fun hb => ?_)) | (refine split_d (fun hb => ?_) (fun hb => ?_)) | (refine split_n (fun hb => ?_) (fun hb => ?_)) | (refine split_x (fun hb => ?_) (fun hb => ?_)) | (refine And.intro (TraceOK.mk (by kernel_rfl)) ?_) | (refine Side.mk ?_; (repeat' (first | refine And.intro ?_ ?_ | exact inR_i64 (by omega) (by omega) | omega | rfl | exact trivial | exact none_ne rfl | exact some_ne rfl (Nat.ne_of_beq_eq_false rfl) | exact Nat.ne_of_beq_eq_false rfl | (dsimp only [srcSide]; omega) | (simp; done) | (simp; omega))); done) | (refine side_and ?_ ?_) | (refine drawX_of mixed ?_)))
  refine loop_up (fun i : Nat => [(17, .p (.bool (nought (Q.take i)))), (66, .p (.int .i64 i))]) (fun _ => []) (fun i => i ≤ Q.length) (fun i => Q.length - i) 0 (Nat.zero_le _) ⟨by (repeat' (first | refine EndV.mk ?_ | exact trivial | exact rfl | refine And.intro ?_ ?_)), by (repeat' (first | refine EndV.mk ?_ | exact trivial | exact rfl | refine And.intro ?_ ?_)), rfl, rfl⟩ ?_
  intro i hi K hK
  rcases Nat.lt_or_ge i Q.length with hlt | hge
  · have hql : (Q.getD i []).length ≤ 1000 := by rw [List.getD_eq_getElem?_getD, List.getElem?_eq_getElem (by omega)]; exact midQ _ (List.getElem_mem _)
    have hc := refSum_meets (Q.getD i []) (by omega)
    have en : nought (Q.take (i + 1)) = (nought (Q.take i) || decide (sumB (Q.getD i []) = z32)) := by
      have e : Q.take (i + 1) = Q.take i ++ [Q.getD i []] := by rw [List.take_add_one, List.getD_eq_getElem?_getD, List.getElem?_eq_getElem hlt]; rfl
      rw [e]; unfold nought; rw [List.any_append]; simp
    have hg : Q.getD (0 + (i : Int).toNat) (Cd.dflt U.str) = Q.getD i [] := by rw [Nat.zero_add]; rfl
    generalize Q.getD i [] = q at *
    generalize sumB q = sq at *
    cases hno : nought (Q.take i) with
    | true =>
      rw [hno, Bool.true_or] at en
      (repeat' ((conv => whnf); first | (exfalso; omega) | (rw [hg]) | (refine callx_pure (hc) rfl rfl ?_) | (refine dcallx_pure (hc) rfl rfl ?_) | (refine hK (i + 1) ([some 0, some 1, some 2, some 3, some 4]) _ _ ?_ ?_ ?_) | (refine end_fn [] (.inr rfl) ?_ trivial rfl rfl) | (refine split_nd (fun hb => ?_) (fun hb => ?_)) | (refine split_d (fun hb => ?_) (fun hb => ?_)) | (refine split_n (fun hb => ?_) (fun hb => ?_)) | (refine split_x (fun hb => ?_) (fun hb => ?_)) | (refine And.intro (TraceOK.mk (by kernel_rfl)) ?_) | (refine Side.mk ?_; (repeat' (first | refine And.intro ?_ ?_ | exact inR_i64 (by omega) (by omega) | omega | rfl | exact trivial | exact none_ne rfl | exact some_ne rfl (Nat.ne_of_beq_eq_false rfl) | exact Nat.ne_of_beq_eq_false rfl | (dsimp only [srcSide]; omega) | (simp; done) | (simp; omega))); done) | (refine side_and ?_ ?_) | (refine drawX_of mixed ?_)))
      all_goals try (dsimp only; rw [en]; (refine Back.mk ?_ ?_ rfl rfl <;> (repeat' (first | refine EndV.mk ?_ | exact trivial | exact rfl | refine And.intro ?_ ?_))))
      all_goals try (conv => whnf)
    | false =>
      rw [hno, Bool.false_or] at en
      (repeat' ((conv => whnf); first | (exfalso; omega) | (rw [hg]) | (refine callx_pure (hc) rfl rfl ?_) | (refine dcallx_pure (hc) rfl rfl ?_) | (refine hK (i + 1) ([some 0, some 1, some 2, some 3, some 4]) _ _ ?_ ?_ ?_) | (refine end_fn [] (.inr rfl) ?_ trivial rfl rfl) | (refine split_nd (fun hb => ?_) (fun hb => ?_)) | (refine split_d (fun hb => ?_) (fun hb => ?_)) | (refine split_n (fun hb => ?_) (fun hb => ?_)) | (refine split_x (fun hb => ?_) (fun hb => ?_)) | (refine And.intro (TraceOK.mk (by kernel_rfl)) ?_) | (refine Side.mk ?_; (repeat' (first | refine And.intro ?_ ?_ | exact inR_i64 (by omega) (by omega) | omega | rfl | exact trivial | exact none_ne rfl | exact some_ne rfl (Nat.ne_of_beq_eq_false rfl) | exact Nat.ne_of_beq_eq_false rfl | (dsimp only [srcSide]; omega) | (simp; done) | (simp; omega))); done) | (refine side_and ?_ ?_) | (refine drawX_of mixed ?_)))
      all_goals try (dsimp only; rw [en]; (refine Back.mk ?_ ?_ rfl rfl <;> (repeat' (first | refine EndV.mk ?_ | exact trivial | exact rfl | refine And.intro ?_ ?_))))
      all_goals try (conv => whnf)
  · clear hK
    rw [List.take_of_length_le hge]
    have hfin : ¬decide (xa = yb) = decide (ap = bp) → collAny o1' o2' = false → nought Q = false → False := by
      intro h1 h2 h3
      by_cases e : ap = bp
      · exact h1 (by rw [decide_eq_true e, decide_eq_true (hse e)])
      · by_cases e' : xa = yb
        · rcases key e' e with h | h
          · rw [h2] at h; exact absurd h (by simp)
          · rw [h3] at h; exact absurd h (by simp)
        · exact h1 (by rw [decide_eq_false e, decide_eq_false e'])
    rcases htl with ⟨rfl, rfl⟩ | ⟨xs, p, hne, hpre, hlast, hep, hvx, hsnoc⟩
    · (repeat' ((conv => whnf); first | (exfalso; omega) | (refine callx_pure (hsame) rfl rfl ?_) | (refine dcallx_pure (hsame) rfl rfl ?_) | (refine callx_pure (hcoll) rfl rfl ?_) | (refine dcallx_pure (hcoll) rfl rfl ?_) | (refine end_fn [] (.inr rfl) ?_ trivial rfl rfl) | (refine split_nd (fun hb => ?_) (fun hb => ?_)) | (refine split_d (fun hb => ?_) (fun hb => ?_)) | (refine split_n (fun hb => ?_) (fun hb => ?_)) | (refine split_x (fun hb => ?_) (fun hb => ?_)) | (refine And.intro (TraceOK.mk (by kernel_rfl)) ?_) | (refine Side.mk ?_; (repeat' (first | refine And.intro ?_ ?_ | exact inR_i64 (by omega) (by omega) | omega | rfl | exact trivial | exact none_ne rfl | exact some_ne rfl (Nat.ne_of_beq_eq_false rfl) | exact Nat.ne_of_beq_eq_false rfl | (dsimp only [srcSide]; omega) | (simp; done) | (simp; omega))); done) | (refine side_and ?_ ?_) | (refine drawX_of mixed ?_)))
      all_goals (repeat' (first | refine EndV.mk ?_ | exact trivial | exact rfl | refine And.intro ?_ ?_))
      all_goals first | exact (hfin ‹_› ‹_› ‹_›).elim | exact absurd hb (by dsimp only; omega) | ((conv => whnf); simp)
    · have hb1 := headsV ⟨aa, xs, 0⟩ hvx
      have henc := enc_meets p
      unfold encRet at henc
      rw [if_pos hep] at henc
      have hel := enc_short p hep
      have hxl : (headL xs).length = 32 := hdR_length _
      have hch := refChain_meets (headL xs) (encL (fldL p)) (by omega) (by omega)
      have hba : Meets Tryd.prog Dc 45 [ba ⟨aa, xs, 0⟩] [] (.tuple [.p (.str (headL xs)), .p (.int .i64 0)]) [] := hb1
      dsimp only [ba] at hba
      generalize encL (fldL p) = ep at *
      generalize headL xs = hx at *
      rw [← hsnoc] at hch
      have hin : Side (InR .i64 ((ap.length : Int) - 1)) := ⟨inR_i64 (by omega) (by omega)⟩
      (repeat' ((conv => whnf); first | (exfalso; omega) | (refine callx_pure (hsame) rfl rfl ?_) | (refine dcallx_pure (hsame) rfl rfl ?_) | (refine callx_pure (hcoll) rfl rfl ?_) | (refine dcallx_pure (hcoll) rfl rfl ?_) | (exact hin) | (rw [hpre]) | (rw [hlast]) | (refine callx_pure (hba) rfl rfl ?_) | (refine dcallx_pure (hba) rfl rfl ?_) | (refine callx_pure (henc) rfl rfl ?_) | (refine dcallx_pure (henc) rfl rfl ?_) | (refine callx_pure (hch) rfl rfl ?_) | (refine dcallx_pure (hch) rfl rfl ?_) | (refine end_fn [] (.inr rfl) ?_ trivial rfl rfl) | (refine split_nd (fun hb => ?_) (fun hb => ?_)) | (refine split_d (fun hb => ?_) (fun hb => ?_)) | (refine split_n (fun hb => ?_) (fun hb => ?_)) | (refine split_x (fun hb => ?_) (fun hb => ?_)) | (refine And.intro (TraceOK.mk (by kernel_rfl)) ?_) | (refine Side.mk ?_; (repeat' (first | refine And.intro ?_ ?_ | exact inR_i64 (by omega) (by omega) | omega | rfl | exact trivial | exact none_ne rfl | exact some_ne rfl (Nat.ne_of_beq_eq_false rfl) | exact Nat.ne_of_beq_eq_false rfl | (dsimp only [srcSide]; omega) | (simp; done) | (simp; omega))); done) | (refine side_and ?_ ?_) | (refine drawX_of mixed ?_)))
      all_goals (repeat' (first | refine EndV.mk ?_ | exact trivial | exact rfl | refine And.intro ?_ ?_))
      all_goals first | exact (hfin ‹_› ‹_› ‹_›).elim | exact absurd hb (by dsimp only; omega) | ((conv => whnf); simp)
end Go.SX
