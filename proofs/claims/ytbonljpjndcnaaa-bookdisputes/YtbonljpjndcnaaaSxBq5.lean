/-
  Walks: Bq5: what single functions of the program compute.
-/
import Derived.Test.YtbonljpjndcnaaaSxBq3
namespace Go.SX
open Go.Proofs
set_option linter.unusedSimpArgs false
set_option linter.unusedVariables false
set_option maxHeartbeats 4000000
set_option maxRecDepth 100000
theorem keeps_len {b c : Book} (h : Keeps b c) : c.postings.length ≤ b.postings.length + 2 := by
  obtain ⟨ex, e, h1, _⟩ := h.ext
  rw [e]; simp; omega
theorem madeNext_len {b b' : Book} {d : Int} {x : A5} (h : madeNext b d x = some b') : b'.postings.length ≤ b.postings.length + 2 := by
  unfold madeNext at h
  split at h
  · exact keeps_len (dispS_keeps h)
  · split at h
    · exact keeps_len (closeS_keeps h).1
    · exact keeps_len (postS_keeps h).1
theorem madeSt_len (accounts : Int) (l : List A5) : ∀ i, (madeSt accounts l i).1.postings.length ≤ 2 * i
  | 0 => by simp [madeSt]
  | i + 1 => by
    have ih := madeSt_len accounts l i
    by_cases h : i < l.length
    · rw [madeSt_succ _ _ _ h]
      show ((madeNext _ _ _).getD _).postings.length ≤ _
      cases hn : madeNext (madeSt accounts l i).1 (min 359 ((madeSt accounts l i).2 + pickS (l.getD i arr50).b 20)) (l.getD i arr50) with
      | none => simp; omega
      | some b' => have := madeNext_len hn; simp; omega
    · have : madeSt accounts l (i + 1) = madeSt accounts l i := by
        unfold madeSt; rw [List.take_of_length_le (by omega), List.take_of_length_le (by omega)]
      rw [this]; omega
theorem madeS_len (accounts : Int) (l : List A5) : (madeS accounts l).postings.length ≤ 48 := by
  have := madeSt_len accounts l (min l.length 24)
  unfold madeS
  have : min l.length 24 ≤ 24 := Nat.min_le_right _ _
  omega
theorem anyOf_succ (xs : List Posting) (i : Int) (k : Nat) (hk : k < xs.length) : anyOf (xs.take (k + 1)) i = (anyOf (xs.take k) i || decide ((xs.getD k posting0).of_ = i)) := by
  have e : xs.take (k + 1) = xs.take k ++ [xs.getD k posting0] := by rw [List.take_add_one]; simp [hk]
  rw [e, anyOf_append]
  simp [anyOf]
/-- a list in which a posting's amount is another -/
def adjL (X : List Int) (q : Posting) (n : Int) : List Int :=
  (X.set (0 + q.creditor.toNat) (X.getD (0 + q.creditor.toNat) (Cd.dflt U.int) - q.amount + n)).set (0 + q.debtor.toNat) (X.getD (0 + q.debtor.toNat) (Cd.dflt U.int) + q.amount - n)
theorem adj_list (f : Nat → Int) (N : Nat) (q : Posting) (n : Int) (hc : 0 ≤ q.creditor ∧ q.creditor < N) (hd : 0 ≤ q.debtor ∧ q.debtor < N) (hne : q.debtor ≠ q.creditor) :
    adjL ((List.range N).map f) q n = (List.range N).map fun t : Nat => f t + (deltaA q n (t : Int) - delta q (t : Int)) := by
  unfold adjL
  have e : (Cd.dflt U.int) = (0 : Int) := rfl
  rw [e, Nat.zero_add, Nat.zero_add, getD_map_range _ _ _ _ (by omega), getD_map_range _ _ _ _ (by omega), set_map_range _ _ _ _ (by omega), set_map_range _ _ _ _ (by omega)]
  apply List.map_congr_left
  intro k hk
  unfold delta deltaA
  by_cases h1 : k = q.debtor.toNat
  · subst h1
    rw [if_pos rfl, if_neg (by omega), if_pos (by omega), if_neg (by omega), if_pos (by omega)]
    omega
  · rw [if_neg h1]
    by_cases h2 : k = q.creditor.toNat
    · subst h2
      rw [if_pos rfl, if_pos (by omega), if_neg (by omega), if_pos (by omega), if_neg (by omega)]
      omega
    · rw [if_neg h2, if_neg (by omega), if_neg (by omega), if_neg (by omega), if_neg (by omega)]; omega
theorem owedL_disp {b : Book} {i : Nat} {d a : Int} (hv : validB b = true) (hv' : validB (dispOf b i d a) = true) (hi : i < b.postings.length) (ha : 0 ≤ a) (hk : (b.postings.getD i posting0).kind ≠ 3) (hb : anyOf b.postings i = false) (s : Int) :
    owedL (dispOf b i d a).postings s b.accounts.toNat (dispOf b i d a).postings.length = if s = (b.postings.getD i posting0).subject then adjL (owedL b.postings s b.accounts.toNat b.postings.length) (b.postings.getD i posting0) a else owedL b.postings s b.accounts.toNat b.postings.length := by
  have hV := validBook_of hv
  have hacc := hV.acc
  have hF := formed_at hV hi
  have h1 := hF.cre
  have h2 := hF.deb
  have key := fun t => owed_disp hv hv' hi ha hk hb s t
  unfold owedL
  split
  · rename_i hs
    rw [adj_list _ _ _ _ (by omega) (by omega) hF.ne]
    apply List.map_congr_left
    intro t _
    rw [key, if_pos hs]
  · rename_i hs
    apply List.map_congr_left
    intro t _
    rw [key, if_neg hs, Int.add_zero]
theorem stmtL_disp {b : Book} {i : Nat} {d a : Int} (hv : validB b = true) (hi : i < b.postings.length) (ha : 0 ≤ a) (m : Int) :
    stmtL (dispOf b i d a) m b.accounts.toNat = if m = d.tdiv 30 then adjL (stmtL b m b.accounts.toNat) (b.postings.getD i posting0) a else stmtL b m b.accounts.toNat := by
  have hV := validBook_of hv
  have hacc := hV.acc
  have hF := formed_at hV hi
  have h1 := hF.cre
  have h2 := hF.deb
  have key := fun t => bal_disp (b := b) (i := i) (d := d) ha t m
  unfold stmtL
  split
  · rename_i hs
    rw [adj_list _ _ _ _ (by omega) (by omega) hF.ne]
    apply List.map_congr_left
    intro t _
    rw [key, if_pos hs.symm]
  · rename_i hs
    apply List.map_congr_left
    intro t _
    rw [key, if_neg (fun e => hs e.symm), Int.add_zero]
theorem froz_rows {Hp : List (HS Cd)} {c N : Nat} {xs : List Int} (h : getC Hp c = .rows U.int xs) (hl : xs.length = N) : View Hp [] (.slice c 0 1 0 N) (.p (.dsl U.int xs)) := by
  simp only [View]
  refine ⟨_, h, rfl, rfl, by omega, ?_, rfl⟩
  rw [List.drop_zero, List.take_of_length_le (by omega)]
theorem owedL_bound {b : Book} (h : ValidBook b) (s : Int) (N : Nat) (j : Nat) : -400000000000000 ≤ (owedL b.postings s N b.postings.length).getD (0 + j) (Cd.dflt U.int) ∧ (owedL b.postings s N b.postings.length).getD (0 + j) (Cd.dflt U.int) ≤ 400000000000000 := by
  have hl := h.len
  rw [Nat.zero_add]
  by_cases hj : j < N
  · have e : (owedL b.postings s N b.postings.length).getD j (Cd.dflt U.int) = owedP b.postings s (j : Int) b.postings.length := getD_map_range _ _ _ _ hj
    rw [e]
    have := owedP_bound h s (j : Int) b.postings.length (Nat.le_refl _)
    omega
  · have e : (owedL b.postings s N b.postings.length).getD j (Cd.dflt U.int) = 0 := by
      rw [List.getD_eq_getElem?_getD, List.getElem?_eq_none (by simp [owedL]; omega)]; rfl
    rw [e]; omega
theorem stmtL_bound {b : Book} (h : ValidBook b) (m : Int) (N : Nat) (j : Nat) : -400000000000000 ≤ (stmtL b m N).getD (0 + j) (Cd.dflt U.int) ∧ (stmtL b m N).getD (0 + j) (Cd.dflt U.int) ≤ 400000000000000 := by
  rw [Nat.zero_add]
  by_cases hj : j < N
  · have e : (stmtL b m N).getD j (Cd.dflt U.int) = balL b.postings (j : Int) m := getD_map_range _ _ _ _ hj
    rw [e]
    have := bal_bound h (j : Int) m b.postings.length
    rw [List.take_length] at this
    omega
  · have e : (stmtL b m N).getD j (Cd.dflt U.int) = 0 := by
      rw [List.getD_eq_getElem?_getD, List.getElem?_eq_none (by simp [stmtL]; omega)]; rfl
    rw [e]; omega
theorem disputes_meets (accounts : Int) (l : List A5) (which later amount : Int) (ha : I64 accounts) (hl : ∀ x ∈ l, A5OK x) (hL : (l.length : Int) ≤ 9223372036854775807) (hw : I64 which) (ht : I64 later) (hm : I64 amount) : Meets Try.prog Dc 6 [.p (.int .i64 accounts), .p (.dsl U.arr5 l), .p (.int .i64 which), .p (.int .i64 later), .p (.int .i64 amount)] [] (.p (.bool true)) [] := by
  have hv := madeS_valid accounts l
  have hlen := madeS_len accounts l
  have hsub := madeS_sub accounts l
  have hmade := made_meets accounts l ha hl hL
  generalize madeS accounts l = b at hv hlen hsub hmade
  have hw := hw.h
  have ht := ht.h
  have hm := hm.h
  have hV := validBook_of hv
  have hacc := hV.acc
  have hcl := hV.closed
  have q1 := pickS_bound later 60 (by omega)
  have q2 := pickS_bound amount 1000 (by omega)
  by_cases h0 : b.postings.length = 0
  · refine meets_of_gx Ax tab_ok Try.func6 (c := _) rfl Try.call6 1000 ?_
    (repeat' ((conv => whnf); first | (exfalso; omega) | (refine callx_pure (sane_meets) rfl rfl ?_) | (refine dcallx_pure (sane_meets) rfl rfl ?_) | (refine callx_pure (hmade) rfl rfl ?_) | (refine dcallx_pure (hmade) rfl rfl ?_) | (refine end_fn [] (.inr rfl) ?_ trivial rfl rfl) | (refine split_nd (fun hb => ?_) (fun hb => ?_)) | (refine split_d (fun hb => ?_) (fun hb => ?_)) | (refine split_n (fun hb => ?_) (fun hb => ?_)) | (refine split_x (fun hb => ?_) (fun hb => ?_)) | (refine And.intro (TraceOK.mk (by kernel_rfl)) ?_) | (refine Side.mk ?_; (repeat' (first | refine And.intro ?_ ?_ | exact inR_i64 (by omega) (by omega) | omega | rfl | exact trivial | exact none_ne rfl | exact some_ne rfl (Nat.ne_of_beq_eq_false rfl) | exact Nat.ne_of_beq_eq_false rfl | (dsimp only [srcSide]; omega) | (simp; done) | (simp; omega))); done) | (refine side_and ?_ ?_) | (refine drawX_of mixed ?_)))
    all_goals (repeat' (first | refine EndV.mk ?_ | exact trivial | exact rfl | refine And.intro ?_ ?_))
  have qi := pickS_bound which b.postings.length (by omega)
  obtain ⟨j, hj⟩ : ∃ j : Nat, pickS which b.postings.length = (j : Int) := ⟨(pickS which b.postings.length).toNat, by omega⟩
  have hjl : j < b.postings.length := by omega
  have hpick := lawpickS which b.postings.length ⟨hw⟩ ⟨by omega⟩
  rw [hj] at hpick
  have hq : b.postings.getD (j : Int).toNat (Cd.dflt U.posting) = b.postings.getD j posting0 := rfl
  have hF := formed_at hV hjl
  obtain ⟨q, hqq⟩ : ∃ q, b.postings.getD j posting0 = q := ⟨_, rfl⟩
  rw [hqq] at hF hq
  have hFc := hF.cre
  have hFd := hF.deb
  have hFn := hF.ne
  have hFa := hF.amt
  have hlast : b.postings.getD ((b.postings.length : Int) - 1).toNat (Cd.dflt U.posting) = b.postings.getD (b.postings.length - 1) posting0 := by
    have : ((b.postings.length : Int) - 1).toNat = b.postings.length - 1 := by omega
    rw [this]; rfl
  have hlF := formed_at hV (i := b.postings.length - 1) (by omega)
  obtain ⟨z, hz⟩ : ∃ z, b.postings.getD (b.postings.length - 1) posting0 = z := ⟨_, rfl⟩
  rw [hz] at hlF hlast
  have hzd := hlF.day
  refine meets_of_gx Ax tab_ok Try.func6 (c := _) rfl Try.call6 1000 ?_
  (repeat' ((conv => whnf); first | (exfalso; omega) | (refine callx_pure (sane_meets) rfl rfl ?_) | (refine dcallx_pure (sane_meets) rfl rfl ?_) | (refine callx_pure (hmade) rfl rfl ?_) | (refine dcallx_pure (hmade) rfl rfl ?_) | (refine callx_pure (hpick) rfl rfl ?_) | (refine dcallx_pure (hpick) rfl rfl ?_) | (refine callx_pure (lawpickS _ _ ?_ ?_) rfl rfl ?_) | (refine dcallx_pure (lawpickS _ _ ?_ ?_) rfl rfl ?_) | (rw [hq]) | (rw [hlast]) | (refine dcallx_pure (lawpickS _ _ ?_ ?_) rfl rfl ?_) | (refine end_fn [] (.inr rfl) ?_ trivial rfl rfl) | (refine split_nd (fun hb => ?_) (fun hb => ?_)) | (refine split_d (fun hb => ?_) (fun hb => ?_)) | (refine split_n (fun hb => ?_) (fun hb => ?_)) | (refine split_x (fun hb => ?_) (fun hb => ?_)) | (refine And.intro (TraceOK.mk (by kernel_rfl)) ?_) | (refine Side.mk ?_; (repeat' (first | refine And.intro ?_ ?_ | exact inR_i64 (by omega) (by omega) | omega | rfl | exact trivial | exact none_ne rfl | exact some_ne rfl (Nat.ne_of_beq_eq_false rfl) | exact Nat.ne_of_beq_eq_false rfl | (dsimp only [srcSide]; omega) | (simp; done) | (simp; omega))); done) | (refine side_and ?_ ?_) | (refine drawX_of mixed ?_)))
  · exact ⟨inR_i64 (by show _ ≤ max z.day (30 * b.closed) + _; omega) (by show max z.day (30 * b.closed) + _ ≤ _; omega)⟩
  refine loop_up (fun k : Nat => [(15, .p (.int .i64 (min 359 (max z.day (30 * b.closed) + pickS later 60)))), (17, .p (.bool (anyOf (b.postings.take k) j))), (18, .p (.int .i64 k))]) (fun _ => []) (fun k => k ≤ b.postings.length) (fun k => b.postings.length - k) 0 (Nat.zero_le _) ⟨by (repeat' (first | refine EndV.mk ?_ | exact trivial | exact rfl | refine And.intro ?_ ?_)), by (repeat' (first | refine EndV.mk ?_ | exact trivial | exact rfl | refine And.intro ?_ ?_)), rfl, rfl⟩ ?_
  intro k hk K hK
  generalize hd : min 359 (max z.day (30 * b.closed) + pickS later 60) = d at hK ⊢
  have hd1 : d ≤ 359 := by omega
  have hd2 : z.day ≤ d := by omega
  have hd3 : 0 ≤ d := by omega
  have htd := tdiv30 ⟨hd3, hd1⟩
  by_cases hkl : k < b.postings.length
  · have hs := anyOf_succ b.postings j k hkl
    have hq2 : b.postings.getD (k : Int).toNat (Cd.dflt U.posting) = b.postings.getD k posting0 := rfl
    generalize hA : anyOf (b.postings.take k) j = A at hs ⊢
    generalize b.postings.getD k posting0 = q2 at hs hq2
    cases A with
    | true =>
      (repeat' ((conv => whnf); first | (exfalso; omega) | (rw [hq2]) | (refine hK (k + 1) ([some 0, some 1]) _ _ ?_ ?_ ?_) | (refine end_fn [] (.inr rfl) ?_ trivial rfl rfl) | (refine split_nd (fun hb => ?_) (fun hb => ?_)) | (refine split_d (fun hb => ?_) (fun hb => ?_)) | (refine split_n (fun hb => ?_) (fun hb => ?_)) | (refine split_x (fun hb => ?_) (fun hb => ?_)) | (refine And.intro (TraceOK.mk (by kernel_rfl)) ?_) | (refine Side.mk ?_; (repeat' (first | refine And.intro ?_ ?_ | exact inR_i64 (by omega) (by omega) | omega | rfl | exact trivial | exact none_ne rfl | exact some_ne rfl (Nat.ne_of_beq_eq_false rfl) | exact Nat.ne_of_beq_eq_false rfl | (dsimp only [srcSide]; omega) | (simp; done) | (simp; omega))); done) | (refine side_and ?_ ?_) | (refine drawX_of mixed ?_)))
      dsimp only
      rw [hs]
      (refine Back.mk ?_ ?_ rfl rfl <;> (repeat' (first | refine EndV.mk ?_ | exact trivial | exact rfl | refine And.intro ?_ ?_)))
    | false =>
      (repeat' ((conv => whnf); first | (exfalso; omega) | (rw [hq2]) | (refine hK (k + 1) ([some 0, some 1]) _ _ ?_ ?_ ?_) | (refine end_fn [] (.inr rfl) ?_ trivial rfl rfl) | (refine split_nd (fun hb => ?_) (fun hb => ?_)) | (refine split_d (fun hb => ?_) (fun hb => ?_)) | (refine split_n (fun hb => ?_) (fun hb => ?_)) | (refine split_x (fun hb => ?_) (fun hb => ?_)) | (refine And.intro (TraceOK.mk (by kernel_rfl)) ?_) | (refine Side.mk ?_; (repeat' (first | refine And.intro ?_ ?_ | exact inR_i64 (by omega) (by omega) | omega | rfl | exact trivial | exact none_ne rfl | exact some_ne rfl (Nat.ne_of_beq_eq_false rfl) | exact Nat.ne_of_beq_eq_false rfl | (dsimp only [srcSide]; omega) | (simp; done) | (simp; omega))); done) | (refine side_and ?_ ?_) | (refine drawX_of mixed ?_)))
      dsimp only
      rw [hs]
      (refine Back.mk ?_ ?_ rfl rfl <;> (repeat' (first | refine EndV.mk ?_ | exact trivial | exact rfl | refine And.intro ?_ ?_)))
  · have hke : k = b.postings.length := by omega
    subst hke
    rw [List.take_length]
    by_cases bad : q.kind = 3 ∨ anyOf b.postings j = true ∨ b.closed = 12
    · have hno := dispS_no (d := d) (a := pickS amount 1000) hv hjl hd1 (by rw [hqq]; exact bad)
      have hD := DisputeU b j d (pickS amount 1000) (by omega)
      rw [hno] at hD
      replace hD : Meets Try.prog Dc 15 [ba b, .p (.int .i64 (j : Int)), .p (.int .i64 d), .p (.int .i64 (pickS amount 1000))] [] (.tuple [ba Go.SX.b0, .p (.int .i64 240)]) [] := hD
      (repeat' ((conv => whnf); first | (exfalso; omega) | (refine callx_pure (hD) rfl rfl ?_) | (refine dcallx_pure (hD) rfl rfl ?_) | (refine end_fn [] (.inr rfl) ?_ trivial rfl rfl) | (refine split_nd (fun hb => ?_) (fun hb => ?_)) | (refine split_d (fun hb => ?_) (fun hb => ?_)) | (refine split_n (fun hb => ?_) (fun hb => ?_)) | (refine split_x (fun hb => ?_) (fun hb => ?_)) | (refine And.intro (TraceOK.mk (by kernel_rfl)) ?_) | (refine Side.mk ?_; (repeat' (first | refine And.intro ?_ ?_ | exact inR_i64 (by omega) (by omega) | omega | rfl | exact trivial | exact none_ne rfl | exact some_ne rfl (Nat.ne_of_beq_eq_false rfl) | exact Nat.ne_of_beq_eq_false rfl | (dsimp only [srcSide]; omega) | (simp; done) | (simp; omega))); done) | (refine side_and ?_ ?_) | (refine drawX_of mixed ?_)))
      · (repeat' (first | refine EndV.mk ?_ | exact trivial | exact rfl | refine And.intro ?_ ?_))
      · (repeat' (first | refine EndV.mk ?_ | exact trivial | exact rfl | refine And.intro ?_ ?_))
      · (repeat' (first | refine EndV.mk ?_ | exact trivial | exact rfl | refine And.intro ?_ ?_))
      · exfalso
        rcases bad with h | h | h
        · contradiction
        · simp_all
        · contradiction
    · have hk3 : ¬ q.kind = 3 := fun h => bad (.inl h)
      have hA : anyOf b.postings j = false := by
        cases hc : anyOf b.postings j with
        | false => rfl
        | true => exact absurd (.inr (.inl hc)) bad
      have h12 : ¬ b.closed = 12 := fun h => bad (.inr (.inr h))
      have hyes := dispS_yes (d := d) (a := pickS amount 1000) hv hjl (by omega) hd1 (by omega) (by rw [hz]; exact hd2) ⟨q2.1, by omega⟩ (by rw [hqq]; exact hk3) hA
      have hcv := dispS_valid hyes
      have hD := DisputeU b j d (pickS amount 1000) (by omega)
      rw [hyes] at hD
      have hno := dispOf_again hcv hjl hd1 d (pickS amount 1000) hd1
      have hclen := (validBook_of hcv).len
      have hD2 := DisputeU (dispOf b j d (pickS amount 1000)) j d (pickS amount 1000) (by omega)
      rw [hno] at hD2
      have how := fun s => owedL_disp hv hcv hjl q2.1 (by rw [hqq]; exact hk3) hA s
      have hst := fun m => stmtL_disp (d := d) (a := pickS amount 1000) hv hjl q2.1 m
      rw [hqq] at how hst
      have hcacc : (dispOf b j d (pickS amount 1000)).accounts = b.accounts := rfl
      generalize dispOf b j d (pickS amount 1000) = c at hcv hD hD2 how hst hclen hcacc
      replace hD : Meets Try.prog Dc 15 [ba b, .p (.int .i64 (j : Int)), .p (.int .i64 d), .p (.int .i64 (pickS amount 1000))] [] (.tuple [ba c, .p (.int .i64 0)]) [] := hD
      replace hD2 : Meets Try.prog Dc 15 [ba c, .p (.int .i64 (j : Int)), .p (.int .i64 d), .p (.int .i64 (pickS amount 1000))] [] (.tuple [ba Go.SX.b0, .p (.int .i64 240)]) [] := hD2
      rw [hA]
      (repeat' ((conv => whnf); first | (exfalso; omega) | (refine callx_pure (hD) rfl rfl ?_) | (refine dcallx_pure (hD) rfl rfl ?_) | (refine callx_pure (hD2) rfl rfl ?_) | (refine dcallx_pure (hD2) rfl rfl ?_) | (refine end_fn [] (.inr rfl) ?_ trivial rfl rfl) | (refine split_nd (fun hb => ?_) (fun hb => ?_)) | (refine split_d (fun hb => ?_) (fun hb => ?_)) | (refine split_n (fun hb => ?_) (fun hb => ?_)) | (refine split_x (fun hb => ?_) (fun hb => ?_)) | (refine And.intro (TraceOK.mk (by kernel_rfl)) ?_) | (refine Side.mk ?_; (repeat' (first | refine And.intro ?_ ?_ | exact inR_i64 (by omega) (by omega) | omega | rfl | exact trivial | exact none_ne rfl | exact some_ne rfl (Nat.ne_of_beq_eq_false rfl) | exact Nat.ne_of_beq_eq_false rfl | (dsimp only [srcSide]; omega) | (simp; done) | (simp; omega))); done) | (refine side_and ?_ ?_) | (refine drawX_of mixed ?_)))
      obtain ⟨N, hN⟩ : ∃ N, b.accounts.toNat = N := ⟨_, rfl⟩
      rw [hN] at how hst
      have hzz : 0 + q.creditor.toNat ≠ 0 + q.debtor.toNat := by omega
      have hsi : 0 + 1 = Cd.n U.int := rfl
      have hsj : 1 = Cd.n U.int := rfl
      refine loop_up (fun s : Nat => [(23, .p (.int .i64 s))]) (fun _ => []) (fun s => s ≤ 6) (fun s => 6 - s) 0 (Nat.zero_le _) ⟨by (repeat' (first | refine EndV.mk ?_ | exact trivial | exact rfl | refine And.intro ?_ ?_)), by (repeat' (first | refine EndV.mk ?_ | exact trivial | exact rfl | refine And.intro ?_ ?_)), rfl, rfl⟩ ?_
      intro s hs K hK
      by_cases hs6 : s < 6
      · have hx := owedO_meets b s (by omega) hv ⟨by omega, by omega⟩
        have hy := OwedU c s (by omega)
        rw [owedS_some hcv (by omega), hcacc] at hy
        have ho := how s
        rw [hN] at hx hy
        replace hy : Meets Try.prog Dc 24 [ba c, .p (.int .i64 (s : Int))] [] (.tuple [.p (.dsl U.int (owedL c.postings s N c.postings.length)), .p (.int .i64 0)]) [] := hy
        rw [ho] at hy
        have hXl : (owedL b.postings s N b.postings.length).length = N := by simp [owedL]
        have hXb := owedL_bound hV s N
        generalize owedL b.postings s N b.postings.length = X at hx hy hXl hXb
        by_cases hsq : (s : Int) = q.subject
        · rw [if_pos hsq] at hy
          have hYl : (adjL X q (pickS amount 1000)).length = N := by simp [adjL, hXl]
          have hin := saneInts _ (ints_meets (adjL X q (pickS amount 1000)) (adjL X q (pickS amount 1000)) (by omega))
          have hb1 := hXb q.creditor.toNat
          have hb2 := hXb q.debtor.toNat
          (repeat' ((conv => whnf); first | (exfalso; omega) | (refine callh [] hx rfl rfl trivial ?_) | (refine callx_pure (hy) rfl rfl ?_) | (refine dcallx_pure (hy) rfl rfl ?_) | (rw [getD_set_ne _ _ _ _ _ hzz]) | (refine callx_read hin ?_ rfl ?_; · (refine ⟨?_⟩; (repeat' (first | refine EndV.mk ?_ | exact trivial | exact rfl | refine And.intro ?_ ?_)); exact froz_rows rfl hYl)) | (refine hK (s + 1) ([some 0, some 1, some 2, some 3]) _ _ ?_ ?_ ?_) | (refine end_fn [] (.inr rfl) ?_ trivial rfl rfl) | (refine split_nd (fun hb => ?_) (fun hb => ?_)) | (refine split_d (fun hb => ?_) (fun hb => ?_)) | (refine split_n (fun hb => ?_) (fun hb => ?_)) | (refine split_x (fun hb => ?_) (fun hb => ?_)) | (refine And.intro (TraceOK.mk (by kernel_rfl)) ?_) | (refine Side.mk ?_; (repeat' (first | refine And.intro ?_ ?_ | exact inR_i64 (by omega) (by omega) | omega | rfl | exact trivial | exact none_ne rfl | exact some_ne rfl (Nat.ne_of_beq_eq_false rfl) | exact Nat.ne_of_beq_eq_false rfl | (dsimp only [srcSide]; omega) | (simp; done) | (simp; omega))); done) | (refine side_and ?_ ?_) | (refine drawX_of mixed ?_)))
          dsimp only
          (refine Back.mk ?_ ?_ rfl rfl <;> (repeat' (first | refine EndV.mk ?_ | exact trivial | exact rfl | refine And.intro ?_ ?_)))
        · rw [if_neg hsq] at hy
          have hin := saneInts _ (ints_meets X X (by omega))
          (repeat' ((conv => whnf); first | (exfalso; omega) | (refine callh [] hx rfl rfl trivial ?_) | (refine callx_pure (hy) rfl rfl ?_) | (refine dcallx_pure (hy) rfl rfl ?_) | (refine callx_read hin ?_ rfl ?_; · (refine ⟨?_⟩; (repeat' (first | refine EndV.mk ?_ | exact trivial | exact rfl | refine And.intro ?_ ?_)); exact froz_rows rfl hXl)) | (refine hK (s + 1) ([some 0, some 1, some 2, some 3]) _ _ ?_ ?_ ?_) | (refine end_fn [] (.inr rfl) ?_ trivial rfl rfl) | (refine split_nd (fun hb => ?_) (fun hb => ?_)) | (refine split_d (fun hb => ?_) (fun hb => ?_)) | (refine split_n (fun hb => ?_) (fun hb => ?_)) | (refine split_x (fun hb => ?_) (fun hb => ?_)) | (refine And.intro (TraceOK.mk (by kernel_rfl)) ?_) | (refine Side.mk ?_; (repeat' (first | refine And.intro ?_ ?_ | exact inR_i64 (by omega) (by omega) | omega | rfl | exact trivial | exact none_ne rfl | exact some_ne rfl (Nat.ne_of_beq_eq_false rfl) | exact Nat.ne_of_beq_eq_false rfl | (dsimp only [srcSide]; omega) | (simp; done) | (simp; omega))); done) | (refine side_and ?_ ?_) | (refine drawX_of mixed ?_)))
          dsimp only
          (refine Back.mk ?_ ?_ rfl rfl <;> (repeat' (first | refine EndV.mk ?_ | exact trivial | exact rfl | refine And.intro ?_ ?_)))
      · have hse : s = 6 := by omega
        subst hse
        clear hK
        (repeat' ((conv => whnf); first | (exfalso; omega) | (refine end_fn [] (.inr rfl) ?_ trivial rfl rfl) | (refine split_nd (fun hb => ?_) (fun hb => ?_)) | (refine split_d (fun hb => ?_) (fun hb => ?_)) | (refine split_n (fun hb => ?_) (fun hb => ?_)) | (refine split_x (fun hb => ?_) (fun hb => ?_)) | (refine And.intro (TraceOK.mk (by kernel_rfl)) ?_) | (refine Side.mk ?_; (repeat' (first | refine And.intro ?_ ?_ | exact inR_i64 (by omega) (by omega) | omega | rfl | exact trivial | exact none_ne rfl | exact some_ne rfl (Nat.ne_of_beq_eq_false rfl) | exact Nat.ne_of_beq_eq_false rfl | (dsimp only [srcSide]; omega) | (simp; done) | (simp; omega))); done) | (refine side_and ?_ ?_) | (refine drawX_of mixed ?_)))
        refine loop_up (fun s : Nat => [(28, .p (.int .i64 s))]) (fun _ => []) (fun s => s ≤ 12) (fun s => 12 - s) 0 (Nat.zero_le _) ⟨by (repeat' (first | refine EndV.mk ?_ | exact trivial | exact rfl | refine And.intro ?_ ?_)), by (repeat' (first | refine EndV.mk ?_ | exact trivial | exact rfl | refine And.intro ?_ ?_)), rfl, rfl⟩ ?_
        intro s hs K hK
        by_cases hs12 : s < 12
        · have hx := statementO_meets b s (by omega) hv ⟨by omega, by omega⟩
          have hy := StatementU c s (by omega)
          rw [stmtS_some hcv (by omega), hcacc] at hy
          have ho := hst s
          rw [hN] at hx hy
          replace hy : Meets Try.prog Dc 19 [ba c, .p (.int .i64 (s : Int))] [] (.tuple [.p (.dsl U.int (stmtL c s N)), .p (.int .i64 0)]) [] := hy
          rw [ho] at hy
          have hXl : (stmtL b s N).length = N := by simp [stmtL]
          have hXb := stmtL_bound hV s N
          generalize stmtL b s N = X at hx hy hXl hXb
          by_cases hsq : (s : Int) = d.tdiv 30
          · rw [if_pos hsq] at hy
            have hYl : (adjL X q (pickS amount 1000)).length = N := by simp [adjL, hXl]
            have hin := saneInts _ (ints_meets (adjL X q (pickS amount 1000)) (adjL X q (pickS amount 1000)) (by omega))
            have hb1 := hXb q.creditor.toNat
            have hb2 := hXb q.debtor.toNat
            (repeat' ((conv => whnf); first | (exfalso; omega) | (refine callh [] hx rfl rfl trivial ?_) | (refine callx_pure (hy) rfl rfl ?_) | (refine dcallx_pure (hy) rfl rfl ?_) | (rw [getD_set_ne _ _ _ _ _ hzz]) | (refine callx_read hin ?_ rfl ?_; · (refine ⟨?_⟩; (repeat' (first | refine EndV.mk ?_ | exact trivial | exact rfl | refine And.intro ?_ ?_)); exact froz_rows rfl hYl)) | (refine hK (s + 1) ([some 0, some 1, some 2, some 3]) _ _ ?_ ?_ ?_) | (refine end_fn [] (.inr rfl) ?_ trivial rfl rfl) | (refine split_nd (fun hb => ?_) (fun hb => ?_)) | (refine split_d (fun hb => ?_) (fun hb => ?_)) | (refine split_n (fun hb => ?_) (fun hb => ?_)) | (refine split_x (fun hb => ?_) (fun hb => ?_)) | (refine And.intro (TraceOK.mk (by kernel_rfl)) ?_) | (refine Side.mk ?_; (repeat' (first | refine And.intro ?_ ?_ | exact inR_i64 (by omega) (by omega) | omega | rfl | exact trivial | exact none_ne rfl | exact some_ne rfl (Nat.ne_of_beq_eq_false rfl) | exact Nat.ne_of_beq_eq_false rfl | (dsimp only [srcSide]; omega) | (simp; done) | (simp; omega))); done) | (refine side_and ?_ ?_) | (refine drawX_of mixed ?_)))
            dsimp only
            (refine Back.mk ?_ ?_ rfl rfl <;> (repeat' (first | refine EndV.mk ?_ | exact trivial | exact rfl | refine And.intro ?_ ?_)))
          · rw [if_neg hsq] at hy
            have hin := saneInts _ (ints_meets X X (by omega))
            (repeat' ((conv => whnf); first | (exfalso; omega) | (refine callh [] hx rfl rfl trivial ?_) | (refine callx_pure (hy) rfl rfl ?_) | (refine dcallx_pure (hy) rfl rfl ?_) | (refine callx_read hin ?_ rfl ?_; · (refine ⟨?_⟩; (repeat' (first | refine EndV.mk ?_ | exact trivial | exact rfl | refine And.intro ?_ ?_)); exact froz_rows rfl hXl)) | (refine hK (s + 1) ([some 0, some 1, some 2, some 3]) _ _ ?_ ?_ ?_) | (refine end_fn [] (.inr rfl) ?_ trivial rfl rfl) | (refine split_nd (fun hb => ?_) (fun hb => ?_)) | (refine split_d (fun hb => ?_) (fun hb => ?_)) | (refine split_n (fun hb => ?_) (fun hb => ?_)) | (refine split_x (fun hb => ?_) (fun hb => ?_)) | (refine And.intro (TraceOK.mk (by kernel_rfl)) ?_) | (refine Side.mk ?_; (repeat' (first | refine And.intro ?_ ?_ | exact inR_i64 (by omega) (by omega) | omega | rfl | exact trivial | exact none_ne rfl | exact some_ne rfl (Nat.ne_of_beq_eq_false rfl) | exact Nat.ne_of_beq_eq_false rfl | (dsimp only [srcSide]; omega) | (simp; done) | (simp; omega))); done) | (refine side_and ?_ ?_) | (refine drawX_of mixed ?_)))
            dsimp only
            (refine Back.mk ?_ ?_ rfl rfl <;> (repeat' (first | refine EndV.mk ?_ | exact trivial | exact rfl | refine And.intro ?_ ?_)))
        · have hse : s = 12 := by omega
          subst hse
          (repeat' ((conv => whnf); first | (exfalso; omega) | (refine end_fn [] (.inr rfl) ?_ trivial rfl rfl) | (refine split_nd (fun hb => ?_) (fun hb => ?_)) | (refine split_d (fun hb => ?_) (fun hb => ?_)) | (refine split_n (fun hb => ?_) (fun hb => ?_)) | (refine split_x (fun hb => ?_) (fun hb => ?_)) | (refine And.intro (TraceOK.mk (by kernel_rfl)) ?_) | (refine Side.mk ?_; (repeat' (first | refine And.intro ?_ ?_ | exact inR_i64 (by omega) (by omega) | omega | rfl | exact trivial | exact none_ne rfl | exact some_ne rfl (Nat.ne_of_beq_eq_false rfl) | exact Nat.ne_of_beq_eq_false rfl | (dsimp only [srcSide]; omega) | (simp; done) | (simp; omega))); done) | (refine side_and ?_ ?_) | (refine drawX_of mixed ?_)))
          all_goals (repeat' (first | refine EndV.mk ?_ | exact trivial | exact rfl | refine And.intro ?_ ?_))
end Go.SX
