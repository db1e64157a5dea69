/-
  Walks: Bm4, Bm5: what single functions of the program compute.
-/
import Derived.Test.YtbonljpjndcnaaaSxBm0
namespace Go.SX
open Go.Proofs
set_option linter.unusedSimpArgs false
set_option linter.unusedVariables false
set_option maxHeartbeats 4000000
set_option maxRecDepth 100000
/-- every subject is one of six -/
def SubOK (xs : List Posting) : Prop := ∀ p ∈ xs, 0 ≤ p.subject ∧ p.subject < 6
theorem subOK_app {xs : List Posting} {p : Posting} (h : SubOK xs) (hp : 0 ≤ p.subject ∧ p.subject < 6) : SubOK (xs ++ [p]) := by
  intro q hq
  rcases List.mem_append.1 hq with hq | hq
  · exact h q hq
  · rw [List.mem_singleton.1 hq]; exact hp
theorem postS_sub {b b' : Book} {p : Posting} (h : postS b p = some b') (hs : SubOK b.postings) (hp : 0 ≤ p.subject ∧ p.subject < 6) : SubOK b'.postings := by
  rw [postS_eq] at h
  split at h
  · injection h with h; subst h; exact subOK_app hs hp
  · cases h
theorem dispS_sub {b b' : Book} {i d a : Int} (h : dispS b i d a = some b') (hs : SubOK b.postings) : SubOK b'.postings := by
  rw [dispS_eq] at h
  split at h
  · rename_i hc
    simp at hc
    have hq := hs _ (getD_mem (xs := b.postings) (j := i.toNat) (by omega))
    cases h1 : postS b (backOf (b.postings.getD i.toNat posting0) i d) with
    | none => rw [h1] at h; cases h
    | some b1 =>
      have s1 := postS_sub h1 hs hq
      rw [h1, Option.bind_some] at h
      split at h
      · injection h with h; subst h; exact s1
      · exact postS_sub h s1 hq
  · cases h
theorem madeNext_sub {b b' : Book} {d : Int} {x : A5} (h : madeNext b d x = some b') (hs : SubOK b.postings) : SubOK b'.postings := by
  unfold madeNext at h
  split at h
  · exact dispS_sub h hs
  · split at h
    · unfold closeS at h
      split at h
      · injection h with h; subst h; exact hs
      · cases h
    · exact postS_sub h hs (pickS_bound x.e 6 (by omega))
theorem madeSt_sub (accounts : Int) (l : List A5) : ∀ i, SubOK (madeSt accounts l i).1.postings
  | 0 => by intro p hp; simp [madeSt] at hp
  | i + 1 => by
    by_cases h : i < l.length
    · rw [madeSt_succ _ _ _ h]
      show SubOK ((madeNext _ _ _).getD _).postings
      cases hn : madeNext (madeSt accounts l i).1 (min 359 ((madeSt accounts l i).2 + pickS (l.getD i arr50).b 20)) (l.getD i arr50) with
      | none => exact madeSt_sub accounts l i
      | some b' => exact madeNext_sub hn (madeSt_sub accounts l i)
    · have : madeSt accounts l (i + 1) = madeSt accounts l i := by
        unfold madeSt; rw [List.take_of_length_le (by omega), List.take_of_length_le (by omega)]
      rw [this]; exact madeSt_sub accounts l i
theorem madeS_sub (accounts : Int) (l : List A5) : SubOK (madeS accounts l).postings := madeSt_sub accounts l _
theorem madeS_valid (accounts : Int) (l : List A5) : validB (madeS accounts l) = true := (madeSt_ok accounts l _).v
end Go.SX

namespace Go.SX
open Go.Proofs
set_option linter.unusedSimpArgs false
set_option linter.unusedVariables false
set_option maxHeartbeats 4000000
set_option maxRecDepth 100000
theorem stmtS_some {b : Book} (h : validB b = true) {m : Int} (hm : 0 ≤ m ∧ m < 12) : stmtS b m = some (stmtL b m b.accounts.toNat) := by
  unfold stmtS; rw [h, isInB_iff.2 ⟨hm.1, by omega⟩]; rfl
theorem owedS_some {b : Book} (h : validB b = true) {m : Int} (hm : 0 ≤ m ∧ m < 6) : owedS b m = some (owedL b.postings m b.accounts.toNat b.postings.length) := by
  unfold owedS; rw [h, isInB_iff.2 ⟨hm.1, by omega⟩]; rfl
theorem balS_some {b : Book} (h : validB b = true) {t m : Int} (ht : 0 ≤ t ∧ t < b.accounts) (hm : 0 ≤ m ∧ m < 12) : balS b t m = some (balL b.postings t m) := by
  unfold balS; rw [h, isInB_iff.2 ⟨ht.1, by omega⟩, isInB_iff.2 ⟨hm.1, by omega⟩]; rfl
/-- the sums so far -/
def allL (xs : List Posting) (n m t : Nat) : List Int := (List.range n).map fun k : Nat => psum (fun j : Nat => balL xs (k : Int) (j : Int)) (if k < t then m + 1 else m)
theorem balL_bound {b : Book} (h : ValidBook b) (t m : Int) : -200000000000000 ≤ balL b.postings t m ∧ balL b.postings t m ≤ 200000000000000 := by
  have := bal_bound h t m b.postings.length
  rwa [List.take_length] at this
theorem balps_bound {b : Book} (h : ValidBook b) (m : Int) (t : Nat) (ht : t ≤ 16) : -3200000000000000 ≤ psum (fun k : Nat => balL b.postings (k : Int) m) t ∧ psum (fun k : Nat => balL b.postings (k : Int) m) t ≤ 3200000000000000 := by
  have := psum_bound (fun k : Nat => balL b.postings (k : Int) m) 200000000000000 t fun i _ => balL_bound h i m
  omega
theorem balall_bound {b : Book} (h : ValidBook b) (t : Int) (m : Nat) (hm : m ≤ 12) : -2400000000000000 ≤ psum (fun j : Nat => balL b.postings t (j : Int)) m ∧ psum (fun j : Nat => balL b.postings t (j : Int)) m ≤ 2400000000000000 := by
  have := psum_bound (fun j : Nat => balL b.postings t (j : Int)) 200000000000000 m fun i _ => balL_bound h t i
  omega
theorem allL_set (xs : List Posting) (N m t : Nat) (h : t < N) : (allL xs N m t).set (0 + (t : Int).toNat) (psum (fun j : Nat => balL xs (t : Int) (j : Int)) m + balL xs t m) = allL xs N m (t + 1) := by
  have e : (0 + (t : Int).toNat) = t := by omega
  rw [e]
  unfold allL
  rw [set_map_range _ _ _ _ h]
  apply List.map_congr_left
  intro k hk
  by_cases h1 : k = t
  · subst h1; rw [if_pos rfl, if_pos (Nat.lt_succ_self _)]; rfl
  · rw [if_neg h1]
    by_cases h2 : k < t
    · rw [if_pos h2, if_pos (by omega)]
    · rw [if_neg h2, if_neg (by omega)]
theorem allL_next (xs : List Posting) (N m : Nat) : allL xs N m N = allL xs N (m + 1) 0 := by
  unfold allL
  apply List.map_congr_left
  intro k hk
  rw [if_pos (List.mem_range.1 hk), if_neg (by omega)]
/-- what is owed so far -/
def owdL (xs : List Posting) (n m t : Nat) : List Int := (List.range n).map fun k : Nat => psum (fun j : Nat => owedP xs (j : Int) (k : Int) xs.length) (if k < t then m + 1 else m)
theorem owd_bound {b : Book} (h : ValidBook b) (s t : Int) : -200000000000000 ≤ owedP b.postings s t b.postings.length ∧ owedP b.postings s t b.postings.length ≤ 200000000000000 := by
  have := owedP_bound h s t b.postings.length (Nat.le_refl _)
  have := h.len
  omega
theorem owdps_bound {b : Book} (h : ValidBook b) (s : Int) (t : Nat) (ht : t ≤ 16) : -3200000000000000 ≤ psum (fun k : Nat => owedP b.postings s (k : Int) b.postings.length) t ∧ psum (fun k : Nat => owedP b.postings s (k : Int) b.postings.length) t ≤ 3200000000000000 := by
  have := psum_bound (fun k : Nat => owedP b.postings s (k : Int) b.postings.length) 200000000000000 t fun i _ => owd_bound h s i
  omega
theorem owdall_bound {b : Book} (h : ValidBook b) (t : Int) (m : Nat) (hm : m ≤ 12) : -2400000000000000 ≤ psum (fun j : Nat => owedP b.postings (j : Int) t b.postings.length) m ∧ psum (fun j : Nat => owedP b.postings (j : Int) t b.postings.length) m ≤ 2400000000000000 := by
  have := psum_bound (fun j : Nat => owedP b.postings (j : Int) t b.postings.length) 200000000000000 m fun i _ => owd_bound h i t
  omega
theorem owdL_set (xs : List Posting) (N m t : Nat) (h : t < N) : (owdL xs N m t).set (0 + (t : Int).toNat) (psum (fun j : Nat => owedP xs (j : Int) (t : Int) xs.length) m + owedP xs m t xs.length) = owdL xs N m (t + 1) := by
  have e : (0 + (t : Int).toNat) = t := by omega
  rw [e]
  unfold owdL
  rw [set_map_range _ _ _ _ h]
  apply List.map_congr_left
  intro k hk
  by_cases h1 : k = t
  · subst h1; rw [if_pos rfl, if_pos (Nat.lt_succ_self _)]; rfl
  · rw [if_neg h1]
    by_cases h2 : k < t
    · rw [if_pos h2, if_pos (by omega)]
    · rw [if_neg h2, if_neg (by omega)]
theorem owdL_next (xs : List Posting) (N m : Nat) : owdL xs N m N = owdL xs N (m + 1) 0 := by
  unfold owdL
  apply List.map_congr_left
  intro k hk
  rw [if_pos (List.mem_range.1 hk), if_neg (by omega)]
/-- what is left when the first entries have been taken off -/
def restL (xs : List Posting) (n i : Nat) : List Int := (List.range n).map fun k : Nat => tot xs (k : Int) - tot (xs.take i) (k : Int)
theorem allL_rest {b : Book} (h : ValidBook b) (n : Nat) : allL b.postings n 12 0 = restL b.postings n 0 := by
  unfold allL restL
  apply List.map_congr_left
  intro k _
  rw [if_neg (by omega), bal_all h]
  simp [tot]
theorem owdL_rest {b : Book} (h : validB b = true) (hs : SubOK b.postings) (n : Nat) : owdL b.postings n 6 0 = restL b.postings n 0 := by
  unfold owdL restL
  apply List.map_congr_left
  intro k _
  rw [if_neg (by omega), owed_all (k : Int) hs _ (Nat.le_refl _), stand_tot h]
  simp [tot]
theorem restL_end (xs : List Posting) (n : Nat) : restL xs n xs.length = List.replicate n 0 := by
  apply List.ext_getElem
  · simp [restL]
  · intro k h1 h2; simp [restL]
theorem tot_succ (xs : List Posting) (i : Nat) (h : i < xs.length) (t : Int) : tot (xs.take (i + 1)) t = tot (xs.take i) t + delta (xs.getD i posting0) t := sum_take_succ (fun p => delta p t) xs i h
theorem restL_step {b : Book} (h : ValidBook b) (N : Nat) (hN : (N : Int) = b.accounts) (i : Nat) (hi : i < b.postings.length) :
    ((restL b.postings N i).set (b.postings.getD i posting0).creditor.toNat ((restL b.postings N i).getD (b.postings.getD i posting0).creditor.toNat 0 - (b.postings.getD i posting0).amount)).set (b.postings.getD i posting0).debtor.toNat
      (((restL b.postings N i).set (b.postings.getD i posting0).creditor.toNat ((restL b.postings N i).getD (b.postings.getD i posting0).creditor.toNat 0 - (b.postings.getD i posting0).amount)).getD (b.postings.getD i posting0).debtor.toNat 0 + (b.postings.getD i posting0).amount) = restL b.postings N (i + 1) := by
  have hF := formed_at h hi
  have hc := hF.cre
  have hd := hF.deb
  have hne := hF.ne
  have hs := fun t => tot_succ b.postings i hi t
  generalize b.postings.getD i posting0 = q at *
  have e : restL b.postings N (i + 1) = (List.range N).map fun k : Nat => (tot b.postings (k : Int) - tot (b.postings.take i) (k : Int)) - delta q (k : Int) := by
    unfold restL
    apply List.map_congr_left
    intro k _
    rw [hs]; omega
  rw [e]
  unfold restL
  rw [getD_map_range _ _ _ _ (by omega), set_map_range _ _ _ _ (by omega), getD_map_range _ _ _ _ (by omega), set_map_range _ _ _ _ (by omega)]
  apply List.map_congr_left
  intro k hk
  unfold delta
  by_cases h1 : k = q.debtor.toNat
  · subst h1
    rw [if_pos rfl, if_neg (by omega), if_neg (by omega), if_pos (by omega)]
    omega
  · rw [if_neg h1]
    by_cases h2 : k = q.creditor.toNat
    · subst h2
      rw [if_pos rfl, if_pos (by omega), if_neg (by omega)]
      have e2 : ((q.creditor.toNat : Nat) : Int) = q.creditor := by omega
      rw [e2]; omega
    · rw [if_neg h2, if_neg (by omega), if_neg (by omega)]; omega
theorem tot_bound {b : Book} (h : ValidBook b) (xs : List Posting) (hs : ∀ p ∈ xs, p ∈ b.postings) (hl : xs.length ≤ 200) (t : Int) : -200000000000000 ≤ tot xs t ∧ tot xs t ≤ 200000000000000 := by
  have := sum_bound (fun p => delta p t) 1000000000000 xs fun p hp => delta_bound (h.formed p (hs p hp)) t
  unfold tot
  omega
theorem restL_bound {b : Book} (h : ValidBook b) (N i : Nat) (hi : i < b.postings.length) (j : Nat) : -400000000000000 ≤ (restL b.postings N i).getD (0 + j) (Cd.dflt U.int) ∧ (restL b.postings N i).getD (0 + j) (Cd.dflt U.int) ≤ 400000000000000 := by
  have hl := h.len
  rw [Nat.zero_add]
  by_cases hj : j < N
  · have e : (restL b.postings N i).getD j (Cd.dflt U.int) = tot b.postings (j : Int) - tot (b.postings.take i) (j : Int) := getD_map_range _ _ _ _ hj
    rw [e]
    have h1 := tot_bound h b.postings (fun p hp => hp) hl (j : Int)
    have h2 := tot_bound h (b.postings.take i) (fun p hp => List.mem_of_mem_take hp) (by simp; omega) (j : Int)
    omega
  · have e : (restL b.postings N i).getD j (Cd.dflt U.int) = 0 := by
      rw [List.getD_eq_getElem?_getD, List.getElem?_eq_none (by simp [restL]; omega)]; rfl
    rw [e]; omega
theorem froz_rep {Hp : List (HS Cd)} {c N : Nat} (h : getC Hp c = .rows U.int (List.replicate N (0 : Int))) : View Hp [] (.slice c 0 1 0 N) (.p (.dsl U.int (List.replicate N (0 : Int)))) := by
  simp only [View]
  refine ⟨_, h, rfl, rfl, by rw [List.length_replicate]; omega, ?_, rfl⟩
  rw [List.drop_zero, List.take_replicate, Nat.min_self]
theorem sums_meets (accounts : Int) (l : List A5) (ha : I64 accounts) (hl : ∀ x ∈ l, A5OK x) (hL : (l.length : Int) ≤ 9223372036854775807) : Meets Try.prog Dc 4 [.p (.int .i64 accounts), .p (.dsl U.arr5 l)] [] (.p (.bool true)) [] := by
  have hv := madeS_valid accounts l
  have hsub := madeS_sub accounts l
  have hmade := made_meets accounts l ha hl hL
  generalize madeS accounts l = b at hv hsub hmade
  have hV := validBook_of hv
  have hacc := hV.acc
  have hlen := hV.len
  refine meets_of_gx Ax tab_ok Try.func4 (c := _) rfl Try.call4 1000 ?_
  (repeat' ((conv => whnf); first | (exfalso; omega) | (refine callx_pure (sane_meets) rfl rfl ?_) | (refine dcallx_pure (sane_meets) rfl rfl ?_) | (refine callx_pure (hmade) rfl rfl ?_) | (refine dcallx_pure (hmade) rfl rfl ?_) | (refine end_fn [] (.inr rfl) ?_ trivial rfl rfl) | (refine split_nd (fun hb => ?_) (fun hb => ?_)) | (refine split_d (fun hb => ?_) (fun hb => ?_)) | (refine split_n (fun hb => ?_) (fun hb => ?_)) | (refine split_x (fun hb => ?_) (fun hb => ?_)) | (refine And.intro (TraceOK.mk (by kernel_rfl)) ?_) | (refine Side.mk ?_; (repeat' (first | refine And.intro ?_ ?_ | exact inR_i64 (by omega) (by omega) | omega | rfl | exact trivial | exact none_ne rfl | exact some_ne rfl (Nat.ne_of_beq_eq_false rfl) | exact Nat.ne_of_beq_eq_false rfl | (dsimp only [srcSide]; omega) | (simp; done) | (simp; omega))); done) | (refine side_and ?_ ?_) | (refine drawX_of mixed ?_)))
  obtain ⟨N, hN⟩ : ∃ N, b.accounts.toNat = N := ⟨_, rfl⟩
  rw [hN]
  have h00 : allL b.postings N 0 0 = List.replicate N (Cd.dflt U.int) := by
    apply List.ext_getElem
    · simp [allL]
    · intro k h1 h2; simp [allL, psum]; rfl
  refine loop_up (fun m : Nat => [(8, .p (.int .i64 m))]) (fun m => [(1, .rows U.int (allL b.postings N m 0))]) (fun m => m ≤ 12) (fun m => 12 - m) 0 (Nat.zero_le _) ⟨by (repeat' (first | refine EndV.mk ?_ | exact trivial | exact rfl | refine And.intro ?_ ?_)), by (repeat' (first | refine EndV.mk ?_ | exact trivial | exact rfl | refine And.intro ?_ ?_)); exact congrArg _ h00, rfl, rfl⟩ ?_
  intro m hm K hK
  by_cases hm12 : m < 12
  · have hst := StatementU b m (by omega)
    rw [stmtS_some hv (by omega), hN] at hst
    replace hst : Meets Try.prog Dc 19 [ba b, .p (.int .i64 (m : Int))] [] (.tuple [.p (.dsl U.int (stmtL b m N)), .p (.int .i64 0)]) [] := hst
    have hSl : ((stmtL b m N).length : Int) = b.accounts := by simp [stmtL]; omega
    have hSg : ∀ t, t < N → (stmtL b m N).getD t 0 = balL b.postings t m := fun t ht => getD_map_range _ _ _ _ ht
    generalize stmtL b m N = S at hst hSl hSg
    (repeat' ((conv => whnf); first | (exfalso; omega) | (refine callx_pure (hst) rfl rfl ?_) | (refine dcallx_pure (hst) rfl rfl ?_) | (refine end_fn [] (.inr rfl) ?_ trivial rfl rfl) | (refine split_nd (fun hb => ?_) (fun hb => ?_)) | (refine split_d (fun hb => ?_) (fun hb => ?_)) | (refine split_n (fun hb => ?_) (fun hb => ?_)) | (refine split_x (fun hb => ?_) (fun hb => ?_)) | (refine And.intro (TraceOK.mk (by kernel_rfl)) ?_) | (refine Side.mk ?_; (repeat' (first | refine And.intro ?_ ?_ | exact inR_i64 (by omega) (by omega) | omega | rfl | exact trivial | exact none_ne rfl | exact some_ne rfl (Nat.ne_of_beq_eq_false rfl) | exact Nat.ne_of_beq_eq_false rfl | (dsimp only [srcSide]; omega) | (simp; done) | (simp; omega))); done) | (refine side_and ?_ ?_) | (refine drawX_of mixed ?_)))
    refine loop_up (fun t : Nat => [(11, .p (.int .i64 (psum (fun k : Nat => balL b.postings (k : Int) (m : Int)) t))), (12, .p (.int .i64 t))]) (fun t => [(1, .rows U.int (allL b.postings N m t))]) (fun t => t ≤ N) (fun t => N - t) 0 (Nat.zero_le _) ⟨by (repeat' (first | refine EndV.mk ?_ | exact trivial | exact rfl | refine And.intro ?_ ?_)), by (repeat' (first | refine EndV.mk ?_ | exact trivial | exact rfl | refine And.intro ?_ ?_)), rfl, rfl⟩ ?_
    intro t ht K2 hK2
    by_cases htN : t < N
    · have hbal := BalanceU b t m (by omega)
      rw [balS_some hv (by omega) (by omega)] at hbal
      replace hbal : Meets Try.prog Dc 21 [ba b, .p (.int .i64 (t : Int)), .p (.int .i64 (m : Int))] [] (.tuple [.p (.int .i64 (balL b.postings t m)), .p (.int .i64 0)]) [] := hbal
      have hSt : S.getD (t : Int).toNat (Cd.dflt U.int) = balL b.postings t m := hSg t htN
      have hps := balps_bound hV m t (by omega)
      have hbb := balL_bound hV t m
      have hAt : (allL b.postings N m t).getD (0 + (t : Int).toNat) (Cd.dflt U.int) = psum (fun j : Nat => balL b.postings (t : Int) (j : Int)) m := by
        show (allL b.postings N m t).getD (0 + t) 0 = _
        rw [Nat.zero_add]; exact (getD_map_range _ _ _ _ htN).trans (by rw [if_neg (Nat.lt_irrefl t)])
      have hal := balall_bound hV t m (by omega)
      have hset := allL_set b.postings N m t htN
      have hlenA : (allL b.postings N m t).length = N := by simp [allL]
      have hsi : 0 + 1 = Cd.n U.int := rfl
      have hsj : 1 = Cd.n U.int := rfl
      (repeat' ((conv => whnf); first | (exfalso; omega) | (rw [hSt]) | (rw [hAt]) | (refine callx_pure (hbal) rfl rfl ?_) | (refine dcallx_pure (hbal) rfl rfl ?_) | (refine hK2 (t + 1) [some 0, some 1] _ _ ?_ ?_ ?_) | (refine end_fn [] (.inr rfl) ?_ trivial rfl rfl) | (refine split_nd (fun hb => ?_) (fun hb => ?_)) | (refine split_d (fun hb => ?_) (fun hb => ?_)) | (refine split_n (fun hb => ?_) (fun hb => ?_)) | (refine split_x (fun hb => ?_) (fun hb => ?_)) | (refine And.intro (TraceOK.mk (by kernel_rfl)) ?_) | (refine Side.mk ?_; (repeat' (first | refine And.intro ?_ ?_ | exact inR_i64 (by omega) (by omega) | omega | rfl | exact trivial | exact none_ne rfl | exact some_ne rfl (Nat.ne_of_beq_eq_false rfl) | exact Nat.ne_of_beq_eq_false rfl | (dsimp only [srcSide]; omega) | (simp; done) | (simp; omega))); done) | (refine side_and ?_ ?_) | (refine drawX_of mixed ?_)))
      dsimp only
      rw [← hset]
      (refine Back.mk ?_ ?_ rfl rfl <;> (repeat' (first | refine EndV.mk ?_ | exact trivial | exact rfl | refine And.intro ?_ ?_)))
    · have htn : t = N := by omega
      subst htn
      have hz := bal_psum hV (m : Int)
      rw [hN] at hz
      have hnext := allL_next b.postings t m
      (repeat' ((conv => whnf); first | (exfalso; omega) | (refine hK (m + 1) [some 0, some 1] _ _ ?_ ?_ ?_) | (refine end_fn [] (.inr rfl) ?_ trivial rfl rfl) | (refine split_nd (fun hb => ?_) (fun hb => ?_)) | (refine split_d (fun hb => ?_) (fun hb => ?_)) | (refine split_n (fun hb => ?_) (fun hb => ?_)) | (refine split_x (fun hb => ?_) (fun hb => ?_)) | (refine And.intro (TraceOK.mk (by kernel_rfl)) ?_) | (refine Side.mk ?_; (repeat' (first | refine And.intro ?_ ?_ | exact inR_i64 (by omega) (by omega) | omega | rfl | exact trivial | exact none_ne rfl | exact some_ne rfl (Nat.ne_of_beq_eq_false rfl) | exact Nat.ne_of_beq_eq_false rfl | (dsimp only [srcSide]; omega) | (simp; done) | (simp; omega))); done) | (refine side_and ?_ ?_) | (refine drawX_of mixed ?_)))
      dsimp only
      rw [← hnext]
      (refine Back.mk ?_ ?_ rfl rfl <;> (repeat' (first | refine EndV.mk ?_ | exact trivial | exact rfl | refine And.intro ?_ ?_)))
  · have hme : m = 12 := by omega
    subst hme
    rw [allL_rest hV]
    (repeat' ((conv => whnf); first | (exfalso; omega) | (refine end_fn [] (.inr rfl) ?_ trivial rfl rfl) | (refine split_nd (fun hb => ?_) (fun hb => ?_)) | (refine split_d (fun hb => ?_) (fun hb => ?_)) | (refine split_n (fun hb => ?_) (fun hb => ?_)) | (refine split_x (fun hb => ?_) (fun hb => ?_)) | (refine And.intro (TraceOK.mk (by kernel_rfl)) ?_) | (refine Side.mk ?_; (repeat' (first | refine And.intro ?_ ?_ | exact inR_i64 (by omega) (by omega) | omega | rfl | exact trivial | exact none_ne rfl | exact some_ne rfl (Nat.ne_of_beq_eq_false rfl) | exact Nat.ne_of_beq_eq_false rfl | (dsimp only [srcSide]; omega) | (simp; done) | (simp; omega))); done) | (refine side_and ?_ ?_) | (refine drawX_of mixed ?_)))
    rw [hN]
    have h01 : owdL b.postings N 0 0 = List.replicate N (Cd.dflt U.int) := by
      apply List.ext_getElem
      · simp [owdL]
      · intro k h1 h2; simp [owdL, psum]; rfl
    refine loop_up (fun m : Nat => [(16, .p (.int .i64 m))]) (fun m => [(2, .rows U.int (owdL b.postings N m 0))]) (fun m => m ≤ 6) (fun m => 6 - m) 0 (Nat.zero_le _) ⟨by (repeat' (first | refine EndV.mk ?_ | exact trivial | exact rfl | refine And.intro ?_ ?_)), by (repeat' (first | refine EndV.mk ?_ | exact trivial | exact rfl | refine And.intro ?_ ?_)); exact congrArg _ h01, rfl, rfl⟩ ?_
    intro m hm K hK
    by_cases hm6 : m < 6
    · have hst := OwedU b m (by omega)
      rw [owedS_some hv (by omega), hN] at hst
      replace hst : Meets Try.prog Dc 24 [ba b, .p (.int .i64 (m : Int))] [] (.tuple [.p (.dsl U.int (owedL b.postings m N b.postings.length)), .p (.int .i64 0)]) [] := hst
      have hSl : ((owedL b.postings m N b.postings.length).length : Int) = b.accounts := by simp [owedL]; omega
      have hSg : ∀ t, t < N → (owedL b.postings m N b.postings.length).getD t 0 = owedP b.postings m t b.postings.length := fun t ht => getD_map_range _ _ _ _ ht
      generalize owedL b.postings m N b.postings.length = S at hst hSl hSg
      (repeat' ((conv => whnf); first | (exfalso; omega) | (refine callx_pure (hst) rfl rfl ?_) | (refine dcallx_pure (hst) rfl rfl ?_) | (refine end_fn [] (.inr rfl) ?_ trivial rfl rfl) | (refine split_nd (fun hb => ?_) (fun hb => ?_)) | (refine split_d (fun hb => ?_) (fun hb => ?_)) | (refine split_n (fun hb => ?_) (fun hb => ?_)) | (refine split_x (fun hb => ?_) (fun hb => ?_)) | (refine And.intro (TraceOK.mk (by kernel_rfl)) ?_) | (refine Side.mk ?_; (repeat' (first | refine And.intro ?_ ?_ | exact inR_i64 (by omega) (by omega) | omega | rfl | exact trivial | exact none_ne rfl | exact some_ne rfl (Nat.ne_of_beq_eq_false rfl) | exact Nat.ne_of_beq_eq_false rfl | (dsimp only [srcSide]; omega) | (simp; done) | (simp; omega))); done) | (refine side_and ?_ ?_) | (refine drawX_of mixed ?_)))
      refine loop_up (fun t : Nat => [(19, .p (.int .i64 (psum (fun k : Nat => owedP b.postings (m : Int) (k : Int) b.postings.length) t))), (20, .p (.int .i64 t))]) (fun t => [(2, .rows U.int (owdL b.postings N m t))]) (fun t => t ≤ N) (fun t => N - t) 0 (Nat.zero_le _) ⟨by (repeat' (first | refine EndV.mk ?_ | exact trivial | exact rfl | refine And.intro ?_ ?_)), by (repeat' (first | refine EndV.mk ?_ | exact trivial | exact rfl | refine And.intro ?_ ?_)), rfl, rfl⟩ ?_
      intro t ht K2 hK2
      by_cases htN : t < N
      · have hSt : S.getD (t : Int).toNat (Cd.dflt U.int) = owedP b.postings m t b.postings.length := hSg t htN
        have hps := owdps_bound hV m t (by omega)
        have hbb := owd_bound hV m t
        have hAt : (owdL b.postings N m t).getD (0 + (t : Int).toNat) (Cd.dflt U.int) = psum (fun j : Nat => owedP b.postings (j : Int) (t : Int) b.postings.length) m := by
          show (owdL b.postings N m t).getD (0 + t) 0 = _
          rw [Nat.zero_add]; exact (getD_map_range _ _ _ _ htN).trans (by rw [if_neg (Nat.lt_irrefl t)])
        have hal := owdall_bound hV t m (by omega)
        have hset := owdL_set b.postings N m t htN
        have hlenA : (owdL b.postings N m t).length = N := by simp [owdL]
        have hsi : 0 + 1 = Cd.n U.int := rfl
        have hsj : 1 = Cd.n U.int := rfl
        (repeat' ((conv => whnf); first | (exfalso; omega) | (rw [hSt]) | (rw [hAt]) | (refine hK2 (t + 1) [some 0, some 1, some 2] _ _ ?_ ?_ ?_) | (refine end_fn [] (.inr rfl) ?_ trivial rfl rfl) | (refine split_nd (fun hb => ?_) (fun hb => ?_)) | (refine split_d (fun hb => ?_) (fun hb => ?_)) | (refine split_n (fun hb => ?_) (fun hb => ?_)) | (refine split_x (fun hb => ?_) (fun hb => ?_)) | (refine And.intro (TraceOK.mk (by kernel_rfl)) ?_) | (refine Side.mk ?_; (repeat' (first | refine And.intro ?_ ?_ | exact inR_i64 (by omega) (by omega) | omega | rfl | exact trivial | exact none_ne rfl | exact some_ne rfl (Nat.ne_of_beq_eq_false rfl) | exact Nat.ne_of_beq_eq_false rfl | (dsimp only [srcSide]; omega) | (simp; done) | (simp; omega))); done) | (refine side_and ?_ ?_) | (refine drawX_of mixed ?_)))
        dsimp only
        rw [← hset]
        (refine Back.mk ?_ ?_ rfl rfl <;> (repeat' (first | refine EndV.mk ?_ | exact trivial | exact rfl | refine And.intro ?_ ?_)))
      · have htn : t = N := by omega
        subst htn
        have hz := owed_psum hV (m : Int) _ (Nat.le_refl _)
        rw [hN] at hz
        have hnext := owdL_next b.postings t m
        (repeat' ((conv => whnf); first | (exfalso; omega) | (refine hK (m + 1) [some 0, some 1, some 2] _ _ ?_ ?_ ?_) | (refine end_fn [] (.inr rfl) ?_ trivial rfl rfl) | (refine split_nd (fun hb => ?_) (fun hb => ?_)) | (refine split_d (fun hb => ?_) (fun hb => ?_)) | (refine split_n (fun hb => ?_) (fun hb => ?_)) | (refine split_x (fun hb => ?_) (fun hb => ?_)) | (refine And.intro (TraceOK.mk (by kernel_rfl)) ?_) | (refine Side.mk ?_; (repeat' (first | refine And.intro ?_ ?_ | exact inR_i64 (by omega) (by omega) | omega | rfl | exact trivial | exact none_ne rfl | exact some_ne rfl (Nat.ne_of_beq_eq_false rfl) | exact Nat.ne_of_beq_eq_false rfl | (dsimp only [srcSide]; omega) | (simp; done) | (simp; omega))); done) | (refine side_and ?_ ?_) | (refine drawX_of mixed ?_)))
        dsimp only
        rw [← hnext]
        (refine Back.mk ?_ ?_ rfl rfl <;> (repeat' (first | refine EndV.mk ?_ | exact trivial | exact rfl | refine And.intro ?_ ?_)))
    · have hme : m = 6 := by omega
      subst hme
      rw [owdL_rest hv hsub]
      (repeat' ((conv => whnf); first | (exfalso; omega) | (refine end_fn [] (.inr rfl) ?_ trivial rfl rfl) | (refine split_nd (fun hb => ?_) (fun hb => ?_)) | (refine split_d (fun hb => ?_) (fun hb => ?_)) | (refine split_n (fun hb => ?_) (fun hb => ?_)) | (refine split_x (fun hb => ?_) (fun hb => ?_)) | (refine And.intro (TraceOK.mk (by kernel_rfl)) ?_) | (refine Side.mk ?_; (repeat' (first | refine And.intro ?_ ?_ | exact inR_i64 (by omega) (by omega) | omega | rfl | exact trivial | exact none_ne rfl | exact some_ne rfl (Nat.ne_of_beq_eq_false rfl) | exact Nat.ne_of_beq_eq_false rfl | (dsimp only [srcSide]; omega) | (simp; done) | (simp; omega))); done) | (refine side_and ?_ ?_) | (refine drawX_of mixed ?_)))
      refine loop_up (fun i : Nat => [(21, .p (.int .i64 i))]) (fun i => [(1, .rows U.int (restL b.postings N i)), (2, .rows U.int (restL b.postings N i))]) (fun i => i ≤ b.postings.length) (fun i => b.postings.length - i) 0 (Nat.zero_le _) ⟨by (repeat' (first | refine EndV.mk ?_ | exact trivial | exact rfl | refine And.intro ?_ ?_)), by (repeat' (first | refine EndV.mk ?_ | exact trivial | exact rfl | refine And.intro ?_ ?_)), rfl, rfl⟩ ?_
      intro i hi K hK
      by_cases hlt : i < b.postings.length
      · have hF := formed_at hV hlt
        have hstep := restL_step hV N (by omega) i hlt
        have hq : b.postings.getD (i : Int).toNat (Cd.dflt U.posting) = b.postings.getD i posting0 := rfl
        generalize b.postings.getD i posting0 = q at hF hstep hq
        have hFc := hF.cre
        have hFd := hF.deb
        have hFn := hF.ne
        have hFa := hF.amt
        have hlen1 : (restL b.postings N i).length = N := by simp [restL]
        have hcd : 0 + q.creditor.toNat ≠ 0 + q.debtor.toNat := by omega
        have hr1 := restL_bound hV N i hlt q.creditor.toNat
        have hr2 := restL_bound hV N i hlt q.debtor.toNat
        have hstep' : ((restL b.postings N i).set (0 + q.creditor.toNat) ((restL b.postings N i).getD (0 + q.creditor.toNat) (Cd.dflt U.int) - q.amount)).set (0 + q.debtor.toNat) ((restL b.postings N i).getD (0 + q.debtor.toNat) (Cd.dflt U.int) + q.amount) = restL b.postings N (i + 1) := by
          rw [← hstep, Nat.zero_add, Nat.zero_add, getD_set_ne _ _ _ _ _ (by omega)]; rfl
        have hsi : 0 + 1 = Cd.n U.int := rfl
        have hsj : 1 = Cd.n U.int := rfl
        (repeat' ((conv => whnf); first | (exfalso; omega) | (rw [hq]) | (rw [getD_set_ne _ _ _ _ _ hcd]) | (refine hK (i + 1) ([some 0, some 1, some 2]) _ _ ?_ ?_ ?_) | (refine end_fn [] (.inr rfl) ?_ trivial rfl rfl) | (refine split_nd (fun hb => ?_) (fun hb => ?_)) | (refine split_d (fun hb => ?_) (fun hb => ?_)) | (refine split_n (fun hb => ?_) (fun hb => ?_)) | (refine split_x (fun hb => ?_) (fun hb => ?_)) | (refine And.intro (TraceOK.mk (by kernel_rfl)) ?_) | (refine Side.mk ?_; (repeat' (first | refine And.intro ?_ ?_ | exact inR_i64 (by omega) (by omega) | omega | rfl | exact trivial | exact none_ne rfl | exact some_ne rfl (Nat.ne_of_beq_eq_false rfl) | exact Nat.ne_of_beq_eq_false rfl | (dsimp only [srcSide]; omega) | (simp; done) | (simp; omega))); done) | (refine side_and ?_ ?_) | (refine drawX_of mixed ?_)))
        dsimp only
        rw [← hstep']
        (refine Back.mk ?_ ?_ rfl rfl <;> (repeat' (first | refine EndV.mk ?_ | exact trivial | exact rfl | refine And.intro ?_ ?_)))
      · have hie : i = b.postings.length := by omega
        subst hie
        rw [restL_end]
        have hin : Meets Try.prog Dc 23 [.p (.dsl U.int (List.replicate N 0)), .p (.dsl U.int (List.replicate N 0))] [] (.p (.bool true)) [] := saneInts _ (ints_meets _ _ (by simp; omega))
        (repeat' ((conv => whnf); first | (exfalso; omega) | (rw [hN]) | (refine end_fn [] (.inr rfl) ?_ trivial rfl rfl) | (refine split_nd (fun hb => ?_) (fun hb => ?_)) | (refine split_d (fun hb => ?_) (fun hb => ?_)) | (refine split_n (fun hb => ?_) (fun hb => ?_)) | (refine split_x (fun hb => ?_) (fun hb => ?_)) | (refine And.intro (TraceOK.mk (by kernel_rfl)) ?_) | (refine Side.mk ?_; (repeat' (first | refine And.intro ?_ ?_ | exact inR_i64 (by omega) (by omega) | omega | rfl | exact trivial | exact none_ne rfl | exact some_ne rfl (Nat.ne_of_beq_eq_false rfl) | exact Nat.ne_of_beq_eq_false rfl | (dsimp only [srcSide]; omega) | (simp; done) | (simp; omega))); done) | (refine side_and ?_ ?_) | (refine drawX_of mixed ?_)))
        refine callx_read hin ?_ rfl ?_
        · refine ⟨?_⟩; (repeat' (first | refine EndV.mk ?_ | exact trivial | exact rfl | refine And.intro ?_ ?_))
          · exact froz_rep rfl
          · exact froz_rep rfl
        (repeat' ((conv => whnf); first | (exfalso; omega) | (rw [hN]) | (refine callx_read hin ?_ rfl ?_; · (refine ⟨?_⟩; (repeat' (first | refine EndV.mk ?_ | exact trivial | exact rfl | refine And.intro ?_ ?_)); · exact froz_rep rfl; · exact froz_rep rfl)) | (refine end_fn [] (.inr rfl) ?_ trivial rfl rfl) | (refine split_nd (fun hb => ?_) (fun hb => ?_)) | (refine split_d (fun hb => ?_) (fun hb => ?_)) | (refine split_n (fun hb => ?_) (fun hb => ?_)) | (refine split_x (fun hb => ?_) (fun hb => ?_)) | (refine And.intro (TraceOK.mk (by kernel_rfl)) ?_) | (refine Side.mk ?_; (repeat' (first | refine And.intro ?_ ?_ | exact inR_i64 (by omega) (by omega) | omega | rfl | exact trivial | exact none_ne rfl | exact some_ne rfl (Nat.ne_of_beq_eq_false rfl) | exact Nat.ne_of_beq_eq_false rfl | (dsimp only [srcSide]; omega) | (simp; done) | (simp; omega))); done) | (refine side_and ?_ ?_) | (refine drawX_of mixed ?_)))
        refine callx_read hin ?_ rfl ?_
        · refine ⟨?_⟩; (repeat' (first | refine EndV.mk ?_ | exact trivial | exact rfl | refine And.intro ?_ ?_))
          · exact froz_rep rfl
          · exact froz_rep rfl
        (repeat' ((conv => whnf); first | (exfalso; omega) | (rw [hN]) | (refine end_fn [] (.inr rfl) ?_ trivial rfl rfl) | (refine split_nd (fun hb => ?_) (fun hb => ?_)) | (refine split_d (fun hb => ?_) (fun hb => ?_)) | (refine split_n (fun hb => ?_) (fun hb => ?_)) | (refine split_x (fun hb => ?_) (fun hb => ?_)) | (refine And.intro (TraceOK.mk (by kernel_rfl)) ?_) | (refine Side.mk ?_; (repeat' (first | refine And.intro ?_ ?_ | exact inR_i64 (by omega) (by omega) | omega | rfl | exact trivial | exact none_ne rfl | exact some_ne rfl (Nat.ne_of_beq_eq_false rfl) | exact Nat.ne_of_beq_eq_false rfl | (dsimp only [srcSide]; omega) | (simp; done) | (simp; omega))); done) | (refine side_and ?_ ?_) | (refine drawX_of mixed ?_)))
        all_goals (repeat' (first | refine EndV.mk ?_ | exact trivial | exact rfl | refine And.intro ?_ ?_))
end Go.SX
