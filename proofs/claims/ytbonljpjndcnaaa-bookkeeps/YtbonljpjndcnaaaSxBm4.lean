/-
  Walks: Bm4, Bq0, Bq1: what single functions of the program compute.
-/
import Derived.Test.YtbonljpjndcnaaaSxBm0
namespace Go.SX
open Go.Proofs
set_option linter.unusedSimpArgs false
set_option linter.unusedVariables false
set_option maxHeartbeats 4000000
set_option maxRecDepth 100000
/-- every subject is one of six -/
def SubOK (xs : List Posting) : Prop := ∀ p ∈ xs, 0 ≤ p.subject ∧ p.subject < 6
theorem subOK_app {xs : List Posting} {p : Posting} (h : SubOK xs) (hp : 0 ≤ p.subject ∧ p.subject < 6) : SubOK (xs ++ [p]) := by
  intro q hq
  rcases List.mem_append.1 hq with hq | hq
  · exact h q hq
  · rw [List.mem_singleton.1 hq]; exact hp
theorem postS_sub {b b' : Book} {p : Posting} (h : postS b p = some b') (hs : SubOK b.postings) (hp : 0 ≤ p.subject ∧ p.subject < 6) : SubOK b'.postings := by
  rw [postS_eq] at h
  split at h
  · injection h with h; subst h; exact subOK_app hs hp
  · cases h
theorem dispS_sub {b b' : Book} {i d a : Int} (h : dispS b i d a = some b') (hs : SubOK b.postings) : SubOK b'.postings := by
  rw [dispS_eq] at h
  split at h
  · rename_i hc
    simp at hc
    have hq := hs _ (getD_mem (xs := b.postings) (j := i.toNat) (by omega))
    cases h1 : postS b (backOf (b.postings.getD i.toNat posting0) i d) with
    | none => rw [h1] at h; cases h
    | some b1 =>
      have s1 := postS_sub h1 hs hq
      rw [h1, Option.bind_some] at h
      split at h
      · injection h with h; subst h; exact s1
      · exact postS_sub h s1 hq
  · cases h
theorem madeNext_sub {b b' : Book} {d : Int} {x : A5} (h : madeNext b d x = some b') (hs : SubOK b.postings) : SubOK b'.postings := by
  unfold madeNext at h
  split at h
  · exact dispS_sub h hs
  · split at h
    · unfold closeS at h
      split at h
      · injection h with h; subst h; exact hs
      · cases h
    · exact postS_sub h hs (pickS_bound x.e 6 (by omega))
theorem madeSt_sub (accounts : Int) (l : List A5) : ∀ i, SubOK (madeSt accounts l i).1.postings
  | 0 => by intro p hp; simp [madeSt] at hp
  | i + 1 => by
    by_cases h : i < l.length
    · rw [madeSt_succ _ _ _ h]
      show SubOK ((madeNext _ _ _).getD _).postings
      cases hn : madeNext (madeSt accounts l i).1 (min 359 ((madeSt accounts l i).2 + pickS (l.getD i arr50).b 20)) (l.getD i arr50) with
      | none => exact madeSt_sub accounts l i
      | some b' => exact madeNext_sub hn (madeSt_sub accounts l i)
    · have : madeSt accounts l (i + 1) = madeSt accounts l i := by
        unfold madeSt; rw [List.take_of_length_le (by omega), List.take_of_length_le (by omega)]
      rw [this]; exact madeSt_sub accounts l i
theorem madeS_sub (accounts : Int) (l : List A5) : SubOK (madeS accounts l).postings := madeSt_sub accounts l _
theorem madeS_valid (accounts : Int) (l : List A5) : validB (madeS accounts l) = true := (madeSt_ok accounts l _).v
theorem stmtS_some {b : Book} (h : validB b = true) {m : Int} (hm : 0 ≤ m ∧ m < 12) : stmtS b m = some (stmtL b m b.accounts.toNat) := by
  unfold stmtS; rw [h, isInB_iff.2 ⟨hm.1, by omega⟩]; rfl
theorem owedS_some {b : Book} (h : validB b = true) {m : Int} (hm : 0 ≤ m ∧ m < 6) : owedS b m = some (owedL b.postings m b.accounts.toNat b.postings.length) := by
  unfold owedS; rw [h, isInB_iff.2 ⟨hm.1, by omega⟩]; rfl
theorem balS_some {b : Book} (h : validB b = true) {t m : Int} (ht : 0 ≤ t ∧ t < b.accounts) (hm : 0 ≤ m ∧ m < 12) : balS b t m = some (balL b.postings t m) := by
  unfold balS; rw [h, isInB_iff.2 ⟨ht.1, by omega⟩, isInB_iff.2 ⟨hm.1, by omega⟩]; rfl
end Go.SX

namespace Go.SX
open Go.Proofs
set_option linter.unusedSimpArgs false
set_option linter.unusedVariables false
set_option maxHeartbeats 4000000
set_option maxRecDepth 100000
/-- what a deed may make of a book -/
structure Keeps (b c : Book) : Prop where
  v : validB c = true
  acc : c.accounts = b.accounts
  cl : b.closed ≤ c.closed
  ext : ∃ ex : List Posting, c.postings = b.postings ++ ex ∧ ex.length ≤ 2 ∧ ∀ p ∈ ex, 30 * b.closed ≤ p.day
theorem postS_keeps {b c : Book} {p : Posting} (h : postS b p = some c) : Keeps b c ∧ c.postings = b.postings ++ [p] ∧ c.closed = b.closed ∧ 30 * b.closed ≤ p.day := by
  have hv := postS_valid h
  rw [postS_eq] at h
  split at h
  · rename_i hc
    injection h with h
    subst h
    simp only [Bool.and_eq_true, Bool.not_eq_true', decide_eq_false_iff_not, Int.not_lt] at hc
    exact ⟨⟨hv, rfl, Int.le_refl _, [p], rfl, by simp, by simpa using hc.2⟩, rfl, rfl, hc.2⟩
  · cases h
theorem dispS_keeps {b c : Book} {i d a : Int} (h : dispS b i d a = some c) : Keeps b c := by
  rw [dispS_eq] at h
  split at h
  · cases h1 : postS b (backOf (b.postings.getD i.toNat posting0) i d) with
    | none => rw [h1] at h; cases h
    | some b1 =>
      obtain ⟨k1, e1, e2, e3⟩ := postS_keeps h1
      rw [h1, Option.bind_some] at h
      split at h
      · injection h with h; subst h; exact k1
      · obtain ⟨k2, f1, f2, f3⟩ := postS_keeps h
        refine ⟨k2.v, k2.acc.trans k1.acc, by rw [← e2]; exact k2.cl, _, by rw [f1, e1, List.append_assoc], by simp, ?_⟩
        intro p hp
        simp only [List.mem_append, List.mem_singleton] at hp
        rw [e2] at f3
        rcases hp with rfl | rfl
        · exact e3
        · exact f3
  · cases h
theorem closeS_keeps {b c : Book} {m : Int} (h : closeS b m = some c) : Keeps b c ∧ c.postings = b.postings := by
  have hv := closeS_valid h
  unfold closeS at h
  split at h
  · rename_i hc
    simp only [Bool.and_eq_true, decide_eq_true_eq] at hc
    injection h with h
    subst h
    refine ⟨⟨hv, rfl, ?_, [], by simp, by simp, by simp⟩, rfl⟩
    show b.closed ≤ m + 1
    omega
  · cases h
theorem keeps_stmt {b c : Book} (h : Keeps b c) {m : Int} (h0 : 0 ≤ m) (hm : m < b.closed) (n : Nat) : stmtL c m n = stmtL b m n := by
  obtain ⟨ex, e, _, hd⟩ := h.ext
  unfold stmtL
  apply List.map_congr_left
  intro t _
  rw [e]
  unfold balL
  rw [List.map_append, List.sum_append]
  have : ((ex.map (entry (t : Int) m))).sum = 0 := by
    refine sum_zero_of _ fun p hp => ?_
    have h1 := hd p hp
    have h2 : (30 * (m + 1)) ≤ p.day := by omega
    have h3 : p.day.tdiv 30 ≠ m := by
      rw [Int.tdiv_eq_ediv_of_nonneg (by omega)]; omega
    unfold entry
    rw [if_neg h3]
  rw [this, Int.add_zero]
end Go.SX

namespace Go.SX
open Go.Proofs
set_option linter.unusedSimpArgs false
set_option linter.unusedVariables false
set_option maxHeartbeats 4000000
set_option maxRecDepth 100000
theorem lawpickS (c n : Int) (hc : Side (-9223372036854775808 ≤ c ∧ c ≤ 9223372036854775807)) (hn : Side (0 < n)) : Meets Try.prog Dc 14 [.p (.int .i64 c), .p (.int .i64 n)] [] (.p (.int .i64 (pickS c n))) [] := lawpick_meets c n hc.h (by have := hn.h; omega)
theorem sameSelf (a : Book) (h : a.postings.length ≤ 1000) : Meets Try.prog Dc 13 [ba a, ba a] [] (.p (.bool true)) [] := by
  have := same_meets a a h
  rwa [decide_eq_true rfl] at this
theorem sameNil : Meets Try.prog Dc 13 [ba b0, .agg [.p (.int .i64 0), .p (.lit (.slice none 0 0)), .p (.int .i64 0)]] [] (.p (.bool true)) [] := meets_view (sameSelf b0 (by decide)) (by refine ⟨?_⟩; (repeat' (first | refine EndV.mk ?_ | exact trivial | exact rfl | refine And.intro ?_ ?_)))
theorem validT {b : Book} (h : validB b = true) : Meets Try.prog Dc 11 [ba b] [] (.p (.bool true)) [] := by
  have := valid_meets b (by have := (validBook_of h).len; omega)
  rwa [h] at this
theorem keepsSame {b c : Book} (h : Keeps b c) : Meets Try.prog Dc 26 [.p (.dsl U.posting (c.postings.take ((b.postings.length : Int)).toNat)), .p (.dsl U.posting b.postings)] [] (.p (.bool true)) [] := by
  obtain ⟨ex, e, _, _⟩ := h.ext
  have e2 : c.postings.take ((b.postings.length : Int)).toNat = b.postings := by rw [e]; simp
  rw [e2]
  have := samePostings_meets b.postings b.postings (by have := (validBook_of h.v).len; rw [e] at this; simp at this; omega)
  rwa [decide_eq_true rfl] at this
theorem keeps_meets (accounts : Int) (l more : List A5) (ha : I64 accounts) (hl : ∀ x ∈ l, A5OK x) (hL : (l.length : Int) ≤ 9223372036854775807) (hm : ∀ x ∈ more, A5OK x) (hM : (more.length : Int) ≤ 9223372036854775807) : Meets Try.prog Dc 5 [.p (.int .i64 accounts), .p (.dsl U.arr5 l), .p (.dsl U.arr5 more)] [] (.p (.bool true)) [] := by
  have hv := madeS_valid accounts l
  have hmade := made_meets accounts l ha hl hL
  generalize madeS accounts l = b0' at hv hmade
  have hvm := validT hv
  refine meets_of_gx Ax tab_ok Try.func5 (c := _) rfl Try.call5 1000 ?_
  (repeat' ((conv => whnf); first | (exfalso; omega) | (refine callx_pure (sane_meets) rfl rfl ?_) | (refine dcallx_pure (sane_meets) rfl rfl ?_) | (refine callx_pure (hmade) rfl rfl ?_) | (refine dcallx_pure (hmade) rfl rfl ?_) | (refine callx_pure (hvm) rfl rfl ?_) | (refine dcallx_pure (hvm) rfl rfl ?_) | (refine end_fn [] (.inr rfl) ?_ trivial rfl rfl) | (refine split_nd (fun hb => ?_) (fun hb => ?_)) | (refine split_d (fun hb => ?_) (fun hb => ?_)) | (refine split_n (fun hb => ?_) (fun hb => ?_)) | (refine split_x (fun hb => ?_) (fun hb => ?_)) | (refine And.intro (TraceOK.mk (by kernel_rfl)) ?_) | (refine Side.mk ?_; (repeat' (first | refine And.intro ?_ ?_ | exact inR_i64 (by omega) (by omega) | omega | rfl | exact trivial | exact none_ne rfl | exact some_ne rfl (Nat.ne_of_beq_eq_false rfl) | exact Nat.ne_of_beq_eq_false rfl | (dsimp only [srcSide]; omega) | (simp; done) | (simp; omega))); done) | (refine side_and ?_ ?_) | (refine drawX_of mixed ?_)))
  refine loop_up (fun g : Nat × Book => [(9, .p (.int .i64 g.1))]) (fun g => [(0, .var [.p (.int .i64 g.2.accounts), .p (.dsl U.posting g.2.postings), .p (.int .i64 g.2.closed)])]) (fun g => g.1 ≤ more.length ∧ g.1 ≤ 8 ∧ validB g.2 = true) (fun g => more.length - g.1) (0, b0') ⟨Nat.zero_le _, Nat.zero_le _, hv⟩ ⟨by (repeat' (first | refine EndV.mk ?_ | exact trivial | exact rfl | refine And.intro ?_ ?_)), by (repeat' (first | refine EndV.mk ?_ | exact trivial | exact rfl | refine And.intro ?_ ?_)), rfl, rfl⟩ ?_
  clear hv hmade hvm
  rintro ⟨i, b⟩ ⟨hi, hi8, hv⟩ K hK
  dsimp only at hi hi8 hv ⊢
  have hV := validBook_of hv
  have hacc := hV.acc
  have hcl := hV.closed
  have hlen := hV.len
  by_cases hc : i < more.length ∧ i < 8
  · obtain ⟨hlt, hlt8⟩ := hc
    have hx : A5OK (more.getD (i : Int).toNat (Cd.dflt U.arr5)) := hm _ (by show more.getD i arr50 ∈ more; simp [hlt])
    generalize hxe : more.getD (i : Int).toNat (Cd.dflt U.arr5) = x at hx
    have xa := hx.a.h
    have xb := hx.b.h
    have xc := hx.c.h
    have xd := hx.d.h
    have xe := hx.e.h
    have q1 := pickS_bound x.b 360 (by omega)
    have q2 := pickS_bound x.c 4 (by omega)
    have q3 := pickS_bound x.d 4 (by omega)
    have q4 := pickS_bound x.e 1000 (by omega)
    have q5 := pickS_bound x.e 6 (by omega)
    have q6 := pickS_bound x.c 30 (by omega)
    have q7 := pickS_bound x.a 4 (by omega)
    have q8 := pickS_bound x.b 13 (by omega)
    obtain ⟨p, hp⟩ : ∃ p : Posting, p = ⟨2, pickS x.b 360, pickS x.c 4, pickS x.d 4, pickS x.e 1000, pickS x.e 6, -1⟩ := ⟨_, rfl⟩
    have hpost := PostU b p (by omega)
    by_cases k2 : pickS x.a 4 = 2
    · rw [hp] at hpost
      have hd := DisputeU b (pickS x.c 30) (pickS x.b 360) (pickS x.e 1000) (by omega)
      cases hr : dispS b (pickS x.c 30) (pickS x.b 360) (pickS x.e 1000) with
      | none =>
        rw [hr] at hd
        replace hd : Meets Try.prog Dc 15 [ba b, .p (.int .i64 (pickS x.c 30)), .p (.int .i64 (pickS x.b 360)), .p (.int .i64 (pickS x.e 1000))] [] (.tuple [ba Go.SX.b0, .p (.int .i64 240)]) [] := hd
        have hz : (Go.SX.b0.postings.length : Int) = 0 := rfl
        (repeat' ((conv => whnf); first | (exfalso; omega) | (rw [hxe]) | (refine callx_pure (lawpickS _ _ ?_ ?_) rfl rfl ?_) | (refine dcallx_pure (lawpickS _ _ ?_ ?_) rfl rfl ?_) | (refine callx_pure (hpost) rfl rfl ?_) | (refine dcallx_pure (hpost) rfl rfl ?_) | (refine callx_pure (hd) rfl rfl ?_) | (refine dcallx_pure (hd) rfl rfl ?_) | (refine dcallx_pure (lawpickS _ _ ?_ ?_) rfl rfl ?_) | (refine callx_pure (sameNil) rfl rfl ?_) | (refine dcallx_pure (sameNil) rfl rfl ?_) | (refine hK (i + 1, b) ([some 0]) _ _ ?_ ?_ ?_) | (refine end_fn [] (.inr rfl) ?_ trivial rfl rfl) | (refine split_nd (fun hb => ?_) (fun hb => ?_)) | (refine split_d (fun hb => ?_) (fun hb => ?_)) | (refine split_n (fun hb => ?_) (fun hb => ?_)) | (refine split_x (fun hb => ?_) (fun hb => ?_)) | (refine And.intro (TraceOK.mk (by kernel_rfl)) ?_) | (refine Side.mk ?_; (repeat' (first | refine And.intro ?_ ?_ | exact inR_i64 (by omega) (by omega) | omega | rfl | exact trivial | exact none_ne rfl | exact some_ne rfl (Nat.ne_of_beq_eq_false rfl) | exact Nat.ne_of_beq_eq_false rfl | (dsimp only [srcSide]; omega) | (simp; done) | (simp; omega))); done) | (refine side_and ?_ ?_) | (refine drawX_of mixed ?_)))
        dsimp only
        (refine Back.mk ?_ ?_ rfl rfl <;> (repeat' (first | refine EndV.mk ?_ | exact trivial | exact rfl | refine And.intro ?_ ?_)))
      | some c =>
        have hk := dispS_keeps hr
        obtain ⟨ex, e1, e2, _⟩ := hk.ext
        have hcv := hk.v
        have hCV := validBook_of hcv
        have hcacc := hk.acc
        have hccl := hk.cl
        have hclen := hCV.len
        have hcL : (b.postings.length : Int) ≤ c.postings.length ∧ (c.postings.length : Int) ≤ b.postings.length + 2 := by rw [e1]; simp; omega
        rw [hr] at hd
        replace hd : Meets Try.prog Dc 15 [ba b, .p (.int .i64 (pickS x.c 30)), .p (.int .i64 (pickS x.b 360)), .p (.int .i64 (pickS x.e 1000))] [] (.tuple [ba c, .p (.int .i64 0)]) [] := hd
        (repeat' ((conv => whnf); first | (exfalso; omega) | (rw [hxe]) | (refine callx_pure (lawpickS _ _ ?_ ?_) rfl rfl ?_) | (refine dcallx_pure (lawpickS _ _ ?_ ?_) rfl rfl ?_) | (refine callx_pure (hpost) rfl rfl ?_) | (refine dcallx_pure (hpost) rfl rfl ?_) | (refine callx_pure (hd) rfl rfl ?_) | (refine dcallx_pure (hd) rfl rfl ?_) | (refine dcallx_pure (lawpickS _ _ ?_ ?_) rfl rfl ?_) | (refine callx_pure (validT hcv) rfl rfl ?_) | (refine dcallx_pure (validT hcv) rfl rfl ?_) | (refine callx_pure (keepsSame hk) rfl rfl ?_) | (refine dcallx_pure (keepsSame hk) rfl rfl ?_) | (refine end_fn [] (.inr rfl) ?_ trivial rfl rfl) | (refine split_nd (fun hb => ?_) (fun hb => ?_)) | (refine split_d (fun hb => ?_) (fun hb => ?_)) | (refine split_n (fun hb => ?_) (fun hb => ?_)) | (refine split_x (fun hb => ?_) (fun hb => ?_)) | (refine And.intro (TraceOK.mk (by kernel_rfl)) ?_) | (refine Side.mk ?_; (repeat' (first | refine And.intro ?_ ?_ | exact inR_i64 (by omega) (by omega) | omega | rfl | exact trivial | exact none_ne rfl | exact some_ne rfl (Nat.ne_of_beq_eq_false rfl) | exact Nat.ne_of_beq_eq_false rfl | (dsimp only [srcSide]; omega) | (simp; done) | (simp; omega))); done) | (refine side_and ?_ ?_) | (refine drawX_of mixed ?_)))
        refine loop_up (fun m : Nat => [(17, .p (.int .i64 m))]) (fun _ => []) (fun m => (m : Int) ≤ b.closed) (fun m => b.closed.toNat - m) 0 (by show ((0 : Nat) : Int) ≤ b.closed; omega) ⟨by (repeat' (first | refine EndV.mk ?_ | exact trivial | exact rfl | refine And.intro ?_ ?_)), by (repeat' (first | refine EndV.mk ?_ | exact trivial | exact rfl | refine And.intro ?_ ?_)), rfl, rfl⟩ ?_
        intro m hm' K2 hK2
        by_cases hmc : (m : Int) < b.closed
        · have hs1 := StatementU b m (by omega)
          have hs2 := StatementU c m (by omega)
          rw [stmtS_some hv (by omega)] at hs1
          rw [stmtS_some hcv (by omega), keeps_stmt hk (by omega) hmc, hcacc] at hs2
          replace hs1 : Meets Try.prog Dc 19 [ba b, .p (.int .i64 (m : Int))] [] (.tuple [.p (.dsl U.int (stmtL b m b.accounts.toNat)), .p (.int .i64 0)]) [] := hs1
          replace hs2 : Meets Try.prog Dc 19 [ba c, .p (.int .i64 (m : Int))] [] (.tuple [.p (.dsl U.int (stmtL b m b.accounts.toNat)), .p (.int .i64 0)]) [] := hs2
          have hin := saneInts (stmtL b m b.accounts.toNat) (ints_meets _ _ (by simp [stmtL]; omega))
          (repeat' ((conv => whnf); first | (exfalso; omega) | (refine callx_pure (hs1) rfl rfl ?_) | (refine dcallx_pure (hs1) rfl rfl ?_) | (refine callx_pure (hs2) rfl rfl ?_) | (refine dcallx_pure (hs2) rfl rfl ?_) | (refine callx_pure (hin) rfl rfl ?_) | (refine dcallx_pure (hin) rfl rfl ?_) | (refine hK2 (m + 1) ([some 0, some 1, some 2, some 3]) _ _ ?_ ?_ ?_) | (refine end_fn [] (.inr rfl) ?_ trivial rfl rfl) | (refine split_nd (fun hb => ?_) (fun hb => ?_)) | (refine split_d (fun hb => ?_) (fun hb => ?_)) | (refine split_n (fun hb => ?_) (fun hb => ?_)) | (refine split_x (fun hb => ?_) (fun hb => ?_)) | (refine And.intro (TraceOK.mk (by kernel_rfl)) ?_) | (refine Side.mk ?_; (repeat' (first | refine And.intro ?_ ?_ | exact inR_i64 (by omega) (by omega) | omega | rfl | exact trivial | exact none_ne rfl | exact some_ne rfl (Nat.ne_of_beq_eq_false rfl) | exact Nat.ne_of_beq_eq_false rfl | (dsimp only [srcSide]; omega) | (simp; done) | (simp; omega))); done) | (refine side_and ?_ ?_) | (refine drawX_of mixed ?_)))
          dsimp only
          (refine Back.mk ?_ ?_ rfl rfl <;> (repeat' (first | refine EndV.mk ?_ | exact trivial | exact rfl | refine And.intro ?_ ?_)))
        · (repeat' ((conv => whnf); first | (exfalso; omega) | (refine hK (i + 1, c) ([some 0]) _ _ ?_ ?_ ?_) | (refine end_fn [] (.inr rfl) ?_ trivial rfl rfl) | (refine split_nd (fun hb => ?_) (fun hb => ?_)) | (refine split_d (fun hb => ?_) (fun hb => ?_)) | (refine split_n (fun hb => ?_) (fun hb => ?_)) | (refine split_x (fun hb => ?_) (fun hb => ?_)) | (refine And.intro (TraceOK.mk (by kernel_rfl)) ?_) | (refine Side.mk ?_; (repeat' (first | refine And.intro ?_ ?_ | exact inR_i64 (by omega) (by omega) | omega | rfl | exact trivial | exact none_ne rfl | exact some_ne rfl (Nat.ne_of_beq_eq_false rfl) | exact Nat.ne_of_beq_eq_false rfl | (dsimp only [srcSide]; omega) | (simp; done) | (simp; omega))); done) | (refine side_and ?_ ?_) | (refine drawX_of mixed ?_)))
          dsimp only
          (refine Back.mk ?_ ?_ rfl rfl <;> (repeat' (first | refine EndV.mk ?_ | exact trivial | exact rfl | refine And.intro ?_ ?_)))
    by_cases k3 : pickS x.a 4 = 3
    · rw [hp] at hpost
      have hd := CloseU b (pickS x.b 13) (by omega)
      cases hr : closeS b (pickS x.b 13) with
      | none =>
        rw [hr] at hd
        replace hd : Meets Try.prog Dc 17 [ba b, .p (.int .i64 (pickS x.b 13))] [] (.tuple [ba Go.SX.b0, .p (.int .i64 240)]) [] := hd
        have hz : (Go.SX.b0.postings.length : Int) = 0 := rfl
        (repeat' ((conv => whnf); first | (exfalso; omega) | (rw [hxe]) | (refine callx_pure (lawpickS _ _ ?_ ?_) rfl rfl ?_) | (refine dcallx_pure (lawpickS _ _ ?_ ?_) rfl rfl ?_) | (refine callx_pure (hpost) rfl rfl ?_) | (refine dcallx_pure (hpost) rfl rfl ?_) | (refine callx_pure (hd) rfl rfl ?_) | (refine dcallx_pure (hd) rfl rfl ?_) | (refine dcallx_pure (lawpickS _ _ ?_ ?_) rfl rfl ?_) | (refine callx_pure (sameNil) rfl rfl ?_) | (refine dcallx_pure (sameNil) rfl rfl ?_) | (refine hK (i + 1, b) ([some 0]) _ _ ?_ ?_ ?_) | (refine end_fn [] (.inr rfl) ?_ trivial rfl rfl) | (refine split_nd (fun hb => ?_) (fun hb => ?_)) | (refine split_d (fun hb => ?_) (fun hb => ?_)) | (refine split_n (fun hb => ?_) (fun hb => ?_)) | (refine split_x (fun hb => ?_) (fun hb => ?_)) | (refine And.intro (TraceOK.mk (by kernel_rfl)) ?_) | (refine Side.mk ?_; (repeat' (first | refine And.intro ?_ ?_ | exact inR_i64 (by omega) (by omega) | omega | rfl | exact trivial | exact none_ne rfl | exact some_ne rfl (Nat.ne_of_beq_eq_false rfl) | exact Nat.ne_of_beq_eq_false rfl | (dsimp only [srcSide]; omega) | (simp; done) | (simp; omega))); done) | (refine side_and ?_ ?_) | (refine drawX_of mixed ?_)))
        dsimp only
        (refine Back.mk ?_ ?_ rfl rfl <;> (repeat' (first | refine EndV.mk ?_ | exact trivial | exact rfl | refine And.intro ?_ ?_)))
      | some c =>
        obtain ⟨hk, e1⟩ := closeS_keeps hr
        have hcv := hk.v
        have hCV := validBook_of hcv
        have hcacc := hk.acc
        have hccl := hk.cl
        have hclen := hCV.len
        have hcL : (c.postings.length : Int) = b.postings.length := by rw [e1]
        rw [hr] at hd
        replace hd : Meets Try.prog Dc 17 [ba b, .p (.int .i64 (pickS x.b 13))] [] (.tuple [ba c, .p (.int .i64 0)]) [] := hd
        (repeat' ((conv => whnf); first | (exfalso; omega) | (rw [hxe]) | (refine callx_pure (lawpickS _ _ ?_ ?_) rfl rfl ?_) | (refine dcallx_pure (lawpickS _ _ ?_ ?_) rfl rfl ?_) | (refine callx_pure (hpost) rfl rfl ?_) | (refine dcallx_pure (hpost) rfl rfl ?_) | (refine callx_pure (hd) rfl rfl ?_) | (refine dcallx_pure (hd) rfl rfl ?_) | (refine dcallx_pure (lawpickS _ _ ?_ ?_) rfl rfl ?_) | (refine callx_pure (validT hcv) rfl rfl ?_) | (refine dcallx_pure (validT hcv) rfl rfl ?_) | (refine callx_pure (keepsSame hk) rfl rfl ?_) | (refine dcallx_pure (keepsSame hk) rfl rfl ?_) | (refine end_fn [] (.inr rfl) ?_ trivial rfl rfl) | (refine split_nd (fun hb => ?_) (fun hb => ?_)) | (refine split_d (fun hb => ?_) (fun hb => ?_)) | (refine split_n (fun hb => ?_) (fun hb => ?_)) | (refine split_x (fun hb => ?_) (fun hb => ?_)) | (refine And.intro (TraceOK.mk (by kernel_rfl)) ?_) | (refine Side.mk ?_; (repeat' (first | refine And.intro ?_ ?_ | exact inR_i64 (by omega) (by omega) | omega | rfl | exact trivial | exact none_ne rfl | exact some_ne rfl (Nat.ne_of_beq_eq_false rfl) | exact Nat.ne_of_beq_eq_false rfl | (dsimp only [srcSide]; omega) | (simp; done) | (simp; omega))); done) | (refine side_and ?_ ?_) | (refine drawX_of mixed ?_)))
        refine loop_up (fun m : Nat => [(17, .p (.int .i64 m))]) (fun _ => []) (fun m => (m : Int) ≤ b.closed) (fun m => b.closed.toNat - m) 0 (by show ((0 : Nat) : Int) ≤ b.closed; omega) ⟨by (repeat' (first | refine EndV.mk ?_ | exact trivial | exact rfl | refine And.intro ?_ ?_)), by (repeat' (first | refine EndV.mk ?_ | exact trivial | exact rfl | refine And.intro ?_ ?_)), rfl, rfl⟩ ?_
        intro m hm' K2 hK2
        by_cases hmc : (m : Int) < b.closed
        · have hs1 := StatementU b m (by omega)
          have hs2 := StatementU c m (by omega)
          rw [stmtS_some hv (by omega)] at hs1
          rw [stmtS_some hcv (by omega), keeps_stmt hk (by omega) hmc, hcacc] at hs2
          replace hs1 : Meets Try.prog Dc 19 [ba b, .p (.int .i64 (m : Int))] [] (.tuple [.p (.dsl U.int (stmtL b m b.accounts.toNat)), .p (.int .i64 0)]) [] := hs1
          replace hs2 : Meets Try.prog Dc 19 [ba c, .p (.int .i64 (m : Int))] [] (.tuple [.p (.dsl U.int (stmtL b m b.accounts.toNat)), .p (.int .i64 0)]) [] := hs2
          have hin := saneInts (stmtL b m b.accounts.toNat) (ints_meets _ _ (by simp [stmtL]; omega))
          (repeat' ((conv => whnf); first | (exfalso; omega) | (refine callx_pure (hs1) rfl rfl ?_) | (refine dcallx_pure (hs1) rfl rfl ?_) | (refine callx_pure (hs2) rfl rfl ?_) | (refine dcallx_pure (hs2) rfl rfl ?_) | (refine callx_pure (hin) rfl rfl ?_) | (refine dcallx_pure (hin) rfl rfl ?_) | (refine hK2 (m + 1) ([some 0, some 1, some 2, some 3]) _ _ ?_ ?_ ?_) | (refine end_fn [] (.inr rfl) ?_ trivial rfl rfl) | (refine split_nd (fun hb => ?_) (fun hb => ?_)) | (refine split_d (fun hb => ?_) (fun hb => ?_)) | (refine split_n (fun hb => ?_) (fun hb => ?_)) | (refine split_x (fun hb => ?_) (fun hb => ?_)) | (refine And.intro (TraceOK.mk (by kernel_rfl)) ?_) | (refine Side.mk ?_; (repeat' (first | refine And.intro ?_ ?_ | exact inR_i64 (by omega) (by omega) | omega | rfl | exact trivial | exact none_ne rfl | exact some_ne rfl (Nat.ne_of_beq_eq_false rfl) | exact Nat.ne_of_beq_eq_false rfl | (dsimp only [srcSide]; omega) | (simp; done) | (simp; omega))); done) | (refine side_and ?_ ?_) | (refine drawX_of mixed ?_)))
          dsimp only
          (refine Back.mk ?_ ?_ rfl rfl <;> (repeat' (first | refine EndV.mk ?_ | exact trivial | exact rfl | refine And.intro ?_ ?_)))
        · (repeat' ((conv => whnf); first | (exfalso; omega) | (refine hK (i + 1, c) ([some 0]) _ _ ?_ ?_ ?_) | (refine end_fn [] (.inr rfl) ?_ trivial rfl rfl) | (refine split_nd (fun hb => ?_) (fun hb => ?_)) | (refine split_d (fun hb => ?_) (fun hb => ?_)) | (refine split_n (fun hb => ?_) (fun hb => ?_)) | (refine split_x (fun hb => ?_) (fun hb => ?_)) | (refine And.intro (TraceOK.mk (by kernel_rfl)) ?_) | (refine Side.mk ?_; (repeat' (first | refine And.intro ?_ ?_ | exact inR_i64 (by omega) (by omega) | omega | rfl | exact trivial | exact none_ne rfl | exact some_ne rfl (Nat.ne_of_beq_eq_false rfl) | exact Nat.ne_of_beq_eq_false rfl | (dsimp only [srcSide]; omega) | (simp; done) | (simp; omega))); done) | (refine side_and ?_ ?_) | (refine drawX_of mixed ?_)))
          dsimp only
          (refine Back.mk ?_ ?_ rfl rfl <;> (repeat' (first | refine EndV.mk ?_ | exact trivial | exact rfl | refine And.intro ?_ ?_)))
    cases hr : postS b p with
    | none =>
      rw [hr, hp] at hpost
      replace hpost : Meets Try.prog Dc 9 [ba b, pa ⟨2, pickS x.b 360, pickS x.c 4, pickS x.d 4, pickS x.e 1000, pickS x.e 6, -1⟩] [] (.tuple [ba Go.SX.b0, .p (.int .i64 0), .p (.int .i64 240)]) [] := hpost
      have hz : (Go.SX.b0.postings.length : Int) = 0 := rfl
      (repeat' ((conv => whnf); first | (exfalso; omega) | (rw [hxe]) | (refine callx_pure (lawpickS _ _ ?_ ?_) rfl rfl ?_) | (refine dcallx_pure (lawpickS _ _ ?_ ?_) rfl rfl ?_) | (refine callx_pure (hpost) rfl rfl ?_) | (refine dcallx_pure (hpost) rfl rfl ?_) | (refine callx_pure (sameNil) rfl rfl ?_) | (refine dcallx_pure (sameNil) rfl rfl ?_) | (refine hK (i + 1, b) ([some 0]) _ _ ?_ ?_ ?_) | (refine end_fn [] (.inr rfl) ?_ trivial rfl rfl) | (refine split_nd (fun hb => ?_) (fun hb => ?_)) | (refine split_d (fun hb => ?_) (fun hb => ?_)) | (refine split_n (fun hb => ?_) (fun hb => ?_)) | (refine split_x (fun hb => ?_) (fun hb => ?_)) | (refine And.intro (TraceOK.mk (by kernel_rfl)) ?_) | (refine Side.mk ?_; (repeat' (first | refine And.intro ?_ ?_ | exact inR_i64 (by omega) (by omega) | omega | rfl | exact trivial | exact none_ne rfl | exact some_ne rfl (Nat.ne_of_beq_eq_false rfl) | exact Nat.ne_of_beq_eq_false rfl | (dsimp only [srcSide]; omega) | (simp; done) | (simp; omega))); done) | (refine side_and ?_ ?_) | (refine drawX_of mixed ?_)))
      dsimp only
      (refine Back.mk ?_ ?_ rfl rfl <;> (repeat' (first | refine EndV.mk ?_ | exact trivial | exact rfl | refine And.intro ?_ ?_)))
    | some c =>
      obtain ⟨hk, e1, e2, e3⟩ := postS_keeps hr
      have hcv := hk.v
      have hCV := validBook_of hcv
      have hcacc := hk.acc
      have hccl := hk.cl
      have hclen := hCV.len
      have hcL : (c.postings.length : Int) = b.postings.length + 1 := by rw [e1]; simp
      rw [hr, hp] at hpost
      replace hpost : Meets Try.prog Dc 9 [ba b, pa ⟨2, pickS x.b 360, pickS x.c 4, pickS x.d 4, pickS x.e 1000, pickS x.e 6, -1⟩] [] (.tuple [ba c, .p (.int .i64 b.postings.length), .p (.int .i64 0)]) [] := hpost
      (repeat' ((conv => whnf); first | (exfalso; omega) | (rw [hxe]) | (refine callx_pure (lawpickS _ _ ?_ ?_) rfl rfl ?_) | (refine dcallx_pure (lawpickS _ _ ?_ ?_) rfl rfl ?_) | (refine callx_pure (hpost) rfl rfl ?_) | (refine dcallx_pure (hpost) rfl rfl ?_) | (refine callx_pure (validT hcv) rfl rfl ?_) | (refine dcallx_pure (validT hcv) rfl rfl ?_) | (refine callx_pure (keepsSame hk) rfl rfl ?_) | (refine dcallx_pure (keepsSame hk) rfl rfl ?_) | (refine end_fn [] (.inr rfl) ?_ trivial rfl rfl) | (refine split_nd (fun hb => ?_) (fun hb => ?_)) | (refine split_d (fun hb => ?_) (fun hb => ?_)) | (refine split_n (fun hb => ?_) (fun hb => ?_)) | (refine split_x (fun hb => ?_) (fun hb => ?_)) | (refine And.intro (TraceOK.mk (by kernel_rfl)) ?_) | (refine Side.mk ?_; (repeat' (first | refine And.intro ?_ ?_ | exact inR_i64 (by omega) (by omega) | omega | rfl | exact trivial | exact none_ne rfl | exact some_ne rfl (Nat.ne_of_beq_eq_false rfl) | exact Nat.ne_of_beq_eq_false rfl | (dsimp only [srcSide]; omega) | (simp; done) | (simp; omega))); done) | (refine side_and ?_ ?_) | (refine drawX_of mixed ?_)))
      refine loop_up (fun m : Nat => [(17, .p (.int .i64 m))]) (fun _ => []) (fun m => (m : Int) ≤ b.closed) (fun m => b.closed.toNat - m) 0 (by show ((0 : Nat) : Int) ≤ b.closed; omega) ⟨by (repeat' (first | refine EndV.mk ?_ | exact trivial | exact rfl | refine And.intro ?_ ?_)), by (repeat' (first | refine EndV.mk ?_ | exact trivial | exact rfl | refine And.intro ?_ ?_)), rfl, rfl⟩ ?_
      intro m hm' K2 hK2
      by_cases hmc : (m : Int) < b.closed
      · have hs1 := StatementU b m (by omega)
        have hs2 := StatementU c m (by omega)
        rw [stmtS_some hv (by omega)] at hs1
        rw [stmtS_some hcv (by omega), keeps_stmt hk (by omega) hmc, hcacc] at hs2
        replace hs1 : Meets Try.prog Dc 19 [ba b, .p (.int .i64 (m : Int))] [] (.tuple [.p (.dsl U.int (stmtL b m b.accounts.toNat)), .p (.int .i64 0)]) [] := hs1
        replace hs2 : Meets Try.prog Dc 19 [ba c, .p (.int .i64 (m : Int))] [] (.tuple [.p (.dsl U.int (stmtL b m b.accounts.toNat)), .p (.int .i64 0)]) [] := hs2
        have hin := saneInts (stmtL b m b.accounts.toNat) (ints_meets _ _ (by simp [stmtL]; omega))
        (repeat' ((conv => whnf); first | (exfalso; omega) | (refine callx_pure (hs1) rfl rfl ?_) | (refine dcallx_pure (hs1) rfl rfl ?_) | (refine callx_pure (hs2) rfl rfl ?_) | (refine dcallx_pure (hs2) rfl rfl ?_) | (refine callx_pure (hin) rfl rfl ?_) | (refine dcallx_pure (hin) rfl rfl ?_) | (refine hK2 (m + 1) ([some 0, some 1, some 2, some 3]) _ _ ?_ ?_ ?_) | (refine end_fn [] (.inr rfl) ?_ trivial rfl rfl) | (refine split_nd (fun hb => ?_) (fun hb => ?_)) | (refine split_d (fun hb => ?_) (fun hb => ?_)) | (refine split_n (fun hb => ?_) (fun hb => ?_)) | (refine split_x (fun hb => ?_) (fun hb => ?_)) | (refine And.intro (TraceOK.mk (by kernel_rfl)) ?_) | (refine Side.mk ?_; (repeat' (first | refine And.intro ?_ ?_ | exact inR_i64 (by omega) (by omega) | omega | rfl | exact trivial | exact none_ne rfl | exact some_ne rfl (Nat.ne_of_beq_eq_false rfl) | exact Nat.ne_of_beq_eq_false rfl | (dsimp only [srcSide]; omega) | (simp; done) | (simp; omega))); done) | (refine side_and ?_ ?_) | (refine drawX_of mixed ?_)))
        dsimp only
        (refine Back.mk ?_ ?_ rfl rfl <;> (repeat' (first | refine EndV.mk ?_ | exact trivial | exact rfl | refine And.intro ?_ ?_)))
      · (repeat' ((conv => whnf); first | (exfalso; omega) | (refine hK (i + 1, c) ([some 0]) _ _ ?_ ?_ ?_) | (refine end_fn [] (.inr rfl) ?_ trivial rfl rfl) | (refine split_nd (fun hb => ?_) (fun hb => ?_)) | (refine split_d (fun hb => ?_) (fun hb => ?_)) | (refine split_n (fun hb => ?_) (fun hb => ?_)) | (refine split_x (fun hb => ?_) (fun hb => ?_)) | (refine And.intro (TraceOK.mk (by kernel_rfl)) ?_) | (refine Side.mk ?_; (repeat' (first | refine And.intro ?_ ?_ | exact inR_i64 (by omega) (by omega) | omega | rfl | exact trivial | exact none_ne rfl | exact some_ne rfl (Nat.ne_of_beq_eq_false rfl) | exact Nat.ne_of_beq_eq_false rfl | (dsimp only [srcSide]; omega) | (simp; done) | (simp; omega))); done) | (refine side_and ?_ ?_) | (refine drawX_of mixed ?_)))
        dsimp only
        (refine Back.mk ?_ ?_ rfl rfl <;> (repeat' (first | refine EndV.mk ?_ | exact trivial | exact rfl | refine And.intro ?_ ?_)))
  · (repeat' ((conv => whnf); first | (exfalso; omega) | (refine end_fn [] (.inr rfl) ?_ trivial rfl rfl) | (refine split_nd (fun hb => ?_) (fun hb => ?_)) | (refine split_d (fun hb => ?_) (fun hb => ?_)) | (refine split_n (fun hb => ?_) (fun hb => ?_)) | (refine split_x (fun hb => ?_) (fun hb => ?_)) | (refine And.intro (TraceOK.mk (by kernel_rfl)) ?_) | (refine Side.mk ?_; (repeat' (first | refine And.intro ?_ ?_ | exact inR_i64 (by omega) (by omega) | omega | rfl | exact trivial | exact none_ne rfl | exact some_ne rfl (Nat.ne_of_beq_eq_false rfl) | exact Nat.ne_of_beq_eq_false rfl | (dsimp only [srcSide]; omega) | (simp; done) | (simp; omega))); done) | (refine side_and ?_ ?_) | (refine drawX_of mixed ?_)))
    all_goals (repeat' (first | refine EndV.mk ?_ | exact trivial | exact rfl | refine And.intro ?_ ?_))
end Go.SX
