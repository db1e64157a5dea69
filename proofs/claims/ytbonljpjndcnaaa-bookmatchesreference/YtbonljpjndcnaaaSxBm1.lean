/-
  Walks: Bm1, Bn0: what single functions of the program compute.
-/
import Derived.Test.YtbonljpjndcnaaaSxBl8
import Derived.Test.YtbonljpjndcnaaaSxTabA
import Derived.Test.YtbonljpjndcnaaaSxZ2
set_option linter.unusedVariables false
namespace Go.SX
open Go.Proofs
set_option linter.unusedSimpArgs false
set_option maxHeartbeats 4000000
set_option maxRecDepth 100000
theorem sameSelf (a : Book) (h : a.postings.length ≤ 1000) : Meets Try.prog Dc 13 [ba a, ba a] [] (.p (.bool true)) [] := by
  have := same_meets a a h
  rwa [decide_eq_true rfl] at this
theorem intsSelf (a : List Int) (h : a.length ≤ 1000) : Meets Try.prog Dc 23 [.p (.dsl U.int a), .p (.dsl U.int a)] [] (.p (.bool true)) [] := by
  have := ints_meets a a (by omega)
  rwa [show intsB a a = true by simp [intsB]] at this
theorem lawpickS (c n : Int) (hc : Side (-9223372036854775808 ≤ c ∧ c ≤ 9223372036854775807)) (hn : Side (0 < n)) : Meets Try.prog Dc 14 [.p (.int .i64 c), .p (.int .i64 n)] [] (.p (.int .i64 (pickS c n))) [] := lawpick_meets c n hc.h (by have := hn.h; omega)
theorem getD_mem2 {α : Type} (x y d : α) (i : Nat) (h : i < 2) : [x, y].getD i d = x ∨ [x, y].getD i d = y := by
  match i, h with
  | 0, _ => exact .inl rfl
  | 1, _ => exact .inr rfl
theorem postS_short (b : Book) (p : Posting) (h : b.postings.length ≤ 200) : ((postS b p).getD b0).postings.length ≤ 1000 := by
  rw [postS_eq]; split <;> simp [b0]; omega
theorem dispS_short (b : Book) (i d a : Int) (h : b.postings.length ≤ 200) : ((dispS b i d a).getD b0).postings.length ≤ 1000 := by
  cases hd : dispS b i d a with
  | none => simp [b0]
  | some b' => have := (validBook_of (dispS_valid hd)).len; simp; omega
theorem closeS_short (b : Book) (m : Int) (h : b.postings.length ≤ 200) : ((closeS b m).getD b0).postings.length ≤ 1000 := by
  cases hd : closeS b m with
  | none => simp [b0]
  | some b' => have := (validBook_of (closeS_valid hd)).len; simp; omega
theorem stmtS_short (b : Book) (m : Int) : ((stmtS b m).getD []).length ≤ 1000 := by
  unfold stmtS
  split
  · rename_i h
    simp only [Bool.and_eq_true] at h
    have := (validBook_of h.1).acc
    simp [stmtL]; omega
  · simp
theorem owedS_short (b : Book) (m : Int) : ((owedS b m).getD []).length ≤ 1000 := by
  unfold owedS
  split
  · rename_i h
    simp only [Bool.and_eq_true] at h
    have := (validBook_of h.1).acc
    simp [owedL]; omega
  · simp
theorem matches_meets (raw : Book) (accounts : Int) (l : List A5) (p : Posting) (j day amount month : Int) (hr : (raw.postings.length : Int) ≤ 9223372036854775807) (ha : I64 accounts) (hl : ∀ x ∈ l, A5OK x) (hL : (l.length : Int) ≤ 9223372036854775807) (hj : I64 j) (hm : I64 month) (hs : I64 p.subject) : Meets Try.prog Dc 3 [ba raw, .p (.int .i64 accounts), .p (.dsl U.arr5 l), pa p, .p (.int .i64 j), .p (.int .i64 day), .p (.int .i64 amount), .p (.int .i64 month)] [] (.p (.bool true)) [] := by
  have hj := hj.h
  have hm := hm.h
  have hs := hs.h
  refine meets_of_gx Ax tab_ok Try.func3 (c := _) rfl Try.call3 1000 ?_
  (repeat' ((conv => whnf); first | (refine callx_pure sane_meets rfl rfl ?_) | (refine callx_pure (made_meets accounts l ha hl hL) rfl rfl ?_) | (refine dcallx_pure (made_meets accounts l ha hl hL) rfl rfl ?_) | (refine end_fn [] (.inr rfl) ?_ trivial rfl rfl) | (refine split_nd (fun hb => ?_) (fun hb => ?_)) | (refine split_d (fun hb => ?_) (fun hb => ?_)) | (refine split_n (fun hb => ?_) (fun hb => ?_)) | (refine split_x (fun hb => ?_) (fun hb => ?_)) | (refine And.intro (TraceOK.mk (by kernel_rfl)) ?_) | (refine Side.mk ?_; (repeat' (first | refine And.intro ?_ ?_ | exact inR_i64 (by omega) (by omega) | omega | rfl | exact trivial | exact none_ne rfl | exact some_ne rfl (Nat.ne_of_beq_eq_false rfl) | exact Nat.ne_of_beq_eq_false rfl | (dsimp only [srcSide]; omega) | (simp; done) | (simp; omega))); done) | (refine side_and ?_ ?_) | (refine drawX_of mixed ?_)))
  obtain ⟨bs, hbs⟩ : ∃ bs : List Book, [⟨raw.accounts, (raw.postings.take (min (raw.postings.length : Int) 8).toNat).drop 0, raw.closed⟩, madeS accounts l] = bs := ⟨_, rfl⟩
  have hbl : ∀ i, i < 2 → (bs.getD i b0).postings.length ≤ 200 := by
    intro i hi
    subst hbs
    have h1 := (validBook_of (madeSt_ok accounts l (min l.length 24)).v).len
    rcases getD_mem2 _ _ b0 i hi with e | e <;> rw [e]
    · simp; omega
    · exact h1
  have hbn : bs.length = 2 := by subst hbs; rfl
  have hsz : 2 + 1 = Cd.n U.book := rfl
  refine loop_up (fun i : Nat => [(67, .p (.int .i64 i))]) (fun i => [(2, .rows U.book bs)]) (fun i => i ≤ 2) (fun i => 2 - i) 0 (Nat.zero_le _) ⟨by (repeat' (first | refine EndV.mk ?_ | exact trivial | exact rfl | refine And.intro ?_ ?_)), by (repeat' (first | refine EndV.mk ?_ | exact trivial | exact rfl | refine And.intro ?_ ?_)); subst hbs; rfl, rfl, rfl⟩ ?_
  intro i hi K hK
  by_cases hlt : i < 2
  · have hbL := hbl i hlt
    generalize hxe : bs.getD (0 + (i : Int).toNat) (Cd.dflt U.book) = b
    have hxe' : bs.getD i b0 = b := by rw [← hxe]; show _ = bs.getD (0 + i) b0; rw [Nat.zero_add]
    rw [hxe'] at hbL
    obtain ⟨vb, hvb⟩ : ∃ vb, validB b = vb := ⟨_, rfl⟩
    have hv1 := valid_meets b (by omega)
    have hv2 := refValid_meets b (by omega)
    rw [hvb] at hv1 hv2
    have hq1 := sameSelf ((postS b p).getD b0) (postS_short b p (by omega))
    have hcap : ∀ k, Meets Try.prog Dc 13 [ba ((dispS b k day amount).getD b0), ba ((dispS b k day amount).getD b0)] [] (.p (.bool true)) [] := fun k => sameSelf _ (dispS_short b k day amount (by omega))
    have hccp : ∀ k, Meets Try.prog Dc 13 [ba ((closeS b k).getD b0), ba ((closeS b k).getD b0)] [] (.p (.bool true)) [] := fun k => sameSelf _ (closeS_short b k (by omega))
    (repeat' ((conv => whnf); first | (exfalso; omega) | (exact absurd rfl hb) | (rw [hxe]) | (refine callx_pure (PostU b p (by omega)) rfl rfl ?_) | (refine dcallx_pure (PostU b p (by omega)) rfl rfl ?_) | (refine callx_pure (refPostU b p (by omega)) rfl rfl ?_) | (refine dcallx_pure (refPostU b p (by omega)) rfl rfl ?_) | (refine callx_pure (hv1) rfl rfl ?_) | (refine dcallx_pure (hv1) rfl rfl ?_) | (refine callx_pure (hv2) rfl rfl ?_) | (refine dcallx_pure (hv2) rfl rfl ?_) | (refine callx_pure (hq1) rfl rfl ?_) | (refine dcallx_pure (hq1) rfl rfl ?_) | (exact ⟨⟨by omega, hsz⟩⟩) | (refine callx_pure (lawpickS _ _ ?_ ?_) rfl rfl ?_) | (refine dcallx_pure (lawpickS _ _ ?_ ?_) rfl rfl ?_) | (refine end_fn [] (.inr rfl) ?_ trivial rfl rfl) | (refine split_nd (fun hb => ?_) (fun hb => ?_)) | (refine split_d (fun hb => ?_) (fun hb => ?_)) | (refine split_n (fun hb => ?_) (fun hb => ?_)) | (refine split_x (fun hb => ?_) (fun hb => ?_)) | (refine And.intro (TraceOK.mk (by kernel_rfl)) ?_) | (refine Side.mk ?_; (repeat' (first | refine And.intro ?_ ?_ | exact inR_i64 (by omega) (by omega) | omega | rfl | exact trivial | exact none_ne rfl | exact some_ne rfl (Nat.ne_of_beq_eq_false rfl) | exact Nat.ne_of_beq_eq_false rfl | (dsimp only [srcSide]; omega) | (simp; done) | (simp; omega))); done) | (refine side_and ?_ ?_) | (refine drawX_of mixed ?_)))
    obtain ⟨ks, hks⟩ : ∃ ks : List Int, [j, pickS j (b.postings.length + 1)] = ks := ⟨_, rfl⟩
    have hkn : ks.length = 2 := by subst hks; rfl
    have hsi : 0 + 1 = Cd.n U.int := rfl
    refine loop_up (fun i : Nat => [(115, .p (.int .i64 i))]) (fun i => [(6, .rows U.int ks)]) (fun i => i ≤ 2) (fun i => 2 - i) 0 (Nat.zero_le _) ⟨by (repeat' (first | refine EndV.mk ?_ | exact trivial | exact rfl | refine And.intro ?_ ?_)), by (repeat' (first | refine EndV.mk ?_ | exact trivial | exact rfl | refine And.intro ?_ ?_)); subst hks; rfl, rfl, rfl⟩ ?_
    intro i2 hi2 K2 hK2
    by_cases hlt2 : i2 < 2
    · generalize hke : ks.getD (0 + (i2 : Int).toNat) (Cd.dflt U.int) = k
      (repeat' ((conv => whnf); first | (exfalso; omega) | (exact absurd rfl hb) | (rw [hke]) | (refine callx_pure (DisputeU b k day amount (by omega)) rfl rfl ?_) | (refine dcallx_pure (DisputeU b k day amount (by omega)) rfl rfl ?_) | (refine callx_pure (refDisputeU b k day amount (by omega)) rfl rfl ?_) | (refine dcallx_pure (refDisputeU b k day amount (by omega)) rfl rfl ?_) | (refine callx_pure (hcap k) rfl rfl ?_) | (refine dcallx_pure (hcap k) rfl rfl ?_) | (refine hK2 (i2 + 1) ([some 0, some 1, some 2, some 3, some 4, some 5, some 6]) _ _ ?_ ?_ ?_) | (refine Back.mk ?_ ?_ rfl rfl <;> (repeat' (first | refine EndV.mk ?_ | exact trivial | exact rfl | refine And.intro ?_ ?_))) | (exact ⟨⟨by omega, hsi⟩⟩) | (refine end_fn [] (.inr rfl) ?_ trivial rfl rfl) | (refine split_nd (fun hb => ?_) (fun hb => ?_)) | (refine split_d (fun hb => ?_) (fun hb => ?_)) | (refine split_n (fun hb => ?_) (fun hb => ?_)) | (refine split_x (fun hb => ?_) (fun hb => ?_)) | (refine And.intro (TraceOK.mk (by kernel_rfl)) ?_) | (refine Side.mk ?_; (repeat' (first | refine And.intro ?_ ?_ | exact inR_i64 (by omega) (by omega) | omega | rfl | exact trivial | exact none_ne rfl | exact some_ne rfl (Nat.ne_of_beq_eq_false rfl) | exact Nat.ne_of_beq_eq_false rfl | (dsimp only [srcSide]; omega) | (simp; done) | (simp; omega))); done) | (refine side_and ?_ ?_) | (refine drawX_of mixed ?_)))
    (repeat' ((conv => whnf); first | (exfalso; omega) | (refine callx_pure (lawpickS _ _ ?_ ?_) rfl rfl ?_) | (refine dcallx_pure (lawpickS _ _ ?_ ?_) rfl rfl ?_) | (refine end_fn [] (.inr rfl) ?_ trivial rfl rfl) | (refine split_nd (fun hb => ?_) (fun hb => ?_)) | (refine split_d (fun hb => ?_) (fun hb => ?_)) | (refine split_n (fun hb => ?_) (fun hb => ?_)) | (refine split_x (fun hb => ?_) (fun hb => ?_)) | (refine And.intro (TraceOK.mk (by kernel_rfl)) ?_) | (refine Side.mk ?_; (repeat' (first | refine And.intro ?_ ?_ | exact inR_i64 (by omega) (by omega) | omega | rfl | exact trivial | exact none_ne rfl | exact some_ne rfl (Nat.ne_of_beq_eq_false rfl) | exact Nat.ne_of_beq_eq_false rfl | (dsimp only [srcSide]; omega) | (simp; done) | (simp; omega))); done) | (refine side_and ?_ ?_) | (refine drawX_of mixed ?_)))
    clear hK2 hkn hks
    obtain ⟨ks3, hks⟩ : ∃ ks3 : List Int, [month, pickS month 12, b.closed] = ks3 := ⟨_, rfl⟩
    have hkn : ks3.length = 3 := by subst hks; rfl
    refine loop_up (fun i : Nat => [(152, .p (.int .i64 i))]) (fun i => [(7, .rows U.int ks3)]) (fun i => i ≤ 3) (fun i => 3 - i) 0 (Nat.zero_le _) ⟨by (repeat' (first | refine EndV.mk ?_ | exact trivial | exact rfl | refine And.intro ?_ ?_)), by (repeat' (first | refine EndV.mk ?_ | exact trivial | exact rfl | refine And.intro ?_ ?_)); subst hks; rfl, rfl, rfl⟩ ?_
    intro i3 hi3 K3 hK3
    by_cases hlt3 : i3 < 3
    · generalize hke : ks3.getD (0 + (i3 : Int).toNat) (Cd.dflt U.int) = k
      have hin := intsSelf ((stmtS b k).getD []) (stmtS_short b k)
      (repeat' ((conv => whnf); first | (exfalso; omega) | (exact absurd rfl hb) | (rw [hke]) | (refine callx_pure (CloseU b k (by omega)) rfl rfl ?_) | (refine dcallx_pure (CloseU b k (by omega)) rfl rfl ?_) | (refine callx_pure (refCloseU b k (by omega)) rfl rfl ?_) | (refine dcallx_pure (refCloseU b k (by omega)) rfl rfl ?_) | (refine callx_pure (StatementU b k (by omega)) rfl rfl ?_) | (refine dcallx_pure (StatementU b k (by omega)) rfl rfl ?_) | (refine callx_pure (refStatementU b k (by omega)) rfl rfl ?_) | (refine dcallx_pure (refStatementU b k (by omega)) rfl rfl ?_) | (refine callx_pure (BalanceU b j k (by omega)) rfl rfl ?_) | (refine dcallx_pure (BalanceU b j k (by omega)) rfl rfl ?_) | (refine callx_pure (refBalanceU b j k (by omega)) rfl rfl ?_) | (refine dcallx_pure (refBalanceU b j k (by omega)) rfl rfl ?_) | (refine callx_pure (hccp k) rfl rfl ?_) | (refine dcallx_pure (hccp k) rfl rfl ?_) | (refine callx_pure (hin) rfl rfl ?_) | (refine dcallx_pure (hin) rfl rfl ?_) | (refine hK3 (i3 + 1) ([some 0, some 1, some 2, some 3, some 4, some 5, some 6, some 7]) _ _ ?_ ?_ ?_) | (refine Back.mk ?_ ?_ rfl rfl <;> (repeat' (first | refine EndV.mk ?_ | exact trivial | exact rfl | refine And.intro ?_ ?_))) | (exact ⟨⟨by omega, hsi⟩⟩) | (refine end_fn [] (.inr rfl) ?_ trivial rfl rfl) | (refine split_nd (fun hb => ?_) (fun hb => ?_)) | (refine split_d (fun hb => ?_) (fun hb => ?_)) | (refine split_n (fun hb => ?_) (fun hb => ?_)) | (refine split_x (fun hb => ?_) (fun hb => ?_)) | (refine And.intro (TraceOK.mk (by kernel_rfl)) ?_) | (refine Side.mk ?_; (repeat' (first | refine And.intro ?_ ?_ | exact inR_i64 (by omega) (by omega) | omega | rfl | exact trivial | exact none_ne rfl | exact some_ne rfl (Nat.ne_of_beq_eq_false rfl) | exact Nat.ne_of_beq_eq_false rfl | (dsimp only [srcSide]; omega) | (simp; done) | (simp; omega))); done) | (refine side_and ?_ ?_) | (refine drawX_of mixed ?_)))
    (repeat' ((conv => whnf); first | (exfalso; omega) | (refine callx_pure (lawpickS _ _ ?_ ?_) rfl rfl ?_) | (refine dcallx_pure (lawpickS _ _ ?_ ?_) rfl rfl ?_) | (refine end_fn [] (.inr rfl) ?_ trivial rfl rfl) | (refine split_nd (fun hb => ?_) (fun hb => ?_)) | (refine split_d (fun hb => ?_) (fun hb => ?_)) | (refine split_n (fun hb => ?_) (fun hb => ?_)) | (refine split_x (fun hb => ?_) (fun hb => ?_)) | (refine And.intro (TraceOK.mk (by kernel_rfl)) ?_) | (refine Side.mk ?_; (repeat' (first | refine And.intro ?_ ?_ | exact inR_i64 (by omega) (by omega) | omega | rfl | exact trivial | exact none_ne rfl | exact some_ne rfl (Nat.ne_of_beq_eq_false rfl) | exact Nat.ne_of_beq_eq_false rfl | (dsimp only [srcSide]; omega) | (simp; done) | (simp; omega))); done) | (refine side_and ?_ ?_) | (refine drawX_of mixed ?_)))
    clear hK3 hkn hks
    obtain ⟨ks4, hks⟩ : ∃ ks4 : List Int, [p.subject, pickS p.subject 6] = ks4 := ⟨_, rfl⟩
    have hkn : ks4.length = 2 := by subst hks; rfl
    refine loop_up (fun i : Nat => [(232, .p (.int .i64 i))]) (fun i => [(8, .rows U.int ks4)]) (fun i => i ≤ 2) (fun i => 2 - i) 0 (Nat.zero_le _) ⟨by (repeat' (first | refine EndV.mk ?_ | exact trivial | exact rfl | refine And.intro ?_ ?_)), by (repeat' (first | refine EndV.mk ?_ | exact trivial | exact rfl | refine And.intro ?_ ?_)); subst hks; rfl, rfl, rfl⟩ ?_
    intro i4 hi4 K4 hK4
    by_cases hlt4 : i4 < 2
    · generalize hke : ks4.getD (0 + (i4 : Int).toNat) (Cd.dflt U.int) = k
      have hin := intsSelf ((owedS b k).getD []) (owedS_short b k)
      (repeat' ((conv => whnf); first | (exfalso; omega) | (exact absurd rfl hb) | (rw [hke]) | (refine callx_pure (OwedU b k (by omega)) rfl rfl ?_) | (refine dcallx_pure (OwedU b k (by omega)) rfl rfl ?_) | (refine callx_pure (refOwedU b k (by omega)) rfl rfl ?_) | (refine dcallx_pure (refOwedU b k (by omega)) rfl rfl ?_) | (refine callx_pure (hin) rfl rfl ?_) | (refine dcallx_pure (hin) rfl rfl ?_) | (refine hK4 (i4 + 1) ([some 0, some 1, some 2, some 3, some 4, some 5, some 6, some 7, some 8]) _ _ ?_ ?_ ?_) | (refine Back.mk ?_ ?_ rfl rfl <;> (repeat' (first | refine EndV.mk ?_ | exact trivial | exact rfl | refine And.intro ?_ ?_))) | (exact ⟨⟨by omega, hsi⟩⟩) | (refine end_fn [] (.inr rfl) ?_ trivial rfl rfl) | (refine split_nd (fun hb => ?_) (fun hb => ?_)) | (refine split_d (fun hb => ?_) (fun hb => ?_)) | (refine split_n (fun hb => ?_) (fun hb => ?_)) | (refine split_x (fun hb => ?_) (fun hb => ?_)) | (refine And.intro (TraceOK.mk (by kernel_rfl)) ?_) | (refine Side.mk ?_; (repeat' (first | refine And.intro ?_ ?_ | exact inR_i64 (by omega) (by omega) | omega | rfl | exact trivial | exact none_ne rfl | exact some_ne rfl (Nat.ne_of_beq_eq_false rfl) | exact Nat.ne_of_beq_eq_false rfl | (dsimp only [srcSide]; omega) | (simp; done) | (simp; omega))); done) | (refine side_and ?_ ?_) | (refine drawX_of mixed ?_)))
    (repeat' ((conv => whnf); first | (exfalso; omega) | (refine hK (i + 1) ([some 0, some 1, some 2]) _ _ ?_ ?_ ?_) | (refine Back.mk ?_ ?_ rfl rfl <;> (repeat' (first | refine EndV.mk ?_ | exact trivial | exact rfl | refine And.intro ?_ ?_))) | (refine end_fn [] (.inr rfl) ?_ trivial rfl rfl) | (refine split_nd (fun hb => ?_) (fun hb => ?_)) | (refine split_d (fun hb => ?_) (fun hb => ?_)) | (refine split_n (fun hb => ?_) (fun hb => ?_)) | (refine split_x (fun hb => ?_) (fun hb => ?_)) | (refine And.intro (TraceOK.mk (by kernel_rfl)) ?_) | (refine Side.mk ?_; (repeat' (first | refine And.intro ?_ ?_ | exact inR_i64 (by omega) (by omega) | omega | rfl | exact trivial | exact none_ne rfl | exact some_ne rfl (Nat.ne_of_beq_eq_false rfl) | exact Nat.ne_of_beq_eq_false rfl | (dsimp only [srcSide]; omega) | (simp; done) | (simp; omega))); done) | (refine side_and ?_ ?_) | (refine drawX_of mixed ?_)))
  · (repeat' ((conv => whnf); first | (exfalso; omega) | (refine end_fn [] (.inr rfl) ?_ trivial rfl rfl) | (refine split_nd (fun hb => ?_) (fun hb => ?_)) | (refine split_d (fun hb => ?_) (fun hb => ?_)) | (refine split_n (fun hb => ?_) (fun hb => ?_)) | (refine split_x (fun hb => ?_) (fun hb => ?_)) | (refine And.intro (TraceOK.mk (by kernel_rfl)) ?_) | (refine Side.mk ?_; (repeat' (first | refine And.intro ?_ ?_ | exact inR_i64 (by omega) (by omega) | omega | rfl | exact trivial | exact none_ne rfl | exact some_ne rfl (Nat.ne_of_beq_eq_false rfl) | exact Nat.ne_of_beq_eq_false rfl | (dsimp only [srcSide]; omega) | (simp; done) | (simp; omega))); done) | (refine side_and ?_ ?_) | (refine drawX_of mixed ?_)))
    all_goals (repeat' (first | refine EndV.mk ?_ | exact trivial | exact rfl | refine And.intro ?_ ?_))
end Go.SX

namespace Go.SX
open Go.Proofs Go.Proofs.Ytbonljpjndcnaaa Go.ChangeShapes Go.WideShapes Go.ChangeAt Go.RowKit
set_option linter.unusedSimpArgs false
set_option maxHeartbeats 4000000
set_option maxRecDepth 100000
variable {H : Type} {enc : TypeId × Value → H} {W : World}
theorem rposting : ReadsAs (C := Cd) Dc enc Try.prog W 27 U.posting (fun p => I64 p.subject) := by
  refine ⟨by kernel_rfl, fun fuel cs x h => ?_⟩
  obtain ⟨zs, hlen, rfl, hz⟩ := trod_struct_ints Try.underlying27 (by kernel_rfl) (by kernel_rfl) h
  match zs, hlen, hz with
  | [a, b, c, d, e, f, g], _, hz => exact ⟨⟨a, b, c, d, e, f, g⟩, pdenL_ints Dc W (Old W) [a, b, c, d, e, f, g], hz f (by simp)⟩
theorem rarr5 : ReadsAs (C := Cd) Dc enc Try.prog W 48 U.arr5 A5OK := by
  refine ⟨by kernel_rfl, fun fuel cs x h => ?_⟩
  obtain ⟨zs, hlen, rfl, hz⟩ := trod_array_ints Try.underlying48 (by kernel_rfl) (by kernel_rfl) h
  match zs, hlen, hz with
  | [a, b, c, d, e], _, hz => exact ⟨⟨a, b, c, d, e⟩, pdenL_ints Dc W (Old W) [a, b, c, d, e], ⟨hz a (by simp), hz b (by simp), hz c (by simp), hz d (by simp), hz e (by simp)⟩⟩
variable {r : Reach} {b0' : Nat} {v : Value} {d : DataW H} {ps : List MemPlace}
theorem argPosting (ho : Value.okWide Try.prog W r b0' 27 v) (h : DataW.Trod enc Try.prog W 0 (fun _ => true) true 27 v d ps) : ∃ p : Posting, Den Dc W (En W) (pa p) v ∧ I64 p.subject := by
  obtain ⟨zs, hlen, rfl, hz⟩ := argInts Try.underlying27 (by kernel_rfl) (by kernel_rfl) ho h
  match zs, hlen, hz with
  | [a, b, c, d, e, f, g], _, hz =>
    refine ⟨⟨a, b, c, d, e, f, g⟩, ?_, hz f (by simp)⟩
    simp only [pa, Den]
    exact ⟨_, rfl, argC_int (argC_int (argC_int (argC_int (argC_int (argC_int (argC_int argC_nil))))))⟩
theorem argBook (ho : Value.okWide Try.prog W r b0' 24 v) (h : DataW.Trod enc Try.prog W 0 (fun _ => true) true 24 v d ps) : ∃ b : Book, Den Dc W (En W) (ba b) v ∧ (b.postings.length : Int) ≤ 9223372036854775807 := by
  obtain ⟨cs, rfl, hsz⟩ := okWide_struct Try.underlying24 ho
  obtain ⟨fuel, hx⟩ := h
  obtain ⟨xs, n, _, _, hlen, hxs, hel⟩ := DataW.trod_struct Try.underlying24 hx
  have hlen' : cs.toList.length = 3 := hlen.trans (by kernel_rfl)
  have hxs' : xs.length = 3 := hxs
  have e0 : DataW.trod enc Try.prog W 0 (fun _ => true) true n 3 ((cs.toList.drop 0).take (Try.prog.cellsOf 3)) = xs[0]? := hel 0 _ rfl
  have e1 : DataW.trod enc Try.prog W 0 (fun _ => true) true n 22 ((cs.toList.drop 1).take (Try.prog.cellsOf 22)) = xs[1]? := hel 1 _ rfl
  have e2 : DataW.trod enc Try.prog W 0 (fun _ => true) true n 3 ((cs.toList.drop 2).take (Try.prog.cellsOf 3)) = xs[2]? := hel 2 _ rfl
  have k0 : Try.prog.cellsOf 3 = 1 := by kernel_rfl
  have k1 : Try.prog.cellsOf 22 = 1 := by kernel_rfl
  rw [List.getElem?_eq_getElem (by omega)] at e0 e1 e2
  rw [k0] at e0 e2
  rw [k1] at e1
  obtain ⟨l⟩ := cs
  match l, hlen' with
  | [c0, c1, c2], _ =>
    simp only [List.drop, List.take] at e0 e1 e2
    obtain ⟨z0, h0, i0⟩ := trod_i64 Try.underlying3 e0
    obtain ⟨v1, ll, h1, i1, _, l1⟩ := readSlice rposting Try.underlying22 e1
    obtain ⟨z2, h2, i2⟩ := trod_i64 Try.underlying3 e2
    injection h0 with h0; injection h1 with h1; injection h2 with h2
    subst h0 h1 h2
    have hm : maxLen = 9223372036854775807 := rfl
    refine ⟨⟨z0, ll, z2⟩, ?_, by show (ll.length : Int) ≤ _; omega⟩
    simp only [ba, Den]
    exact ⟨_, rfl, argC_int (argC_dsl i1 (argC_int argC_nil))⟩
end Go.SX
