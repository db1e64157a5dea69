/-
  Walks: Bl5, Bl6, Bl7: what single functions of the program compute.
-/
import Derived.Test.YtbonljpjndcnaaaSxBl2
set_option linter.unusedVariables false
namespace Go.SX
open Go.Proofs
set_option linter.unusedSimpArgs false
set_option maxHeartbeats 4000000
set_option maxRecDepth 100000
def delta (p : Posting) (t : Int) : Int := (if p.creditor = t then p.amount else 0) - (if p.debtor = t then p.amount else 0)
theorem getD_map_range {α : Type} (n : Nat) (f : Nat → α) (i : Nat) (d : α) (h : i < n) : ((List.range n).map f).getD i d = f i := by
  simp [h]
theorem set_map_range {α : Type} (n : Nat) (f : Nat → α) (i : Nat) (v : α) (h : i < n) : ((List.range n).map f).set i v = (List.range n).map fun t => if t = i then v else f t := by
  apply List.ext_getElem
  · simp
  · intro k h1 h2
    simp only [List.getElem_set, List.getElem_map, List.getElem_range]
    by_cases e : i = k
    · subst e; simp
    · rw [if_neg e, if_neg (fun h => e h.symm)]
/-- what a posting books -/
def addL (L : List Int) (p : Posting) : List Int := (L.set p.creditor.toNat (L.getD p.creditor.toNat 0 + p.amount)).set p.debtor.toNat ((L.set p.creditor.toNat (L.getD p.creditor.toNat 0 + p.amount)).getD p.debtor.toNat 0 - p.amount)
theorem getD_set_ne {α : Type} (L : List α) (i j : Nat) (v d : α) (h : i ≠ j) : (L.set i v).getD j d = L.getD j d := by
  simp [List.getD_eq_getElem?_getD, List.getElem?_set_ne h]
theorem add_map_range (n : Nat) (f : Nat → Int) (p : Posting) (hc : 0 ≤ p.creditor ∧ p.creditor < n) (hd : 0 ≤ p.debtor ∧ p.debtor < n) (hne : p.debtor ≠ p.creditor) :
    addL ((List.range n).map f) p = (List.range n).map fun t => f t + delta p (t : Int) := by
  unfold addL
  rw [getD_set_ne _ _ _ _ _ (by omega), getD_map_range _ _ _ _ (by omega), getD_map_range _ _ _ _ (by omega), set_map_range _ _ _ _ (by omega), set_map_range _ _ _ _ (by omega)]
  apply List.map_congr_left
  intro t ht
  simp only [delta]
  by_cases h1 : t = p.debtor.toNat
  · have e1 : p.debtor = (t : Int) := by omega
    have e2 : ¬ p.creditor = (t : Int) := by omega
    rw [if_pos h1, if_pos e1, if_neg e2, ← h1]; omega
  · have e1 : ¬ p.debtor = (t : Int) := by omega
    rw [if_neg h1, if_neg e1]
    by_cases h2 : t = p.creditor.toNat
    · have e2 : p.creditor = (t : Int) := by omega
      rw [if_pos h2, if_pos e2, ← h2]; omega
    · have e2 : ¬ p.creditor = (t : Int) := by omega
      rw [if_neg h2, if_neg e2]; omega
/-- does posting i stand, seen from those up to k? -/
def notBack (xs : List Posting) (i k : Nat) : Bool := (List.range k).all fun j => decide (j ≤ i) || !decide ((xs.getD j posting0).of_ = (i : Int))
theorem notBack_succ (xs : List Posting) (i k : Nat) (h : i < k) : notBack xs i (k + 1) = (notBack xs i k && !decide ((xs.getD k posting0).of_ = (i : Int))) := by
  have : ¬ k ≤ i := by omega
  simp [notBack, List.range_succ, List.all_append, this]
theorem notBack_start (xs : List Posting) (i : Nat) : notBack xs i (i + 1) = true := by
  simp [notBack]; omega
def standsB (xs : List Posting) (s : Int) (i : Nat) : Bool := !decide ((xs.getD i posting0).kind = 3) && decide ((xs.getD i posting0).subject = s) && notBack xs i xs.length
def owedP (xs : List Posting) (s : Int) (t : Int) : Nat → Int
  | 0 => 0
  | i + 1 => owedP xs s t i + (if standsB xs s i then delta (xs.getD i posting0) t else 0)
def owedL (xs : List Posting) (s : Int) (n i : Nat) : List Int := (List.range n).map fun t : Nat => owedP xs s (t : Int) i
def owedS (b : Book) (s : Int) : Option (List Int) := if validB b && isInB s 0 999 then some (owedL b.postings s b.accounts.toNat b.postings.length) else none
theorem delta_bound {p : Posting} {acc : Int} (h : Formed p acc) (t : Int) : -1000000000000 ≤ delta p t ∧ delta p t ≤ 1000000000000 := by
  have := h.amt
  unfold delta
  split <;> split <;> omega
theorem owedP_bound {b : Book} (h : ValidBook b) (s t : Int) : ∀ i, i ≤ b.postings.length → -(1000000000000 * i) ≤ owedP b.postings s t i ∧ owedP b.postings s t i ≤ 1000000000000 * i
  | 0, _ => by simp [owedP]
  | i + 1, hi => by
    have ih := owedP_bound h s t i (by omega)
    have := delta_bound (formed_at h hi) t
    simp only [owedP]
    split <;> omega
theorem owedL_length (xs : List Posting) (s : Int) (n i : Nat) : (owedL xs s n i).length = n := by simp [owedL]
theorem owedL_getD (xs : List Posting) (s : Int) (n i j : Nat) (h : j < n) : (owedL xs s n i).getD j 0 = owedP xs s (j : Int) i := getD_map_range _ _ _ _ h
theorem owedL_add {b : Book} (h : ValidBook b) (s : Int) {i : Nat} (hi : i < b.postings.length) (hs : standsB b.postings s i = true) : addL (owedL b.postings s b.accounts.toNat i) (b.postings.getD i posting0) = owedL b.postings s b.accounts.toNat (i + 1) := by
  have hF := formed_at h hi
  have hacc := h.acc
  have := hF.cre
  have := hF.deb
  unfold owedL
  rw [add_map_range _ _ _ (by omega) (by omega) hF.ne]
  simp only [owedP, hs, if_true]
theorem owedL_skip (b : Book) (s : Int) {i : Nat} (hs : standsB b.postings s i = false) : owedL b.postings s b.accounts.toNat (i + 1) = owedL b.postings s b.accounts.toNat i := by
  simp [owedL, owedP, hs]
def paL (p : Posting) : List (SV Cd) := [.p (.int .i64 p.kind), .p (.int .i64 p.day), .p (.int .i64 p.debtor), .p (.int .i64 p.creditor), .p (.int .i64 p.amount), .p (.int .i64 p.subject), .p (.int .i64 p.of_)]
theorem refOwed_meets (b : Book) (s : Int) (hL : b.postings.length ≤ 1000) : Meets Try.prog Dc 25 [ba b, .p (.int .i64 s)] [] (listRet (owedS b s)) [] := by
  obtain ⟨r, he⟩ : ∃ r, r = owedS b s := ⟨_, rfl⟩
  rw [← he]
  unfold owedS at he
  cases hv : validB b with
  | false =>
    refine meets_of_gx Ax tab_ok Try.func25 (c := _) rfl Try.call25 400 ?_
    (repeat' ((conv => whnf); first | (refine callx_pure (refValid_f hL hv) rfl rfl ?_) | (refine end_fn [] (.inr rfl) ?_ trivial rfl rfl) | (refine split_nd (fun hb => ?_) (fun hb => ?_)) | (refine split_d (fun hb => ?_) (fun hb => ?_)) | (refine split_n (fun hb => ?_) (fun hb => ?_)) | (refine split_x (fun hb => ?_) (fun hb => ?_)) | (refine And.intro (TraceOK.mk (by kernel_rfl)) ?_) | (refine Side.mk ?_; (repeat' (first | refine And.intro ?_ ?_ | exact inR_i64 (by omega) (by omega) | omega | rfl | exact trivial | exact none_ne rfl | exact some_ne rfl (Nat.ne_of_beq_eq_false rfl) | exact Nat.ne_of_beq_eq_false rfl | (dsimp only [srcSide]; omega) | (simp; done) | (simp; omega))); done) | (refine side_and ?_ ?_) | (refine drawX_of mixed ?_)))
    all_goals ((refine (fun (hr_ : r = none) => ?_) ?_; rotate_left; (focus (simp_all; done)); subst hr_); (repeat' (first | refine EndV.mk ?_ | exact trivial | exact rfl | refine And.intro ?_ ?_)))
  | true =>
    have hV := validBook_of hv
    have hacc := hV.acc
    have hlen := hV.len
    refine meets_of_gx Ax tab_ok Try.func25 (c := _) rfl Try.call25 400 ?_
    (repeat' ((conv => whnf); first | (refine callx_pure (refValid_t hL hv) rfl rfl ?_) | (refine callx_pure (in_meets _ _ _) rfl rfl ?_) | (refine end_fn [] (.inr rfl) ?_ trivial rfl rfl) | (refine split_nd (fun hb => ?_) (fun hb => ?_)) | (refine split_d (fun hb => ?_) (fun hb => ?_)) | (refine split_n (fun hb => ?_) (fun hb => ?_)) | (refine split_x (fun hb => ?_) (fun hb => ?_)) | (refine And.intro (TraceOK.mk (by kernel_rfl)) ?_) | (refine Side.mk ?_; (repeat' (first | refine And.intro ?_ ?_ | exact inR_i64 (by omega) (by omega) | omega | rfl | exact trivial | exact none_ne rfl | exact some_ne rfl (Nat.ne_of_beq_eq_false rfl) | exact Nat.ne_of_beq_eq_false rfl | (dsimp only [srcSide]; omega) | (simp; done) | (simp; omega))); done) | (refine side_and ?_ ?_) | (refine drawX_of mixed ?_)))
    · (refine (fun (hr_ : r = none) => ?_) ?_; rotate_left; (focus (simp_all; done)); subst hr_); (repeat' (first | refine EndV.mk ?_ | exact trivial | exact rfl | refine And.intro ?_ ?_))
    have hr : r = some (owedL b.postings s b.accounts.toNat b.postings.length) := by simp_all
    subst hr
    have h0 : owedL b.postings s b.accounts.toNat 0 = List.replicate b.accounts.toNat 0 := by
      unfold owedL
      rw [List.eq_replicate_iff]
      exact ⟨by simp, fun x hx => by simp [owedP] at hx; exact hx.2.symm⟩
    refine loop_inv (fun i : Nat => [(7, .p (.int .i64 i))]) (fun i => [.var [.p (.int .i64 b.accounts), .p (.dsl U.posting b.postings), .p (.int .i64 b.closed)], .rows U.int (owedL b.postings s b.accounts.toNat i)]) (fun i => i ≤ b.postings.length) (fun i => b.postings.length - i) 0 (Nat.zero_le _) [some 0, some 1] ⟨by (repeat' (first | refine EndV.mk ?_ | exact trivial | exact rfl | refine And.intro ?_ ?_)), by rw [h0]; (repeat' (first | refine EndV.mk ?_ | exact trivial | exact rfl | refine And.intro ?_ ?_)), rfl, rfl⟩ ?_
    intro i hi K hK
    rcases Nat.lt_or_ge i b.postings.length with hlt | hge
    · have hF : Formed (b.postings.getD (i : Int).toNat (Cd.dflt U.posting)) b.accounts := formed_at hV hlt
      have ha := hF.amt
      obtain ⟨st0, hst⟩ : ∃ st0, st0 = (!decide ((b.postings.getD (i : Int).toNat (Cd.dflt U.posting)).kind = 3) && decide ((b.postings.getD (i : Int).toNat (Cd.dflt U.posting)).subject = s)) := ⟨_, rfl⟩
      (repeat' ((conv => whnf); first | (exfalso; omega) | (refine loop_inv (fun k : Nat => [(9, .p (.bool (st0 && notBack b.postings i k))), (10, .p (.int .i64 k))]) (fun _ => [.var [.p (.int .i64 b.accounts), .p (.dsl U.posting b.postings), .p (.int .i64 b.closed)], .rows U.int (owedL b.postings s b.accounts.toNat i), .var (paL (b.postings.getD (i : Int).toNat (Cd.dflt U.posting)))]) (fun k => i + 1 ≤ k ∧ k ≤ b.postings.length) (fun k => b.postings.length - k) (i + 1) ⟨Nat.le_refl _, hlt⟩ [some 0, some 1, some 2] ?_ ?_) | (refine end_fn [] (.inr rfl) ?_ trivial rfl rfl) | (refine split_nd (fun hb => ?_) (fun hb => ?_)) | (refine split_d (fun hb => ?_) (fun hb => ?_)) | (refine split_n (fun hb => ?_) (fun hb => ?_)) | (refine split_x (fun hb => ?_) (fun hb => ?_)) | (refine And.intro (TraceOK.mk (by kernel_rfl)) ?_) | (refine Side.mk ?_; (repeat' (first | refine And.intro ?_ ?_ | exact inR_i64 (by omega) (by omega) | omega | rfl | exact trivial | exact none_ne rfl | exact some_ne rfl (Nat.ne_of_beq_eq_false rfl) | exact Nat.ne_of_beq_eq_false rfl | (dsimp only [srcSide]; omega) | (simp; done) | (simp; omega))); done) | (refine side_and ?_ ?_) | (refine drawX_of mixed ?_)))
      all_goals first
        | ((refine Back.mk ?_ ?_ rfl rfl <;> (repeat' (first | refine EndV.mk ?_ | exact trivial | exact rfl | refine And.intro ?_ ?_))); refine congrArg PV.bool ?_; rw [hst, notBack_start]; simp_all; done)
        | skip
      all_goals
        intro k hk K2 hK2
        have hks := notBack_succ b.postings i k (by omega)
        have hcre := hF.cre
        have hdeb := hF.deb
        rcases Nat.lt_or_ge k b.postings.length with hltk | hgek
        · (repeat' ((conv => whnf); first | (exfalso; omega) | (refine hK2 (k + 1) [some 0, some 1, some 2] _ _ ?_ ?_ ?_) | (refine end_fn [] (.inr rfl) ?_ trivial rfl rfl) | (refine split_nd (fun hb => ?_) (fun hb => ?_)) | (refine split_d (fun hb => ?_) (fun hb => ?_)) | (refine split_n (fun hb => ?_) (fun hb => ?_)) | (refine split_x (fun hb => ?_) (fun hb => ?_)) | (refine And.intro (TraceOK.mk (by kernel_rfl)) ?_) | (refine Side.mk ?_; (repeat' (first | refine And.intro ?_ ?_ | exact inR_i64 (by omega) (by omega) | omega | rfl | exact trivial | exact none_ne rfl | exact some_ne rfl (Nat.ne_of_beq_eq_false rfl) | exact Nat.ne_of_beq_eq_false rfl | (dsimp only [srcSide]; omega) | (simp; done) | (simp; omega))); done) | (refine side_and ?_ ?_) | (refine drawX_of mixed ?_)))
          all_goals ((refine Back.mk ?_ ?_ rfl rfl <;> (repeat' (first | refine EndV.mk ?_ | exact trivial | exact rfl | refine And.intro ?_ ?_))); refine congrArg PV.bool ?_; rw [hks]; clear hK hK2; simp_all [dflt_posting])
        · have hke : k = b.postings.length := by omega
          subst hke
          have hsb : standsB b.postings s i = (st0 && notBack b.postings i b.postings.length) := by rw [hst]; rfl
          have hol := owedL_length b.postings s b.accounts.toNat i
          have e1 : (owedL b.postings s b.accounts.toNat i).getD (b.postings.getD (i : Int).toNat (Cd.dflt U.posting)).creditor.toNat (Cd.dflt U.int) = owedP b.postings s ((b.postings.getD (i : Int).toNat (Cd.dflt U.posting)).creditor.toNat : Nat) i := owedL_getD _ _ _ _ _ (by omega)
          have e2 : (owedL b.postings s b.accounts.toNat i).getD (b.postings.getD (i : Int).toNat (Cd.dflt U.posting)).debtor.toNat (Cd.dflt U.int) = owedP b.postings s ((b.postings.getD (i : Int).toNat (Cd.dflt U.posting)).debtor.toNat : Nat) i := owedL_getD _ _ _ _ _ (by omega)
          have b1 := owedP_bound hV s ((b.postings.getD (i : Int).toNat (Cd.dflt U.posting)).creditor.toNat : Nat) i hi
          have b2 := owedP_bound hV s ((b.postings.getD (i : Int).toNat (Cd.dflt U.posting)).debtor.toNat : Nat) i hi
          have hne := hF.ne
          have hcd : (b.postings.getD (i : Int).toNat (Cd.dflt U.posting)).creditor.toNat ≠ (b.postings.getD (i : Int).toNat (Cd.dflt U.posting)).debtor.toNat := by omega
          (repeat' ((conv => whnf); first | (exfalso; omega) | (refine hK (i + 1) [some 0, some 1] _ _ ?_ ?_ ?_) | (refine end_fn [] (.inr rfl) ?_ trivial rfl rfl) | (refine split_nd (fun hb => ?_) (fun hb => ?_)) | (refine split_d (fun hb => ?_) (fun hb => ?_)) | (refine split_n (fun hb => ?_) (fun hb => ?_)) | (refine split_x (fun hb => ?_) (fun hb => ?_)) | (refine And.intro (TraceOK.mk (by kernel_rfl)) ?_) | (refine Side.mk ?_; (repeat' (first | refine And.intro ?_ ?_ | exact inR_i64 (by omega) (by omega) | omega | rfl | exact trivial | exact none_ne rfl | exact some_ne rfl (Nat.ne_of_beq_eq_false rfl) | exact Nat.ne_of_beq_eq_false rfl | (dsimp only [srcSide]; omega) | (simp; done) | (simp; omega))); done) | (refine side_and ?_ ?_) | (refine drawX_of mixed ?_)))
          all_goals (clear hK hK2)
          all_goals first
            | (rw [owedL_skip b s (hsb.trans hb)]; (refine Back.mk ?_ ?_ rfl rfl <;> (repeat' (first | refine EndV.mk ?_ | exact trivial | exact rfl | refine And.intro ?_ ?_))); done)
            | (rw [← owedL_add hV s hlt (hsb.trans hb)]; simp only [Nat.zero_add]; (refine Back.mk ?_ ?_ rfl rfl <;> (repeat' (first | refine EndV.mk ?_ | exact trivial | exact rfl | refine And.intro ?_ ?_))); done)
            | (rw [hol]; (refine Side.mk ?_; (repeat' (first | refine And.intro ?_ ?_ | exact inR_i64 (by omega) (by omega) | omega | rfl | exact trivial | exact none_ne rfl | exact some_ne rfl (Nat.ne_of_beq_eq_false rfl) | exact Nat.ne_of_beq_eq_false rfl | (dsimp only [srcSide]; omega) | (simp; done) | (simp; omega))); done))
            | (rw [List.length_set, hol]; (refine Side.mk ?_; (repeat' (first | refine And.intro ?_ ?_ | exact inR_i64 (by omega) (by omega) | omega | rfl | exact trivial | exact none_ne rfl | exact some_ne rfl (Nat.ne_of_beq_eq_false rfl) | exact Nat.ne_of_beq_eq_false rfl | (dsimp only [srcSide]; omega) | (simp; done) | (simp; omega))); done))
            | (rw [Nat.zero_add, e1]; (refine Side.mk ?_; (repeat' (first | refine And.intro ?_ ?_ | exact inR_i64 (by omega) (by omega) | omega | rfl | exact trivial | exact none_ne rfl | exact some_ne rfl (Nat.ne_of_beq_eq_false rfl) | exact Nat.ne_of_beq_eq_false rfl | (dsimp only [srcSide]; omega) | (simp; done) | (simp; omega))); done))
            | (rw [Nat.zero_add, Nat.zero_add, getD_set_ne _ _ _ _ _ hcd, e2]; (refine Side.mk ?_; (repeat' (first | refine And.intro ?_ ?_ | exact inR_i64 (by omega) (by omega) | omega | rfl | exact trivial | exact none_ne rfl | exact some_ne rfl (Nat.ne_of_beq_eq_false rfl) | exact Nat.ne_of_beq_eq_false rfl | (dsimp only [srcSide]; omega) | (simp; done) | (simp; omega))); done))
    · have hie : i = b.postings.length := by omega
      subst hie
      (repeat' ((conv => whnf); first | (exfalso; omega) | (refine end_fn [] (.inr rfl) ?_ trivial rfl rfl) | (refine split_nd (fun hb => ?_) (fun hb => ?_)) | (refine split_d (fun hb => ?_) (fun hb => ?_)) | (refine split_n (fun hb => ?_) (fun hb => ?_)) | (refine split_x (fun hb => ?_) (fun hb => ?_)) | (refine And.intro (TraceOK.mk (by kernel_rfl)) ?_) | (refine Side.mk ?_; (repeat' (first | refine And.intro ?_ ?_ | exact inR_i64 (by omega) (by omega) | omega | rfl | exact trivial | exact none_ne rfl | exact some_ne rfl (Nat.ne_of_beq_eq_false rfl) | exact Nat.ne_of_beq_eq_false rfl | (dsimp only [srcSide]; omega) | (simp; done) | (simp; omega))); done) | (refine side_and ?_ ?_) | (refine drawX_of mixed ?_)))
      (repeat' (first | refine EndV.mk ?_ | exact trivial | exact rfl | refine And.intro ?_ ?_))
      exact ⟨_, rfl, rfl, rfl, by simp [owedL], by simp only [List.drop_zero]; rw [List.take_of_length_le (by simp [owedL])]; rfl, rfl⟩
end Go.SX

namespace Go.SX
open Go.Proofs
set_option linter.unusedSimpArgs false
set_option maxHeartbeats 4000000
set_option maxRecDepth 100000
structure AddOK (L : List Int) (p : Posting) : Prop where
  len : L.length = 16
  cre : 0 ≤ p.creditor ∧ p.creditor ≤ 15
  deb : 0 ≤ p.debtor ∧ p.debtor ≤ 15
  ne : p.debtor ≠ p.creditor
  amt : 0 ≤ p.amount ∧ p.amount ≤ 1000000000000
  bc : -1000000000000000 ≤ L.getD p.creditor.toNat 0 ∧ L.getD p.creditor.toNat 0 ≤ 1000000000000000
  bd : -1000000000000000 ≤ L.getD p.debtor.toNat 0 ∧ L.getD p.debtor.toNat 0 ≤ 1000000000000000
theorem add_meets (L : List Int) (p : Posting) (h : AddOK L p) : Meets Try.prog Dc 35 [.ptr 0 0, pa p] [.var [.arr U.int 16 L]] (.tuple []) [.var [.arr U.int 16 (addL L p)]] := by
  have h1 := h.len
  have h2 := h.cre
  have h3 := h.deb
  have h4 := h.amt
  have h5 := h.bc
  have h6 := h.bd
  have h7 := h.ne
  have hcd : p.creditor.toNat ≠ p.debtor.toNat := by omega
  refine meets_of_gx Ax tab_ok Try.func35 (c := _) rfl Try.call35 300 ?_
  (repeat' ((conv => whnf); first | (refine end_fn [some 0] (.inl rfl) ?_ ?_ rfl rfl) | (refine end_fn [] (.inr rfl) ?_ trivial rfl rfl) | (refine split_nd (fun hb => ?_) (fun hb => ?_)) | (refine split_d (fun hb => ?_) (fun hb => ?_)) | (refine split_n (fun hb => ?_) (fun hb => ?_)) | (refine split_x (fun hb => ?_) (fun hb => ?_)) | (refine And.intro (TraceOK.mk (by kernel_rfl)) ?_) | (refine Side.mk ?_; (repeat' (first | refine And.intro ?_ ?_ | exact inR_i64 (by omega) (by omega) | omega | rfl | exact trivial | exact none_ne rfl | exact some_ne rfl (Nat.ne_of_beq_eq_false rfl) | exact Nat.ne_of_beq_eq_false rfl | (dsimp only [srcSide]; omega) | (simp; done) | (simp; omega))); done) | (refine side_and ?_ ?_) | (refine drawX_of mixed ?_)))
  · exact ⟨inR_i64 (by show _ ≤ L.getD p.creditor.toNat 0 + _; omega) (by show L.getD p.creditor.toNat 0 + _ ≤ _; omega)⟩
  · rw [getD_set_ne _ _ _ _ _ hcd]
    exact ⟨inR_i64 (by show _ ≤ L.getD p.debtor.toNat 0 - _; omega) (by show L.getD p.debtor.toNat 0 - _ ≤ _; omega)⟩
  all_goals (repeat' (first | refine EndV.mk ?_ | exact trivial | exact rfl | refine And.intro ?_ ?_))
theorem list_meets (L : List Int) (n : Int) (hL : L.length = 16) (h0 : 0 ≤ n) (h16 : n ≤ 16) : Meets Try.prog Dc 36 [.agg [.arr U.int 16 L], .p (.int .i64 n)] [] (.p (.dsl U.int (L.take n.toNat))) [] := by
  refine meets_of_gx Ax tab_ok Try.func36 (c := _) rfl Try.call36 300 ?_
  (repeat' ((conv => whnf); first | (refine end_fn [] (.inr rfl) ?_ trivial rfl rfl) | (refine split_nd (fun hb => ?_) (fun hb => ?_)) | (refine split_d (fun hb => ?_) (fun hb => ?_)) | (refine split_n (fun hb => ?_) (fun hb => ?_)) | (refine split_x (fun hb => ?_) (fun hb => ?_)) | (refine And.intro (TraceOK.mk (by kernel_rfl)) ?_) | (refine Side.mk ?_; (repeat' (first | refine And.intro ?_ ?_ | exact inR_i64 (by omega) (by omega) | omega | rfl | exact trivial | exact none_ne rfl | exact some_ne rfl (Nat.ne_of_beq_eq_false rfl) | exact Nat.ne_of_beq_eq_false rfl | (dsimp only [srcSide]; omega) | (simp; done) | (simp; omega))); done) | (refine side_and ?_ ?_) | (refine drawX_of mixed ?_)))
  · have he : L = List.replicate 16 0 := of_decide_eq_true (show decide (L = List.replicate 16 0) = true by have := hb; simp only [Bool.and_true] at this; exact this)
    subst he
    (repeat' (first | refine EndV.mk ?_ | exact trivial | exact rfl | refine And.intro ?_ ?_))
    exact ⟨_, rfl, rfl, rfl, by simp, by rw [List.take_replicate, List.drop_zero, List.take_of_length_le (by simp), Nat.min_eq_left (by omega)]; rfl, rfl⟩
  · (repeat' (first | refine EndV.mk ?_ | exact trivial | exact rfl | refine And.intro ?_ ?_))
    exact ⟨_, rfl, rfl, rfl, by simp, by simp [List.take_take, hL], rfl⟩
theorem addOK_bal {b : Book} (hV : ValidBook b) {q : Posting} (hF : Formed q b.accounts) (m : Int) (i : Nat) : AddOK ((List.range 16).map fun t : Nat => balL (b.postings.take i) (t : Int) m) q := by
  have hacc := hV.acc
  have h1 := hF.cre
  have h2 := hF.deb
  have h3 := hF.amt
  refine ⟨by simp, by omega, by omega, hF.ne, by omega, ?_, ?_⟩
  · rw [getD_map_range _ _ _ _ (by omega)]
    have := bal_bound hV (q.creditor.toNat : Nat) m i; omega
  · rw [getD_map_range _ _ _ _ (by omega)]
    have := bal_bound hV (q.debtor.toNat : Nat) m i; omega
theorem bal_step {b : Book} {m : Int} (hV : ValidBook b) {i : Nat} (hlt : i < b.postings.length) :
    ((b.postings.getD i posting0).day.tdiv 30 = m → addL ((List.range 16).map fun t : Nat => balL (b.postings.take i) (t : Int) m) (b.postings.getD i posting0) = (List.range 16).map fun t : Nat => balL (b.postings.take (i + 1)) (t : Int) m) ∧
    (¬ (b.postings.getD i posting0).day.tdiv 30 = m → ((List.range 16).map fun t : Nat => balL (b.postings.take (i + 1)) (t : Int) m) = (List.range 16).map fun t : Nat => balL (b.postings.take i) (t : Int) m) := by
  have hF := formed_at hV hlt
  have hacc := hV.acc
  have h1 := hF.cre
  have h2 := hF.deb
  have hs : ∀ t, balL (b.postings.take (i + 1)) t m = balL (b.postings.take i) t m + entry t m (b.postings.getD i posting0) := fun t => sum_take_succ _ _ _ hlt
  refine ⟨fun h => ?_, fun h => ?_⟩
  · rw [add_map_range _ _ _ (by omega) (by omega) hF.ne]
    apply List.map_congr_left
    intro t _
    rw [hs, entry, if_pos h]; rfl
  · apply List.map_congr_left
    intro t _
    rw [hs, entry, if_neg h, Int.add_zero]
theorem open_some' {b : Book} {bk : List Bool} {q : Bool} (hL : (b.postings.length : Int) < 9223372036854775807) (h : openS b = some bk) (hw : (isInB b.accounts 2 16 && isInB b.closed 0 12) = q) : Meets Try.prog Dc 28 [ba b] [] (.tuple [.ptr 0 0, .p (.bool q)]) (ledger b.accounts b.closed b.postings bk) := by
  have := open_some hL h; rwa [hw] at this
theorem statement_meets (b : Book) (m : Int) (hL : b.postings.length ≤ 1000) : Meets Try.prog Dc 19 [ba b, .p (.int .i64 m)] [] (listRet (stmtS b m)) [] := by
  obtain ⟨r, he⟩ : ∃ r, r = stmtS b m := ⟨_, rfl⟩
  rw [← he]
  unfold stmtS at he
  cases ho : openS b with
  | none =>
    refine meets_of_gx Ax tab_ok Try.func19 (c := _) rfl Try.call19 400 ?_
    (repeat' ((conv => whnf); first | (refine callh [] (open_none (by omega) ho) rfl rfl trivial ?_) | (refine end_fn [] (.inr rfl) ?_ trivial rfl rfl) | (refine split_nd (fun hb => ?_) (fun hb => ?_)) | (refine split_d (fun hb => ?_) (fun hb => ?_)) | (refine split_n (fun hb => ?_) (fun hb => ?_)) | (refine split_x (fun hb => ?_) (fun hb => ?_)) | (refine And.intro (TraceOK.mk (by kernel_rfl)) ?_) | (refine Side.mk ?_; (repeat' (first | refine And.intro ?_ ?_ | exact inR_i64 (by omega) (by omega) | omega | rfl | exact trivial | exact none_ne rfl | exact some_ne rfl (Nat.ne_of_beq_eq_false rfl) | exact Nat.ne_of_beq_eq_false rfl | (dsimp only [srcSide]; omega) | (simp; done) | (simp; omega))); done) | (refine side_and ?_ ?_) | (refine drawX_of mixed ?_)))
    all_goals ((refine (fun (hr_ : r = none) => ?_) ?_; rotate_left; (focus (simp_all [validB]; done)); subst hr_); (repeat' (first | refine EndV.mk ?_ | exact trivial | exact rfl | refine And.intro ?_ ?_)))
  | some bk =>
    cases hw : (isInB b.accounts 2 16 && isInB b.closed 0 12) with
    | false =>
      refine meets_of_gx Ax tab_ok Try.func19 (c := _) rfl Try.call19 400 ?_
      (repeat' ((conv => whnf); first | (refine callh [] (open_some' (by omega) ho hw) rfl rfl trivial ?_) | (refine end_fn [] (.inr rfl) ?_ trivial rfl rfl) | (refine split_nd (fun hb => ?_) (fun hb => ?_)) | (refine split_d (fun hb => ?_) (fun hb => ?_)) | (refine split_n (fun hb => ?_) (fun hb => ?_)) | (refine split_x (fun hb => ?_) (fun hb => ?_)) | (refine And.intro (TraceOK.mk (by kernel_rfl)) ?_) | (refine Side.mk ?_; (repeat' (first | refine And.intro ?_ ?_ | exact inR_i64 (by omega) (by omega) | omega | rfl | exact trivial | exact none_ne rfl | exact some_ne rfl (Nat.ne_of_beq_eq_false rfl) | exact Nat.ne_of_beq_eq_false rfl | (dsimp only [srcSide]; omega) | (simp; done) | (simp; omega))); done) | (refine side_and ?_ ?_) | (refine drawX_of mixed ?_)))
      all_goals ((refine (fun (hr_ : r = none) => ?_) ?_; rotate_left; (focus (simp_all [validB]; done)); subst hr_); (repeat' (first | refine EndV.mk ?_ | exact trivial | exact rfl | refine And.intro ?_ ?_)))
    | true =>
      have hv : validB b = true := by simp [validB, ho, hw]
      have hV := validBook_of hv
      refine meets_of_gx Ax tab_ok Try.func19 (c := _) rfl Try.call19 400 ?_
      (repeat' ((conv => whnf); first | (refine callh [] (open_some' (by omega) ho hw) rfl rfl trivial ?_) | (refine callx_pure (isIn_meets _ _ _) rfl rfl ?_) | (refine call_in Ax tab_ok Try.func33 (c := _) rfl Try.call33 200 ?_) | (refine range_in Ax tab_ok rfl Try.func39 (c := _) rfl Try.call39 rfl rfl 300 ?_) | (refine end_fn [] (.inr rfl) ?_ trivial rfl rfl) | (refine split_nd (fun hb => ?_) (fun hb => ?_)) | (refine split_d (fun hb => ?_) (fun hb => ?_)) | (refine split_n (fun hb => ?_) (fun hb => ?_)) | (refine split_x (fun hb => ?_) (fun hb => ?_)) | (refine And.intro (TraceOK.mk (by kernel_rfl)) ?_) | (refine Side.mk ?_; (repeat' (first | refine And.intro ?_ ?_ | exact inR_i64 (by omega) (by omega) | omega | rfl | exact trivial | exact none_ne rfl | exact some_ne rfl (Nat.ne_of_beq_eq_false rfl) | exact Nat.ne_of_beq_eq_false rfl | (dsimp only [srcSide]; omega) | (simp; done) | (simp; omega))); done) | (refine side_and ?_ ?_) | (refine drawX_of mixed ?_)))
      · (refine (fun (hr_ : r = none) => ?_) ?_; rotate_left; (focus (simp_all; done)); subst hr_); (repeat' (first | refine EndV.mk ?_ | exact trivial | exact rfl | refine And.intro ?_ ?_))
      intro gn tmps bd
      (repeat' ((conv => whnf); first | (refine end_fn [] (.inr rfl) ?_ trivial rfl rfl) | (refine split_nd (fun hb => ?_) (fun hb => ?_)) | (refine split_d (fun hb => ?_) (fun hb => ?_)) | (refine split_n (fun hb => ?_) (fun hb => ?_)) | (refine split_x (fun hb => ?_) (fun hb => ?_)) | (refine And.intro (TraceOK.mk (by kernel_rfl)) ?_) | (refine Side.mk ?_; (repeat' (first | refine And.intro ?_ ?_ | exact inR_i64 (by omega) (by omega) | omega | rfl | exact trivial | exact none_ne rfl | exact some_ne rfl (Nat.ne_of_beq_eq_false rfl) | exact Nat.ne_of_beq_eq_false rfl | (dsimp only [srcSide]; omega) | (simp; done) | (simp; omega))); done) | (refine side_and ?_ ?_) | (refine drawX_of mixed ?_)))
      refine loop_up (fun i : Nat => [(12, .p (.int .i64 i))]) (fun i => [(4, .var [.arr U.int 16 ((List.range 16).map fun t : Nat => balL (b.postings.take i) (t : Int) m)])]) (fun i => i ≤ b.postings.length) (fun i => b.postings.length - i) 0 (Nat.zero_le _) ⟨by (repeat' (first | refine EndV.mk ?_ | exact trivial | exact rfl | refine And.intro ?_ ?_)), by (repeat' (first | refine EndV.mk ?_ | exact trivial | exact rfl | refine And.intro ?_ ?_)), rfl, rfl⟩ ?_
      intro i hi K hK
      have hacc := hV.acc
      rcases Nat.lt_or_ge i b.postings.length with hlt | hge
      · have hF : Formed (b.postings.getD (0 + (i : Int).toNat) (Cd.dflt U.posting)) b.accounts := by rw [Nat.zero_add]; exact formed_at hV hlt
        have htd := tdiv30 hF.day
        have hOK : AddOK ((List.range 16).map fun t : Nat => balL (b.postings.take i) (t : Int) m) (b.postings.getD (0 + (i : Int).toNat) (Cd.dflt U.posting)) := addOK_bal hV hF m i
        have hs := bal_step (b := b) (m := m) hV hlt
        (repeat' ((conv => whnf); first | (exfalso; omega) | (refine call_in Ax tab_ok Try.func34 (c := _) rfl Try.call34 100 ?_) | (refine yield_in Ax tab_ok rfl rfl rfl 200 200 ?_) | (refine hK (i+1) ([some 0, some 1, some 2, some 3, some 4, some 5, some 6, some 7]) _ _ ?_ ?_ ?_) | (refine callh [some 4] (add_meets _ _ hOK) rfl rfl ⟨rfl, trivial⟩ ?_) | (refine end_fn [] (.inr rfl) ?_ trivial rfl rfl) | (refine split_nd (fun hb => ?_) (fun hb => ?_)) | (refine split_d (fun hb => ?_) (fun hb => ?_)) | (refine split_n (fun hb => ?_) (fun hb => ?_)) | (refine split_x (fun hb => ?_) (fun hb => ?_)) | (refine And.intro (TraceOK.mk (by kernel_rfl)) ?_) | (refine Side.mk ?_; (repeat' (first | refine And.intro ?_ ?_ | exact inR_i64 (by omega) (by omega) | omega | rfl | exact trivial | exact none_ne rfl | exact some_ne rfl (Nat.ne_of_beq_eq_false rfl) | exact Nat.ne_of_beq_eq_false rfl | (dsimp only [srcSide]; omega) | (simp; done) | (simp; omega))); done) | (refine side_and ?_ ?_) | (refine drawX_of mixed ?_)))
        · rw [Nat.zero_add] at hb
          dsimp only
          rw [← hs.1 hb]
          simp only [Nat.zero_add (Int.toNat (i : Int))]
          (refine Back.mk ?_ ?_ rfl rfl <;> (repeat' (first | refine EndV.mk ?_ | exact trivial | exact rfl | refine And.intro ?_ ?_)))
        · rw [Nat.zero_add] at hb
          dsimp only
          rw [hs.2 hb]
          (refine Back.mk ?_ ?_ rfl rfl <;> (repeat' (first | refine EndV.mk ?_ | exact trivial | exact rfl | refine And.intro ?_ ?_)))
      · have hie : i = b.postings.length := by omega
        subst hie
        (repeat' ((conv => whnf); first | (exfalso; omega) | (refine callx_pure (list_meets _ b.accounts (by simp) (by omega) (by omega)) rfl rfl ?_) | (refine end_fn [] (.inr rfl) ?_ trivial rfl rfl) | (refine split_nd (fun hb => ?_) (fun hb => ?_)) | (refine split_d (fun hb => ?_) (fun hb => ?_)) | (refine split_n (fun hb => ?_) (fun hb => ?_)) | (refine split_x (fun hb => ?_) (fun hb => ?_)) | (refine And.intro (TraceOK.mk (by kernel_rfl)) ?_) | (refine Side.mk ?_; (repeat' (first | refine And.intro ?_ ?_ | exact inR_i64 (by omega) (by omega) | omega | rfl | exact trivial | exact none_ne rfl | exact some_ne rfl (Nat.ne_of_beq_eq_false rfl) | exact Nat.ne_of_beq_eq_false rfl | (dsimp only [srcSide]; omega) | (simp; done) | (simp; omega))); done) | (refine side_and ?_ ?_) | (refine drawX_of mixed ?_)))
        (refine (fun (hr_ : r = some (stmtL b m b.accounts.toNat)) => ?_) ?_; rotate_left; (focus (simp_all; done)); subst hr_)
        have hfin : List.take b.accounts.toNat ((List.range 16).map fun t : Nat => balL (b.postings.take b.postings.length) (t : Int) m) = stmtL b m b.accounts.toNat := by
          rw [← List.map_take, List.take_range, Nat.min_eq_left (by omega), List.take_length]; rfl
        rw [hfin]
        (repeat' (first | refine EndV.mk ?_ | exact trivial | exact rfl | refine And.intro ?_ ?_))
end Go.SX

namespace Go.SX
open Go.Proofs
set_option linter.unusedSimpArgs false
set_option maxHeartbeats 4000000
set_option maxRecDepth 100000
def backAt (xs : List Posting) (i : Nat) : Bool := xs.any fun p => decide (p.kind = 3) && decide (p.of_ = (i : Int))
theorem takesB_formed {acc : Int} {xs : List Posting} {bk : List Bool} {p : Posting} (h : takesB acc xs bk p = true) : isFormedB p acc = true := by
  unfold takesB at h
  split at h
  · cases h
  · rename_i hc; simp at hc; exact hc.1.2
theorem takesB_of {acc : Int} {xs : List Posting} {bk : List Bool} {p : Posting} (h : takesB acc xs bk p = true) (hk : p.kind = 3) : p.of_ < xs.length := by
  unfold takesB at h
  split at h
  · cases h
  · simp [hk] at h; exact h.1.1
theorem bkRun_back {acc : Int} : ∀ (r done : List Posting) (bk bk' : List Bool), bkRun acc done bk r = some bk' → bk.length = 200 → (∀ i, bk.getD i false = backAt done i) → ∀ i, bk'.getD i false = backAt (done ++ r) i
  | [], done, bk, bk', h, _, hb, i => by simp only [bkRun, Option.some.injEq] at h; subst h; simpa using hb i
  | p :: r, done, bk, bk', h, hl, hb, i => by
    simp only [bkRun] at h
    split at h
    · rename_i ht
      have := bkRun_back r (done ++ [p]) (newBk bk p) bk' h (by rw [newBk_length]; exact hl) (fun j => ?_) i
      · simpa using this
      · have e : backAt (done ++ [p]) j = (backAt done j || (decide (p.kind = 3) && decide (p.of_ = (j : Int)))) := by simp [backAt]
        rw [e, ← hb j]
        unfold newBk
        by_cases hk : p.kind = 3
        · have hf := takesB_formed ht
          obtain ⟨o1, o2⟩ := of_bounds (p := p) (acc := acc) (by simp [hf]) hk
          rw [if_pos hk, decide_eq_true hk, Bool.true_and]
          by_cases hj : p.of_ = (j : Int)
          · have e1 : p.of_.toNat = j := by omega
            have e2 : j < bk.length := by omega
            rw [e1, decide_eq_true hj, Bool.or_true]
            simp [List.getD_eq_getElem?_getD, e2]
          · have e1 : p.of_.toNat ≠ j := by omega
            rw [getD_set_ne _ _ _ _ _ e1, decide_eq_false hj, Bool.or_false]
        · rw [if_neg hk, decide_eq_false hk, Bool.false_and, Bool.or_false]
    · cases h
theorem bkRun_of {acc : Int} : ∀ (r done : List Posting) (bk bk' : List Bool), bkRun acc done bk r = some bk' → ∀ j, j < r.length → (r.getD j posting0).kind = 3 → (r.getD j posting0).of_ < (done.length + j : Nat)
  | [], _, _, _, _, j, hj, _ => by simp at hj
  | p :: r, done, bk, bk', h, j, hj, hk => by
    simp only [bkRun] at h
    split at h
    · rename_i ht
      cases j with
      | zero => have := takesB_of ht (by simpa using hk); simpa using this
      | succ j =>
        have := bkRun_of r (done ++ [p]) _ bk' h j (by simpa using hj) (by simpa using hk)
        simp at this ⊢; omega
    · cases h
theorem getD_mem {xs : List Posting} {j : Nat} (h : j < xs.length) : xs.getD j posting0 ∈ xs := by simp [h]
theorem back_notBack {b : Book} {bk : List Bool} (h : openS b = some bk) (hV : ValidBook b) (i : Nat) : bk.getD i false = !notBack b.postings i b.postings.length := by
  have h1 := bkRun_back b.postings [] bk0 bk h List.length_replicate (fun i => by show bk0.getD i false = false; rw [bk0, List.getD_eq_getElem?_getD, List.getElem?_replicate]; split <;> rfl) i
  rw [List.nil_append] at h1
  rw [h1, Bool.eq_iff_iff]
  simp only [backAt, notBack, List.any_eq_true, Bool.not_eq_true', List.all_eq_false, List.mem_range, Bool.and_eq_true, decide_eq_true_eq]
  constructor
  · rintro ⟨p, hp, hk, ho⟩
    obtain ⟨j, hj, e⟩ := List.getElem_of_mem hp
    have e' : b.postings.getD j posting0 = p := by simp [hj, e]
    have := bkRun_of b.postings [] bk0 bk h j hj (by rw [e']; exact hk)
    rw [e'] at this
    refine ⟨j, hj, ?_⟩
    rw [e', ho]
    have hji : ¬ j ≤ i := by simp at this; omega
    simp [hji]
  · rintro ⟨j, hj, hn⟩
    simp only [Bool.or_eq_true, not_or, Bool.not_eq_true', decide_eq_true_eq, decide_eq_false_iff_not, Decidable.not_not] at hn
    have hF := hV.formed _ (getD_mem hj)
    have ho := hn.2
    refine ⟨_, getD_mem hj, ?_, ho⟩
    rcases hF.kind with hk | hk | hk
    · omega
    · omega
    · exact hk.1
theorem addOK_owed {b : Book} (hV : ValidBook b) {q : Posting} (hF : Formed q b.accounts) (s : Int) (i : Nat) (hi : i ≤ b.postings.length) : AddOK (owedL b.postings s 16 i) q := by
  have hacc := hV.acc
  have h1 := hF.cre
  have h2 := hF.deb
  have h3 := hF.amt
  have h4 := hV.len
  refine ⟨owedL_length _ _ _ _, by omega, by omega, hF.ne, by omega, ?_, ?_⟩
  · rw [owedL_getD _ _ _ _ _ (by omega)]
    have := owedP_bound hV s (q.creditor.toNat : Nat) i hi; omega
  · rw [owedL_getD _ _ _ _ _ (by omega)]
    have := owedP_bound hV s (q.debtor.toNat : Nat) i hi; omega
theorem owed16_add {b : Book} (h : ValidBook b) (s : Int) {i : Nat} (hi : i < b.postings.length) (hs : standsB b.postings s i = true) : addL (owedL b.postings s 16 i) (b.postings.getD i posting0) = owedL b.postings s 16 (i + 1) := by
  have hF := formed_at h hi
  have hacc := h.acc
  have := hF.cre
  have := hF.deb
  unfold owedL
  rw [add_map_range _ _ _ (by omega) (by omega) hF.ne]
  simp only [owedP, hs, if_true]
theorem owed16_skip (b : Book) (s : Int) {i : Nat} (hs : standsB b.postings s i = false) : owedL b.postings s 16 (i + 1) = owedL b.postings s 16 i := by
  simp [owedL, owedP, hs]
theorem owed_meets (b : Book) (s : Int) (hL : b.postings.length ≤ 1000) : Meets Try.prog Dc 24 [ba b, .p (.int .i64 s)] [] (listRet (owedS b s)) [] := by
  obtain ⟨r, he⟩ : ∃ r, r = owedS b s := ⟨_, rfl⟩
  rw [← he]
  unfold owedS at he
  cases ho : openS b with
  | none =>
    refine meets_of_gx Ax tab_ok Try.func24 (c := _) rfl Try.call24 400 ?_
    (repeat' ((conv => whnf); first | (refine callh [] (open_none (by omega) ho) rfl rfl trivial ?_) | (refine end_fn [] (.inr rfl) ?_ trivial rfl rfl) | (refine split_nd (fun hb => ?_) (fun hb => ?_)) | (refine split_d (fun hb => ?_) (fun hb => ?_)) | (refine split_n (fun hb => ?_) (fun hb => ?_)) | (refine split_x (fun hb => ?_) (fun hb => ?_)) | (refine And.intro (TraceOK.mk (by kernel_rfl)) ?_) | (refine Side.mk ?_; (repeat' (first | refine And.intro ?_ ?_ | exact inR_i64 (by omega) (by omega) | omega | rfl | exact trivial | exact none_ne rfl | exact some_ne rfl (Nat.ne_of_beq_eq_false rfl) | exact Nat.ne_of_beq_eq_false rfl | (dsimp only [srcSide]; omega) | (simp; done) | (simp; omega))); done) | (refine side_and ?_ ?_) | (refine drawX_of mixed ?_)))
    all_goals ((refine (fun (hr_ : r = none) => ?_) ?_; rotate_left; (focus (simp_all [validB]; done)); subst hr_); (repeat' (first | refine EndV.mk ?_ | exact trivial | exact rfl | refine And.intro ?_ ?_)))
  | some bk =>
    cases hw : (isInB b.accounts 2 16 && isInB b.closed 0 12) with
    | false =>
      refine meets_of_gx Ax tab_ok Try.func24 (c := _) rfl Try.call24 400 ?_
      (repeat' ((conv => whnf); first | (refine callh [] (open_some' (by omega) ho hw) rfl rfl trivial ?_) | (refine end_fn [] (.inr rfl) ?_ trivial rfl rfl) | (refine split_nd (fun hb => ?_) (fun hb => ?_)) | (refine split_d (fun hb => ?_) (fun hb => ?_)) | (refine split_n (fun hb => ?_) (fun hb => ?_)) | (refine split_x (fun hb => ?_) (fun hb => ?_)) | (refine And.intro (TraceOK.mk (by kernel_rfl)) ?_) | (refine Side.mk ?_; (repeat' (first | refine And.intro ?_ ?_ | exact inR_i64 (by omega) (by omega) | omega | rfl | exact trivial | exact none_ne rfl | exact some_ne rfl (Nat.ne_of_beq_eq_false rfl) | exact Nat.ne_of_beq_eq_false rfl | (dsimp only [srcSide]; omega) | (simp; done) | (simp; omega))); done) | (refine side_and ?_ ?_) | (refine drawX_of mixed ?_)))
      all_goals ((refine (fun (hr_ : r = none) => ?_) ?_; rotate_left; (focus (simp_all [validB]; done)); subst hr_); (repeat' (first | refine EndV.mk ?_ | exact trivial | exact rfl | refine And.intro ?_ ?_)))
    | true =>
      have hv : validB b = true := by simp [validB, ho, hw]
      have hV := validBook_of hv
      refine meets_of_gx Ax tab_ok Try.func24 (c := _) rfl Try.call24 400 ?_
      (repeat' ((conv => whnf); first | (refine callh [] (open_some' (by omega) ho hw) rfl rfl trivial ?_) | (refine callx_pure (isIn_meets _ _ _) rfl rfl ?_) | (refine call_in Ax tab_ok Try.func33 (c := _) rfl Try.call33 200 ?_) | (refine range_in Ax tab_ok rfl Try.func39 (c := _) rfl Try.call39 rfl rfl 300 ?_) | (refine end_fn [] (.inr rfl) ?_ trivial rfl rfl) | (refine split_nd (fun hb => ?_) (fun hb => ?_)) | (refine split_d (fun hb => ?_) (fun hb => ?_)) | (refine split_n (fun hb => ?_) (fun hb => ?_)) | (refine split_x (fun hb => ?_) (fun hb => ?_)) | (refine And.intro (TraceOK.mk (by kernel_rfl)) ?_) | (refine Side.mk ?_; (repeat' (first | refine And.intro ?_ ?_ | exact inR_i64 (by omega) (by omega) | omega | rfl | exact trivial | exact none_ne rfl | exact some_ne rfl (Nat.ne_of_beq_eq_false rfl) | exact Nat.ne_of_beq_eq_false rfl | (dsimp only [srcSide]; omega) | (simp; done) | (simp; omega))); done) | (refine side_and ?_ ?_) | (refine drawX_of mixed ?_)))
      · (refine (fun (hr_ : r = none) => ?_) ?_; rotate_left; (focus (simp_all; done)); subst hr_); (repeat' (first | refine EndV.mk ?_ | exact trivial | exact rfl | refine And.intro ?_ ?_))
      intro gn tmps bd
      (repeat' ((conv => whnf); first | (refine end_fn [] (.inr rfl) ?_ trivial rfl rfl) | (refine split_nd (fun hb => ?_) (fun hb => ?_)) | (refine split_d (fun hb => ?_) (fun hb => ?_)) | (refine split_n (fun hb => ?_) (fun hb => ?_)) | (refine split_x (fun hb => ?_) (fun hb => ?_)) | (refine And.intro (TraceOK.mk (by kernel_rfl)) ?_) | (refine Side.mk ?_; (repeat' (first | refine And.intro ?_ ?_ | exact inR_i64 (by omega) (by omega) | omega | rfl | exact trivial | exact none_ne rfl | exact some_ne rfl (Nat.ne_of_beq_eq_false rfl) | exact Nat.ne_of_beq_eq_false rfl | (dsimp only [srcSide]; omega) | (simp; done) | (simp; omega))); done) | (refine side_and ?_ ?_) | (refine drawX_of mixed ?_)))
      refine loop_up (fun i : Nat => [(12, .p (.int .i64 i))]) (fun i => [(5, .var [.arr U.int 16 (owedL b.postings s 16 i)])]) (fun i => i ≤ b.postings.length) (fun i => b.postings.length - i) 0 (Nat.zero_le _) ⟨by (repeat' (first | refine EndV.mk ?_ | exact trivial | exact rfl | refine And.intro ?_ ?_)), by (repeat' (first | refine EndV.mk ?_ | exact trivial | exact rfl | refine And.intro ?_ ?_)), rfl, rfl⟩ ?_
      intro i hi K hK
      have hacc := hV.acc
      have hlen := hV.len
      have hbl := openS_length ho
      rcases Nat.lt_or_ge i b.postings.length with hlt | hge
      · have hF : Formed (b.postings.getD (0 + (i : Int).toNat) (Cd.dflt U.posting)) b.accounts := by rw [Nat.zero_add]; exact formed_at hV hlt
        have hOK : AddOK (owedL b.postings s 16 i) (b.postings.getD (0 + (i : Int).toNat) (Cd.dflt U.posting)) := addOK_owed hV hF s i hi
        have hbk := back_notBack ho hV i
        have hst : standsB b.postings s i = (!decide ((b.postings.getD (0 + (i : Int).toNat) (Cd.dflt U.posting)).kind = 3) && decide ((b.postings.getD (0 + (i : Int).toNat) (Cd.dflt U.posting)).subject = s) && !(bk.getD (i : Int).toNat (Cd.dflt U.bool))) := by
          rw [Nat.zero_add]
          show _ = (_ && _ && !bk.getD i false)
          rw [hbk, Bool.not_not]; rfl
        (repeat' ((conv => whnf); first | (exfalso; omega) | (refine call_in Ax tab_ok Try.func37 (c := _) rfl Try.call37 100 ?_) | (refine yield_in Ax tab_ok rfl rfl rfl 200 200 ?_) | (refine hK (i+1) ([some 0, some 1, some 2, some 3, some 4, some 5, some 6, some 7, some 8]) _ _ ?_ ?_ ?_) | (refine callh [some 5] (add_meets _ _ hOK) rfl rfl ⟨rfl, trivial⟩ ?_) | (refine end_fn [] (.inr rfl) ?_ trivial rfl rfl) | (refine split_nd (fun hb => ?_) (fun hb => ?_)) | (refine split_d (fun hb => ?_) (fun hb => ?_)) | (refine split_n (fun hb => ?_) (fun hb => ?_)) | (refine split_x (fun hb => ?_) (fun hb => ?_)) | (refine And.intro (TraceOK.mk (by kernel_rfl)) ?_) | (refine Side.mk ?_; (repeat' (first | refine And.intro ?_ ?_ | exact inR_i64 (by omega) (by omega) | omega | rfl | exact trivial | exact none_ne rfl | exact some_ne rfl (Nat.ne_of_beq_eq_false rfl) | exact Nat.ne_of_beq_eq_false rfl | (dsimp only [srcSide]; omega) | (simp; done) | (simp; omega))); done) | (refine side_and ?_ ?_) | (refine drawX_of mixed ?_)))
        all_goals (clear hK; dsimp only)
        · have hsb : standsB b.postings s i = true := by rw [hst]; simp_all
          rw [← owed16_add hV s hlt hsb]
          simp only [Nat.zero_add (Int.toNat (i : Int))]
          (refine Back.mk ?_ ?_ rfl rfl <;> (repeat' (first | refine EndV.mk ?_ | exact trivial | exact rfl | refine And.intro ?_ ?_)))
        all_goals
          have hsb : standsB b.postings s i = false := by rw [hst]; simp_all
          rw [owed16_skip b s hsb]
          (refine Back.mk ?_ ?_ rfl rfl <;> (repeat' (first | refine EndV.mk ?_ | exact trivial | exact rfl | refine And.intro ?_ ?_)))
      · have hie : i = b.postings.length := by omega
        subst hie
        (repeat' ((conv => whnf); first | (exfalso; omega) | (refine callx_pure (list_meets _ b.accounts (owedL_length _ _ _ _) (by omega) (by omega)) rfl rfl ?_) | (refine end_fn [] (.inr rfl) ?_ trivial rfl rfl) | (refine split_nd (fun hb => ?_) (fun hb => ?_)) | (refine split_d (fun hb => ?_) (fun hb => ?_)) | (refine split_n (fun hb => ?_) (fun hb => ?_)) | (refine split_x (fun hb => ?_) (fun hb => ?_)) | (refine And.intro (TraceOK.mk (by kernel_rfl)) ?_) | (refine Side.mk ?_; (repeat' (first | refine And.intro ?_ ?_ | exact inR_i64 (by omega) (by omega) | omega | rfl | exact trivial | exact none_ne rfl | exact some_ne rfl (Nat.ne_of_beq_eq_false rfl) | exact Nat.ne_of_beq_eq_false rfl | (dsimp only [srcSide]; omega) | (simp; done) | (simp; omega))); done) | (refine side_and ?_ ?_) | (refine drawX_of mixed ?_)))
        (refine (fun (hr_ : r = some (owedL b.postings s b.accounts.toNat b.postings.length)) => ?_) ?_; rotate_left; (focus (simp_all; done)); subst hr_)
        have hfin : List.take b.accounts.toNat (owedL b.postings s 16 b.postings.length) = owedL b.postings s b.accounts.toNat b.postings.length := by
          unfold owedL
          rw [← List.map_take, List.take_range, Nat.min_eq_left (by omega)]
        rw [hfin]
        (repeat' (first | refine EndV.mk ?_ | exact trivial | exact rfl | refine And.intro ?_ ?_))
end Go.SX
