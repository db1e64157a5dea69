/-
  Walks: El4, El5, El6: what single functions of the program compute.
-/
import Derived.Test.YtboldmbaiocjpaaDoorSxEl1
set_option linter.unusedVariables false
namespace Go.SX
open Go.Proofs
set_option linter.unusedSimpArgs false
set_option maxHeartbeats 4000000
set_option maxRecDepth 100000
def stmtL (b : Book) (m : Int) (n : Nat) : List Int := (List.range n).map fun t : Nat => balL b.postings (t : Int) m
def stmtS (b : Book) (m : Int) : Option (List Int) := if validB b && isInB m 0 11 then some (stmtL b m b.accounts.toNat) else none
def listRet (r : Option (List Int)) : SV Cd := .tuple [.p (.dsl U.int (r.getD [])), .p (.int .i64 (match r with | some _ => 0 | none => 240))]
theorem isInB_iff {n lo hi : Int} : isInB n lo hi = true ↔ lo ≤ n ∧ n ≤ hi := by simp [isInB]
end Go.SX

namespace Go.SX
open Go.Proofs
set_option linter.unusedSimpArgs false
set_option maxHeartbeats 4000000
set_option maxRecDepth 100000
def delta (p : Posting) (t : Int) : Int := (if p.creditor = t then p.amount else 0) - (if p.debtor = t then p.amount else 0)
theorem getD_map_range {α : Type} (n : Nat) (f : Nat → α) (i : Nat) (d : α) (h : i < n) : ((List.range n).map f).getD i d = f i := by
  simp [h]
theorem set_map_range {α : Type} (n : Nat) (f : Nat → α) (i : Nat) (v : α) (h : i < n) : ((List.range n).map f).set i v = (List.range n).map fun t => if t = i then v else f t := by
  apply List.ext_getElem
  · simp
  · intro k h1 h2
    simp only [List.getElem_set, List.getElem_map, List.getElem_range]
    by_cases e : i = k
    · subst e; simp
    · rw [if_neg e, if_neg (fun h => e h.symm)]
/-- what a posting books -/
def addL (L : List Int) (p : Posting) : List Int := (L.set p.creditor.toNat (L.getD p.creditor.toNat 0 + p.amount)).set p.debtor.toNat ((L.set p.creditor.toNat (L.getD p.creditor.toNat 0 + p.amount)).getD p.debtor.toNat 0 - p.amount)
theorem getD_set_ne {α : Type} (L : List α) (i j : Nat) (v d : α) (h : i ≠ j) : (L.set i v).getD j d = L.getD j d := by
  simp [List.getD_eq_getElem?_getD, List.getElem?_set_ne h]
theorem add_map_range (n : Nat) (f : Nat → Int) (p : Posting) (hc : 0 ≤ p.creditor ∧ p.creditor < n) (hd : 0 ≤ p.debtor ∧ p.debtor < n) (hne : p.debtor ≠ p.creditor) :
    addL ((List.range n).map f) p = (List.range n).map fun t => f t + delta p (t : Int) := by
  unfold addL
  rw [getD_set_ne _ _ _ _ _ (by omega), getD_map_range _ _ _ _ (by omega), getD_map_range _ _ _ _ (by omega), set_map_range _ _ _ _ (by omega), set_map_range _ _ _ _ (by omega)]
  apply List.map_congr_left
  intro t ht
  simp only [delta]
  by_cases h1 : t = p.debtor.toNat
  · have e1 : p.debtor = (t : Int) := by omega
    have e2 : ¬ p.creditor = (t : Int) := by omega
    rw [if_pos h1, if_pos e1, if_neg e2, ← h1]; omega
  · have e1 : ¬ p.debtor = (t : Int) := by omega
    rw [if_neg h1, if_neg e1]
    by_cases h2 : t = p.creditor.toNat
    · have e2 : p.creditor = (t : Int) := by omega
      rw [if_pos h2, if_pos e2, ← h2]; omega
    · have e2 : ¬ p.creditor = (t : Int) := by omega
      rw [if_neg h2, if_neg e2]; omega
/-- does posting i stand, seen from those up to k? -/
def notBack (xs : List Posting) (i k : Nat) : Bool := (List.range k).all fun j => decide (j ≤ i) || !decide ((xs.getD j posting0).of_ = (i : Int))
theorem notBack_succ (xs : List Posting) (i k : Nat) (h : i < k) : notBack xs i (k + 1) = (notBack xs i k && !decide ((xs.getD k posting0).of_ = (i : Int))) := by
  have : ¬ k ≤ i := by omega
  simp [notBack, List.range_succ, List.all_append, this]
theorem notBack_start (xs : List Posting) (i : Nat) : notBack xs i (i + 1) = true := by
  simp [notBack]; omega
def standsB (xs : List Posting) (s : Int) (i : Nat) : Bool := !decide ((xs.getD i posting0).kind = 3) && decide ((xs.getD i posting0).subject = s) && notBack xs i xs.length
def owedP (xs : List Posting) (s : Int) (t : Int) : Nat → Int
  | 0 => 0
  | i + 1 => owedP xs s t i + (if standsB xs s i then delta (xs.getD i posting0) t else 0)
def owedL (xs : List Posting) (s : Int) (n i : Nat) : List Int := (List.range n).map fun t : Nat => owedP xs s (t : Int) i
def owedS (b : Book) (s : Int) : Option (List Int) := if validB b && isInB s 0 999 then some (owedL b.postings s b.accounts.toNat b.postings.length) else none
theorem delta_bound {p : Posting} {acc : Int} (h : Formed p acc) (t : Int) : -1000000000000 ≤ delta p t ∧ delta p t ≤ 1000000000000 := by
  have := h.amt
  unfold delta
  split <;> split <;> omega
theorem owedP_bound {b : Book} (h : ValidBook b) (s t : Int) : ∀ i, i ≤ b.postings.length → -(1000000000000 * i) ≤ owedP b.postings s t i ∧ owedP b.postings s t i ≤ 1000000000000 * i
  | 0, _ => by simp [owedP]
  | i + 1, hi => by
    have ih := owedP_bound h s t i (by omega)
    have := delta_bound (formed_at h hi) t
    simp only [owedP]
    split <;> omega
theorem owedL_length (xs : List Posting) (s : Int) (n i : Nat) : (owedL xs s n i).length = n := by simp [owedL]
theorem owedL_getD (xs : List Posting) (s : Int) (n i j : Nat) (h : j < n) : (owedL xs s n i).getD j 0 = owedP xs s (j : Int) i := getD_map_range _ _ _ _ h
theorem owedL_add {b : Book} (h : ValidBook b) (s : Int) {i : Nat} (hi : i < b.postings.length) (hs : standsB b.postings s i = true) : addL (owedL b.postings s b.accounts.toNat i) (b.postings.getD i posting0) = owedL b.postings s b.accounts.toNat (i + 1) := by
  have hF := formed_at h hi
  have hacc := h.acc
  have := hF.cre
  have := hF.deb
  unfold owedL
  rw [add_map_range _ _ _ (by omega) (by omega) hF.ne]
  simp only [owedP, hs, if_true]
theorem owedL_skip (b : Book) (s : Int) {i : Nat} (hs : standsB b.postings s i = false) : owedL b.postings s b.accounts.toNat (i + 1) = owedL b.postings s b.accounts.toNat i := by
  simp [owedL, owedP, hs]
def paL (p : Posting) : List (SV Cd) := [.p (.int .i64 p.kind), .p (.int .i64 p.day), .p (.int .i64 p.debtor), .p (.int .i64 p.creditor), .p (.int .i64 p.amount), .p (.int .i64 p.subject), .p (.int .i64 p.of_)]
end Go.SX

namespace Go.SX
open Go.Proofs
set_option linter.unusedSimpArgs false
set_option maxHeartbeats 4000000
set_option maxRecDepth 100000
structure AddOK (L : List Int) (p : Posting) : Prop where
  len : L.length = 16
  cre : 0 ≤ p.creditor ∧ p.creditor ≤ 15
  deb : 0 ≤ p.debtor ∧ p.debtor ≤ 15
  ne : p.debtor ≠ p.creditor
  amt : 0 ≤ p.amount ∧ p.amount ≤ 1000000000000
  bc : -1000000000000000 ≤ L.getD p.creditor.toNat 0 ∧ L.getD p.creditor.toNat 0 ≤ 1000000000000000
  bd : -1000000000000000 ≤ L.getD p.debtor.toNat 0 ∧ L.getD p.debtor.toNat 0 ≤ 1000000000000000
theorem badd_meets (L : List Int) (p : Posting) (h : AddOK L p) : Meets Tryd.prog Dc 107 [.ptr 0 0, pa p] [.var [.arr U.int 16 L]] (.tuple []) [.var [.arr U.int 16 (addL L p)]] := by
  have h1 := h.len
  have h2 := h.cre
  have h3 := h.deb
  have h4 := h.amt
  have h5 := h.bc
  have h6 := h.bd
  have h7 := h.ne
  have hcd : p.creditor.toNat ≠ p.debtor.toNat := by omega
  refine meets_of_gx Ax tab_ok Tryd.func107 (c := _) rfl Tryd.call107 300 ?_
  (repeat' ((conv => whnf); first | (refine end_fn [some 0] (.inl rfl) ?_ ?_ rfl rfl) | (refine end_fn [] (.inr rfl) ?_ trivial rfl rfl) | (refine split_nd (fun hb => ?_) (fun hb => ?_)) | (refine split_d (fun hb => ?_) (fun hb => ?_)) | (refine split_n (fun hb => ?_) (fun hb => ?_)) | (refine split_x (fun hb => ?_) (fun hb => ?_)) | (refine And.intro (TraceOK.mk (by kernel_rfl)) ?_) | (refine Side.mk ?_; (repeat' (first | refine And.intro ?_ ?_ | exact inR_i64 (by omega) (by omega) | omega | rfl | exact trivial | exact none_ne rfl | exact some_ne rfl (Nat.ne_of_beq_eq_false rfl) | exact Nat.ne_of_beq_eq_false rfl | (dsimp only [srcSide]; omega) | (simp; done) | (simp; omega))); done) | (refine side_and ?_ ?_) | (refine drawX_of mixed ?_)))
  · exact ⟨inR_i64 (by show _ ≤ L.getD p.creditor.toNat 0 + _; omega) (by show L.getD p.creditor.toNat 0 + _ ≤ _; omega)⟩
  · rw [getD_set_ne _ _ _ _ _ hcd]
    exact ⟨inR_i64 (by show _ ≤ L.getD p.debtor.toNat 0 - _; omega) (by show L.getD p.debtor.toNat 0 - _ ≤ _; omega)⟩
  all_goals (repeat' (first | refine EndV.mk ?_ | exact trivial | exact rfl | refine And.intro ?_ ?_))
theorem list_meets (L : List Int) (n : Int) (hL : L.length = 16) (h0 : 0 ≤ n) (h16 : n ≤ 16) : Meets Tryd.prog Dc 108 [.agg [.arr U.int 16 L], .p (.int .i64 n)] [] (.p (.dsl U.int (L.take n.toNat))) [] := by
  refine meets_of_gx Ax tab_ok Tryd.func108 (c := _) rfl Tryd.call108 300 ?_
  (repeat' ((conv => whnf); first | (refine end_fn [] (.inr rfl) ?_ trivial rfl rfl) | (refine split_nd (fun hb => ?_) (fun hb => ?_)) | (refine split_d (fun hb => ?_) (fun hb => ?_)) | (refine split_n (fun hb => ?_) (fun hb => ?_)) | (refine split_x (fun hb => ?_) (fun hb => ?_)) | (refine And.intro (TraceOK.mk (by kernel_rfl)) ?_) | (refine Side.mk ?_; (repeat' (first | refine And.intro ?_ ?_ | exact inR_i64 (by omega) (by omega) | omega | rfl | exact trivial | exact none_ne rfl | exact some_ne rfl (Nat.ne_of_beq_eq_false rfl) | exact Nat.ne_of_beq_eq_false rfl | (dsimp only [srcSide]; omega) | (simp; done) | (simp; omega))); done) | (refine side_and ?_ ?_) | (refine drawX_of mixed ?_)))
  · have he : L = List.replicate 16 0 := of_decide_eq_true (show decide (L = List.replicate 16 0) = true by have := hb; simp only [Bool.and_true] at this; exact this)
    subst he
    (repeat' (first | refine EndV.mk ?_ | exact trivial | exact rfl | refine And.intro ?_ ?_))
    exact ⟨_, rfl, rfl, rfl, by simp, by rw [List.take_replicate, List.drop_zero, List.take_of_length_le (by simp), Nat.min_eq_left (by omega)]; rfl, rfl⟩
  · (repeat' (first | refine EndV.mk ?_ | exact trivial | exact rfl | refine And.intro ?_ ?_))
    exact ⟨_, rfl, rfl, rfl, by simp, by simp [List.take_take, hL], rfl⟩
theorem addOK_bal {b : Book} (hV : ValidBook b) {q : Posting} (hF : Formed q b.accounts) (m : Int) (i : Nat) : AddOK ((List.range 16).map fun t : Nat => balL (b.postings.take i) (t : Int) m) q := by
  have hacc := hV.acc
  have h1 := hF.cre
  have h2 := hF.deb
  have h3 := hF.amt
  refine ⟨by simp, by omega, by omega, hF.ne, by omega, ?_, ?_⟩
  · rw [getD_map_range _ _ _ _ (by omega)]
    have := bal_bound hV (q.creditor.toNat : Nat) m i; omega
  · rw [getD_map_range _ _ _ _ (by omega)]
    have := bal_bound hV (q.debtor.toNat : Nat) m i; omega
theorem bal_step {b : Book} {m : Int} (hV : ValidBook b) {i : Nat} (hlt : i < b.postings.length) :
    ((b.postings.getD i posting0).day.tdiv 30 = m → addL ((List.range 16).map fun t : Nat => balL (b.postings.take i) (t : Int) m) (b.postings.getD i posting0) = (List.range 16).map fun t : Nat => balL (b.postings.take (i + 1)) (t : Int) m) ∧
    (¬ (b.postings.getD i posting0).day.tdiv 30 = m → ((List.range 16).map fun t : Nat => balL (b.postings.take (i + 1)) (t : Int) m) = (List.range 16).map fun t : Nat => balL (b.postings.take i) (t : Int) m) := by
  have hF := formed_at hV hlt
  have hacc := hV.acc
  have h1 := hF.cre
  have h2 := hF.deb
  have hs : ∀ t, balL (b.postings.take (i + 1)) t m = balL (b.postings.take i) t m + entry t m (b.postings.getD i posting0) := fun t => sum_take_succ _ _ _ hlt
  refine ⟨fun h => ?_, fun h => ?_⟩
  · rw [add_map_range _ _ _ (by omega) (by omega) hF.ne]
    apply List.map_congr_left
    intro t _
    rw [hs, entry, if_pos h]; rfl
  · apply List.map_congr_left
    intro t _
    rw [hs, entry, if_neg h, Int.add_zero]
theorem open_some' {b : Book} {bk : List Bool} {q : Bool} (hL : (b.postings.length : Int) < 9223372036854775807) (h : openS b = some bk) (hw : (isInB b.accounts 2 16 && isInB b.closed 0 12) = q) : Meets Tryd.prog Dc 87 [ba b] [] (.tuple [.ptr 0 0, .p (.bool q)]) (ledger b.accounts b.closed b.postings bk) := by
  have := open_some hL h; rwa [hw] at this
theorem statement_meets (b : Book) (m : Int) (hL : b.postings.length ≤ 1000) : Meets Tryd.prog Dc 72 [ba b, .p (.int .i64 m)] [] (listRet (stmtS b m)) [] := by
  obtain ⟨r, he⟩ : ∃ r, r = stmtS b m := ⟨_, rfl⟩
  rw [← he]
  unfold stmtS at he
  cases ho : openS b with
  | none =>
    refine meets_of_gx Ax tab_ok Tryd.func72 (c := _) rfl Tryd.call72 400 ?_
    (repeat' ((conv => whnf); first | (refine callh [] (open_none (by omega) ho) rfl rfl trivial ?_) | (refine end_fn [] (.inr rfl) ?_ trivial rfl rfl) | (refine split_nd (fun hb => ?_) (fun hb => ?_)) | (refine split_d (fun hb => ?_) (fun hb => ?_)) | (refine split_n (fun hb => ?_) (fun hb => ?_)) | (refine split_x (fun hb => ?_) (fun hb => ?_)) | (refine And.intro (TraceOK.mk (by kernel_rfl)) ?_) | (refine Side.mk ?_; (repeat' (first | refine And.intro ?_ ?_ | exact inR_i64 (by omega) (by omega) | omega | rfl | exact trivial | exact none_ne rfl | exact some_ne rfl (Nat.ne_of_beq_eq_false rfl) | exact Nat.ne_of_beq_eq_false rfl | (dsimp only [srcSide]; omega) | (simp; done) | (simp; omega))); done) | (refine side_and ?_ ?_) | (refine drawX_of mixed ?_)))
    all_goals ((refine (fun (hr_ : r = none) => ?_) ?_; rotate_left; (focus (simp_all [validB]; done)); subst hr_); (repeat' (first | refine EndV.mk ?_ | exact trivial | exact rfl | refine And.intro ?_ ?_)))
  | some bk =>
    cases hw : (isInB b.accounts 2 16 && isInB b.closed 0 12) with
    | false =>
      refine meets_of_gx Ax tab_ok Tryd.func72 (c := _) rfl Tryd.call72 400 ?_
      (repeat' ((conv => whnf); first | (refine callh [] (open_some' (by omega) ho hw) rfl rfl trivial ?_) | (refine end_fn [] (.inr rfl) ?_ trivial rfl rfl) | (refine split_nd (fun hb => ?_) (fun hb => ?_)) | (refine split_d (fun hb => ?_) (fun hb => ?_)) | (refine split_n (fun hb => ?_) (fun hb => ?_)) | (refine split_x (fun hb => ?_) (fun hb => ?_)) | (refine And.intro (TraceOK.mk (by kernel_rfl)) ?_) | (refine Side.mk ?_; (repeat' (first | refine And.intro ?_ ?_ | exact inR_i64 (by omega) (by omega) | omega | rfl | exact trivial | exact none_ne rfl | exact some_ne rfl (Nat.ne_of_beq_eq_false rfl) | exact Nat.ne_of_beq_eq_false rfl | (dsimp only [srcSide]; omega) | (simp; done) | (simp; omega))); done) | (refine side_and ?_ ?_) | (refine drawX_of mixed ?_)))
      all_goals ((refine (fun (hr_ : r = none) => ?_) ?_; rotate_left; (focus (simp_all [validB]; done)); subst hr_); (repeat' (first | refine EndV.mk ?_ | exact trivial | exact rfl | refine And.intro ?_ ?_)))
    | true =>
      have hv : validB b = true := by simp [validB, ho, hw]
      have hV := validBook_of hv
      refine meets_of_gx Ax tab_ok Tryd.func72 (c := _) rfl Tryd.call72 400 ?_
      (repeat' ((conv => whnf); first | (refine callh [] (open_some' (by omega) ho hw) rfl rfl trivial ?_) | (refine callx_pure (isIn_meets _ _ _) rfl rfl ?_) | (refine call_in Ax tab_ok Tryd.func105 (c := _) rfl Tryd.call105 200 ?_) | (refine range_in Ax tab_ok rfl Tryd.func124 (c := _) rfl Tryd.call124 rfl rfl 300 ?_) | (refine end_fn [] (.inr rfl) ?_ trivial rfl rfl) | (refine split_nd (fun hb => ?_) (fun hb => ?_)) | (refine split_d (fun hb => ?_) (fun hb => ?_)) | (refine split_n (fun hb => ?_) (fun hb => ?_)) | (refine split_x (fun hb => ?_) (fun hb => ?_)) | (refine And.intro (TraceOK.mk (by kernel_rfl)) ?_) | (refine Side.mk ?_; (repeat' (first | refine And.intro ?_ ?_ | exact inR_i64 (by omega) (by omega) | omega | rfl | exact trivial | exact none_ne rfl | exact some_ne rfl (Nat.ne_of_beq_eq_false rfl) | exact Nat.ne_of_beq_eq_false rfl | (dsimp only [srcSide]; omega) | (simp; done) | (simp; omega))); done) | (refine side_and ?_ ?_) | (refine drawX_of mixed ?_)))
      · (refine (fun (hr_ : r = none) => ?_) ?_; rotate_left; (focus (simp_all; done)); subst hr_); (repeat' (first | refine EndV.mk ?_ | exact trivial | exact rfl | refine And.intro ?_ ?_))
      intro gn tmps bd
      (repeat' ((conv => whnf); first | (refine end_fn [] (.inr rfl) ?_ trivial rfl rfl) | (refine split_nd (fun hb => ?_) (fun hb => ?_)) | (refine split_d (fun hb => ?_) (fun hb => ?_)) | (refine split_n (fun hb => ?_) (fun hb => ?_)) | (refine split_x (fun hb => ?_) (fun hb => ?_)) | (refine And.intro (TraceOK.mk (by kernel_rfl)) ?_) | (refine Side.mk ?_; (repeat' (first | refine And.intro ?_ ?_ | exact inR_i64 (by omega) (by omega) | omega | rfl | exact trivial | exact none_ne rfl | exact some_ne rfl (Nat.ne_of_beq_eq_false rfl) | exact Nat.ne_of_beq_eq_false rfl | (dsimp only [srcSide]; omega) | (simp; done) | (simp; omega))); done) | (refine side_and ?_ ?_) | (refine drawX_of mixed ?_)))
      refine loop_up (fun i : Nat => [(12, .p (.int .i64 i))]) (fun i => [(4, .var [.arr U.int 16 ((List.range 16).map fun t : Nat => balL (b.postings.take i) (t : Int) m)])]) (fun i => i ≤ b.postings.length) (fun i => b.postings.length - i) 0 (Nat.zero_le _) ⟨by (repeat' (first | refine EndV.mk ?_ | exact trivial | exact rfl | refine And.intro ?_ ?_)), by (repeat' (first | refine EndV.mk ?_ | exact trivial | exact rfl | refine And.intro ?_ ?_)), rfl, rfl⟩ ?_
      intro i hi K hK
      have hacc := hV.acc
      rcases Nat.lt_or_ge i b.postings.length with hlt | hge
      · have hF : Formed (b.postings.getD (0 + (i : Int).toNat) (Cd.dflt U.posting)) b.accounts := by rw [Nat.zero_add]; exact formed_at hV hlt
        have htd := tdiv30 hF.day
        have hOK : AddOK ((List.range 16).map fun t : Nat => balL (b.postings.take i) (t : Int) m) (b.postings.getD (0 + (i : Int).toNat) (Cd.dflt U.posting)) := addOK_bal hV hF m i
        have hs := bal_step (b := b) (m := m) hV hlt
        (repeat' ((conv => whnf); first | (exfalso; omega) | (refine call_in Ax tab_ok Tryd.func106 (c := _) rfl Tryd.call106 100 ?_) | (refine yield_in Ax tab_ok rfl rfl rfl 200 200 ?_) | (refine hK (i+1) ([some 0, some 1, some 2, some 3, some 4, some 5, some 6, some 7]) _ _ ?_ ?_ ?_) | (refine callh [some 4] (badd_meets _ _ hOK) rfl rfl ⟨rfl, trivial⟩ ?_) | (refine end_fn [] (.inr rfl) ?_ trivial rfl rfl) | (refine split_nd (fun hb => ?_) (fun hb => ?_)) | (refine split_d (fun hb => ?_) (fun hb => ?_)) | (refine split_n (fun hb => ?_) (fun hb => ?_)) | (refine split_x (fun hb => ?_) (fun hb => ?_)) | (refine And.intro (TraceOK.mk (by kernel_rfl)) ?_) | (refine Side.mk ?_; (repeat' (first | refine And.intro ?_ ?_ | exact inR_i64 (by omega) (by omega) | omega | rfl | exact trivial | exact none_ne rfl | exact some_ne rfl (Nat.ne_of_beq_eq_false rfl) | exact Nat.ne_of_beq_eq_false rfl | (dsimp only [srcSide]; omega) | (simp; done) | (simp; omega))); done) | (refine side_and ?_ ?_) | (refine drawX_of mixed ?_)))
        · rw [Nat.zero_add] at hb
          dsimp only
          rw [← hs.1 hb]
          simp only [Nat.zero_add (Int.toNat (i : Int))]
          (refine Back.mk ?_ ?_ rfl rfl <;> (repeat' (first | refine EndV.mk ?_ | exact trivial | exact rfl | refine And.intro ?_ ?_)))
        · rw [Nat.zero_add] at hb
          dsimp only
          rw [hs.2 hb]
          (refine Back.mk ?_ ?_ rfl rfl <;> (repeat' (first | refine EndV.mk ?_ | exact trivial | exact rfl | refine And.intro ?_ ?_)))
      · have hie : i = b.postings.length := by omega
        subst hie
        (repeat' ((conv => whnf); first | (exfalso; omega) | (refine callx_pure (list_meets _ b.accounts (by simp) (by omega) (by omega)) rfl rfl ?_) | (refine end_fn [] (.inr rfl) ?_ trivial rfl rfl) | (refine split_nd (fun hb => ?_) (fun hb => ?_)) | (refine split_d (fun hb => ?_) (fun hb => ?_)) | (refine split_n (fun hb => ?_) (fun hb => ?_)) | (refine split_x (fun hb => ?_) (fun hb => ?_)) | (refine And.intro (TraceOK.mk (by kernel_rfl)) ?_) | (refine Side.mk ?_; (repeat' (first | refine And.intro ?_ ?_ | exact inR_i64 (by omega) (by omega) | omega | rfl | exact trivial | exact none_ne rfl | exact some_ne rfl (Nat.ne_of_beq_eq_false rfl) | exact Nat.ne_of_beq_eq_false rfl | (dsimp only [srcSide]; omega) | (simp; done) | (simp; omega))); done) | (refine side_and ?_ ?_) | (refine drawX_of mixed ?_)))
        (refine (fun (hr_ : r = some (stmtL b m b.accounts.toNat)) => ?_) ?_; rotate_left; (focus (simp_all; done)); subst hr_)
        have hfin : List.take b.accounts.toNat ((List.range 16).map fun t : Nat => balL (b.postings.take b.postings.length) (t : Int) m) = stmtL b m b.accounts.toNat := by
          rw [← List.map_take, List.take_range, Nat.min_eq_left (by omega), List.take_length]; rfl
        rw [hfin]
        (repeat' (first | refine EndV.mk ?_ | exact trivial | exact rfl | refine And.intro ?_ ?_))
end Go.SX
