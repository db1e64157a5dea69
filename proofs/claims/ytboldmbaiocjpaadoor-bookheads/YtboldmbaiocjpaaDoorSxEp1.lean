/-
  Walks: Ep1, Ep3, El0: what single functions of the program compute.
-/
import Derived.Test.YtboldmbaiocjpaaDoorSxEq1
import Derived.Test.YtboldmbaiocjpaaDoorSxEk7
import Derived.Test.YtboldmbaiocjpaaDoorSxEq0
import Derived.Shelf.Strings.Repeat
namespace Go.SX
open Go.Proofs
set_option linter.unusedSimpArgs false
set_option linter.unusedVariables false
set_option maxHeartbeats 4000000
set_option maxRecDepth 100000
def fldL (p : Posting) : List Int := [p.kind, p.day, p.debtor, p.creditor, p.amount, p.subject, p.of_]
def encL (l : List Int) : Bs := l.flatMap intB
def okB (n : Int) : Bool := decide (-4611686018427387903 ≤ n) && decide (n ≤ 4611686018427387903)
theorem okB_iff (n : Int) : okB n = true ↔ okInt n := by simp [okB, okInt]
def encB (p : Posting) : Bool := (fldL p).all okB
def encRet (p : Posting) : SV Cd := if encB p then .tuple [.p (.str (encL (fldL p))), .p (.int .i64 0)] else .tuple [.p (.str []), .p (.int .i64 240)]
theorem all_getD {L : List Int} {i : Nat} (hi : i < L.length) (h : okB (L.getD i 0) = false) : L.all okB = false := by
  rw [List.all_eq_false]
  refine ⟨L[i], List.getElem_mem hi, ?_⟩
  rw [List.getD_eq_getElem?_getD, List.getElem?_eq_getElem hi] at h
  simpa using h
theorem all_of {L : List Int} (h : ∀ j, j < L.length → okB (L.getD j 0) = true) : L.all okB = true := by
  rw [List.all_eq_true]
  intro s hs
  obtain ⟨i, hi, rfl⟩ := List.getElem_of_mem hs
  have := h i hi
  rw [List.getD_eq_getElem?_getD, List.getElem?_eq_getElem hi] at this
  simpa using this
theorem encL_take (L : List Int) (i : Nat) (h : i < L.length) : encL (L.take (i + 1)) = encL (L.take i) ++ intB (L.getD i 0) := by
  have e : L.take (i + 1) = L.take i ++ [L[i]] := by rw [List.take_add_one, List.getElem?_eq_getElem h]; rfl
  rw [e, List.getD_eq_getElem?_getD, List.getElem?_eq_getElem h]
  unfold encL
  rw [List.flatMap_append]
  simp
theorem encL_length : ∀ (L : List Int), (∀ j, j < L.length → okB (L.getD j 0) = true) → (encL L).length ≤ 10 * L.length
  | [], _ => by simp [encL]
  | n :: L, h => by
    have h0 := intB_length n ((okB_iff n).1 (h 0 (by simp)))
    have h1 := encL_length L (fun j hj => h (j + 1) (by simp; omega))
    unfold encL at *
    rw [List.flatMap_cons, List.length_append, List.length_cons]
    omega
theorem refEnc_meets (p : Posting) : Meets Tryd.prog Dc 43 [pa p] [] (encRet p) [] := by
  have hui : 0 + 1 = Cd.n U.int := rfl
  refine meets_of_gx Ax tab_ok Tryd.func43 (c := _) rfl Tryd.call43 600 ?_
  (repeat' ((conv => whnf); first | (exfalso; omega) | (refine end_fn [] (.inr rfl) ?_ trivial rfl rfl) | (refine split_nd (fun hb => ?_) (fun hb => ?_)) | (refine split_d (fun hb => ?_) (fun hb => ?_)) | (refine split_n (fun hb => ?_) (fun hb => ?_)) | (refine split_x (fun hb => ?_) (fun hb => ?_)) | (refine And.intro (TraceOK.mk (by kernel_rfl)) ?_) | (refine Side.mk ?_; (repeat' (first | refine And.intro ?_ ?_ | exact inR_i64 (by omega) (by omega) | omega | rfl | exact trivial | exact none_ne rfl | exact some_ne rfl (Nat.ne_of_beq_eq_false rfl) | exact Nat.ne_of_beq_eq_false rfl | (dsimp only [srcSide]; omega) | (simp; done) | (simp; omega))); done) | (refine side_and ?_ ?_) | (refine drawX_of mixed ?_)))
  unfold encRet encB
  rw [show [p.kind, p.day, p.debtor, p.creditor, p.amount, p.subject, p.of_] = fldL p from rfl]
  have hL : (fldL p).length = 7 := rfl
  generalize fldL p = L at *
  refine loop_up (fun i : Nat => [(4, .p (.str (encL (L.take i)))), (6, .p (.int .i64 i))]) (fun _ => []) (fun i => i ≤ 7 ∧ ∀ j, j < i → okB (L.getD j 0) = true) (fun i => 7 - i) 0 ⟨Nat.zero_le _, fun j hj => by omega⟩ ⟨by (repeat' (first | refine EndV.mk ?_ | exact trivial | exact rfl | refine And.intro ?_ ?_)), by (repeat' (first | refine EndV.mk ?_ | exact trivial | exact rfl | refine And.intro ?_ ?_)), rfl, rfl⟩ ?_
  rintro i ⟨hi, hall⟩ K hK
  have hel := encL_length (L.take i) (fun j hj => by
    rw [List.length_take] at hj
    rw [List.getD_eq_getElem?_getD, List.getElem?_take_of_lt (by omega), ← List.getD_eq_getElem?_getD]; exact hall j (by omega))
  have hel2 : (L.take i).length ≤ 7 := by simp; omega
  rcases Nat.lt_or_ge i 7 with hlt | hge
  · have ht := encL_take L i (by omega)
    have hg : L.getD (0 + (i : Int).toNat) (Cd.dflt U.int) = L.getD i 0 := by rw [Nat.zero_add]; rfl
    generalize encL (L.take i) = o at *
    by_cases hok : okB (L.getD i 0) = true
    · have hil := intB_length (L.getD i 0) ((okB_iff _).1 hok)
      have hc := refPut_loop (L.getD i 0) ((okB_iff _).1 hok)
      have hsd : Side (i + 1 ≤ 7 ∧ ∀ j, j < i + 1 → okB (L.getD j 0) = true) := ⟨⟨hlt, fun j hj => by rcases Nat.lt_or_ge j i with h | h; exact hall j h; rw [show j = i by omega]; exact hok⟩⟩
      generalize intB (L.getD i 0) = b at *
      (repeat' ((conv => whnf); first | (exfalso; omega) | (rw [hg]) | (refine callx_pure (hc) rfl rfl ?_) | (refine dcallx_pure (hc) rfl rfl ?_) | (refine hK (i + 1) [some 0, some 1] _ _ hsd ?_ ?_) | (refine end_fn [] (.inr rfl) ?_ trivial rfl rfl) | (refine split_nd (fun hb => ?_) (fun hb => ?_)) | (refine split_d (fun hb => ?_) (fun hb => ?_)) | (refine split_n (fun hb => ?_) (fun hb => ?_)) | (refine split_x (fun hb => ?_) (fun hb => ?_)) | (refine And.intro (TraceOK.mk (by kernel_rfl)) ?_) | (refine Side.mk ?_; (repeat' (first | refine And.intro ?_ ?_ | exact inR_i64 (by omega) (by omega) | omega | rfl | exact trivial | exact none_ne rfl | exact some_ne rfl (Nat.ne_of_beq_eq_false rfl) | exact Nat.ne_of_beq_eq_false rfl | (dsimp only [srcSide]; omega) | (simp; done) | (simp; omega))); done) | (refine side_and ?_ ?_) | (refine drawX_of mixed ?_)))
      all_goals try (dsimp only; rw [ht]; (refine Back.mk ?_ ?_ rfl rfl <;> (repeat' (first | refine EndV.mk ?_ | exact trivial | exact rfl | refine And.intro ?_ ?_))))
    · rw [Bool.not_eq_true] at hok
      have hc := refPutBad (L.getD i 0) (fun h => by rw [(okB_iff _).2 h] at hok; cases hok)
      unfold putBad at hc
      rw [all_getD (by omega) hok, if_neg (by simp)]
      clear hK
      (repeat' ((conv => whnf); first | (exfalso; omega) | (rw [hg]) | (refine callx_pure (hc) rfl rfl ?_) | (refine dcallx_pure (hc) rfl rfl ?_) | (refine end_fn [] (.inr rfl) ?_ trivial rfl rfl) | (refine split_nd (fun hb => ?_) (fun hb => ?_)) | (refine split_d (fun hb => ?_) (fun hb => ?_)) | (refine split_n (fun hb => ?_) (fun hb => ?_)) | (refine split_x (fun hb => ?_) (fun hb => ?_)) | (refine And.intro (TraceOK.mk (by kernel_rfl)) ?_) | (refine Side.mk ?_; (repeat' (first | refine And.intro ?_ ?_ | exact inR_i64 (by omega) (by omega) | omega | rfl | exact trivial | exact none_ne rfl | exact some_ne rfl (Nat.ne_of_beq_eq_false rfl) | exact Nat.ne_of_beq_eq_false rfl | (dsimp only [srcSide]; omega) | (simp; done) | (simp; omega))); done) | (refine side_and ?_ ?_) | (refine drawX_of mixed ?_)))
      all_goals (repeat' (first | refine EndV.mk ?_ | exact trivial | exact rfl | refine And.intro ?_ ?_))
  · rw [all_of (L := L) fun j hj => hall j (by omega), if_pos rfl]
    rw [List.take_of_length_le (by omega)] at *
    clear hK
    generalize encL L = o at *
    (repeat' ((conv => whnf); first | (exfalso; omega) | (refine end_fn [] (.inr rfl) ?_ trivial rfl rfl) | (refine split_nd (fun hb => ?_) (fun hb => ?_)) | (refine split_d (fun hb => ?_) (fun hb => ?_)) | (refine split_n (fun hb => ?_) (fun hb => ?_)) | (refine split_x (fun hb => ?_) (fun hb => ?_)) | (refine And.intro (TraceOK.mk (by kernel_rfl)) ?_) | (refine Side.mk ?_; (repeat' (first | refine And.intro ?_ ?_ | exact inR_i64 (by omega) (by omega) | omega | rfl | exact trivial | exact none_ne rfl | exact some_ne rfl (Nat.ne_of_beq_eq_false rfl) | exact Nat.ne_of_beq_eq_false rfl | (dsimp only [srcSide]; omega) | (simp; done) | (simp; omega))); done) | (refine side_and ?_ ?_) | (refine drawX_of mixed ?_)))
    all_goals (repeat' (first | refine EndV.mk ?_ | exact trivial | exact rfl | refine And.intro ?_ ?_))
theorem intB_cons (n : Int) : ∃ x l, intB n = x :: l := by
  unfold intB bstr
  rw [grp]
  split <;> exact ⟨_, _, rfl⟩
theorem lenSide {n c : Nat} {Q : Prop} (hq : Q) (h : n ≤ 100) (hc : Nat.ble 100 c = true) : Side (True ∧ Q ∧ n * 1 ≤ c) := ⟨trivial, hq, by have := Nat.le_of_ble_eq_true hc; omega⟩
def encSt (L : List Int) : Nat → List (Nat × HS Cd)
  | 0 => [(1, bld (.p (.lit (.pointer none))) (.p (.lit (.slice none 0 0)))), (3, .rows U.u8 [])]
  | i + 1 => [(1, bld (.ptr 1 0) (.slice 3 0 1 0 (bytesI (encL (L.take (i + 1)))).length)), (3, .rows U.u8 (bytesI (encL (L.take (i + 1)))))]
theorem enc_meets (p : Posting) : Meets Tryd.prog Dc 42 [pa p] [] (encRet p) [] := by
  have hui : 0 + 1 = Cd.n U.int := rfl
  have hu8 : 0 + 1 = Cd.n U.u8 := rfl
  refine meets_of_gx Ax tab_ok Tryd.func42 (c := _) rfl Tryd.call42 600 ?_
  (repeat' ((conv => whnf); first | (exfalso; omega) | (refine end_fn [] (.inr rfl) ?_ trivial rfl rfl) | (refine split_nd (fun hb => ?_) (fun hb => ?_)) | (refine split_d (fun hb => ?_) (fun hb => ?_)) | (refine split_n (fun hb => ?_) (fun hb => ?_)) | (refine split_x (fun hb => ?_) (fun hb => ?_)) | (refine And.intro (TraceOK.mk (by kernel_rfl)) ?_) | (refine Side.mk ?_; (repeat' (first | refine And.intro ?_ ?_ | exact inR_i64 (by omega) (by omega) | omega | rfl | exact trivial | exact none_ne rfl | exact some_ne rfl (Nat.ne_of_beq_eq_false rfl) | exact Nat.ne_of_beq_eq_false rfl | (dsimp only [srcSide]; omega) | (simp; done) | (simp; omega))); done) | (refine side_and ?_ ?_) | (refine drawX_of mixed ?_)))
  unfold encRet encB
  rw [show [p.kind, p.day, p.debtor, p.creditor, p.amount, p.subject, p.of_] = fldL p from rfl]
  have hL : (fldL p).length = 7 := rfl
  generalize fldL p = L at *
  refine loop_upT [some 0, some 1, some 2, none] (fun i : Nat => [(25, .p (.int .i64 i))]) (encSt L) (fun i => i ≤ 7 ∧ ∀ j, j < i → okB (L.getD j 0) = true) (fun i => 7 - i) 0 ⟨Nat.zero_le _, fun j hj => by omega⟩ ⟨by (repeat' (first | refine EndV.mk ?_ | exact trivial | exact rfl | refine And.intro ?_ ?_)), by (unfold encSt bld; (repeat' (first | refine EndV.mk ?_ | exact trivial | exact rfl | refine And.intro ?_ ?_))) <;> exact ⟨_, rfl⟩, rfl, rfl⟩ ?_
  rintro i ⟨hi, hall⟩ K hK
  have hel := encL_length (L.take i) (fun j hj => by
    rw [List.length_take] at hj
    rw [List.getD_eq_getElem?_getD, List.getElem?_take_of_lt (by omega), ← List.getD_eq_getElem?_getD]; exact hall j (by omega))
  have hel2 : (L.take i).length ≤ 7 := by simp; omega
  rcases Nat.lt_or_ge i 7 with hlt | hge
  · have ht := encL_take L i (by omega)
    have hg : L.getD (0 + (i : Int).toNat) (Cd.dflt U.int) = L.getD i 0 := by rw [Nat.zero_add]; rfl
    by_cases hok : okB (L.getD i 0) = true
    · have hil := intB_length (L.getD i 0) ((okB_iff _).1 hok)
      have hc := put_meets (L.getD i 0) ((okB_iff _).1 hok)
      have hsd : Side (i + 1 ≤ 7 ∧ ∀ j, j < i + 1 → okB (L.getD j 0) = true) := ⟨⟨hlt, fun j hj => by rcases Nat.lt_or_ge j i with h | h; exact hall j h; rw [show j = i by omega]; exact hok⟩⟩
      obtain ⟨bx, bl, hbl⟩ := intB_cons (L.getD i 0)
      generalize intB (L.getD i 0) = b at *
      rcases i with _ | i
      · unfold encSt bld
        dsimp only
        subst hbl
        have e : bytesI (encL (L.take (0 + 1))) = (bx.toNat : Int) :: List.map (fun b : UInt8 => (b.toNat : Int)) bl := by rw [ht]; rfl
        (repeat' ((conv => whnf); first | (exfalso; omega) | (rw [hg]) | (refine callx_pure (hc) rfl rfl ?_) | (refine dcallx_pure (hc) rfl rfl ?_) | (refine call_in Ax tab_ok Tryd.func80 (c := _) rfl Tryd.call80 200 ?_) | (refine call_in Ax tab_ok Tryd.func111 (c := _) rfl Tryd.call111 100 ?_) | (refine callx_same noEsc ?_) | (refine hK (0 + 1) [some 0, some 1, some 2, some 4] _ _ hsd ?_ ?_) | (refine end_fn [] (.inr rfl) ?_ trivial rfl rfl) | (refine split_nd (fun hb => ?_) (fun hb => ?_)) | (refine split_d (fun hb => ?_) (fun hb => ?_)) | (refine split_n (fun hb => ?_) (fun hb => ?_)) | (refine split_x (fun hb => ?_) (fun hb => ?_)) | (refine And.intro (TraceOK.mk (by kernel_rfl)) ?_) | (refine Side.mk ?_; (repeat' (first | refine And.intro ?_ ?_ | exact inR_i64 (by omega) (by omega) | omega | rfl | exact trivial | exact none_ne rfl | exact some_ne rfl (Nat.ne_of_beq_eq_false rfl) | exact Nat.ne_of_beq_eq_false rfl | (dsimp only [srcSide]; omega) | (simp; done) | (simp; omega))); done) | (refine side_and ?_ ?_) | (refine drawX_of mixed ?_)))
        all_goals try (dsimp only [encSt, bld]; rw [e]; (refine Back.mk ?_ ?_ rfl rfl <;> (repeat' (first | refine EndV.mk ?_ | exact trivial | exact rfl | refine And.intro ?_ ?_))))
        all_goals try (refine ⟨?_⟩; dsimp only; omega)
        have hml : (List.map (fun b : UInt8 => (b.toNat : Int)) (bx :: bl)).length ≤ 10 := by rw [List.length_map]; exact hil
        refine ⟨trivial, rfl, ?_, ?_⟩
        · refine Nat.le_trans (Nat.mul_le_mul_right _ hml) ?_
          decide
        · omega
      · unfold encSt bld
        dsimp only
        have hbo : (bytesI (encL (L.take (i + 1)))).length ≤ 100 := by
          rw [show (bytesI (encL (L.take (i + 1)))).length = (encL (L.take (i + 1))).length by simp [bytesI]]; omega
        have e : bytesI (encL (L.take (i + 1 + 1))) = bytesI (encL (L.take (i + 1))) ++ bytesI b := by rw [ht, bytesI_append]
        have hbl2 : (bytesI b).length ≤ 10 := by rw [show (bytesI b).length = b.length by simp [bytesI]]; exact hil
        have es : List.take (bytesI (encL (L.take (i + 1)))).length (bytesI (encL (L.take (i + 1)))) ++ List.map (fun b : UInt8 => (b.toNat : Int)) b = bytesI (encL (L.take (i + 1))) ++ bytesI b := by rw [List.take_length]; rfl
        have el : (bytesI (encL (L.take (i + 1))) ++ bytesI b).length = (bytesI (encL (L.take (i + 1)))).length + (bytesI b).length := List.length_append
        rw [← e] at es el
        generalize bytesI (encL (L.take (i + 1))) = o at *
        generalize ho2 : bytesI (encL (L.take (i + 1 + 1))) = o2 at *
        (repeat' ((conv => whnf); first | (exfalso; omega) | (rw [hg]) | (refine callx_pure (hc) rfl rfl ?_) | (refine dcallx_pure (hc) rfl rfl ?_) | (rw [es]) | (refine call_in Ax tab_ok Tryd.func80 (c := _) rfl Tryd.call80 200 ?_) | (refine call_in Ax tab_ok Tryd.func111 (c := _) rfl Tryd.call111 100 ?_) | (refine callx_same noEsc ?_) | (refine hK (i + 1 + 1) [some 0, some 1, some 2, some 4] _ _ hsd ?_ ?_) | (refine end_fn [] (.inr rfl) ?_ trivial rfl rfl) | (refine split_nd (fun hb => ?_) (fun hb => ?_)) | (refine split_d (fun hb => ?_) (fun hb => ?_)) | (refine split_n (fun hb => ?_) (fun hb => ?_)) | (refine split_x (fun hb => ?_) (fun hb => ?_)) | (refine And.intro (TraceOK.mk (by kernel_rfl)) ?_) | (refine Side.mk ?_; (repeat' (first | refine And.intro ?_ ?_ | exact inR_i64 (by omega) (by omega) | omega | rfl | exact trivial | exact none_ne rfl | exact some_ne rfl (Nat.ne_of_beq_eq_false rfl) | exact Nat.ne_of_beq_eq_false rfl | (dsimp only [srcSide]; omega) | (simp; done) | (simp; omega))); done) | (refine side_and ?_ ?_) | (refine drawX_of mixed ?_)))
        all_goals try (dsimp only [encSt, bld]; rw [ho2]; (refine Back.mk ?_ ?_ rfl rfl <;> (repeat' (first | refine EndV.mk ?_ | exact trivial | exact rfl | refine And.intro ?_ ?_))))
        all_goals try (refine ⟨?_⟩; dsimp only; omega)
    · rw [Bool.not_eq_true] at hok
      have hc := putBad_meets (L.getD i 0) (fun h => by rw [(okB_iff _).2 h] at hok; cases hok)
      unfold putBad at hc
      rw [all_getD (by omega) hok, if_neg (by simp)]
      clear hK
      rcases i with _ | i
      · unfold encSt bld
        dsimp only
        (repeat' ((conv => whnf); first | (exfalso; omega) | (rw [hg]) | (refine callx_pure (hc) rfl rfl ?_) | (refine dcallx_pure (hc) rfl rfl ?_) | (refine end_fn [] (.inr rfl) ?_ trivial rfl rfl) | (refine split_nd (fun hb => ?_) (fun hb => ?_)) | (refine split_d (fun hb => ?_) (fun hb => ?_)) | (refine split_n (fun hb => ?_) (fun hb => ?_)) | (refine split_x (fun hb => ?_) (fun hb => ?_)) | (refine And.intro (TraceOK.mk (by kernel_rfl)) ?_) | (refine Side.mk ?_; (repeat' (first | refine And.intro ?_ ?_ | exact inR_i64 (by omega) (by omega) | omega | rfl | exact trivial | exact none_ne rfl | exact some_ne rfl (Nat.ne_of_beq_eq_false rfl) | exact Nat.ne_of_beq_eq_false rfl | (dsimp only [srcSide]; omega) | (simp; done) | (simp; omega))); done) | (refine side_and ?_ ?_) | (refine drawX_of mixed ?_)))
        all_goals (repeat' (first | refine EndV.mk ?_ | exact trivial | exact rfl | refine And.intro ?_ ?_))
      · unfold encSt bld
        dsimp only
        (repeat' ((conv => whnf); first | (exfalso; omega) | (rw [hg]) | (refine callx_pure (hc) rfl rfl ?_) | (refine dcallx_pure (hc) rfl rfl ?_) | (refine end_fn [] (.inr rfl) ?_ trivial rfl rfl) | (refine split_nd (fun hb => ?_) (fun hb => ?_)) | (refine split_d (fun hb => ?_) (fun hb => ?_)) | (refine split_n (fun hb => ?_) (fun hb => ?_)) | (refine split_x (fun hb => ?_) (fun hb => ?_)) | (refine And.intro (TraceOK.mk (by kernel_rfl)) ?_) | (refine Side.mk ?_; (repeat' (first | refine And.intro ?_ ?_ | exact inR_i64 (by omega) (by omega) | omega | rfl | exact trivial | exact none_ne rfl | exact some_ne rfl (Nat.ne_of_beq_eq_false rfl) | exact Nat.ne_of_beq_eq_false rfl | (dsimp only [srcSide]; omega) | (simp; done) | (simp; omega))); done) | (refine side_and ?_ ?_) | (refine drawX_of mixed ?_)))
        all_goals (repeat' (first | refine EndV.mk ?_ | exact trivial | exact rfl | refine And.intro ?_ ?_))
  · obtain rfl : i = 7 := by omega
    rw [all_of (L := L) fun j hj => hall j (by omega), if_pos rfl]
    clear hK
    unfold encSt bld
    dsimp only
    rw [List.take_of_length_le (by omega)] at *
    have hbi := strI (encL L)
    have hbo : (bytesI (encL L)).length ≤ 100 := by
      rw [show (bytesI (encL L)).length = (encL L).length by simp [bytesI]]; omega
    have hpos : 0 < (bytesI (encL L)).length := by
      rcases L with _ | ⟨n, L⟩
      · simp at hL
      · obtain ⟨x, l, hx⟩ := intB_cons n
        unfold encL bytesI
        rw [List.flatMap_cons, hx]
        simp
    generalize hB : bytesI (encL L) = B at *
    rw [show encL L = List.map (fun n : Int => UInt8.ofNat n.toNat) (List.take (B.length : Int).toNat B) by rw [Int.toNat_natCast, List.take_length, hbi]]
    (repeat' ((conv => whnf); first | (exfalso; omega) | (refine call_in Ax tab_ok Tryd.func81 (c := _) rfl Tryd.call81 200 ?_) | (refine end_fn [] (.inr rfl) ?_ trivial rfl rfl) | (refine split_nd (fun hb => ?_) (fun hb => ?_)) | (refine split_d (fun hb => ?_) (fun hb => ?_)) | (refine split_n (fun hb => ?_) (fun hb => ?_)) | (refine split_x (fun hb => ?_) (fun hb => ?_)) | (refine And.intro (TraceOK.mk (by kernel_rfl)) ?_) | (refine Side.mk ?_; (repeat' (first | refine And.intro ?_ ?_ | exact inR_i64 (by omega) (by omega) | omega | rfl | exact trivial | exact none_ne rfl | exact some_ne rfl (Nat.ne_of_beq_eq_false rfl) | exact Nat.ne_of_beq_eq_false rfl | (dsimp only [srcSide]; omega) | (simp; done) | (simp; omega))); done) | (refine side_and ?_ ?_) | (refine drawX_of mixed ?_)))
    all_goals (repeat' (first | refine EndV.mk ?_ | exact trivial | exact rfl | refine And.intro ?_ ?_))
end Go.SX

namespace Go.SX
open Go.Proofs Go.Shelf
set_option linter.unusedVariables false
set_option maxRecDepth 100000
set_option maxHeartbeats 4000000
def repF : List (Nat × Nat) := [(99, 116), (105, 88), (165, 117), (166, 80), (169, 81), (170, 118), (206, 131), (212, 115), (240, 111), (241, 132), (263, 129), (264, 130), (276, 126), (277, 133)]
def repT : List (Nat × Nat) := [(37, 46), (46, 95), (51, 84), (53, 151), (70, 107), (72, 109), (75, 112), (80, 91), (76, 113), (109, 154), (127, 152), (146, 168), (148, 170), (164, 165)]
def repAt (l : List (Nat × Nat)) (x : Nat) : Nat := match l with
  | [] => x
  | (a, b) :: l => if a = x then b else repAt l x
def rho : Ren := ⟨repAt repF, repAt repT, fun x => x⟩
theorem rep_lays : Lays.n105 Tryd.prog rho where
  mixed := by kernel_rfl
  f99 := by kernel_rfl
  f105 := by kernel_rfl
  f165 := by kernel_rfl
  f166 := by kernel_rfl
  f169 := by kernel_rfl
  f170 := by kernel_rfl
  f206 := by kernel_rfl
  f212 := by kernel_rfl
  f240 := by kernel_rfl
  f241 := by kernel_rfl
  f263 := by kernel_rfl
  f264 := by kernel_rfl
  f276 := by kernel_rfl
  f277 := by kernel_rfl
  t0 := by kernel_rfl
  a0 := fun w => by kernel_rfl
  z0 := fun w => by kernel_rfl
  v0 := fun w => by kernel_rfl
  t3 := by kernel_rfl
  a3 := fun w => by kernel_rfl
  z3 := fun w => by kernel_rfl
  v3 := fun w => by kernel_rfl
  t4 := by kernel_rfl
  a4 := fun w => by kernel_rfl
  z4 := fun w => by kernel_rfl
  v4 := fun w => by kernel_rfl
  t5 := by kernel_rfl
  a5 := fun w => by kernel_rfl
  z5 := fun w => by kernel_rfl
  v5 := fun w => by kernel_rfl
  t9 := by kernel_rfl
  a9 := fun w => by kernel_rfl
  z9 := fun w => by kernel_rfl
  v9 := fun w => by kernel_rfl
  t20 := by kernel_rfl
  a20 := fun w => by kernel_rfl
  z20 := fun w => by kernel_rfl
  v20 := fun w => by kernel_rfl
  t37 := by kernel_rfl
  a37 := fun w => by kernel_rfl
  z37 := fun w => by kernel_rfl
  v37 := fun w => by kernel_rfl
  t46 := by kernel_rfl
  a46 := fun w => by kernel_rfl
  z46 := fun w => by kernel_rfl
  v46 := fun w => by kernel_rfl
  t51 := by kernel_rfl
  a51 := fun w => by kernel_rfl
  z51 := fun w => by kernel_rfl
  v51 := fun w => by kernel_rfl
  t53 := by kernel_rfl
  a53 := fun w => by kernel_rfl
  z53 := fun w => by kernel_rfl
  v53 := fun w => by kernel_rfl
  t70 := by kernel_rfl
  a70 := fun w => by kernel_rfl
  z70 := fun w => by kernel_rfl
  v70 := fun w => by kernel_rfl
  t72 := by kernel_rfl
  a72 := fun w => by kernel_rfl
  z72 := fun w => by kernel_rfl
  v72 := fun w => by kernel_rfl
  t75 := by kernel_rfl
  a75 := fun w => by kernel_rfl
  z75 := fun w => by kernel_rfl
  v75 := fun w => by kernel_rfl
  t76 := by kernel_rfl
  a76 := fun w => by kernel_rfl
  z76 := fun w => by kernel_rfl
  v76 := fun w => by kernel_rfl
  t109 := by kernel_rfl
  a109 := fun w => by kernel_rfl
  z109 := fun w => by kernel_rfl
  v109 := fun w => by kernel_rfl
  t127 := by kernel_rfl
  a127 := fun w => by kernel_rfl
  z127 := fun w => by kernel_rfl
  v127 := fun w => by kernel_rfl
  t146 := by kernel_rfl
  a146 := fun w => by kernel_rfl
  z146 := fun w => by kernel_rfl
  v146 := fun w => by kernel_rfl
  t148 := by kernel_rfl
  a148 := fun w => by kernel_rfl
  z148 := fun w => by kernel_rfl
  v148 := fun w => by kernel_rfl
  t164 := by kernel_rfl
  a164 := fun w => by kernel_rfl
  z164 := fun w => by kernel_rfl
  v164 := fun w => by kernel_rfl
theorem rep_extra : Builder.Extra Tryd.prog rho where
  sizeBuilder := by kernel_rfl
  liesBuilder := by kernel_rfl
  t5 := rep_lays.t5
  a5 := rep_lays.a5
  z5 := rep_lays.z5
  v5 := rep_lays.v5
  infoByte := by kernel_rfl
  cellsByte := by kernel_rfl
  sizeByte := by kernel_rfl
  neB5 := by decide
theorem repeat_meets : Meets Tryd.prog Dc 88 [.p (.str [0]), .p (.int .i64 32)] [] (.p (.str z32)) [] := by
  refine ⟨Tryd.call88, fun w E hm vs hs hd => ?_⟩
  simp only [DenA, Den] at hd
  obtain ⟨v, v2, rfl, hv, u, u2, rfl, hu, rfl⟩ := hd
  cases hv
  cases hu
  have h := Any.strings_Repeat rep_lays rep_extra ⟨⟨[0]⟩⟩ 32 w (by decide) (by decide)
  have h2 : CallsIn (Fc none) 0 Tryd.prog 88 #[.string ⟨⟨[0]⟩⟩, .int .i64 32] w _ := callsIn_wide.2 h
  refine h2.mono ?_
  rintro e w' ⟨rfl, hb⟩
  have hsame : ∀ b, b < w.heap.size → w'.heap[b]? = w.heap[b]? := fun b hb2 => hb.block b hb2
  refine ⟨_, E, rfl, ?_, hs.same hsame hb.size, (Fr.here (m := 0) (hm := hm)).on hs.F hsame hb.size hb.os hb.tape hb.output⟩
  simp only [Den]
  rw [show (Lib.repeatL [0] 32).toArray = ⟨z32⟩ by decide +kernel]
  exact .str z32
end Go.SX

namespace Go.SX
open Go.Proofs
set_option linter.unusedSimpArgs false
set_option maxHeartbeats 4000000
set_option maxRecDepth 100000
theorem getD_take {α : Type} (xs : List α) (i j : Nat) (d : α) (h : j < i) : (xs.take i).getD j d = xs.getD j d := by
  simp [List.getD_eq_getElem?_getD, List.getElem?_take, h]
theorem takesB_at (acc : Int) (xs : List Posting) (bk : List Bool) (i : Nat) (q : Posting) (hi : i < xs.length) (h200 : xs.length ≤ 200) : takesB acc (xs.take i) bk q =
    (isFormedB q acc && !(decide (0 < (i : Int)) && decide (q.day < (xs.getD ((i : Int) - 1).toNat posting0).day)) && (!decide (q.kind = 3) || !(decide ((i : Int) ≤ q.of_) || bk.getD q.of_.toNat false || !isBackB q (xs.getD q.of_.toNat posting0)))) := by
  have hl : (xs.take i).length = i := by simp; omega
  have h1 : ¬ (200 : Int) ≤ (i : Int) := by omega
  have h2 : lateB (xs.take i) q = (decide (0 < (i : Int)) && decide (q.day < (xs.getD ((i : Int) - 1).toNat posting0).day)) := by
    unfold lateB
    rw [hl]
    by_cases h0 : 0 < (i : Int)
    · rw [getD_take _ _ _ _ (by omega)]
    · rw [decide_eq_false h0]; rfl
  unfold takesB
  rw [h2, hl, decide_eq_false h1]
  by_cases hf : isFormedB q acc = true
  · cases hlt : (decide (0 < (i : Int)) && decide (q.day < (xs.getD ((i : Int) - 1).toNat posting0).day)) with
    | true => simp [hf]
    | false =>
      by_cases hk : q.kind = 3
      · obtain ⟨o1, o2⟩ := of_bounds (p := q) (acc := acc) (by simp [hf]) hk
        by_cases ho : (i : Int) ≤ q.of_
        · simp [hf, hk, ho]
        · rw [getD_take _ _ _ _ (by omega)]; simp [hf, hk]
      · simp [hf, hk]
  · simp [hf]
theorem bkRun_stop {b : Book} {i : Nat} {bk : List Bool} (hrun : bkRun b.accounts (b.postings.take i) bk (b.postings.drop i) = openS b) (hi : i < b.postings.length)
    (ht : takesB b.accounts (b.postings.take i) bk (b.postings.getD i posting0) = false) : openS b = none := by
  have hcons : b.postings.drop i = b.postings.getD i posting0 :: b.postings.drop (i + 1) := by rw [List.drop_eq_getElem_cons hi]; simp [hi]
  rw [hcons, bkRun, ht, if_neg (by simp)] at hrun
  exact hrun.symm
theorem bkRun_step {b : Book} {i : Nat} {bk : List Bool} (hrun : bkRun b.accounts (b.postings.take i) bk (b.postings.drop i) = openS b) (hi : i < b.postings.length)
    (ht : takesB b.accounts (b.postings.take i) bk (b.postings.getD i posting0) = true) : bkRun b.accounts (b.postings.take (i + 1)) (newBk bk (b.postings.getD i posting0)) (b.postings.drop (i + 1)) = openS b := by
  have hcons : b.postings.drop i = b.postings.getD i posting0 :: b.postings.drop (i + 1) := by rw [List.drop_eq_getElem_cons hi]; simp [hi]
  have htake : b.postings.take i ++ [b.postings.getD i posting0] = b.postings.take (i + 1) := by rw [List.take_add_one]; simp [hi]
  rw [hcons, bkRun, ht, if_pos rfl, htake] at hrun
  exact hrun
theorem validB_none {b : Book} (h : openS b = none) : validB b = false := by simp [validB, h]
theorem bkRun_long {acc : Int} : ∀ (r done : List Posting) (bk : List Bool), (200 : Int) < (done.length + r.length : Nat) → (done.length : Int) ≤ 200 → bkRun acc done bk r = none
  | [], done, bk, h, h' => by simp at h; omega
  | p :: r, done, bk, h, h' => by
    simp only [bkRun]
    split
    · rename_i ht
      refine bkRun_long r _ _ (by simp at h ⊢; omega) ?_
      by_cases h2 : (200 : Int) ≤ done.length
      · unfold takesB at ht; simp [h2] at ht
      · simp; omega
    · rfl
theorem formed_kind {p : Posting} {acc : Int} (h : isFormedB p acc = true) (h1 : ¬ p.kind = 1) (h2 : ¬ p.kind = 2) : p.kind = 3 ∧ 0 ≤ p.of_ ∧ p.of_ ≤ 199 := by
  have hk : p.kind = 3 := by
    unfold isFormedB at h
    split at h
    · simp [h1, h2] at h; exact h.1
    · cases h
  exact ⟨hk, of_bounds (acc := acc) (by simp [h]) hk⟩
theorem refV_stop {b : Book} {i : Nat} {bk : List Bool} (hrun : bkRun b.accounts (b.postings.take i) bk (b.postings.drop i) = openS b) (hi : i < b.postings.length)
    (ht : takesB b.accounts (b.postings.take i) bk (b.postings.getD i posting0) = false) : (PV.bool false : PV Cd) = PV.bool (validB b) := by
  rw [validB_none (bkRun_stop hrun hi ht)]
theorem refV_step {b : Book} {i : Nat} {bk : List Bool} (hrun : bkRun b.accounts (b.postings.take i) bk (b.postings.drop i) = openS b) (hbk : bk.length = 200) (hi : i < b.postings.length)
    (ht : takesB b.accounts (b.postings.take i) bk (b.postings.getD i posting0) = true) :
    Side (i + 1 ≤ b.postings.length ∧ (newBk bk (b.postings.getD i posting0)).length = 200 ∧ bkRun b.accounts (b.postings.take (i + 1)) (newBk bk (b.postings.getD i posting0)) (b.postings.drop (i + 1)) = openS b) :=
  ⟨hi, by rw [newBk_length]; exact hbk, bkRun_step hrun hi ht⟩
theorem refValid_meets (b : Book) (hL : (b.postings.length : Int) < 9223372036854775807) : Meets Tryd.prog Dc 90 [ba b] [] (.p (.bool (validB b))) [] := by
  refine meets_of_gx Ax tab_ok Tryd.func90 (c := _) rfl Tryd.call90 400 ?_
  (repeat' ((conv => whnf); first | (refine end_fn [] (.inr rfl) ?_ trivial rfl rfl) | (refine callx_pure (in_meets _ _ _) rfl rfl ?_) | (refine loop_inv (fun g : Nat × List Bool => [(4, .p (.int .i64 g.1))]) (fun g => [.var [.p (.int .i64 b.accounts), .p (.dsl U.posting b.postings), .p (.int .i64 b.closed)], .rows U.bool (g.2.take b.postings.length)]) (fun g => g.1 ≤ b.postings.length ∧ g.2.length = 200 ∧ bkRun b.accounts (b.postings.take g.1) g.2 (b.postings.drop g.1) = openS b) (fun g => b.postings.length - g.1) (0, bk0) ⟨Nat.zero_le _, List.length_replicate, rfl⟩ [some 0, some 1] ?_ ?_) | (refine end_fn [] (.inr rfl) ?_ trivial rfl rfl) | (refine split_nd (fun hb => ?_) (fun hb => ?_)) | (refine split_d (fun hb => ?_) (fun hb => ?_)) | (refine split_n (fun hb => ?_) (fun hb => ?_)) | (refine split_x (fun hb => ?_) (fun hb => ?_)) | (refine And.intro (TraceOK.mk (by kernel_rfl)) ?_) | (refine Side.mk ?_; (repeat' (first | refine And.intro ?_ ?_ | exact inR_i64 (by omega) (by omega) | omega | rfl | exact trivial | exact none_ne rfl | exact some_ne rfl (Nat.ne_of_beq_eq_false rfl) | exact Nat.ne_of_beq_eq_false rfl | (dsimp only [srcSide]; omega) | (simp; done) | (simp; omega))); done) | (refine side_and ?_ ?_) | (refine drawX_of mixed ?_)))
  · rw [show validB b = false by simp [validB, hb]]; (repeat' (first | refine EndV.mk ?_ | exact trivial | exact rfl | refine And.intro ?_ ?_))
  · rw [show validB b = false by simp [validB, hb]]; (repeat' (first | refine EndV.mk ?_ | exact trivial | exact rfl | refine And.intro ?_ ?_))
  · have h200 : (200 : Int) < (([] : List Posting).length + b.postings.length : Nat) := by rw [List.length_nil, Nat.zero_add]; exact hb
    rw [validB_none (bkRun_long b.postings [] bk0 h200 (by simp))]; (repeat' (first | refine EndV.mk ?_ | exact trivial | exact rfl | refine And.intro ?_ ?_))
  · have : bk0.take b.postings.length = List.replicate b.postings.length false := by rw [bk0, List.take_replicate, Nat.min_eq_left (by omega)]
    refine ⟨by (repeat' (first | refine EndV.mk ?_ | exact trivial | exact rfl | refine And.intro ?_ ?_)), ?_, rfl, rfl⟩
    simp only [this]
    (repeat' (first | refine EndV.mk ?_ | exact trivial | exact rfl | refine And.intro ?_ ?_))
  rename_i hv1 hv2
  rintro ⟨i, bk⟩ ⟨hi, hbk, hrun⟩ K hK
  simp only at hi hbk hrun
  have hTB : i < b.postings.length → takesB b.accounts (b.postings.take i) bk (b.postings.getD i posting0) =
    (isFormedB (b.postings.getD (i : Int).toNat (Cd.dflt U.posting)) b.accounts && !(decide (0 < (i : Int)) && decide ((b.postings.getD (i : Int).toNat (Cd.dflt U.posting)).day < (b.postings.getD ((i : Int) - 1).toNat (Cd.dflt U.posting)).day)) &&
      (!decide ((b.postings.getD (i : Int).toNat (Cd.dflt U.posting)).kind = 3) || !(decide ((i : Int) ≤ (b.postings.getD (i : Int).toNat (Cd.dflt U.posting)).of_) || bk.getD (b.postings.getD (i : Int).toNat (Cd.dflt U.posting)).of_.toNat false || !isBackB (b.postings.getD (i : Int).toNat (Cd.dflt U.posting)) (b.postings.getD (b.postings.getD (i : Int).toNat (Cd.dflt U.posting)).of_.toNat (Cd.dflt U.posting))))) :=
    fun h => takesB_at _ _ _ _ _ h (by omega)
  have hob := @formed_kind (b.postings.getD (i : Int).toNat (Cd.dflt U.posting)) b.accounts
  have hnb : ¬ (b.postings.getD (i : Int).toNat (Cd.dflt U.posting)).kind = 3 → newBk bk (b.postings.getD i posting0) = bk := fun h => if_neg h
  generalize hq : b.postings.getD (i : Int).toNat (Cd.dflt U.posting) = q at hTB hob hnb
  have hq' : b.postings.getD i posting0 = q := hq
  rw [hq'] at hTB hnb
  dsimp only
  (repeat' ((conv => whnf); first | (refine end_fn [] (.inr rfl) ?_ trivial rfl rfl) | (refine dcallx_pure (formed_meets _ _) rfl rfl ?_) | (refine hK (i + 1, newBk bk (b.postings.getD i posting0)) [some 0, some 1] _ _ ?_ ?_ ?_) | (refine end_fn [] (.inr rfl) ?_ trivial rfl rfl) | (refine split_nd (fun hb => ?_) (fun hb => ?_)) | (refine split_d (fun hb => ?_) (fun hb => ?_)) | (refine split_n (fun hb => ?_) (fun hb => ?_)) | (refine split_x (fun hb => ?_) (fun hb => ?_)) | (refine And.intro (TraceOK.mk (by kernel_rfl)) ?_) | (refine Side.mk ?_; (repeat' (first | refine And.intro ?_ ?_ | exact inR_i64 (by omega) (by omega) | omega | rfl | exact trivial | exact none_ne rfl | exact some_ne rfl (Nat.ne_of_beq_eq_false rfl) | exact Nat.ne_of_beq_eq_false rfl | (dsimp only [srcSide]; omega) | (simp; done) | (simp; omega))); done) | (refine side_and ?_ ?_) | (refine drawX_of mixed ?_)))
  all_goals (clear hK; simp only [hq, Nat.zero_add] at *)
  all_goals first
    | (refine EndV.mk (refV_stop hrun ?_ ?_)
       · omega
       · rw [hq', hTB]
         · simp_all; done
         · omega)
    | (refine refV_step hrun hbk ?_ ?_
       · omega
       · rw [hq', hTB]
         · simp_all; done
         · omega)
    | (have h3 : ¬ q.kind = 3 := by omega
       refine ⟨by (repeat' (first | refine EndV.mk ?_ | exact trivial | exact rfl | refine And.intro ?_ ?_)), ?_, rfl, rfl⟩
       rw [hq', hnb h3]
       (repeat' (first | refine EndV.mk ?_ | exact trivial | exact rfl | refine And.intro ?_ ?_))
       done)
    | (have h0 := hob (by assumption) (by assumption) (by assumption)
       have k3 := h0.1
       have o1 := h0.2.1
       have hbt : (bk.take b.postings.length).getD q.of_.toNat false = bk.getD q.of_.toNat false := getD_take _ _ _ _ (by omega)
       first
       | (refine Side.mk ?_; (try simp only [List.length_take, hbk]); (repeat' (first | refine And.intro ?_ ?_ | omega | rfl | exact trivial)); done)
       | (refine EndV.mk (refV_stop hrun ?_ ?_)
          · omega
          · rw [hq', hTB]
            · simp_all [isBackB, dflt_bool]; done
            · omega)
       | (refine refV_step hrun hbk ?_ ?_
          · omega
          · rw [hq', hTB]
            · simp_all [isBackB, dflt_bool]; done
            · omega)
       | (refine ⟨by (repeat' (first | refine EndV.mk ?_ | exact trivial | exact rfl | refine And.intro ?_ ?_)), ?_, rfl, rfl⟩
          have hset : newBk bk (b.postings.getD i posting0) = bk.set q.of_.toNat true := by rw [hq']; exact if_pos k3
          rw [hset, List.take_set]
          (repeat' (first | refine EndV.mk ?_ | exact trivial | exact rfl | refine And.intro ?_ ?_))
          done))
    | (have hie : i = b.postings.length := by omega
       rw [hie, List.take_length, List.drop_length, bkRun] at hrun
       have hv : validB b = true := by simp only [validB, ← hrun, Option.isSome_some, hv1, hv2, Bool.and_self]
       rw [hv]; (repeat' (first | refine EndV.mk ?_ | exact trivial | exact rfl | refine And.intro ?_ ?_)))
end Go.SX
