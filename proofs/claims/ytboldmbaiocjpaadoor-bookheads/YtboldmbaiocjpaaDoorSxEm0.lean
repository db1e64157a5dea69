/-
  Walks: Em0, Ep2, Ep4: what single functions of the program compute.
-/
import Derived.Test.YtboldmbaiocjpaaDoorSxEl7
import Derived.Test.YtboldmbaiocjpaaDoorSxEp1
set_option linter.unusedVariables false
namespace Go.SX
open Go.Proofs
set_option linter.unusedSimpArgs false
set_option maxHeartbeats 4000000
set_option maxRecDepth 100000
theorem meets_viewB {C : Cod} {P : Program} {D : Codec C} {f : FuncId} {args args' : List (SV C)} {ret : SV C} {H1 : List (HS C)} (hM : Meets P D f args' [] ret H1) (h : Seen [] [] args args') : Meets P D f args [] ret H1 := by
  refine ⟨hM.enter, fun w E hm vs hs hd => hM.calls w E hm vs hs (view_denA hs ⟨fun _ h => h, fun j d e => by simp [ixO] at e, fun j e => by simp [ixL] at e, fun c b _ e => ?_⟩ args args' vs h.h hd)⟩
  rw [hm c (Nat.zero_le c)] at e
  cases e
def sB0 : Book := ⟨3, [], 0⟩
def sP0 : Posting := ⟨2, 5, 0, 1, 90, 7, -1⟩
def sB1 : Book := ⟨3, [sP0], 0⟩
def sB2 : Book := ⟨3, [sP0, ⟨3, 40, 1, 0, 90, 7, 0⟩, ⟨2, 40, 0, 1, 60, 7, -1⟩], 0⟩
def sB3 : Book := ⟨3, sB2.postings, 1⟩
theorem bsane1 : postS sB0 sP0 = some sB1 := by decide +kernel
theorem sane2 : stmtS sB1 0 = some [-90, 90, 0] := by decide +kernel
theorem sane3 : dispS sB1 0 40 60 = some sB2 := by decide +kernel
theorem sane4 : stmtS sB2 0 = some [-90, 90, 0] := by decide +kernel
theorem sane5 : stmtS sB2 1 = some [30, -30, 0] := by decide +kernel
theorem sane6 : owedS sB2 7 = some [-60, 60, 0] := by decide +kernel
theorem sane7 : dispS sB2 0 50 1 = none := by decide +kernel
theorem sane8 : postS sB2 ⟨2, 39, 0, 1, 1, 0, -1⟩ = none := by decide +kernel
theorem sane9 : closeS sB2 0 = some sB3 := by decide +kernel
theorem sane10 : balS sB2 1 1 = some (-30) := by decide +kernel
theorem sane11 : validB sB3 = true := by decide +kernel
theorem sane12 : validB ⟨0, [], 0⟩ = false := by decide +kernel
theorem saneInts {f : FuncId} (xs : List Int) (hM : Meets Tryd.prog Dc f [.p (.dsl U.int xs), .p (.dsl U.int xs)] [] (.p (.bool (intsB xs xs))) []) : Meets Tryd.prog Dc f [.p (.dsl U.int xs), .p (.dsl U.int xs)] [] (.p (.bool true)) [] := by
  rwa [show intsB xs xs = true by simp [intsB]] at hM
theorem bsane_meets : Meets Tryd.prog Dc 41 [] [] (.p (.bool true)) [] := by
  have c1 : Meets Tryd.prog Dc 71 [ba sB0, pa sP0] [] (postU sB0 (some sB1)) [] := bsane1 ▸ PostU sB0 sP0 (by decide)
  have c2 : Meets Tryd.prog Dc 72 [ba sB1, .p (.int .i64 0)] [] (listU (some [-90, 90, 0])) [] := sane2 ▸ StatementU sB1 0 (by decide)
  have c3 : Meets Tryd.prog Dc 73 [ba sB1, .p (.int .i64 0), .p (.int .i64 40), .p (.int .i64 60)] [] (bookU (some sB2)) [] := sane3 ▸ DisputeU sB1 0 40 60 (by decide)
  have c4 : Meets Tryd.prog Dc 72 [ba sB2, .p (.int .i64 0)] [] (listU (some [-90, 90, 0])) [] := sane4 ▸ StatementU sB2 0 (by decide)
  have c5 : Meets Tryd.prog Dc 72 [ba sB2, .p (.int .i64 1)] [] (listU (some [30, -30, 0])) [] := sane5 ▸ StatementU sB2 1 (by decide)
  have c6 : Meets Tryd.prog Dc 74 [ba sB2, .p (.int .i64 7)] [] (listU (some [-60, 60, 0])) [] := sane6 ▸ OwedU sB2 7 (by decide)
  have c7 : Meets Tryd.prog Dc 73 [ba sB2, .p (.int .i64 0), .p (.int .i64 50), .p (.int .i64 1)] [] (bookU none) [] := sane7 ▸ DisputeU sB2 0 50 1 (by decide)
  have c8 : Meets Tryd.prog Dc 71 [ba sB2, pa ⟨2, 39, 0, 1, 1, 0, -1⟩] [] (postU sB2 none) [] := sane8 ▸ PostU sB2 ⟨2, 39, 0, 1, 1, 0, -1⟩ (by decide)
  have c9 : Meets Tryd.prog Dc 75 [ba sB2, .p (.int .i64 0)] [] (bookU (some sB3)) [] := sane9 ▸ CloseU sB2 0 (by decide)
  have c10 : Meets Tryd.prog Dc 76 [ba sB2, .p (.int .i64 1), .p (.int .i64 1)] [] (intU (some (-30))) [] := sane10 ▸ BalanceU sB2 1 1 (by decide)
  have c11 : Meets Tryd.prog Dc 78 [ba sB3] [] (.p (.bool true)) [] := sane11 ▸ valid_meets sB3 (by decide)
  have c12 : Meets Tryd.prog Dc 78 [ba ⟨0, [], 0⟩] [] (.p (.bool false)) [] := sane12 ▸ valid_meets ⟨0, [], 0⟩ (by decide)
  have c1 : Meets Tryd.prog Dc 71 [.agg [.p (.int .i64 3), .p (.lit (.slice none 0 0)), .p (.int .i64 0)], pa sP0] [] (postU sB0 (some sB1)) [] := meets_viewB c1 (by refine ⟨?_⟩; (repeat' (first | refine EndV.mk ?_ | exact trivial | exact rfl | refine And.intro ?_ ?_)))
  have c12 : Meets Tryd.prog Dc 78 [.agg [.p (.int .i64 0), .p (.lit (.slice none 0 0)), .p (.int .i64 0)]] [] (.p (.bool false)) [] := meets_viewB c12 (by refine ⟨?_⟩; (repeat' (first | refine EndV.mk ?_ | exact trivial | exact rfl | refine And.intro ?_ ?_)))
  have i1 := saneInts [-90, 90, 0] (ints_meets [-90, 90, 0] [-90, 90, 0] (by decide))
  have i2 := saneInts [30, -30, 0] (ints_meets [30, -30, 0] [30, -30, 0] (by decide))
  have i3 := saneInts [-60, 60, 0] (ints_meets [-60, 60, 0] [-60, 60, 0] (by decide))
  refine meets_of_gx Ax tab_ok Tryd.func41 (c := _) rfl Tryd.call41 1000 ?_
  (repeat' ((conv => whnf); first | (exfalso; omega) | (refine callx_pure c1 rfl rfl ?_) | (refine callx_pure c2 rfl rfl ?_) | (refine callx_pure c3 rfl rfl ?_) | (refine callx_pure c4 rfl rfl ?_) | (refine callx_pure c5 rfl rfl ?_) | (refine callx_pure c6 rfl rfl ?_) | (refine callx_pure c7 rfl rfl ?_) | (refine callx_pure c8 rfl rfl ?_) | (refine callx_pure c9 rfl rfl ?_) | (refine callx_pure c10 rfl rfl ?_) | (refine callx_pure c11 rfl rfl ?_) | (refine callx_pure c12 rfl rfl ?_) | (refine callx_read i1 ?_ rfl ?_; · (refine ⟨?_⟩; (repeat' (first | refine EndV.mk ?_ | exact trivial | exact rfl | refine And.intro ?_ ?_)); exact ⟨_, rfl, rfl, rfl, by simp, by (first | (simp; done) | (simp [List.take_of_length_le]; done) | (simp [List.take_of_length_le]; rfl)), rfl⟩)) | (refine callx_read i2 ?_ rfl ?_; · (refine ⟨?_⟩; (repeat' (first | refine EndV.mk ?_ | exact trivial | exact rfl | refine And.intro ?_ ?_)); exact ⟨_, rfl, rfl, rfl, by simp, by (first | (simp; done) | (simp [List.take_of_length_le]; done) | (simp [List.take_of_length_le]; rfl)), rfl⟩)) | (refine callx_read i3 ?_ rfl ?_; · (refine ⟨?_⟩; (repeat' (first | refine EndV.mk ?_ | exact trivial | exact rfl | refine And.intro ?_ ?_)); exact ⟨_, rfl, rfl, rfl, by simp, by (first | (simp; done) | (simp [List.take_of_length_le]; done) | (simp [List.take_of_length_le]; rfl)), rfl⟩)) | (refine split_en (eqB_posting _ _) (fun hb => ?_) (fun hb => ?_)) | (refine end_fn [] (.inr rfl) ?_ trivial rfl rfl) | (refine split_nd (fun hb => ?_) (fun hb => ?_)) | (refine split_d (fun hb => ?_) (fun hb => ?_)) | (refine split_n (fun hb => ?_) (fun hb => ?_)) | (refine split_x (fun hb => ?_) (fun hb => ?_)) | (refine And.intro (TraceOK.mk (by kernel_rfl)) ?_) | (refine Side.mk ?_; (repeat' (first | refine And.intro ?_ ?_ | exact inR_i64 (by omega) (by omega) | omega | rfl | exact trivial | exact none_ne rfl | exact some_ne rfl (Nat.ne_of_beq_eq_false rfl) | exact Nat.ne_of_beq_eq_false rfl | (dsimp only [srcSide]; omega) | (simp; done) | (simp; omega))); done) | (refine side_and ?_ ?_) | (refine drawX_of mixed ?_)))
  · exact ⟨⟨by decide, by decide, rfl⟩⟩
  · (repeat' (first | refine EndV.mk ?_ | exact trivial | exact rfl | refine And.intro ?_ ?_))
end Go.SX

namespace Go.SX
open Go.Proofs
set_option linter.unusedSimpArgs false
set_option linter.unusedVariables false
set_option maxHeartbeats 4000000
set_option maxRecDepth 100000
/-- the reference's Head of a list of strings -/
theorem refHead2_meets (l : List Bs) (hl : l.length ≤ 500) (hS : Short l) : Meets Tryd.prog Dc 48 [.p (.dsl U.str l)] [] (.p (.str (hdR l.reverse))) [] := by
  refine meets_of_gx Ax tab_ok Tryd.func48 (c := _) rfl Tryd.call48 600 ?_
  (repeat' ((conv => whnf); first | (exfalso; omega) | (refine end_fn [] (.inr rfl) ?_ trivial rfl rfl) | (refine split_nd (fun hb => ?_) (fun hb => ?_)) | (refine split_d (fun hb => ?_) (fun hb => ?_)) | (refine split_n (fun hb => ?_) (fun hb => ?_)) | (refine split_x (fun hb => ?_) (fun hb => ?_)) | (refine And.intro (TraceOK.mk (by kernel_rfl)) ?_) | (refine Side.mk ?_; (repeat' (first | refine And.intro ?_ ?_ | exact inR_i64 (by omega) (by omega) | omega | rfl | exact trivial | exact none_ne rfl | exact some_ne rfl (Nat.ne_of_beq_eq_false rfl) | exact Nat.ne_of_beq_eq_false rfl | (dsimp only [srcSide]; omega) | (simp; done) | (simp; omega))); done) | (refine side_and ?_ ?_) | (refine drawX_of mixed ?_)))
  refine loop_inv (fun i : Nat => [(3, .p (.str (hdR (l.take i).reverse))), (4, .p (.int .i64 i)), (5, .any)]) (fun i => []) (fun i => i ≤ l.length) (fun i => l.length - i) 0 (Nat.zero_le _) [] ⟨by (repeat' (first | refine EndV.mk ?_ | exact trivial | exact rfl | refine And.intro ?_ ?_)), by (repeat' (first | refine EndV.mk ?_ | exact trivial | exact rfl | refine And.intro ?_ ?_)), rfl, rfl⟩ ?_
  intro i hi K hK
  have hdl := hdR_length (l.take i).reverse
  rcases Nat.lt_or_ge i l.length with hlt | hge
  · have hsx : (l.getD i []).length ≤ 100 := hS.getD i
    have htk : (l.take (i + 1)).reverse = l.getD i [] :: (l.take i).reverse := by
      rw [List.take_add_one, List.getD_eq_getElem?_getD, List.getElem?_eq_getElem hlt]; simp
    rw [show l.getD i [] = l.getD (i : Int).toNat (Cd.dflt U.str) from rfl] at hsx htk
    generalize hx : l.getD (i : Int).toNat (Cd.dflt U.str) = s at *
    have hc := refChain_meets (hdR (l.take i).reverse) s (by omega) (by omega)
    have e1 : hdR (l.take (i + 1)).reverse = sumB (2 :: (hdR (l.take i).reverse ++ s)) := by rw [htk]; rfl
    clear htk
    generalize (l.take i).reverse = r at *
    generalize hdR r = h at *
    generalize sumB (2 :: (h ++ s)) = c at *
    (repeat' ((conv => whnf); first | (exfalso; omega) | (rw [hx]) | (refine callx_pure (hc) rfl rfl ?_) | (refine dcallx_pure (hc) rfl rfl ?_) | (refine hK (i + 1) [] _ _ ?_ ?_ ?_) | (refine end_fn [] (.inr rfl) ?_ trivial rfl rfl) | (refine split_nd (fun hb => ?_) (fun hb => ?_)) | (refine split_d (fun hb => ?_) (fun hb => ?_)) | (refine split_n (fun hb => ?_) (fun hb => ?_)) | (refine split_x (fun hb => ?_) (fun hb => ?_)) | (refine And.intro (TraceOK.mk (by kernel_rfl)) ?_) | (refine Side.mk ?_; (repeat' (first | refine And.intro ?_ ?_ | exact inR_i64 (by omega) (by omega) | omega | rfl | exact trivial | exact none_ne rfl | exact some_ne rfl (Nat.ne_of_beq_eq_false rfl) | exact Nat.ne_of_beq_eq_false rfl | (dsimp only [srcSide]; omega) | (simp; done) | (simp; omega))); done) | (refine side_and ?_ ?_) | (refine drawX_of mixed ?_)))
    dsimp only
    rw [e1]
    (refine Back.mk ?_ ?_ rfl rfl <;> (repeat' (first | refine EndV.mk ?_ | exact trivial | exact rfl | refine And.intro ?_ ?_)))
  · rw [List.take_of_length_le hge] at *
    clear hK
    generalize hdR l.reverse = h at *
    (repeat' ((conv => whnf); first | (exfalso; omega) | (refine end_fn [] (.inr rfl) ?_ trivial rfl rfl) | (refine split_nd (fun hb => ?_) (fun hb => ?_)) | (refine split_d (fun hb => ?_) (fun hb => ?_)) | (refine split_n (fun hb => ?_) (fun hb => ?_)) | (refine split_x (fun hb => ?_) (fun hb => ?_)) | (refine And.intro (TraceOK.mk (by kernel_rfl)) ?_) | (refine Side.mk ?_; (repeat' (first | refine And.intro ?_ ?_ | exact inR_i64 (by omega) (by omega) | omega | rfl | exact trivial | exact none_ne rfl | exact some_ne rfl (Nat.ne_of_beq_eq_false rfl) | exact Nat.ne_of_beq_eq_false rfl | (dsimp only [srcSide]; omega) | (simp; done) | (simp; omega))); done) | (refine side_and ?_ ?_) | (refine drawX_of mixed ?_)))
    all_goals (repeat' (first | refine EndV.mk ?_ | exact trivial | exact rfl | refine And.intro ?_ ?_))
def encsB (l : List Posting) : Bool := l.all encB
def encsL (l : List Posting) : List Bs := l.map fun p => encL (fldL p)
theorem encs_false {l : List Posting} {i : Nat} (hi : i < l.length) (h : encB (l.getD i posting0) = false) : encsB l = false := by
  unfold encsB
  rw [List.all_eq_false]
  refine ⟨l[i], List.getElem_mem hi, ?_⟩
  rw [List.getD_eq_getElem?_getD, List.getElem?_eq_getElem hi] at h
  simpa using h
theorem encs_true {l : List Posting} (h : ∀ j, j < l.length → encB (l.getD j posting0) = true) : encsB l = true := by
  unfold encsB
  rw [List.all_eq_true]
  intro s hs
  obtain ⟨i, hi, rfl⟩ := List.getElem_of_mem hs
  have := h i hi
  rw [List.getD_eq_getElem?_getD, List.getElem?_eq_getElem hi] at this
  simpa using this
theorem encsL_take (l : List Posting) (i : Nat) (h : i < l.length) : encsL (l.take (i + 1)) = encsL (l.take i) ++ [encL (fldL (l.getD i posting0))] := by
  have e : l.take (i + 1) = l.take i ++ [l[i]] := by rw [List.take_add_one, List.getElem?_eq_getElem h]; rfl
  rw [e, List.getD_eq_getElem?_getD, List.getElem?_eq_getElem h]
  unfold encsL
  rw [List.map_append]
  rfl
theorem enc_short (p : Posting) (h : encB p = true) : (encL (fldL p)).length ≤ 70 := by
  have := encL_length (fldL p) (fun j hj => by
    unfold encB at h
    rw [List.getD_eq_getElem?_getD, List.getElem?_eq_getElem hj]
    exact List.all_eq_true.1 h _ (List.getElem_mem hj))
  exact this
theorem refEncoded_meets (l : List Posting) (hl : l.length ≤ 900) : Meets Tryd.prog Dc 89 [.p (.dsl U.posting l)] [] (if encsB l then .tuple [.p (.dsl U.str (encsL l)), .p (.bool true)] else .tuple [.p (.dsl U.str []), .p (.bool false)]) [] := by
  have hus : 0 + 1 = Cd.n U.str := rfl
  refine meets_of_gx Ax tab_ok Tryd.func89 (c := _) rfl Tryd.call89 600 ?_
  (repeat' ((conv => whnf); first | (exfalso; omega) | (refine end_fn [] (.inr rfl) ?_ trivial rfl rfl) | (refine split_nd (fun hb => ?_) (fun hb => ?_)) | (refine split_d (fun hb => ?_) (fun hb => ?_)) | (refine split_n (fun hb => ?_) (fun hb => ?_)) | (refine split_x (fun hb => ?_) (fun hb => ?_)) | (refine And.intro (TraceOK.mk (by kernel_rfl)) ?_) | (refine Side.mk ?_; (repeat' (first | refine And.intro ?_ ?_ | exact inR_i64 (by omega) (by omega) | omega | rfl | exact trivial | exact none_ne rfl | exact some_ne rfl (Nat.ne_of_beq_eq_false rfl) | exact Nat.ne_of_beq_eq_false rfl | (dsimp only [srcSide]; omega) | (simp; done) | (simp; omega))); done) | (refine side_and ?_ ?_) | (refine drawX_of mixed ?_)))
  refine loop_inv (fun i : Nat => [(4, .slice 0 0 1 0 (encsL (l.take i)).length), (5, .p (.int .i64 i))]) (fun i => [.rows U.str (encsL (l.take i))]) (fun i => i ≤ l.length ∧ ∀ j, j < i → encB (l.getD j posting0) = true) (fun i => l.length - i) 0 ⟨Nat.zero_le _, fun j hj => by omega⟩ [none] ⟨by (repeat' (first | refine EndV.mk ?_ | exact trivial | exact rfl | refine And.intro ?_ ?_)), by (repeat' (first | refine EndV.mk ?_ | exact trivial | exact rfl | refine And.intro ?_ ?_)) <;> exact ⟨_, rfl⟩, rfl, rfl⟩ ?_
  rintro i ⟨hi, hall⟩ K hK
  have hel : (encsL (l.take i)).length = i := by simp [encsL]; omega
  rcases Nat.lt_or_ge i l.length with hlt | hge
  · have htk := encsL_take l i hlt
    have hc := refEnc_meets (l.getD i posting0)
    rw [show l.getD i posting0 = l.getD (i : Int).toNat (Cd.dflt U.posting) from rfl] at htk hc
    by_cases hok : encB (l.getD i posting0) = true
    · have hsd : Side (i + 1 ≤ l.length ∧ ∀ j, j < i + 1 → encB (l.getD j posting0) = true) := ⟨⟨hlt, fun j hj => by rcases Nat.lt_or_ge j i with h | h; exact hall j h; rw [show j = i by omega]; exact hok⟩⟩
      unfold encRet at hc
      rw [show l.getD i posting0 = l.getD (i : Int).toNat (Cd.dflt U.posting) from rfl] at hok
      rw [if_pos hok] at hc
      generalize encL (fldL (l.getD (i : Int).toNat (Cd.dflt U.posting))) = e at *
      have es : List.take (encsL (l.take i)).length (encsL (l.take i)) ++ List.take 1 (List.drop 0 [e]) = encsL (l.take (i + 1)) := by rw [List.take_length, htk]; rfl
      have el : (encsL (l.take (i + 1))).length = i + 1 := by rw [htk]; simp [hel]
      generalize encsL (l.take i) = z at *
      generalize hz2 : encsL (l.take (i + 1)) = z2 at *
      (repeat' ((conv => whnf); first | (exfalso; omega) | (refine callx_pure (hc) rfl rfl ?_) | (refine dcallx_pure (hc) rfl rfl ?_) | (rw [es]) | (refine hK (i + 1) [some 2] _ _ hsd ?_ ?_) | (refine end_fn [] (.inr rfl) ?_ trivial rfl rfl) | (refine split_nd (fun hb => ?_) (fun hb => ?_)) | (refine split_d (fun hb => ?_) (fun hb => ?_)) | (refine split_n (fun hb => ?_) (fun hb => ?_)) | (refine split_x (fun hb => ?_) (fun hb => ?_)) | (refine And.intro (TraceOK.mk (by kernel_rfl)) ?_) | (refine Side.mk ?_; (repeat' (first | refine And.intro ?_ ?_ | exact inR_i64 (by omega) (by omega) | omega | rfl | exact trivial | exact none_ne rfl | exact some_ne rfl (Nat.ne_of_beq_eq_false rfl) | exact Nat.ne_of_beq_eq_false rfl | (dsimp only [srcSide]; omega) | (simp; done) | (simp; omega))); done) | (refine side_and ?_ ?_) | (refine drawX_of mixed ?_)))
      all_goals try (dsimp only; rw [hz2]; (refine Back.mk ?_ ?_ rfl rfl <;> (repeat' (first | refine EndV.mk ?_ | exact trivial | exact rfl | refine And.intro ?_ ?_))))
    · rw [Bool.not_eq_true] at hok
      rw [encs_false hlt hok, if_neg (by simp)]
      unfold encRet at hc
      rw [show l.getD i posting0 = l.getD (i : Int).toNat (Cd.dflt U.posting) from rfl] at hok
      rw [if_neg (by rw [hok]; simp)] at hc
      clear hK
      generalize encsL (l.take i) = z at *
      (repeat' ((conv => whnf); first | (exfalso; omega) | (refine callx_pure (hc) rfl rfl ?_) | (refine dcallx_pure (hc) rfl rfl ?_) | (refine end_fn [] (.inr rfl) ?_ trivial rfl rfl) | (refine split_nd (fun hb => ?_) (fun hb => ?_)) | (refine split_d (fun hb => ?_) (fun hb => ?_)) | (refine split_n (fun hb => ?_) (fun hb => ?_)) | (refine split_x (fun hb => ?_) (fun hb => ?_)) | (refine And.intro (TraceOK.mk (by kernel_rfl)) ?_) | (refine Side.mk ?_; (repeat' (first | refine And.intro ?_ ?_ | exact inR_i64 (by omega) (by omega) | omega | rfl | exact trivial | exact none_ne rfl | exact some_ne rfl (Nat.ne_of_beq_eq_false rfl) | exact Nat.ne_of_beq_eq_false rfl | (dsimp only [srcSide]; omega) | (simp; done) | (simp; omega))); done) | (refine side_and ?_ ?_) | (refine drawX_of mixed ?_)))
      all_goals (repeat' (first | refine EndV.mk ?_ | exact trivial | exact rfl | refine And.intro ?_ ?_))
  · rw [encs_true (l := l) fun j hj => hall j (by omega), if_pos rfl]
    rw [List.take_of_length_le hge] at *
    clear hK
    generalize encsL l = z at *
    (repeat' ((conv => whnf); first | (exfalso; omega) | (refine end_fn [] (.inr rfl) ?_ trivial rfl rfl) | (refine split_nd (fun hb => ?_) (fun hb => ?_)) | (refine split_d (fun hb => ?_) (fun hb => ?_)) | (refine split_n (fun hb => ?_) (fun hb => ?_)) | (refine split_x (fun hb => ?_) (fun hb => ?_)) | (refine And.intro (TraceOK.mk (by kernel_rfl)) ?_) | (refine Side.mk ?_; (repeat' (first | refine And.intro ?_ ?_ | exact inR_i64 (by omega) (by omega) | omega | rfl | exact trivial | exact none_ne rfl | exact some_ne rfl (Nat.ne_of_beq_eq_false rfl) | exact Nat.ne_of_beq_eq_false rfl | (dsimp only [srcSide]; omega) | (simp; done) | (simp; omega))); done) | (refine side_and ?_ ?_) | (refine drawX_of mixed ?_)))
    all_goals (repeat' (first | refine EndV.mk ?_ | exact trivial | exact rfl | refine And.intro ?_ ?_))
    all_goals exact ⟨_, rfl, rfl, rfl, by omega, by rw [List.drop_zero, List.take_length], rfl⟩
theorem formed_enc {p : Posting} {acc : Int} (h : Formed p acc) (ha : 2 ≤ acc ∧ acc ≤ 16) : encB p = true := by
  obtain ⟨h1, h2, h3, h4, h5, h6, h7⟩ := h
  simp only [encB, fldL, List.all_cons, List.all_nil, okB, Bool.and_true, Bool.and_eq_true, decide_eq_true_eq]
  omega
theorem valid_enc {b : Book} (h : validB b = true) (j : Nat) (hj : j < b.postings.length) : encB (b.postings.getD j posting0) = true := by
  have hv := validBook_of h
  exact formed_enc (formed_at hv hj) hv.acc
theorem head_meets (b : Book) (hL : b.postings.length ≤ 300) : Meets Tryd.prog Dc 45 [ba b] [] (if validB b then .tuple [.p (.str (hdR (encsL b.postings).reverse)), .p (.int .i64 0)] else .tuple [.p (.str []), .p (.int .i64 240)]) [] := by
  cases ho : openS b with
  | none =>
    have hopen := open_none (by omega) ho
    rw [validB_none ho, if_neg (by simp)]
    refine meets_of_gx Ax tab_ok Tryd.func45 (c := _) rfl Tryd.call45 600 ?_
    (repeat' ((conv => whnf); first | (exfalso; omega) | (refine callx_pure (hopen) rfl rfl ?_) | (refine dcallx_pure (hopen) rfl rfl ?_) | (refine end_fn [] (.inr rfl) ?_ trivial rfl rfl) | (refine split_nd (fun hb => ?_) (fun hb => ?_)) | (refine split_d (fun hb => ?_) (fun hb => ?_)) | (refine split_n (fun hb => ?_) (fun hb => ?_)) | (refine split_x (fun hb => ?_) (fun hb => ?_)) | (refine And.intro (TraceOK.mk (by kernel_rfl)) ?_) | (refine Side.mk ?_; (repeat' (first | refine And.intro ?_ ?_ | exact inR_i64 (by omega) (by omega) | omega | rfl | exact trivial | exact none_ne rfl | exact some_ne rfl (Nat.ne_of_beq_eq_false rfl) | exact Nat.ne_of_beq_eq_false rfl | (dsimp only [srcSide]; omega) | (simp; done) | (simp; omega))); done) | (refine side_and ?_ ?_) | (refine drawX_of mixed ?_)))
    all_goals (repeat' (first | refine EndV.mk ?_ | exact trivial | exact rfl | refine And.intro ?_ ?_))
  | some bk =>
    cases hq : (isInB b.accounts 2 16 && isInB b.closed 0 12) with
    | false =>
      have hopen := open_some' (by omega) ho hq
      rw [show validB b = false by unfold validB; rw [ho, hq]; rfl, if_neg (by simp)]
      refine meets_of_gx Ax tab_ok Tryd.func45 (c := _) rfl Tryd.call45 600 ?_
      (repeat' ((conv => whnf); first | (exfalso; omega) | (refine callh [] hopen rfl rfl ⟨⟩ ?_) | (refine end_fn [] (.inr rfl) ?_ trivial rfl rfl) | (refine split_nd (fun hb => ?_) (fun hb => ?_)) | (refine split_d (fun hb => ?_) (fun hb => ?_)) | (refine split_n (fun hb => ?_) (fun hb => ?_)) | (refine split_x (fun hb => ?_) (fun hb => ?_)) | (refine And.intro (TraceOK.mk (by kernel_rfl)) ?_) | (refine Side.mk ?_; (repeat' (first | refine And.intro ?_ ?_ | exact inR_i64 (by omega) (by omega) | omega | rfl | exact trivial | exact none_ne rfl | exact some_ne rfl (Nat.ne_of_beq_eq_false rfl) | exact Nat.ne_of_beq_eq_false rfl | (dsimp only [srcSide]; omega) | (simp; done) | (simp; omega))); done) | (refine side_and ?_ ?_) | (refine drawX_of mixed ?_)))
      all_goals (repeat' (first | refine EndV.mk ?_ | exact trivial | exact rfl | refine And.intro ?_ ?_))
    | true =>
      have hopen := open_some' (by omega) ho hq
      have hvb : validB b = true := by unfold validB; rw [ho, hq]; rfl
      rw [hvb, if_pos rfl]
      refine meets_of_gx Ax tab_ok Tryd.func45 (c := _) rfl Tryd.call45 600 ?_
      (repeat' ((conv => whnf); first | (exfalso; omega) | (refine callh [] hopen rfl rfl ⟨⟩ ?_) | (refine callx_pure (repeat_meets) rfl rfl ?_) | (refine dcallx_pure (repeat_meets) rfl rfl ?_) | (refine end_fn [] (.inr rfl) ?_ trivial rfl rfl) | (refine split_nd (fun hb => ?_) (fun hb => ?_)) | (refine split_d (fun hb => ?_) (fun hb => ?_)) | (refine split_n (fun hb => ?_) (fun hb => ?_)) | (refine split_x (fun hb => ?_) (fun hb => ?_)) | (refine And.intro (TraceOK.mk (by kernel_rfl)) ?_) | (refine Side.mk ?_; (repeat' (first | refine And.intro ?_ ?_ | exact inR_i64 (by omega) (by omega) | omega | rfl | exact trivial | exact none_ne rfl | exact some_ne rfl (Nat.ne_of_beq_eq_false rfl) | exact Nat.ne_of_beq_eq_false rfl | (dsimp only [srcSide]; omega) | (simp; done) | (simp; omega))); done) | (refine side_and ?_ ?_) | (refine drawX_of mixed ?_)))
      have hve := fun j hj => valid_enc hvb j hj
      refine loop_up (fun j : Nat => [(6, .p (.str (hdR (encsL (b.postings.take j)).reverse))), (25, .p (.int .i64 j))]) (fun _ => []) (fun j => j ≤ b.postings.length) (fun j => b.postings.length - j) 0 (Nat.zero_le _) ⟨by (repeat' (first | refine EndV.mk ?_ | exact trivial | exact rfl | refine And.intro ?_ ?_)), by (repeat' (first | refine EndV.mk ?_ | exact trivial | exact rfl | refine And.intro ?_ ?_)), rfl, rfl⟩ ?_
      intro j hj K hK
      have hdl := hdR_length (encsL (b.postings.take j)).reverse
      rcases Nat.lt_or_ge j b.postings.length with hlt | hge
      · have hok := hve j hlt
        have hee := enc_short _ hok
        have htk := encsL_take b.postings j hlt
        have hg : b.postings.getD (0 + (j : Int).toNat) (Cd.dflt U.posting) = b.postings.getD j posting0 := by rw [Nat.zero_add]; rfl
        rw [← hg] at htk hok hee
        have hc := enc_meets (b.postings.getD (0 + (j : Int).toNat) (Cd.dflt U.posting))
        unfold encRet at hc
        rw [if_pos hok] at hc
        generalize encL (fldL (b.postings.getD (0 + (j : Int).toNat) (Cd.dflt U.posting))) = e at *
        have hch := chain_meets (hdR (encsL (b.postings.take j)).reverse) e (by omega) (by omega)
        have e1 : hdR (encsL (b.postings.take (j + 1))).reverse = sumB (2 :: (hdR (encsL (b.postings.take j)).reverse ++ e)) := by rw [htk, List.reverse_append]; rfl
        generalize hdR (encsL (b.postings.take j)).reverse = h at *
        generalize sumB (2 :: (h ++ e)) = c at *
        (repeat' ((conv => whnf); first | (exfalso; omega) | (refine callx_pure (hc) rfl rfl ?_) | (refine dcallx_pure (hc) rfl rfl ?_) | (refine callx_pure (hch) rfl rfl ?_) | (refine dcallx_pure (hch) rfl rfl ?_) | (refine hK (j + 1) [some 0, some 1, some 2] _ _ ?_ ?_ ?_) | (refine end_fn [] (.inr rfl) ?_ trivial rfl rfl) | (refine split_nd (fun hb => ?_) (fun hb => ?_)) | (refine split_d (fun hb => ?_) (fun hb => ?_)) | (refine split_n (fun hb => ?_) (fun hb => ?_)) | (refine split_x (fun hb => ?_) (fun hb => ?_)) | (refine And.intro (TraceOK.mk (by kernel_rfl)) ?_) | (refine Side.mk ?_; (repeat' (first | refine And.intro ?_ ?_ | exact inR_i64 (by omega) (by omega) | omega | rfl | exact trivial | exact none_ne rfl | exact some_ne rfl (Nat.ne_of_beq_eq_false rfl) | exact Nat.ne_of_beq_eq_false rfl | (dsimp only [srcSide]; omega) | (simp; done) | (simp; omega))); done) | (refine side_and ?_ ?_) | (refine drawX_of mixed ?_)))
        all_goals try (dsimp only; rw [e1]; (refine Back.mk ?_ ?_ rfl rfl <;> (repeat' (first | refine EndV.mk ?_ | exact trivial | exact rfl | refine And.intro ?_ ?_))))
        all_goals try (conv => whnf)
      · rw [List.take_of_length_le hge] at *
        clear hK
        generalize hdR (encsL b.postings).reverse = h at *
        (repeat' ((conv => whnf); first | (exfalso; omega) | (refine end_fn [] (.inr rfl) ?_ trivial rfl rfl) | (refine split_nd (fun hb => ?_) (fun hb => ?_)) | (refine split_d (fun hb => ?_) (fun hb => ?_)) | (refine split_n (fun hb => ?_) (fun hb => ?_)) | (refine split_x (fun hb => ?_) (fun hb => ?_)) | (refine And.intro (TraceOK.mk (by kernel_rfl)) ?_) | (refine Side.mk ?_; (repeat' (first | refine And.intro ?_ ?_ | exact inR_i64 (by omega) (by omega) | omega | rfl | exact trivial | exact none_ne rfl | exact some_ne rfl (Nat.ne_of_beq_eq_false rfl) | exact Nat.ne_of_beq_eq_false rfl | (dsimp only [srcSide]; omega) | (simp; done) | (simp; omega))); done) | (refine side_and ?_ ?_) | (refine drawX_of mixed ?_)))
        all_goals (repeat' (first | refine EndV.mk ?_ | exact trivial | exact rfl | refine And.intro ?_ ?_))
end Go.SX

namespace Go.SX
open Go.Proofs
set_option linter.unusedSimpArgs false
set_option linter.unusedVariables false
set_option maxHeartbeats 4000000
set_option maxRecDepth 100000
def headRet (b : Book) : SV Cd := if validB b then .tuple [.p (.str (hdR (encsL b.postings).reverse)), .p (.int .i64 0)] else .tuple [.p (.str []), .p (.int .i64 240)]
theorem encs_short {b : Book} (h : validB b = true) : Short (encsL b.postings) := by
  intro s hs
  obtain ⟨p, hp, rfl⟩ := List.mem_map.1 hs
  have hv := validBook_of h
  have := enc_short p (formed_enc (hv.formed p hp) hv.acc)
  omega
theorem refHead24_meets (b : Book) (hL : b.postings.length ≤ 300) : Meets Tryd.prog Dc 46 [ba b] [] (headRet b) [] := by
  have henc := refEncoded_meets b.postings (by omega)
  have hv := refValid_meets b (by omega)
  unfold headRet
  by_cases hvb : validB b = true
  · rw [hvb, if_pos rfl]
    rw [hvb] at hv
    rw [encs_true (l := b.postings) fun j hj => valid_enc hvb j hj, if_pos rfl] at henc
    have hh := refHead2_meets (encsL b.postings) (by simp [encsL]; omega) (encs_short hvb)
    generalize hdR (encsL b.postings).reverse = h at *
    generalize encsL b.postings = z at *
    refine meets_of_gx Ax tab_ok Tryd.func46 (c := _) rfl Tryd.call46 600 ?_
    (repeat' ((conv => whnf); first | (exfalso; omega) | (refine callx_pure (henc) rfl rfl ?_) | (refine dcallx_pure (henc) rfl rfl ?_) | (refine callx_pure (hv) rfl rfl ?_) | (refine dcallx_pure (hv) rfl rfl ?_) | (refine callx_pure (hh) rfl rfl ?_) | (refine dcallx_pure (hh) rfl rfl ?_) | (refine end_fn [] (.inr rfl) ?_ trivial rfl rfl) | (refine split_nd (fun hb => ?_) (fun hb => ?_)) | (refine split_d (fun hb => ?_) (fun hb => ?_)) | (refine split_n (fun hb => ?_) (fun hb => ?_)) | (refine split_x (fun hb => ?_) (fun hb => ?_)) | (refine And.intro (TraceOK.mk (by kernel_rfl)) ?_) | (refine Side.mk ?_; (repeat' (first | refine And.intro ?_ ?_ | exact inR_i64 (by omega) (by omega) | omega | rfl | exact trivial | exact none_ne rfl | exact some_ne rfl (Nat.ne_of_beq_eq_false rfl) | exact Nat.ne_of_beq_eq_false rfl | (dsimp only [srcSide]; omega) | (simp; done) | (simp; omega))); done) | (refine side_and ?_ ?_) | (refine drawX_of mixed ?_)))
    all_goals (repeat' (first | refine EndV.mk ?_ | exact trivial | exact rfl | refine And.intro ?_ ?_))
  · rw [Bool.not_eq_true] at hvb
    rw [hvb, if_neg (by simp)]
    rw [hvb] at hv
    by_cases hen : encsB b.postings = true
    · rw [if_pos hen] at henc
      generalize encsL b.postings = z at *
      refine meets_of_gx Ax tab_ok Tryd.func46 (c := _) rfl Tryd.call46 600 ?_
      (repeat' ((conv => whnf); first | (exfalso; omega) | (refine callx_pure (henc) rfl rfl ?_) | (refine dcallx_pure (henc) rfl rfl ?_) | (refine callx_pure (hv) rfl rfl ?_) | (refine dcallx_pure (hv) rfl rfl ?_) | (refine end_fn [] (.inr rfl) ?_ trivial rfl rfl) | (refine split_nd (fun hb => ?_) (fun hb => ?_)) | (refine split_d (fun hb => ?_) (fun hb => ?_)) | (refine split_n (fun hb => ?_) (fun hb => ?_)) | (refine split_x (fun hb => ?_) (fun hb => ?_)) | (refine And.intro (TraceOK.mk (by kernel_rfl)) ?_) | (refine Side.mk ?_; (repeat' (first | refine And.intro ?_ ?_ | exact inR_i64 (by omega) (by omega) | omega | rfl | exact trivial | exact none_ne rfl | exact some_ne rfl (Nat.ne_of_beq_eq_false rfl) | exact Nat.ne_of_beq_eq_false rfl | (dsimp only [srcSide]; omega) | (simp; done) | (simp; omega))); done) | (refine side_and ?_ ?_) | (refine drawX_of mixed ?_)))
      all_goals (repeat' (first | refine EndV.mk ?_ | exact trivial | exact rfl | refine And.intro ?_ ?_))
    · rw [if_neg hen] at henc
      refine meets_of_gx Ax tab_ok Tryd.func46 (c := _) rfl Tryd.call46 600 ?_
      (repeat' ((conv => whnf); first | (exfalso; omega) | (refine callx_pure (henc) rfl rfl ?_) | (refine dcallx_pure (henc) rfl rfl ?_) | (refine callx_pure (hv) rfl rfl ?_) | (refine dcallx_pure (hv) rfl rfl ?_) | (refine end_fn [] (.inr rfl) ?_ trivial rfl rfl) | (refine split_nd (fun hb => ?_) (fun hb => ?_)) | (refine split_d (fun hb => ?_) (fun hb => ?_)) | (refine split_n (fun hb => ?_) (fun hb => ?_)) | (refine split_x (fun hb => ?_) (fun hb => ?_)) | (refine And.intro (TraceOK.mk (by kernel_rfl)) ?_) | (refine Side.mk ?_; (repeat' (first | refine And.intro ?_ ?_ | exact inR_i64 (by omega) (by omega) | omega | rfl | exact trivial | exact none_ne rfl | exact some_ne rfl (Nat.ne_of_beq_eq_false rfl) | exact Nat.ne_of_beq_eq_false rfl | (dsimp only [srcSide]; omega) | (simp; done) | (simp; omega))); done) | (refine side_and ?_ ?_) | (refine drawX_of mixed ?_)))
      all_goals (repeat' (first | refine EndV.mk ?_ | exact trivial | exact rfl | refine And.intro ?_ ?_))
theorem getD_mem2 {α : Type} (x y d : α) (i : Nat) (h : i < 2) : [x, y].getD i d = x ∨ [x, y].getD i d = y := by
  obtain rfl | rfl : i = 0 ∨ i = 1 := by omega
  · exact .inl rfl
  · exact .inr rfl
theorem headsm_walk (raw : Book) (accounts : Int) (l : List A5) (p : Posting) (hr : (raw.postings.length : Int) ≤ 9223372036854775807) (ha : I64 accounts) (hl : ∀ x ∈ l, A5OK x) (hL : (l.length : Int) ≤ 9223372036854775807) :
    Meets Tryd.prog Dc 12 [ba raw, .p (.int .i64 accounts), .p (.dsl U.arr5 l), pa p] [] (.p (.bool true)) [] := by
  have hsane := bsane_meets
  have hmade := made_meets accounts l ha hl hL
  have e1 := enc_meets p
  have e2 := refEnc_meets p
  obtain ⟨es, ee, hee⟩ : ∃ (s : Bs) (e : Int), encRet p = .tuple [.p (.str s), .p (.int .i64 e)] := by unfold encRet; split <;> exact ⟨_, _, rfl⟩
  rw [hee] at e1 e2
  refine meets_of_gx Ax tab_ok Tryd.func12 (c := _) rfl Tryd.call12 1000 ?_
  (repeat' ((conv => whnf); first | (exfalso; omega) | (refine callx_pure (hsane) rfl rfl ?_) | (refine dcallx_pure (hsane) rfl rfl ?_) | (refine callx_pure (hmade) rfl rfl ?_) | (refine dcallx_pure (hmade) rfl rfl ?_) | (refine callx_pure (e1) rfl rfl ?_) | (refine dcallx_pure (e1) rfl rfl ?_) | (refine callx_pure (e2) rfl rfl ?_) | (refine dcallx_pure (e2) rfl rfl ?_) | (exact absurd rfl hb) | (refine end_fn [] (.inr rfl) ?_ trivial rfl rfl) | (refine split_nd (fun hb => ?_) (fun hb => ?_)) | (refine split_d (fun hb => ?_) (fun hb => ?_)) | (refine split_n (fun hb => ?_) (fun hb => ?_)) | (refine split_x (fun hb => ?_) (fun hb => ?_)) | (refine And.intro (TraceOK.mk (by kernel_rfl)) ?_) | (refine Side.mk ?_; (repeat' (first | refine And.intro ?_ ?_ | exact inR_i64 (by omega) (by omega) | omega | rfl | exact trivial | exact none_ne rfl | exact some_ne rfl (Nat.ne_of_beq_eq_false rfl) | exact Nat.ne_of_beq_eq_false rfl | (dsimp only [srcSide]; omega) | (simp; done) | (simp; omega))); done) | (refine side_and ?_ ?_) | (refine drawX_of mixed ?_)))
  obtain ⟨bs, hbs⟩ : ∃ bs : List Book, [⟨raw.accounts, (raw.postings.take (min (raw.postings.length : Int) 8).toNat).drop 0, raw.closed⟩, madeS accounts l] = bs := ⟨_, rfl⟩
  have hbl : ∀ i, i < 2 → (bs.getD i b0).postings.length ≤ 200 := by
    intro i hi
    subst hbs
    have h1 := (validBook_of (madeSt_ok accounts l (min l.length 24)).v).len
    rcases getD_mem2 _ _ b0 i hi with e | e <;> rw [e]
    · simp; omega
    · exact h1
  have hbn : bs.length = 2 := by subst hbs; rfl
  have hsz : 2 + 1 = Cd.n U.book := rfl
  refine loop_up (fun i : Nat => [(53, .p (.int .i64 i))]) (fun i => [(2, .rows U.book bs)]) (fun i => i ≤ 2) (fun i => 2 - i) 0 (Nat.zero_le _) ⟨by (repeat' (first | refine EndV.mk ?_ | exact trivial | exact rfl | refine And.intro ?_ ?_)), by (repeat' (first | refine EndV.mk ?_ | exact trivial | exact rfl | refine And.intro ?_ ?_)); subst hbs; rfl, rfl, rfl⟩ ?_
  intro i hi K hK
  by_cases hlt : i < 2
  · have hbL := hbl i hlt
    generalize hxe : bs.getD (0 + (i : Int).toNat) (Cd.dflt U.book) = b
    have hxe' : bs.getD i b0 = b := by rw [← hxe]; show _ = bs.getD (0 + i) b0; rw [Nat.zero_add]
    rw [hxe'] at hbL
    have c1 := head_meets b (by omega)
    have c2 := refHead24_meets b (by omega)
    obtain ⟨hs, he, hh⟩ : ∃ (s : Bs) (e : Int), headRet b = .tuple [.p (.str s), .p (.int .i64 e)] := by unfold headRet; split <;> exact ⟨_, _, rfl⟩
    rw [show (if validB b then (.tuple [.p (.str (hdR (encsL b.postings).reverse)), .p (.int .i64 0)] : SV Cd) else .tuple [.p (.str []), .p (.int .i64 240)]) = headRet b from rfl, hh] at c1
    rw [hh] at c2
    (repeat' ((conv => whnf); first | (exfalso; omega) | (exact absurd rfl hb) | (rw [hxe]) | (refine callx_pure (c1) rfl rfl ?_) | (refine dcallx_pure (c1) rfl rfl ?_) | (refine callx_pure (c2) rfl rfl ?_) | (refine dcallx_pure (c2) rfl rfl ?_) | (exact ⟨⟨by omega, hsz⟩⟩) | (refine hK (i + 1) ([some 0, some 1, some 2]) _ _ ?_ ?_ ?_) | (refine Back.mk ?_ ?_ rfl rfl <;> (repeat' (first | refine EndV.mk ?_ | exact trivial | exact rfl | refine And.intro ?_ ?_))) | (refine end_fn [] (.inr rfl) ?_ trivial rfl rfl) | (refine split_nd (fun hb => ?_) (fun hb => ?_)) | (refine split_d (fun hb => ?_) (fun hb => ?_)) | (refine split_n (fun hb => ?_) (fun hb => ?_)) | (refine split_x (fun hb => ?_) (fun hb => ?_)) | (refine And.intro (TraceOK.mk (by kernel_rfl)) ?_) | (refine Side.mk ?_; (repeat' (first | refine And.intro ?_ ?_ | exact inR_i64 (by omega) (by omega) | omega | rfl | exact trivial | exact none_ne rfl | exact some_ne rfl (Nat.ne_of_beq_eq_false rfl) | exact Nat.ne_of_beq_eq_false rfl | (dsimp only [srcSide]; omega) | (simp; done) | (simp; omega))); done) | (refine side_and ?_ ?_) | (refine drawX_of mixed ?_)))
  · clear hK
    (repeat' ((conv => whnf); first | (exfalso; omega) | (refine end_fn [] (.inr rfl) ?_ trivial rfl rfl) | (refine split_nd (fun hb => ?_) (fun hb => ?_)) | (refine split_d (fun hb => ?_) (fun hb => ?_)) | (refine split_n (fun hb => ?_) (fun hb => ?_)) | (refine split_x (fun hb => ?_) (fun hb => ?_)) | (refine And.intro (TraceOK.mk (by kernel_rfl)) ?_) | (refine Side.mk ?_; (repeat' (first | refine And.intro ?_ ?_ | exact inR_i64 (by omega) (by omega) | omega | rfl | exact trivial | exact none_ne rfl | exact some_ne rfl (Nat.ne_of_beq_eq_false rfl) | exact Nat.ne_of_beq_eq_false rfl | (dsimp only [srcSide]; omega) | (simp; done) | (simp; omega))); done) | (refine side_and ?_ ?_) | (refine drawX_of mixed ?_)))
    all_goals (repeat' (first | refine EndV.mk ?_ | exact trivial | exact rfl | refine And.intro ?_ ?_))
end Go.SX
