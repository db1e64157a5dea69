/-
  Walks: Do1: what single functions of the program compute.
-/
import Derived.Test.YtboldmbaiocjpaaDoorSxDn4
namespace Go.SX
open Go.Proofs
set_option linter.unusedSimpArgs false
set_option linter.unusedVariables false
set_option maxHeartbeats 4000000
set_option maxRecDepth 100000
def z32 : Bs := List.replicate 32 0
/-- the head of a list of records, the last one first -/
def hdR : List Bs → Bs
  | [] => z32
  | s :: r => sumB (2 :: (hdR r ++ s))
def hxR : List Bs → List Bs
  | [] => []
  | s :: r => (2 :: (hdR r ++ s)) :: hxR r
theorem hdR_length : ∀ r, (hdR r).length = 32
  | [] => by simp [hdR, z32]
  | s :: r => sumB_length _
theorem hxR_length : ∀ r, (hxR r).length = r.length
  | [] => rfl
  | s :: r => by simp [hxR, hxR_length r]
theorem hxR_mid : ∀ r, Short r → Mid (hxR r)
  | [], _ => fun z hz => by simp [hxR] at hz
  | s :: r, hS => by
    have hs : s.length ≤ 100 := hS s (by simp)
    have h1 := hxR_mid r (fun z hz => hS z (by simp [hz]))
    have hl := hdR_length r
    intro z hz
    rcases List.mem_cons.1 hz with rfl | hz
    · simp; omega
    · exact h1 z hz
def longL (x y : List Bs) : List Bs := if x.length < y.length then y else x
theorem chain_binding : ∀ (r u : List Bs), r ≠ u → hdR r = hdR u → collideB (hxR r) (hxR u) = true ∨ ((hxR r).length ≠ (hxR u).length ∧ sumB ((longL (hxR r) (hxR u)).getD (min (hxR r).length (hxR u).length) []) = z32)
  | [], [], h, _ => absurd rfl h
  | [], t :: u, _, h => by
    right
    refine ⟨by simp [hxR], ?_⟩
    have h' : z32 = sumB (2 :: (hdR u ++ t)) := h
    rw [h']
    simp [hxR, longL]
  | s :: r, [], _, h => by
    right
    refine ⟨by simp [hxR], ?_⟩
    have h' : sumB (2 :: (hdR r ++ s)) = z32 := h
    rw [← h']
    simp [hxR, longL]
  | s :: r, t :: u, hne, h => by
    have h' : sumB (2 :: (hdR r ++ s)) = sumB (2 :: (hdR u ++ t)) := h
    simp only [hxR, collideB]
    by_cases heq : (2 :: (hdR r ++ s) : Bs) = 2 :: (hdR u ++ t)
    · obtain ⟨e1, e2⟩ := split32 (by rw [hdR_length, hdR_length]) (List.cons.inj heq).2
      have hru : r ≠ u := fun e => hne (by rw [e, e2])
      rcases chain_binding r u hru e1 with ih | ⟨ih1, ih2⟩
      · left; rw [ih]; simp
      · right
        refine ⟨by simpa using ih1, ?_⟩
        rw [← ih2]
        have em : min ((2 :: (hdR r ++ s)) :: hxR r).length ((2 :: (hdR u ++ t)) :: hxR u).length = min (hxR r).length (hxR u).length + 1 := by simp only [List.length_cons]; omega
        rw [em]
        unfold longL
        by_cases hl : (hxR r).length < (hxR u).length
        · rw [if_pos hl, if_pos (by simp only [List.length_cons]; omega)]; rfl
        · rw [if_neg hl, if_neg (by simp only [List.length_cons]; omega)]; rfl
    · left
      rw [decide_eq_true (p := _ ≠ _) heq, decide_eq_true h']; rfl
theorem heads_meets (l : List Bs) (hl : l.length ≤ 500) (hS : Short l) : Meets Tryd.prog Dc 40 [.p (.dsl U.str l)] [] (.tuple [.p (.dsl U.str (hxR l.reverse)), .p (.str (hdR l.reverse))]) [] := by
  have hus : 0 + 1 = Cd.n U.str := rfl
  refine meets_of_gx Ax tab_ok Tryd.func40 (c := _) rfl Tryd.call40 600 ?_
  (repeat' ((conv => whnf); first | (exfalso; omega) | (refine end_fn [] (.inr rfl) ?_ trivial rfl rfl) | (refine split_nd (fun hb => ?_) (fun hb => ?_)) | (refine split_d (fun hb => ?_) (fun hb => ?_)) | (refine split_n (fun hb => ?_) (fun hb => ?_)) | (refine split_x (fun hb => ?_) (fun hb => ?_)) | (refine And.intro (TraceOK.mk (by kernel_rfl)) ?_) | (refine Side.mk ?_; (repeat' (first | refine And.intro ?_ ?_ | exact inR_i64 (by omega) (by omega) | omega | rfl | exact trivial | exact none_ne rfl | exact some_ne rfl (Nat.ne_of_beq_eq_false rfl) | exact Nat.ne_of_beq_eq_false rfl | (dsimp only [srcSide]; omega) | (simp; done) | (simp; omega))); done) | (refine side_and ?_ ?_) | (refine drawX_of mixed ?_)))
  refine loop_inv (fun i : Nat => [(4, .p (.str (hdR (l.take i).reverse))), (5, .slice 0 0 1 0 (hxR (l.take i).reverse).length), (6, .p (.int .i64 i)), (7, .any)]) (fun i => [.rows U.str (hxR (l.take i).reverse)]) (fun i => i ≤ l.length) (fun i => l.length - i) 0 (Nat.zero_le _) [none] ⟨by (repeat' (first | refine EndV.mk ?_ | exact trivial | exact rfl | refine And.intro ?_ ?_)), by (repeat' (first | refine EndV.mk ?_ | exact trivial | exact rfl | refine And.intro ?_ ?_)) <;> exact ⟨_, rfl⟩, rfl, rfl⟩ ?_
  intro i hi K hK
  have hdl := hdR_length (l.take i).reverse
  have hxl := hxR_length (l.take i).reverse
  have hli : (l.take i).reverse.length = i := by simp; omega
  rcases Nat.lt_or_ge i l.length with hlt | hge
  · have hsx : (l.getD i []).length ≤ 100 := hS.getD i
    have htk : (l.take (i + 1)).reverse = l.getD i [] :: (l.take i).reverse := by
      rw [List.take_add_one, List.getD_eq_getElem?_getD, List.getElem?_eq_getElem hlt]; simp
    rw [show l.getD i [] = l.getD (i : Int).toNat (Cd.dflt U.str) from rfl] at hsx htk
    generalize hx : l.getD (i : Int).toNat (Cd.dflt U.str) = s at *
    have hc := chain_meets (hdR (l.take i).reverse) s (by omega) (by omega)
    have e1 : hdR (l.take (i + 1)).reverse = sumB (2 :: (hdR (l.take i).reverse ++ s)) := by rw [htk]; rfl
    have e2 : hxR (l.take (i + 1)).reverse = (2 :: (hdR (l.take i).reverse ++ s)) :: hxR (l.take i).reverse := by rw [htk]; rfl
    clear htk
    generalize (l.take i).reverse = r at *
    generalize hdR r = h at *
    generalize hxR r = z at *
    generalize sumB (2 :: (h ++ s)) = c at *
    (repeat' ((conv => whnf); first | (exfalso; omega) | (rw [hx]) | (refine callx_pure (hc) rfl rfl ?_) | (refine dcallx_pure (hc) rfl rfl ?_) | (refine ⟨?_⟩; simp only [List.length_append, List.length_cons, List.length_nil]; omega) | (refine hK (i + 1) [some 2] _ _ ?_ ?_ ?_) | (refine end_fn [] (.inr rfl) ?_ trivial rfl rfl) | (refine split_nd (fun hb => ?_) (fun hb => ?_)) | (refine split_d (fun hb => ?_) (fun hb => ?_)) | (refine split_n (fun hb => ?_) (fun hb => ?_)) | (refine split_x (fun hb => ?_) (fun hb => ?_)) | (refine And.intro (TraceOK.mk (by kernel_rfl)) ?_) | (refine Side.mk ?_; (repeat' (first | refine And.intro ?_ ?_ | exact inR_i64 (by omega) (by omega) | omega | rfl | exact trivial | exact none_ne rfl | exact some_ne rfl (Nat.ne_of_beq_eq_false rfl) | exact Nat.ne_of_beq_eq_false rfl | (dsimp only [srcSide]; omega) | (simp; done) | (simp; omega))); done) | (refine side_and ?_ ?_) | (refine drawX_of mixed ?_)))
    have e3 : List.take 1 [(ByteArray.mk #[2]).data.toList ++ h ++ s] ++ List.take z.length (List.drop 0 z) = (2 :: (h ++ s)) :: z := by rw [List.drop_zero, List.take_length]; rfl
    dsimp only
    rw [e1, e2]
    first
      | (rw [e3]; (refine Back.mk ?_ ?_ rfl rfl <;> (repeat' (first | refine EndV.mk ?_ | exact trivial | exact rfl | refine And.intro ?_ ?_))))
      | skip
  · rw [List.take_of_length_le hge] at *
    clear hK
    generalize hdR l.reverse = h at *
    generalize hxR l.reverse = z at *
    (repeat' ((conv => whnf); first | (exfalso; omega) | (refine end_fn [] (.inr rfl) ?_ trivial rfl rfl) | (refine split_nd (fun hb => ?_) (fun hb => ?_)) | (refine split_d (fun hb => ?_) (fun hb => ?_)) | (refine split_n (fun hb => ?_) (fun hb => ?_)) | (refine split_x (fun hb => ?_) (fun hb => ?_)) | (refine And.intro (TraceOK.mk (by kernel_rfl)) ?_) | (refine Side.mk ?_; (repeat' (first | refine And.intro ?_ ?_ | exact inR_i64 (by omega) (by omega) | omega | rfl | exact trivial | exact none_ne rfl | exact some_ne rfl (Nat.ne_of_beq_eq_false rfl) | exact Nat.ne_of_beq_eq_false rfl | (dsimp only [srcSide]; omega) | (simp; done) | (simp; omega))); done) | (refine side_and ?_ ?_) | (refine drawX_of mixed ?_)))
    all_goals (repeat' (first | refine EndV.mk ?_ | exact trivial | exact rfl | refine And.intro ?_ ?_))
    all_goals exact ⟨_, rfl, rfl, rfl, by omega, by rw [List.drop_zero, List.take_length], rfl⟩
theorem chain_walk (a b : List Bs) : Meets Tryd.prog Dc 11 [.p (.dsl U.str a), .p (.dsl U.str b)] [] (.p (.bool true)) [] := by
  have f1 := few_meets a 20 (by omega)
  have f2 := few_meets b 20 (by omega)
  have hS1 := fewS_short a 20
  have hL1 := fewS_length a 20
  have hS2 := fewS_short b 20
  have hL2 := fewS_length b 20
  generalize fewS a 20 = a' at *
  generalize fewS b 20 = b' at *
  have hsane := sane_meets
  have w1 := heads_meets a' (by omega) hS1
  have w2 := heads_meets b' (by omega) hS2
  have c1 := refSame_meets a' b' (by omega)
  have hl1 := hdR_length a'.reverse
  have hl2 := hdR_length b'.reverse
  have hx1 := hxR_length a'.reverse
  have hx2 := hxR_length b'.reverse
  rw [List.length_reverse] at hx1 hx2
  have m1 := hxR_mid a'.reverse (fun z hz => hS1 z (by simpa using hz))
  have m2 := hxR_mid b'.reverse (fun z hz => hS2 z (by simpa using hz))
  have c2 := collide_meets (hxR a'.reverse) (hxR b'.reverse) (by omega) (by omega) m1 m2
  by_cases hab : a' = b'
  · subst hab
    rw [decide_eq_true (p := a' = a') rfl] at c1
    generalize hdR a'.reverse = h at *
    generalize hxR a'.reverse = x at *
    refine meets_of_gx Ax tab_ok Tryd.func11 (c := _) rfl Tryd.call11 800 ?_
    (repeat' ((conv => whnf); first | (exfalso; omega) | (refine callx_pure (hsane) rfl rfl ?_) | (refine dcallx_pure (hsane) rfl rfl ?_) | (refine callx_pure (f1) rfl rfl ?_) | (refine dcallx_pure (f1) rfl rfl ?_) | (refine callx_pure (f2) rfl rfl ?_) | (refine dcallx_pure (f2) rfl rfl ?_) | (refine callx_pure (w1) rfl rfl ?_) | (refine dcallx_pure (w1) rfl rfl ?_) | (refine callx_pure (w2) rfl rfl ?_) | (refine dcallx_pure (w2) rfl rfl ?_) | (refine callx_pure (c1) rfl rfl ?_) | (refine dcallx_pure (c1) rfl rfl ?_) | (exact absurd rfl hb) | (refine end_fn [] (.inr rfl) ?_ trivial rfl rfl) | (refine split_nd (fun hb => ?_) (fun hb => ?_)) | (refine split_d (fun hb => ?_) (fun hb => ?_)) | (refine split_n (fun hb => ?_) (fun hb => ?_)) | (refine split_x (fun hb => ?_) (fun hb => ?_)) | (refine And.intro (TraceOK.mk (by kernel_rfl)) ?_) | (refine Side.mk ?_; (repeat' (first | refine And.intro ?_ ?_ | exact inR_i64 (by omega) (by omega) | omega | rfl | exact trivial | exact none_ne rfl | exact some_ne rfl (Nat.ne_of_beq_eq_false rfl) | exact Nat.ne_of_beq_eq_false rfl | (dsimp only [srcSide]; omega) | (simp; done) | (simp; omega))); done) | (refine side_and ?_ ?_) | (refine drawX_of mixed ?_)))
    all_goals (repeat' (first | refine EndV.mk ?_ | exact trivial | exact rfl | refine And.intro ?_ ?_))
  · rw [decide_eq_false hab] at c1
    by_cases hhk : hdR a'.reverse = hdR b'.reverse
    · have key := chain_binding a'.reverse b'.reverse (fun e => hab (by have := congrArg List.reverse e; simpa using this)) hhk
      have hz : List.map (fun n : Int => UInt8.ofNat n.toNat) (List.take (Int.toNat 32) (List.drop 0 (List.replicate (Int.toNat 32) (Cd.dflt U.u8)))) = z32 := by decide +kernel
      rw [← hhk] at w2
      clear hl2 hhk
      generalize hdR a'.reverse = h at *
      generalize hxR a'.reverse = x at *
      generalize hxR b'.reverse = y at *
      rcases Nat.lt_trichotomy x.length y.length with hlt | hlt | hlt
      · have helem : y.getD (min (x.length : Int) (y.length : Int)).toNat (Cd.dflt U.str) = (longL x y).getD (min x.length y.length) [] := by
          unfold longL
          rw [if_pos hlt, show (min (x.length : Int) (y.length : Int)).toNat = min x.length y.length by omega]; rfl
        have hml : (y.getD (min (x.length : Int) (y.length : Int)).toNat (Cd.dflt U.str)).length ≤ 1000 := by
          rcases Nat.lt_or_ge (min (x.length : Int) (y.length : Int)).toNat y.length with hi | hi
          · rw [List.getD_eq_getElem?_getD, List.getElem?_eq_getElem hi]; exact m2 _ (List.getElem_mem hi)
          · rw [List.getD_eq_getElem?_getD, List.getElem?_eq_none hi]; simp [U.dflt]
        have c3 := sum_meets (y.getD (min (x.length : Int) (y.length : Int)).toNat (Cd.dflt U.str)) (by omega)
        rw [← helem] at key
        have key' : collideB x y = true ∨ sumB (y.getD (min (x.length : Int) (y.length : Int)).toNat (Cd.dflt U.str)) = z32 := key.imp id fun k => k.2
        generalize hE : y.getD (min (x.length : Int) (y.length : Int)).toNat (Cd.dflt U.str) = el at *
        by_cases hcol : collideB x y = true
        · rw [hcol] at c2
          generalize sumB el = sm at *
          refine meets_of_gx Ax tab_ok Tryd.func11 (c := _) rfl Tryd.call11 800 ?_
          (repeat' ((conv => whnf); first | (exfalso; omega) | (refine callx_pure (hsane) rfl rfl ?_) | (refine dcallx_pure (hsane) rfl rfl ?_) | (refine callx_pure (f1) rfl rfl ?_) | (refine dcallx_pure (f1) rfl rfl ?_) | (refine callx_pure (f2) rfl rfl ?_) | (refine dcallx_pure (f2) rfl rfl ?_) | (refine callx_pure (w1) rfl rfl ?_) | (refine dcallx_pure (w1) rfl rfl ?_) | (refine callx_pure (w2) rfl rfl ?_) | (refine dcallx_pure (w2) rfl rfl ?_) | (refine callx_pure (c1) rfl rfl ?_) | (refine dcallx_pure (c1) rfl rfl ?_) | (rw [hE]) | (refine callx_pure (c3) rfl rfl ?_) | (refine dcallx_pure (c3) rfl rfl ?_) | (refine callx_pure (c2) rfl rfl ?_) | (refine dcallx_pure (c2) rfl rfl ?_) | (exact absurd rfl hb) | (exact absurd hsm hb) | (refine end_fn [] (.inr rfl) ?_ trivial rfl rfl) | (refine split_nd (fun hb => ?_) (fun hb => ?_)) | (refine split_d (fun hb => ?_) (fun hb => ?_)) | (refine split_n (fun hb => ?_) (fun hb => ?_)) | (refine split_x (fun hb => ?_) (fun hb => ?_)) | (refine And.intro (TraceOK.mk (by kernel_rfl)) ?_) | (refine Side.mk ?_; (repeat' (first | refine And.intro ?_ ?_ | exact inR_i64 (by omega) (by omega) | omega | rfl | exact trivial | exact none_ne rfl | exact some_ne rfl (Nat.ne_of_beq_eq_false rfl) | exact Nat.ne_of_beq_eq_false rfl | (dsimp only [srcSide]; omega) | (simp; done) | (simp; omega))); done) | (refine side_and ?_ ?_) | (refine drawX_of mixed ?_)))
          all_goals (repeat' (first | refine EndV.mk ?_ | exact trivial | exact rfl | refine And.intro ?_ ?_))
          all_goals ((conv => whnf); exact congrArg PV.bool (decide_eq_true hsm))
        · rw [Bool.not_eq_true] at hcol
          rw [hcol] at c2 key'
          have hsm := key'.resolve_left (by simp)
          rw [← hz] at hsm
          generalize sumB el = sm at *
          refine meets_of_gx Ax tab_ok Tryd.func11 (c := _) rfl Tryd.call11 800 ?_
          (repeat' ((conv => whnf); first | (exfalso; omega) | (refine callx_pure (hsane) rfl rfl ?_) | (refine dcallx_pure (hsane) rfl rfl ?_) | (refine callx_pure (f1) rfl rfl ?_) | (refine dcallx_pure (f1) rfl rfl ?_) | (refine callx_pure (f2) rfl rfl ?_) | (refine dcallx_pure (f2) rfl rfl ?_) | (refine callx_pure (w1) rfl rfl ?_) | (refine dcallx_pure (w1) rfl rfl ?_) | (refine callx_pure (w2) rfl rfl ?_) | (refine dcallx_pure (w2) rfl rfl ?_) | (refine callx_pure (c1) rfl rfl ?_) | (refine dcallx_pure (c1) rfl rfl ?_) | (rw [hE]) | (refine callx_pure (c3) rfl rfl ?_) | (refine dcallx_pure (c3) rfl rfl ?_) | (refine callx_pure (c2) rfl rfl ?_) | (refine dcallx_pure (c2) rfl rfl ?_) | (exact absurd rfl hb) | (exact absurd hsm hb) | (refine end_fn [] (.inr rfl) ?_ trivial rfl rfl) | (refine split_nd (fun hb => ?_) (fun hb => ?_)) | (refine split_d (fun hb => ?_) (fun hb => ?_)) | (refine split_n (fun hb => ?_) (fun hb => ?_)) | (refine split_x (fun hb => ?_) (fun hb => ?_)) | (refine And.intro (TraceOK.mk (by kernel_rfl)) ?_) | (refine Side.mk ?_; (repeat' (first | refine And.intro ?_ ?_ | exact inR_i64 (by omega) (by omega) | omega | rfl | exact trivial | exact none_ne rfl | exact some_ne rfl (Nat.ne_of_beq_eq_false rfl) | exact Nat.ne_of_beq_eq_false rfl | (dsimp only [srcSide]; omega) | (simp; done) | (simp; omega))); done) | (refine side_and ?_ ?_) | (refine drawX_of mixed ?_)))
          all_goals (repeat' (first | refine EndV.mk ?_ | exact trivial | exact rfl | refine And.intro ?_ ?_))
          all_goals ((conv => whnf); exact congrArg PV.bool (decide_eq_true hsm))
      · have hcol : collideB x y = true := key.resolve_right fun k => k.1 hlt
        rw [hcol] at c2
        refine meets_of_gx Ax tab_ok Tryd.func11 (c := _) rfl Tryd.call11 800 ?_
        (repeat' ((conv => whnf); first | (exfalso; omega) | (refine callx_pure (hsane) rfl rfl ?_) | (refine dcallx_pure (hsane) rfl rfl ?_) | (refine callx_pure (f1) rfl rfl ?_) | (refine dcallx_pure (f1) rfl rfl ?_) | (refine callx_pure (f2) rfl rfl ?_) | (refine dcallx_pure (f2) rfl rfl ?_) | (refine callx_pure (w1) rfl rfl ?_) | (refine dcallx_pure (w1) rfl rfl ?_) | (refine callx_pure (w2) rfl rfl ?_) | (refine dcallx_pure (w2) rfl rfl ?_) | (refine callx_pure (c1) rfl rfl ?_) | (refine dcallx_pure (c1) rfl rfl ?_) | (refine callx_pure (c2) rfl rfl ?_) | (refine dcallx_pure (c2) rfl rfl ?_) | (exact absurd rfl hb) | (refine end_fn [] (.inr rfl) ?_ trivial rfl rfl) | (refine split_nd (fun hb => ?_) (fun hb => ?_)) | (refine split_d (fun hb => ?_) (fun hb => ?_)) | (refine split_n (fun hb => ?_) (fun hb => ?_)) | (refine split_x (fun hb => ?_) (fun hb => ?_)) | (refine And.intro (TraceOK.mk (by kernel_rfl)) ?_) | (refine Side.mk ?_; (repeat' (first | refine And.intro ?_ ?_ | exact inR_i64 (by omega) (by omega) | omega | rfl | exact trivial | exact none_ne rfl | exact some_ne rfl (Nat.ne_of_beq_eq_false rfl) | exact Nat.ne_of_beq_eq_false rfl | (dsimp only [srcSide]; omega) | (simp; done) | (simp; omega))); done) | (refine side_and ?_ ?_) | (refine drawX_of mixed ?_)))
        all_goals (repeat' (first | refine EndV.mk ?_ | exact trivial | exact rfl | refine And.intro ?_ ?_))
      · have helem : x.getD (min (x.length : Int) (y.length : Int)).toNat (Cd.dflt U.str) = (longL x y).getD (min x.length y.length) [] := by
          unfold longL
          rw [if_neg (by omega), show (min (x.length : Int) (y.length : Int)).toNat = min x.length y.length by omega]; rfl
        have hml : (x.getD (min (x.length : Int) (y.length : Int)).toNat (Cd.dflt U.str)).length ≤ 1000 := by
          rcases Nat.lt_or_ge (min (x.length : Int) (y.length : Int)).toNat x.length with hi | hi
          · rw [List.getD_eq_getElem?_getD, List.getElem?_eq_getElem hi]; exact m1 _ (List.getElem_mem hi)
          · rw [List.getD_eq_getElem?_getD, List.getElem?_eq_none hi]; simp [U.dflt]
        have c3 := sum_meets (x.getD (min (x.length : Int) (y.length : Int)).toNat (Cd.dflt U.str)) (by omega)
        rw [← helem] at key
        have key' : collideB x y = true ∨ sumB (x.getD (min (x.length : Int) (y.length : Int)).toNat (Cd.dflt U.str)) = z32 := key.imp id fun k => k.2
        generalize hE : x.getD (min (x.length : Int) (y.length : Int)).toNat (Cd.dflt U.str) = el at *
        by_cases hcol : collideB x y = true
        · rw [hcol] at c2
          generalize sumB el = sm at *
          refine meets_of_gx Ax tab_ok Tryd.func11 (c := _) rfl Tryd.call11 800 ?_
          (repeat' ((conv => whnf); first | (exfalso; omega) | (refine callx_pure (hsane) rfl rfl ?_) | (refine dcallx_pure (hsane) rfl rfl ?_) | (refine callx_pure (f1) rfl rfl ?_) | (refine dcallx_pure (f1) rfl rfl ?_) | (refine callx_pure (f2) rfl rfl ?_) | (refine dcallx_pure (f2) rfl rfl ?_) | (refine callx_pure (w1) rfl rfl ?_) | (refine dcallx_pure (w1) rfl rfl ?_) | (refine callx_pure (w2) rfl rfl ?_) | (refine dcallx_pure (w2) rfl rfl ?_) | (refine callx_pure (c1) rfl rfl ?_) | (refine dcallx_pure (c1) rfl rfl ?_) | (rw [hE]) | (refine callx_pure (c3) rfl rfl ?_) | (refine dcallx_pure (c3) rfl rfl ?_) | (refine callx_pure (c2) rfl rfl ?_) | (refine dcallx_pure (c2) rfl rfl ?_) | (exact absurd rfl hb) | (exact absurd hsm hb) | (refine end_fn [] (.inr rfl) ?_ trivial rfl rfl) | (refine split_nd (fun hb => ?_) (fun hb => ?_)) | (refine split_d (fun hb => ?_) (fun hb => ?_)) | (refine split_n (fun hb => ?_) (fun hb => ?_)) | (refine split_x (fun hb => ?_) (fun hb => ?_)) | (refine And.intro (TraceOK.mk (by kernel_rfl)) ?_) | (refine Side.mk ?_; (repeat' (first | refine And.intro ?_ ?_ | exact inR_i64 (by omega) (by omega) | omega | rfl | exact trivial | exact none_ne rfl | exact some_ne rfl (Nat.ne_of_beq_eq_false rfl) | exact Nat.ne_of_beq_eq_false rfl | (dsimp only [srcSide]; omega) | (simp; done) | (simp; omega))); done) | (refine side_and ?_ ?_) | (refine drawX_of mixed ?_)))
          all_goals (repeat' (first | refine EndV.mk ?_ | exact trivial | exact rfl | refine And.intro ?_ ?_))
          all_goals ((conv => whnf); exact congrArg PV.bool (decide_eq_true hsm))
        · rw [Bool.not_eq_true] at hcol
          rw [hcol] at c2 key'
          have hsm := key'.resolve_left (by simp)
          rw [← hz] at hsm
          generalize sumB el = sm at *
          refine meets_of_gx Ax tab_ok Tryd.func11 (c := _) rfl Tryd.call11 800 ?_
          (repeat' ((conv => whnf); first | (exfalso; omega) | (refine callx_pure (hsane) rfl rfl ?_) | (refine dcallx_pure (hsane) rfl rfl ?_) | (refine callx_pure (f1) rfl rfl ?_) | (refine dcallx_pure (f1) rfl rfl ?_) | (refine callx_pure (f2) rfl rfl ?_) | (refine dcallx_pure (f2) rfl rfl ?_) | (refine callx_pure (w1) rfl rfl ?_) | (refine dcallx_pure (w1) rfl rfl ?_) | (refine callx_pure (w2) rfl rfl ?_) | (refine dcallx_pure (w2) rfl rfl ?_) | (refine callx_pure (c1) rfl rfl ?_) | (refine dcallx_pure (c1) rfl rfl ?_) | (rw [hE]) | (refine callx_pure (c3) rfl rfl ?_) | (refine dcallx_pure (c3) rfl rfl ?_) | (refine callx_pure (c2) rfl rfl ?_) | (refine dcallx_pure (c2) rfl rfl ?_) | (exact absurd rfl hb) | (exact absurd hsm hb) | (refine end_fn [] (.inr rfl) ?_ trivial rfl rfl) | (refine split_nd (fun hb => ?_) (fun hb => ?_)) | (refine split_d (fun hb => ?_) (fun hb => ?_)) | (refine split_n (fun hb => ?_) (fun hb => ?_)) | (refine split_x (fun hb => ?_) (fun hb => ?_)) | (refine And.intro (TraceOK.mk (by kernel_rfl)) ?_) | (refine Side.mk ?_; (repeat' (first | refine And.intro ?_ ?_ | exact inR_i64 (by omega) (by omega) | omega | rfl | exact trivial | exact none_ne rfl | exact some_ne rfl (Nat.ne_of_beq_eq_false rfl) | exact Nat.ne_of_beq_eq_false rfl | (dsimp only [srcSide]; omega) | (simp; done) | (simp; omega))); done) | (refine side_and ?_ ?_) | (refine drawX_of mixed ?_)))
          all_goals (repeat' (first | refine EndV.mk ?_ | exact trivial | exact rfl | refine And.intro ?_ ?_))
          all_goals ((conv => whnf); exact congrArg PV.bool (decide_eq_true hsm))
    · generalize hdR a'.reverse = h at *
      generalize hdR b'.reverse = k at *
      refine meets_of_gx Ax tab_ok Tryd.func11 (c := _) rfl Tryd.call11 800 ?_
      (repeat' ((conv => whnf); first | (exfalso; omega) | (refine callx_pure (hsane) rfl rfl ?_) | (refine dcallx_pure (hsane) rfl rfl ?_) | (refine callx_pure (f1) rfl rfl ?_) | (refine dcallx_pure (f1) rfl rfl ?_) | (refine callx_pure (f2) rfl rfl ?_) | (refine dcallx_pure (f2) rfl rfl ?_) | (refine callx_pure (w1) rfl rfl ?_) | (refine dcallx_pure (w1) rfl rfl ?_) | (refine callx_pure (w2) rfl rfl ?_) | (refine dcallx_pure (w2) rfl rfl ?_) | (refine callx_pure (c1) rfl rfl ?_) | (refine dcallx_pure (c1) rfl rfl ?_) | (exact absurd hb hhk) | (refine end_fn [] (.inr rfl) ?_ trivial rfl rfl) | (refine split_nd (fun hb => ?_) (fun hb => ?_)) | (refine split_d (fun hb => ?_) (fun hb => ?_)) | (refine split_n (fun hb => ?_) (fun hb => ?_)) | (refine split_x (fun hb => ?_) (fun hb => ?_)) | (refine And.intro (TraceOK.mk (by kernel_rfl)) ?_) | (refine Side.mk ?_; (repeat' (first | refine And.intro ?_ ?_ | exact inR_i64 (by omega) (by omega) | omega | rfl | exact trivial | exact none_ne rfl | exact some_ne rfl (Nat.ne_of_beq_eq_false rfl) | exact Nat.ne_of_beq_eq_false rfl | (dsimp only [srcSide]; omega) | (simp; done) | (simp; omega))); done) | (refine side_and ?_ ?_) | (refine drawX_of mixed ?_)))
      all_goals (repeat' (first | refine EndV.mk ?_ | exact trivial | exact rfl | refine And.intro ?_ ?_))
end Go.SX
