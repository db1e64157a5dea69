/-
  Walks: Dm3, Dl6, Dl7: what single functions of the program compute.
-/
import Derived.Test.YtboldmbaiocjpaaDoorSxDl5
namespace Go.SX
open Go.Proofs
set_option linter.unusedSimpArgs false
set_option linter.unusedVariables false
set_option maxHeartbeats 4000000
set_option maxRecDepth 100000
/-- what is joined on the way up -/
def joinS (x : DSide) (o : Bs) : Bs := if x.first then nodeH x.root o else nodeH o x.root
def joinW (way : List DSide) (o : Bs) : Bs := way.foldr joinS o
theorem joinS_length (x : DSide) (o : Bs) : (joinS x o).length = 32 := by unfold joinS; split <;> exact nodeH_length _ _
theorem join_meets (x : DSide) (o : Bs) (hx : x.root.length ≤ 100) (ho : o.length ≤ 100) : Meets Tryd.prog Dc 60 [.agg [.p (.str x.root), .p (.bool x.first)], .p (.str o)] [] (.p (.str (joinS x o))) [] := by
  obtain ⟨r, f⟩ := x
  have h1 := nodeM r o (by dsimp only at hx; omega) (by omega)
  have h2 := nodeM o r (by omega) (by dsimp only at hx; omega)
  cases f with
  | true =>
    rw [show joinS ⟨r, true⟩ o = nodeH r o from rfl]
    refine meets_of_gx Ax tab_ok Tryd.func60 (c := _) rfl Tryd.call60 400 ?_
    (repeat' ((conv => whnf); first | (exfalso; omega) | (refine callx_pure (h1) rfl rfl ?_) | (refine dcallx_pure (h1) rfl rfl ?_) | (refine end_fn [] (.inr rfl) ?_ trivial rfl rfl) | (refine split_nd (fun hb => ?_) (fun hb => ?_)) | (refine split_d (fun hb => ?_) (fun hb => ?_)) | (refine split_n (fun hb => ?_) (fun hb => ?_)) | (refine split_x (fun hb => ?_) (fun hb => ?_)) | (refine And.intro (TraceOK.mk (by kernel_rfl)) ?_) | (refine Side.mk ?_; (repeat' (first | refine And.intro ?_ ?_ | exact inR_i64 (by omega) (by omega) | omega | rfl | exact trivial | exact none_ne rfl | exact some_ne rfl (Nat.ne_of_beq_eq_false rfl) | exact Nat.ne_of_beq_eq_false rfl | (dsimp only [srcSide]; omega) | (simp; done) | (simp; omega))); done) | (refine side_and ?_ ?_) | (refine drawX_of mixed ?_)))
    all_goals (repeat' (first | refine EndV.mk ?_ | exact trivial | exact rfl | refine And.intro ?_ ?_))
  | false =>
    rw [show joinS ⟨r, false⟩ o = nodeH o r from rfl]
    refine meets_of_gx Ax tab_ok Tryd.func60 (c := _) rfl Tryd.call60 400 ?_
    (repeat' ((conv => whnf); first | (exfalso; omega) | (refine callx_pure (h2) rfl rfl ?_) | (refine dcallx_pure (h2) rfl rfl ?_) | (refine end_fn [] (.inr rfl) ?_ trivial rfl rfl) | (refine split_nd (fun hb => ?_) (fun hb => ?_)) | (refine split_d (fun hb => ?_) (fun hb => ?_)) | (refine split_n (fun hb => ?_) (fun hb => ?_)) | (refine split_x (fun hb => ?_) (fun hb => ?_)) | (refine And.intro (TraceOK.mk (by kernel_rfl)) ?_) | (refine Side.mk ?_; (repeat' (first | refine And.intro ?_ ?_ | exact inR_i64 (by omega) (by omega) | omega | rfl | exact trivial | exact none_ne rfl | exact some_ne rfl (Nat.ne_of_beq_eq_false rfl) | exact Nat.ne_of_beq_eq_false rfl | (dsimp only [srcSide]; omega) | (simp; done) | (simp; omega))); done) | (refine side_and ?_ ?_) | (refine drawX_of mixed ?_)))
    all_goals (repeat' (first | refine EndV.mk ?_ | exact trivial | exact rfl | refine And.intro ?_ ?_))
theorem joinW_snoc (way : List DSide) (x : DSide) (o : Bs) : joinW (way ++ [x]) o = joinW way (joinS x o) := by simp [joinW]
theorem take_nil : Meets Tryd.prog Dc 58 [.p (.dsl U.str [])] [] (.tuple [.p (.str []), .p (.dsl U.str []), .p (.bool false)]) [] := take_meets [] (by simp)
theorem take_cons (x : Bs) (q : List Bs) (h : q.length < 1000) : Meets Tryd.prog Dc 58 [.p (.dsl U.str (x :: q).reverse)] [] (.tuple [.p (.str x), .p (.dsl U.str q.reverse), .p (.bool true)]) [] := by
  have := take_meets (x :: q).reverse (by simp; omega)
  unfold takeR at this
  rw [show (x :: q).reverse.getD ((x :: q).reverse.length - 1) [] = x by simp [List.getD_eq_getElem?_getD], show (x :: q).reverse.take ((x :: q).reverse.length - 1) = q.reverse by simp, show (!decide ((x :: q).reverse.length = 0)) = true by simp] at this
  exact this
structure VG where
  q : List Bs
  n : Nat
  i : Nat
  way : List DSide
structure VOK (s root : Bs) (tgt : Bool) (g : VG) : Prop where
  eq : ((valR s g.q g.n g.i).2 && (joinW g.way (valR s g.q g.n g.i).1 == root)) = tgt
  n1 : 1 ≤ g.n
  n2 : g.n < 9223372036854775808
  i1 : g.i < g.n
  ql : g.way.length + g.q.length ≤ 1000
  qs : Short g.q
  ws : ∀ x ∈ g.way, x.root.length ≤ 100
theorem valR_lt (s x : Bs) (q : List Bs) (n i : Nat) (h1 : n ≠ 1) (h : i < leftN n) : valR s (x :: q) n i = (nodeH (valR s q (leftN n) i).1 x, (valR s q (leftN n) i).2) := by rw [valR, if_neg h1, if_pos h]
theorem valR_ge (s x : Bs) (q : List Bs) (n i : Nat) (h1 : n ≠ 1) (h : ¬ i < leftN n) : valR s (x :: q) n i = (nodeH x (valR s q (n - leftN n) (i - leftN n)).1, (valR s q (n - leftN n) (i - leftN n)).2) := by rw [valR, if_neg h1, if_neg h]
theorem verify_meets (root : Bs) (n i : Int) (hn : n < 9223372036854775808) (hi : -9223372036854775808 ≤ i) (s : Bs) (hs : s.length ≤ 100) (p : List Bs) (hp : p.length ≤ 1000) (hS : Short p) :
    Meets Tryd.prog Dc 23 [.p (.str root), .p (.int .i64 n), .p (.int .i64 i), .p (.str s), .p (.dsl U.str p)] [] (.p (.bool (verB root n i s p))) [] := by
  have hdg := all_meets p hp
  by_cases h0 : i < 0
  · rw [show verB root n i s p = false by unfold verB; rw [decide_eq_true h0]; rfl]
    refine meets_of_gx Ax tab_ok Tryd.func23 (c := _) rfl Tryd.call23 400 ?_
    (repeat' ((conv => whnf); first | (exfalso; omega) | (refine callx_pure (hdg) rfl rfl ?_) | (refine dcallx_pure (hdg) rfl rfl ?_) | (refine end_fn [] (.inr rfl) ?_ trivial rfl rfl) | (refine split_nd (fun hb => ?_) (fun hb => ?_)) | (refine split_d (fun hb => ?_) (fun hb => ?_)) | (refine split_n (fun hb => ?_) (fun hb => ?_)) | (refine split_x (fun hb => ?_) (fun hb => ?_)) | (refine And.intro (TraceOK.mk (by kernel_rfl)) ?_) | (refine Side.mk ?_; (repeat' (first | refine And.intro ?_ ?_ | exact inR_i64 (by omega) (by omega) | omega | rfl | exact trivial | exact none_ne rfl | exact some_ne rfl (Nat.ne_of_beq_eq_false rfl) | exact Nat.ne_of_beq_eq_false rfl | (dsimp only [srcSide]; omega) | (simp; done) | (simp; omega))); done) | (refine side_and ?_ ?_) | (refine drawX_of mixed ?_)))
    all_goals (repeat' (first | refine EndV.mk ?_ | exact trivial | exact rfl | refine And.intro ?_ ?_))
  by_cases h1 : n ≤ i
  · rw [show verB root n i s p = false by unfold verB; rw [decide_eq_true (p := i ≥ n) h1]; simp]
    refine meets_of_gx Ax tab_ok Tryd.func23 (c := _) rfl Tryd.call23 400 ?_
    (repeat' ((conv => whnf); first | (exfalso; omega) | (refine callx_pure (hdg) rfl rfl ?_) | (refine dcallx_pure (hdg) rfl rfl ?_) | (refine end_fn [] (.inr rfl) ?_ trivial rfl rfl) | (refine split_nd (fun hb => ?_) (fun hb => ?_)) | (refine split_d (fun hb => ?_) (fun hb => ?_)) | (refine split_n (fun hb => ?_) (fun hb => ?_)) | (refine split_x (fun hb => ?_) (fun hb => ?_)) | (refine And.intro (TraceOK.mk (by kernel_rfl)) ?_) | (refine Side.mk ?_; (repeat' (first | refine And.intro ?_ ?_ | exact inR_i64 (by omega) (by omega) | omega | rfl | exact trivial | exact none_ne rfl | exact some_ne rfl (Nat.ne_of_beq_eq_false rfl) | exact Nat.ne_of_beq_eq_false rfl | (dsimp only [srcSide]; omega) | (simp; done) | (simp; omega))); done) | (refine side_and ?_ ?_) | (refine drawX_of mixed ?_)))
    all_goals (repeat' (first | refine EndV.mk ?_ | exact trivial | exact rfl | refine And.intro ?_ ?_))
  by_cases hd : digestsB p = true
  · rw [hd] at hdg
    obtain ⟨n, rfl⟩ : ∃ m : Nat, n = m := ⟨n.toNat, by omega⟩
    obtain ⟨i, rfl⟩ : ∃ m : Nat, i = m := ⟨i.toNat, by omega⟩
    rw [show verB root n i s p = ((valR s p.reverse n i).2 && ((valR s p.reverse n i).1 == root)) by unfold verB; rw [decide_eq_false h0, decide_eq_false (p := (i : Int) ≥ n) (by omega), hd]; simp]
    refine meets_of_gx Ax tab_ok Tryd.func23 (c := _) rfl Tryd.call23 600 ?_
    (repeat' ((conv => whnf); first | (exfalso; omega) | (refine callx_pure (hdg) rfl rfl ?_) | (refine dcallx_pure (hdg) rfl rfl ?_) | (refine end_fn [] (.inr rfl) ?_ trivial rfl rfl) | (refine split_nd (fun hb => ?_) (fun hb => ?_)) | (refine split_d (fun hb => ?_) (fun hb => ?_)) | (refine split_n (fun hb => ?_) (fun hb => ?_)) | (refine split_x (fun hb => ?_) (fun hb => ?_)) | (refine And.intro (TraceOK.mk (by kernel_rfl)) ?_) | (refine Side.mk ?_; (repeat' (first | refine And.intro ?_ ?_ | exact inR_i64 (by omega) (by omega) | omega | rfl | exact trivial | exact none_ne rfl | exact some_ne rfl (Nat.ne_of_beq_eq_false rfl) | exact Nat.ne_of_beq_eq_false rfl | (dsimp only [srcSide]; omega) | (simp; done) | (simp; omega))); done) | (refine side_and ?_ ?_) | (refine drawX_of mixed ?_)))
    have hlf := leafM s (by omega)
    refine loop_inv (fun g : VG => [(1, .p (.int .i64 g.n)), (2, .p (.int .i64 g.i)), (4, .p (.dsl U.str g.q.reverse)), (11, .slice 0 0 2 0 g.way.length)]) (fun g => [.rows U.side g.way]) (VOK s root ((valR s p.reverse n i).2 && ((valR s p.reverse n i).1 == root))) (fun g => g.q.length) ⟨p.reverse, n, i, []⟩ ⟨rfl, by dsimp only; omega, by dsimp only; omega, by dsimp only; omega, by simpa using hp, fun s hs => hS s (by simpa using hs), fun x hx => by simp at hx⟩ [none] ⟨by (dsimp only; rw [List.reverse_reverse]; (repeat' (first | refine EndV.mk ?_ | exact trivial | exact rfl | refine And.intro ?_ ?_))), by (repeat' (first | refine EndV.mk ?_ | exact trivial | exact rfl | refine And.intro ?_ ?_)) <;> exact ⟨_, rfl⟩, rfl, rfl⟩ ?_
    rintro ⟨q, n', i', way⟩ ⟨g1, g2, g3, g4, g5, g6, g7⟩ K hK
    dsimp only at g1 g2 g3 g4 g5 g6 g7 hK ⊢
    generalize ((valR s p.reverse n i).2 && ((valR s p.reverse n i).1 == root)) = tgt at *
    have hus : 0 + 2 = Cd.n U.side := rfl
    by_cases hn1 : n' = 1
    · clear hK
      subst hn1
      have hll := leafH_length s
      have hqb : (valR s q 1 i').2 = decide ((q.reverse.length : Int) = 0) := by
        rcases q with _ | ⟨y, q⟩
        · simp [valR]
        · simp [valR]; omega
      have hqv : (valR s q 1 i').1 = leafH s := by
        rcases q with _ | ⟨y, q⟩ <;> simp [valR]
      rw [hqb, hqv] at g1
      rw [← g1]
      have hqr : q.reverse.length ≤ 1000 := by simp; omega
      generalize leafH s = lf at *
      generalize q.reverse = P at *
      (repeat' ((conv => whnf); first | (exfalso; omega) | (refine callx_pure (hlf) rfl rfl ?_) | (refine dcallx_pure (hlf) rfl rfl ?_) | (refine call_in Ax tab_ok Tryd.func59 (c := _) rfl Tryd.call59 200 ?_) | (refine range_in Ax tab_ok rfl Tryd.func95 (c := _) rfl Tryd.call95 rfl rfl 400 ?_) | (refine end_fn [] (.inr rfl) ?_ trivial rfl rfl) | (refine split_nd (fun hb => ?_) (fun hb => ?_)) | (refine split_d (fun hb => ?_) (fun hb => ?_)) | (refine split_n (fun hb => ?_) (fun hb => ?_)) | (refine split_x (fun hb => ?_) (fun hb => ?_)) | (refine And.intro (TraceOK.mk (by kernel_rfl)) ?_) | (refine Side.mk ?_; (repeat' (first | refine And.intro ?_ ?_ | exact inR_i64 (by omega) (by omega) | omega | rfl | exact trivial | exact none_ne rfl | exact some_ne rfl (Nat.ne_of_beq_eq_false rfl) | exact Nat.ne_of_beq_eq_false rfl | (dsimp only [srcSide]; omega) | (simp; done) | (simp; omega))); done) | (refine side_and ?_ ?_) | (refine drawX_of mixed ?_)))
      intro gn tmps bd
      (repeat' ((conv => whnf); first | (refine end_fn [] (.inr rfl) ?_ trivial rfl rfl) | (refine split_nd (fun hb => ?_) (fun hb => ?_)) | (refine split_d (fun hb => ?_) (fun hb => ?_)) | (refine split_n (fun hb => ?_) (fun hb => ?_)) | (refine split_x (fun hb => ?_) (fun hb => ?_)) | (refine And.intro (TraceOK.mk (by kernel_rfl)) ?_) | (refine Side.mk ?_; (repeat' (first | refine And.intro ?_ ?_ | exact inR_i64 (by omega) (by omega) | omega | rfl | exact trivial | exact none_ne rfl | exact some_ne rfl (Nat.ne_of_beq_eq_false rfl) | exact Nat.ne_of_beq_eq_false rfl | (dsimp only [srcSide]; omega) | (simp; done) | (simp; omega))); done) | (refine side_and ?_ ?_) | (refine drawX_of mixed ?_)))
      refine loop_up (fun j : Nat => [(3, .p (.int .i64 (jS (way.length : Int) j)))]) (fun j => [(1, .var [.p (.str (joinW (way.drop (way.length - j)) lf))])]) (fun j => j ≤ way.length) (fun j => way.length - j) 0 (Nat.zero_le _) ⟨by (repeat' (first | refine EndV.mk ?_ | exact trivial | exact rfl | refine And.intro ?_ ?_)), by (rw [show way.drop (way.length - 0) = [] by simp]; (repeat' (first | refine EndV.mk ?_ | exact trivial | exact rfl | refine And.intro ?_ ?_))), rfl, rfl⟩ ?_
      intro j hj K hK
      have hjs : jS (way.length : Int) j = (way.length : Int) - 1 - j := jS_eq _ j
      have hjs1 : jS (way.length : Int) (j + 1) = jS (way.length : Int) j - 1 := rfl
      generalize jS (way.length : Int) j = jj at *
      rcases Nat.lt_or_ge j way.length with hlt | hge
      · have w2 : way.getD (0 + jj.toNat) (Cd.dflt U.side) = way.getD (way.length - 1 - j) ⟨[], false⟩ := by
          rw [show 0 + jj.toNat = way.length - 1 - j by omega]; rfl
        have hr100 : (way.getD (way.length - 1 - j) ⟨[], false⟩).root.length ≤ 100 := by
          rw [List.getD_eq_getElem?_getD, List.getElem?_eq_getElem (by omega)]; exact g7 _ (List.getElem_mem _)
        have hf1 : joinW (way.drop (way.length - (j + 1))) lf = joinS (way.getD (way.length - 1 - j) ⟨[], false⟩) (joinW (way.drop (way.length - j)) lf) := by
          rw [show way.length - (j + 1) = way.length - 1 - j by omega, List.drop_eq_getElem_cons (by omega), show way.length - 1 - j + 1 = way.length - j by omega, List.getD_eq_getElem?_getD, List.getElem?_eq_getElem (by omega)]
          rfl
        have hfl : (joinW (way.drop (way.length - j)) lf).length = 32 := by
          cases hdr : way.drop (way.length - j) with
          | nil => exact hll
          | cons y l => exact joinS_length _ _
        generalize way.getD (way.length - 1 - j) ⟨[], false⟩ = r at *
        generalize joinW (way.drop (way.length - j)) lf = o at *
        have hno := join_meets r o hr100 (by omega)
        (repeat' ((conv => whnf); first | (exfalso; omega) | (rw [w2]) | (refine yield_in Ax tab_ok rfl rfl rfl 200 200 ?_) | (refine callx_pure (hno) rfl rfl ?_) | (refine dcallx_pure (hno) rfl rfl ?_) | (refine hK (j + 1) ([some 0, some 1, some 2, some 3]) _ _ ?_ ?_ ?_) | (refine end_fn [] (.inr rfl) ?_ trivial rfl rfl) | (refine split_nd (fun hb => ?_) (fun hb => ?_)) | (refine split_d (fun hb => ?_) (fun hb => ?_)) | (refine split_n (fun hb => ?_) (fun hb => ?_)) | (refine split_x (fun hb => ?_) (fun hb => ?_)) | (refine And.intro (TraceOK.mk (by kernel_rfl)) ?_) | (refine Side.mk ?_; (repeat' (first | refine And.intro ?_ ?_ | exact inR_i64 (by omega) (by omega) | omega | rfl | exact trivial | exact none_ne rfl | exact some_ne rfl (Nat.ne_of_beq_eq_false rfl) | exact Nat.ne_of_beq_eq_false rfl | (dsimp only [srcSide]; omega) | (simp; done) | (simp; omega))); done) | (refine side_and ?_ ?_) | (refine drawX_of mixed ?_)))
        dsimp only
        rw [hf1, hjs1]
        (refine Back.mk ?_ ?_ rfl rfl <;> (repeat' (first | refine EndV.mk ?_ | exact trivial | exact rfl | refine And.intro ?_ ?_)))
      · rw [show way.drop (way.length - j) = way by rw [show way.length - j = 0 by omega]; rfl]
        clear hK
        generalize joinW way lf = res at *
        rw [show (decide ((P.length : Int) = 0) && (res == root)) = (decide ((P.length : Int) = 0) && decide (res = root)) from Bool.eq_iff_iff.2 (by simp)]
        by_cases hp0 : (P.length : Int) = 0
        · rw [decide_eq_true hp0]
          (repeat' ((conv => whnf); first | (exfalso; omega) | (refine end_fn [] (.inr rfl) ?_ trivial rfl rfl) | (refine split_nd (fun hb => ?_) (fun hb => ?_)) | (refine split_d (fun hb => ?_) (fun hb => ?_)) | (refine split_n (fun hb => ?_) (fun hb => ?_)) | (refine split_x (fun hb => ?_) (fun hb => ?_)) | (refine And.intro (TraceOK.mk (by kernel_rfl)) ?_) | (refine Side.mk ?_; (repeat' (first | refine And.intro ?_ ?_ | exact inR_i64 (by omega) (by omega) | omega | rfl | exact trivial | exact none_ne rfl | exact some_ne rfl (Nat.ne_of_beq_eq_false rfl) | exact Nat.ne_of_beq_eq_false rfl | (dsimp only [srcSide]; omega) | (simp; done) | (simp; omega))); done) | (refine side_and ?_ ?_) | (refine drawX_of mixed ?_)))
          all_goals (repeat' (first | refine EndV.mk ?_ | exact trivial | exact rfl | refine And.intro ?_ ?_))
        · rw [decide_eq_false hp0]
          (repeat' ((conv => whnf); first | (exfalso; omega) | (refine end_fn [] (.inr rfl) ?_ trivial rfl rfl) | (refine split_nd (fun hb => ?_) (fun hb => ?_)) | (refine split_d (fun hb => ?_) (fun hb => ?_)) | (refine split_n (fun hb => ?_) (fun hb => ?_)) | (refine split_x (fun hb => ?_) (fun hb => ?_)) | (refine And.intro (TraceOK.mk (by kernel_rfl)) ?_) | (refine Side.mk ?_; (repeat' (first | refine And.intro ?_ ?_ | exact inR_i64 (by omega) (by omega) | omega | rfl | exact trivial | exact none_ne rfl | exact some_ne rfl (Nat.ne_of_beq_eq_false rfl) | exact Nat.ne_of_beq_eq_false rfl | (dsimp only [srcSide]; omega) | (simp; done) | (simp; omega))); done) | (refine side_and ?_ ?_) | (refine drawX_of mixed ?_)))
          all_goals (repeat' (first | refine EndV.mk ?_ | exact trivial | exact rfl | refine And.intro ?_ ?_))
    · rcases q with _ | ⟨x, q⟩
      · clear hK
        have htk := take_nil
        rw [← g1, show valR s [] n' i' = ([], false) by unfold valR; rw [if_neg hn1]]
        (repeat' ((conv => whnf); first | (exfalso; omega) | (refine callx_pure (htk) rfl rfl ?_) | (refine dcallx_pure (htk) rfl rfl ?_) | (refine end_fn [] (.inr rfl) ?_ trivial rfl rfl) | (refine split_nd (fun hb => ?_) (fun hb => ?_)) | (refine split_d (fun hb => ?_) (fun hb => ?_)) | (refine split_n (fun hb => ?_) (fun hb => ?_)) | (refine split_x (fun hb => ?_) (fun hb => ?_)) | (refine And.intro (TraceOK.mk (by kernel_rfl)) ?_) | (refine Side.mk ?_; (repeat' (first | refine And.intro ?_ ?_ | exact inR_i64 (by omega) (by omega) | omega | rfl | exact trivial | exact none_ne rfl | exact some_ne rfl (Nat.ne_of_beq_eq_false rfl) | exact Nat.ne_of_beq_eq_false rfl | (dsimp only [srcSide]; omega) | (simp; done) | (simp; omega))); done) | (refine side_and ?_ ?_) | (refine drawX_of mixed ?_)))
        all_goals (repeat' (first | refine EndV.mk ?_ | exact trivial | exact rfl | refine And.intro ?_ ?_))
      · have htk := take_cons x q (by simp only [List.length_cons] at g5; omega)
        have hsp := leftN_spec (n := n') (by omega)
        have hleft := left_meets n' (by omega) (by omega)
        have hx100 : x.length ≤ 100 := g6 x (by simp)
        have hSq : Short q := fun s hs => g6 s (by simp [hs])
        simp only [List.length_cons] at g5
        by_cases hik : i' < leftN n'
        · rw [valR_lt s x q n' i' hn1 hik] at g1
          obtain ⟨k, hk⟩ : ∃ k, leftN n' = k := ⟨_, rfl⟩
          rw [hk] at hsp hleft hik g1
          have hsd : Side (VOK s root tgt ⟨q, k, i', way ++ [⟨x, false⟩]⟩) := ⟨⟨by dsimp only; rw [joinW_snoc]; exact g1, hsp.1, by dsimp only; omega, hik, by simp; omega, hSq, fun y hy => by rcases List.mem_append.1 hy with h | h; exact g7 y h; (rw [List.mem_singleton.1 h]; exact hx100)⟩⟩
          have hdec : decide ((k : Int) ≤ (i' : Int)) = false := decide_eq_false (by omega)
          have es : List.take way.length way ++ List.take 1 (List.drop 0 [(⟨x, decide ((k : Int) ≤ (i' : Int))⟩ : DSide)]) = way ++ [⟨x, false⟩] := by rw [List.take_length, hdec]; rfl
          (repeat' ((conv => whnf); first | (exfalso; omega) | (refine callx_pure (htk) rfl rfl ?_) | (refine dcallx_pure (htk) rfl rfl ?_) | (refine callx_pure (hleft) rfl rfl ?_) | (refine dcallx_pure (hleft) rfl rfl ?_) | (refine hK ⟨q, k, i', way ++ [⟨x, false⟩]⟩ [some 2] _ _ hsd ⟨Nat.lt_succ_self _⟩ ?_) | (refine end_fn [] (.inr rfl) ?_ trivial rfl rfl) | (refine split_nd (fun hb => ?_) (fun hb => ?_)) | (refine split_d (fun hb => ?_) (fun hb => ?_)) | (refine split_n (fun hb => ?_) (fun hb => ?_)) | (refine split_x (fun hb => ?_) (fun hb => ?_)) | (refine And.intro (TraceOK.mk (by kernel_rfl)) ?_) | (refine Side.mk ?_; (repeat' (first | refine And.intro ?_ ?_ | exact inR_i64 (by omega) (by omega) | omega | rfl | exact trivial | exact none_ne rfl | exact some_ne rfl (Nat.ne_of_beq_eq_false rfl) | exact Nat.ne_of_beq_eq_false rfl | (dsimp only [srcSide]; omega) | (simp; done) | (simp; omega))); done) | (refine side_and ?_ ?_) | (refine drawX_of mixed ?_)))
          rw [es]
          dsimp only
          (refine Back.mk ?_ ?_ rfl rfl <;> (repeat' (first | refine EndV.mk ?_ | exact trivial | exact rfl | refine And.intro ?_ ?_)))
        · rw [valR_ge s x q n' i' hn1 hik] at g1
          obtain ⟨k, hk⟩ : ∃ k, leftN n' = k := ⟨_, rfl⟩
          rw [hk] at hsp hleft hik g1
          have hsd : Side (VOK s root tgt ⟨q, n' - k, i' - k, way ++ [⟨x, true⟩]⟩) := ⟨⟨by dsimp only; rw [joinW_snoc]; exact g1, by dsimp only; omega, by dsimp only; omega, by dsimp only; omega, by simp; omega, hSq, fun y hy => by rcases List.mem_append.1 hy with h | h; exact g7 y h; (rw [List.mem_singleton.1 h]; exact hx100)⟩⟩
          have hdec : decide ((k : Int) ≤ (i' : Int)) = true := decide_eq_true (by omega)
          have es : List.take way.length way ++ List.take 1 (List.drop 0 [(⟨x, decide ((k : Int) ≤ (i' : Int))⟩ : DSide)]) = way ++ [⟨x, true⟩] := by rw [List.take_length, hdec]; rfl
          have en : (n' : Int) - k = ((n' - k : Nat) : Int) := by omega
          have ei : (i' : Int) - k = ((i' - k : Nat) : Int) := by omega
          (repeat' ((conv => whnf); first | (exfalso; omega) | (refine callx_pure (htk) rfl rfl ?_) | (refine dcallx_pure (htk) rfl rfl ?_) | (refine callx_pure (hleft) rfl rfl ?_) | (refine dcallx_pure (hleft) rfl rfl ?_) | (refine hK ⟨q, n' - k, i' - k, way ++ [⟨x, true⟩]⟩ [some 2] _ _ hsd ⟨Nat.lt_succ_self _⟩ ?_) | (refine end_fn [] (.inr rfl) ?_ trivial rfl rfl) | (refine split_nd (fun hb => ?_) (fun hb => ?_)) | (refine split_d (fun hb => ?_) (fun hb => ?_)) | (refine split_n (fun hb => ?_) (fun hb => ?_)) | (refine split_x (fun hb => ?_) (fun hb => ?_)) | (refine And.intro (TraceOK.mk (by kernel_rfl)) ?_) | (refine Side.mk ?_; (repeat' (first | refine And.intro ?_ ?_ | exact inR_i64 (by omega) (by omega) | omega | rfl | exact trivial | exact none_ne rfl | exact some_ne rfl (Nat.ne_of_beq_eq_false rfl) | exact Nat.ne_of_beq_eq_false rfl | (dsimp only [srcSide]; omega) | (simp; done) | (simp; omega))); done) | (refine side_and ?_ ?_) | (refine drawX_of mixed ?_)))
          rw [es, en, ei]
          dsimp only
          (refine Back.mk ?_ ?_ rfl rfl <;> (repeat' (first | refine EndV.mk ?_ | exact trivial | exact rfl | refine And.intro ?_ ?_)))
  · rw [Bool.not_eq_true] at hd
    rw [hd] at hdg
    rw [show verB root n i s p = false by unfold verB; rw [hd]; simp]
    refine meets_of_gx Ax tab_ok Tryd.func23 (c := _) rfl Tryd.call23 400 ?_
    (repeat' ((conv => whnf); first | (exfalso; omega) | (refine callx_pure (hdg) rfl rfl ?_) | (refine dcallx_pure (hdg) rfl rfl ?_) | (refine end_fn [] (.inr rfl) ?_ trivial rfl rfl) | (refine split_nd (fun hb => ?_) (fun hb => ?_)) | (refine split_d (fun hb => ?_) (fun hb => ?_)) | (refine split_n (fun hb => ?_) (fun hb => ?_)) | (refine split_x (fun hb => ?_) (fun hb => ?_)) | (refine And.intro (TraceOK.mk (by kernel_rfl)) ?_) | (refine Side.mk ?_; (repeat' (first | refine And.intro ?_ ?_ | exact inR_i64 (by omega) (by omega) | omega | rfl | exact trivial | exact none_ne rfl | exact some_ne rfl (Nat.ne_of_beq_eq_false rfl) | exact Nat.ne_of_beq_eq_false rfl | (dsimp only [srcSide]; omega) | (simp; done) | (simp; omega))); done) | (refine side_and ?_ ?_) | (refine drawX_of mixed ?_)))
    all_goals (repeat' (first | refine EndV.mk ?_ | exact trivial | exact rfl | refine And.intro ?_ ?_))
end Go.SX

namespace Go.SX
open Go.Proofs
set_option linter.unusedSimpArgs false
set_option linter.unusedVariables false
set_option maxHeartbeats 4000000
set_option maxRecDepth 100000
theorem valR_length (s : Bs) : ∀ (q : List Bs) (n i : Nat), (valR s q n i).1.length ≤ 32
  | [], n, i => by unfold valR; split <;> simp [leafH_length]
  | x :: q, n, i => by
    unfold valR
    split
    · simp [leafH_length]
    · split <;> simp [nodeH_length]
theorem refSame_meets (a b : List Bs) (ha : a.length ≤ 1000) : Meets Tryd.prog Dc 20 [.p (.dsl U.str a), .p (.dsl U.str b)] [] (.p (.bool (decide (a = b)))) [] := by
  by_cases hlen : a.length = b.length
  · refine meets_of_gx Ax tab_ok Tryd.func20 (c := _) rfl Tryd.call20 400 ?_
    (repeat' ((conv => whnf); first | (exfalso; omega) | (refine end_fn [] (.inr rfl) ?_ trivial rfl rfl) | (refine split_nd (fun hb => ?_) (fun hb => ?_)) | (refine split_d (fun hb => ?_) (fun hb => ?_)) | (refine split_n (fun hb => ?_) (fun hb => ?_)) | (refine split_x (fun hb => ?_) (fun hb => ?_)) | (refine And.intro (TraceOK.mk (by kernel_rfl)) ?_) | (refine Side.mk ?_; (repeat' (first | refine And.intro ?_ ?_ | exact inR_i64 (by omega) (by omega) | omega | rfl | exact trivial | exact none_ne rfl | exact some_ne rfl (Nat.ne_of_beq_eq_false rfl) | exact Nat.ne_of_beq_eq_false rfl | (dsimp only [srcSide]; omega) | (simp; done) | (simp; omega))); done) | (refine side_and ?_ ?_) | (refine drawX_of mixed ?_)))
    refine loop_up (fun i : Nat => [(5, .p (.int .i64 i))]) (fun _ => []) (fun i => i ≤ a.length ∧ ∀ j, j < i → a.getD j [] = b.getD j []) (fun i => a.length - i) 0 ⟨Nat.zero_le _, fun j hj => by omega⟩ ⟨by (repeat' (first | refine EndV.mk ?_ | exact trivial | exact rfl | refine And.intro ?_ ?_)), by (repeat' (first | refine EndV.mk ?_ | exact trivial | exact rfl | refine And.intro ?_ ?_)), rfl, rfl⟩ ?_
    rintro i ⟨hi, hall⟩ K hK
    have hd : ∀ l : List Bs, l.getD (i : Int).toNat (Cd.dflt U.str) = l.getD i [] := fun l => rfl
    rcases Nat.lt_or_ge i a.length with hlt | hge
    · by_cases h32 : a.getD i [] = b.getD i []
      · have hsd : Side (i + 1 ≤ a.length ∧ ∀ j, j < i + 1 → a.getD j [] = b.getD j []) := ⟨⟨hlt, fun j hj => by rcases Nat.lt_or_ge j i with h | h; exact hall j h; rw [show j = i by omega]; exact h32⟩⟩
        (repeat' ((conv => whnf); first | (exfalso; omega) | (exfalso; rw [hd, hd] at hb; exact hb h32) | (refine hK (i + 1) [] _ _ hsd ?_ ?_) | (refine Back.mk ?_ ?_ rfl rfl <;> (repeat' (first | refine EndV.mk ?_ | exact trivial | exact rfl | refine And.intro ?_ ?_))) | (refine end_fn [] (.inr rfl) ?_ trivial rfl rfl) | (refine split_nd (fun hb => ?_) (fun hb => ?_)) | (refine split_d (fun hb => ?_) (fun hb => ?_)) | (refine split_n (fun hb => ?_) (fun hb => ?_)) | (refine split_x (fun hb => ?_) (fun hb => ?_)) | (refine And.intro (TraceOK.mk (by kernel_rfl)) ?_) | (refine Side.mk ?_; (repeat' (first | refine And.intro ?_ ?_ | exact inR_i64 (by omega) (by omega) | omega | rfl | exact trivial | exact none_ne rfl | exact some_ne rfl (Nat.ne_of_beq_eq_false rfl) | exact Nat.ne_of_beq_eq_false rfl | (dsimp only [srcSide]; omega) | (simp; done) | (simp; omega))); done) | (refine side_and ?_ ?_) | (refine drawX_of mixed ?_)))
      · rw [decide_eq_false (p := a = b) fun e => h32 (by rw [e])]
        clear hK
        (repeat' ((conv => whnf); first | (exfalso; omega) | (exfalso; rw [hd, hd] at hb; exact h32 hb) | (refine end_fn [] (.inr rfl) ?_ trivial rfl rfl) | (refine split_nd (fun hb => ?_) (fun hb => ?_)) | (refine split_d (fun hb => ?_) (fun hb => ?_)) | (refine split_n (fun hb => ?_) (fun hb => ?_)) | (refine split_x (fun hb => ?_) (fun hb => ?_)) | (refine And.intro (TraceOK.mk (by kernel_rfl)) ?_) | (refine Side.mk ?_; (repeat' (first | refine And.intro ?_ ?_ | exact inR_i64 (by omega) (by omega) | omega | rfl | exact trivial | exact none_ne rfl | exact some_ne rfl (Nat.ne_of_beq_eq_false rfl) | exact Nat.ne_of_beq_eq_false rfl | (dsimp only [srcSide]; omega) | (simp; done) | (simp; omega))); done) | (refine side_and ?_ ?_) | (refine drawX_of mixed ?_)))
        all_goals (repeat' (first | refine EndV.mk ?_ | exact trivial | exact rfl | refine And.intro ?_ ?_))
    · rw [decide_eq_true (p := a = b) (by
        refine List.ext_getElem hlen fun j h1 h2 => ?_
        have := hall j (by omega)
        rwa [List.getD_eq_getElem?_getD, List.getD_eq_getElem?_getD, List.getElem?_eq_getElem h1, List.getElem?_eq_getElem h2] at this)]
      clear hK
      (repeat' ((conv => whnf); first | (exfalso; omega) | (refine end_fn [] (.inr rfl) ?_ trivial rfl rfl) | (refine split_nd (fun hb => ?_) (fun hb => ?_)) | (refine split_d (fun hb => ?_) (fun hb => ?_)) | (refine split_n (fun hb => ?_) (fun hb => ?_)) | (refine split_x (fun hb => ?_) (fun hb => ?_)) | (refine And.intro (TraceOK.mk (by kernel_rfl)) ?_) | (refine Side.mk ?_; (repeat' (first | refine And.intro ?_ ?_ | exact inR_i64 (by omega) (by omega) | omega | rfl | exact trivial | exact none_ne rfl | exact some_ne rfl (Nat.ne_of_beq_eq_false rfl) | exact Nat.ne_of_beq_eq_false rfl | (dsimp only [srcSide]; omega) | (simp; done) | (simp; omega))); done) | (refine side_and ?_ ?_) | (refine drawX_of mixed ?_)))
      all_goals (repeat' (first | refine EndV.mk ?_ | exact trivial | exact rfl | refine And.intro ?_ ?_))
  · rw [decide_eq_false (p := a = b) fun e => hlen (by rw [e])]
    refine meets_of_gx Ax tab_ok Tryd.func20 (c := _) rfl Tryd.call20 400 ?_
    (repeat' ((conv => whnf); first | (exfalso; omega) | (refine end_fn [] (.inr rfl) ?_ trivial rfl rfl) | (refine split_nd (fun hb => ?_) (fun hb => ?_)) | (refine split_d (fun hb => ?_) (fun hb => ?_)) | (refine split_n (fun hb => ?_) (fun hb => ?_)) | (refine split_x (fun hb => ?_) (fun hb => ?_)) | (refine And.intro (TraceOK.mk (by kernel_rfl)) ?_) | (refine Side.mk ?_; (repeat' (first | refine And.intro ?_ ?_ | exact inR_i64 (by omega) (by omega) | omega | rfl | exact trivial | exact none_ne rfl | exact some_ne rfl (Nat.ne_of_beq_eq_false rfl) | exact Nat.ne_of_beq_eq_false rfl | (dsimp only [srcSide]; omega) | (simp; done) | (simp; omega))); done) | (refine side_and ?_ ?_) | (refine drawX_of mixed ?_)))
    all_goals (repeat' (first | refine EndV.mk ?_ | exact trivial | exact rfl | refine And.intro ?_ ?_))
theorem refValue_meets (s : Bs) (hs : s.length ≤ 100) : ∀ (q : List Bs) (n i : Nat), 1 ≤ n → n < 9223372036854775808 → i < n → q.length ≤ 1000 → Short q → Meets Tryd.prog Dc 62 [.p (.int .i64 (n : Int)), .p (.int .i64 (i : Int)), .p (.str s), .p (.dsl U.str q.reverse)] [] (.tuple [.p (.str (valR s q n i).1), .p (.bool (valR s q n i).2)]) [] := by
  intro q
  have hle := refLeafH s (by omega)
  induction q with
  | nil =>
    intro n i h1 hn hi hq hS
    by_cases h1' : n = 1
    · subst h1'
      rw [show valR s [] 1 i = (leafH s, true) from rfl]
      refine meets_of_gx Ax tab_ok Tryd.func62 (c := _) rfl Tryd.call62 400 ?_
      (repeat' ((conv => whnf); first | (exfalso; omega) | (refine callx_pure (hle) rfl rfl ?_) | (refine dcallx_pure (hle) rfl rfl ?_) | (refine end_fn [] (.inr rfl) ?_ trivial rfl rfl) | (refine split_nd (fun hb => ?_) (fun hb => ?_)) | (refine split_d (fun hb => ?_) (fun hb => ?_)) | (refine split_n (fun hb => ?_) (fun hb => ?_)) | (refine split_x (fun hb => ?_) (fun hb => ?_)) | (refine And.intro (TraceOK.mk (by kernel_rfl)) ?_) | (refine Side.mk ?_; (repeat' (first | refine And.intro ?_ ?_ | exact inR_i64 (by omega) (by omega) | omega | rfl | exact trivial | exact none_ne rfl | exact some_ne rfl (Nat.ne_of_beq_eq_false rfl) | exact Nat.ne_of_beq_eq_false rfl | (dsimp only [srcSide]; omega) | (simp; done) | (simp; omega))); done) | (refine side_and ?_ ?_) | (refine drawX_of mixed ?_)))
      all_goals (repeat' (first | refine EndV.mk ?_ | exact trivial | exact rfl | refine And.intro ?_ ?_))
    · rw [show valR s [] n i = ([], false) by unfold valR; rw [if_neg h1']]
      refine meets_of_gx Ax tab_ok Tryd.func62 (c := _) rfl Tryd.call62 400 ?_
      (repeat' ((conv => whnf); first | (exfalso; omega) | (refine callx_pure (hle) rfl rfl ?_) | (refine dcallx_pure (hle) rfl rfl ?_) | (refine end_fn [] (.inr rfl) ?_ trivial rfl rfl) | (refine split_nd (fun hb => ?_) (fun hb => ?_)) | (refine split_d (fun hb => ?_) (fun hb => ?_)) | (refine split_n (fun hb => ?_) (fun hb => ?_)) | (refine split_x (fun hb => ?_) (fun hb => ?_)) | (refine And.intro (TraceOK.mk (by kernel_rfl)) ?_) | (refine Side.mk ?_; (repeat' (first | refine And.intro ?_ ?_ | exact inR_i64 (by omega) (by omega) | omega | rfl | exact trivial | exact none_ne rfl | exact some_ne rfl (Nat.ne_of_beq_eq_false rfl) | exact Nat.ne_of_beq_eq_false rfl | (dsimp only [srcSide]; omega) | (simp; done) | (simp; omega))); done) | (refine side_and ?_ ?_) | (refine drawX_of mixed ?_)))
      all_goals (repeat' (first | refine EndV.mk ?_ | exact trivial | exact rfl | refine And.intro ?_ ?_))
  | cons x q ih =>
    intro n i h1 hn hi hq hS
    have hx100 : x.length ≤ 100 := hS x (by simp)
    have hSq : Short q := fun s hs => hS s (by simp [hs])
    simp only [List.length_cons] at hq
    have hP1 : ((x :: q).reverse.length : Int) = (q.length : Int) + 1 := by simp
    have hP2 : (x :: q).reverse.getD ((x :: q).reverse.length - 1 : Int).toNat (Cd.dflt U.str) = x := by
      rw [hP1, show ((q.length : Int) + 1 - 1).toNat = q.length by omega]; simp [List.getD_eq_getElem?_getD]
    have hP3 : List.drop (Int.toNat 0) (List.take ((x :: q).reverse.length - 1 : Int).toNat (x :: q).reverse) = q.reverse := by
      rw [hP1, show ((q.length : Int) + 1 - 1).toNat = q.length by omega]; simp
    generalize (x :: q).reverse = P at hP1 hP2 hP3 ⊢
    by_cases h1' : n = 1
    · subst h1'
      rw [show valR s (x :: q) 1 i = (leafH s, decide ((P.length : Int) - 1 < 0)) by rw [decide_eq_false (by omega)]; rfl]
      refine meets_of_gx Ax tab_ok Tryd.func62 (c := _) rfl Tryd.call62 400 ?_
      (repeat' ((conv => whnf); first | (exfalso; omega) | (refine callx_pure (hle) rfl rfl ?_) | (refine dcallx_pure (hle) rfl rfl ?_) | (refine end_fn [] (.inr rfl) ?_ trivial rfl rfl) | (refine split_nd (fun hb => ?_) (fun hb => ?_)) | (refine split_d (fun hb => ?_) (fun hb => ?_)) | (refine split_n (fun hb => ?_) (fun hb => ?_)) | (refine split_x (fun hb => ?_) (fun hb => ?_)) | (refine And.intro (TraceOK.mk (by kernel_rfl)) ?_) | (refine Side.mk ?_; (repeat' (first | refine And.intro ?_ ?_ | exact inR_i64 (by omega) (by omega) | omega | rfl | exact trivial | exact none_ne rfl | exact some_ne rfl (Nat.ne_of_beq_eq_false rfl) | exact Nat.ne_of_beq_eq_false rfl | (dsimp only [srcSide]; omega) | (simp; done) | (simp; omega))); done) | (refine side_and ?_ ?_) | (refine drawX_of mixed ?_)))
      all_goals (repeat' (first | refine EndV.mk ?_ | exact trivial | exact rfl | refine And.intro ?_ ?_))
    · have hsp := leftN_spec (n := n) (by omega)
      have hleft := refLeft_meets n (by omega) (by omega)
      obtain ⟨k, hk⟩ : ∃ k, leftN n = k := ⟨_, rfl⟩
      have hvl := valR_length s
      by_cases hik : i < leftN n
      · have hv : valR s (x :: q) n i = (nodeH (valR s q (leftN n) i).1 x, (valR s q (leftN n) i).2) := by rw [valR, if_neg h1', if_pos hik]
        rw [hv, ← hP2]
        dsimp only
        rw [hk] at hsp hleft hik ⊢
        have ih1 := ih k i hsp.1 (by omega) hik (by omega) hSq
        rw [← hP3] at ih1
        have hv1 := hvl q k i
        generalize valR s q k i = r at *
        have hno := refNodeH r.1 x (by omega) (by omega)
        rw [← hP2] at hno
        refine meets_of_gx Ax tab_ok Tryd.func62 (c := _) rfl Tryd.call62 400 ?_
        (repeat' ((conv => whnf); first | (exfalso; omega) | (refine callx_pure (hle) rfl rfl ?_) | (refine dcallx_pure (hle) rfl rfl ?_) | (refine callx_pure (hleft) rfl rfl ?_) | (refine dcallx_pure (hleft) rfl rfl ?_) | (refine callx_pure (ih1) rfl rfl ?_) | (refine dcallx_pure (ih1) rfl rfl ?_) | (refine callx_pure (hno) rfl rfl ?_) | (refine dcallx_pure (hno) rfl rfl ?_) | (refine end_fn [] (.inr rfl) ?_ trivial rfl rfl) | (refine split_nd (fun hb => ?_) (fun hb => ?_)) | (refine split_d (fun hb => ?_) (fun hb => ?_)) | (refine split_n (fun hb => ?_) (fun hb => ?_)) | (refine split_x (fun hb => ?_) (fun hb => ?_)) | (refine And.intro (TraceOK.mk (by kernel_rfl)) ?_) | (refine Side.mk ?_; (repeat' (first | refine And.intro ?_ ?_ | exact inR_i64 (by omega) (by omega) | omega | rfl | exact trivial | exact none_ne rfl | exact some_ne rfl (Nat.ne_of_beq_eq_false rfl) | exact Nat.ne_of_beq_eq_false rfl | (dsimp only [srcSide]; omega) | (simp; done) | (simp; omega))); done) | (refine side_and ?_ ?_) | (refine drawX_of mixed ?_)))
        all_goals (repeat' (first | refine EndV.mk ?_ | exact trivial | exact rfl | refine And.intro ?_ ?_))
      · have hv : valR s (x :: q) n i = (nodeH x (valR s q (n - leftN n) (i - leftN n)).1, (valR s q (n - leftN n) (i - leftN n)).2) := by rw [valR, if_neg h1', if_neg hik]
        rw [hv, ← hP2]
        dsimp only
        rw [hk] at hsp hleft hik ⊢
        have ih1 := ih (n - k) (i - k) (by omega) (by omega) (by omega) (by omega) hSq
        rw [← hP3] at ih1
        have hv1 := hvl q (n - k) (i - k)
        generalize valR s q (n - k) (i - k) = r at *
        have hno := refNodeH x r.1 (by omega) (by omega)
        rw [← hP2] at hno
        have en : ((n - k : Nat) : Int) = (n : Int) - k := by omega
        have ei : ((i - k : Nat) : Int) = (i : Int) - k := by omega
        rw [en, ei] at ih1
        refine meets_of_gx Ax tab_ok Tryd.func62 (c := _) rfl Tryd.call62 400 ?_
        (repeat' ((conv => whnf); first | (exfalso; omega) | (refine callx_pure (hle) rfl rfl ?_) | (refine dcallx_pure (hle) rfl rfl ?_) | (refine callx_pure (hleft) rfl rfl ?_) | (refine dcallx_pure (hleft) rfl rfl ?_) | (refine callx_pure (ih1) rfl rfl ?_) | (refine dcallx_pure (ih1) rfl rfl ?_) | (refine callx_pure (hno) rfl rfl ?_) | (refine dcallx_pure (hno) rfl rfl ?_) | (refine end_fn [] (.inr rfl) ?_ trivial rfl rfl) | (refine split_nd (fun hb => ?_) (fun hb => ?_)) | (refine split_d (fun hb => ?_) (fun hb => ?_)) | (refine split_n (fun hb => ?_) (fun hb => ?_)) | (refine split_x (fun hb => ?_) (fun hb => ?_)) | (refine And.intro (TraceOK.mk (by kernel_rfl)) ?_) | (refine Side.mk ?_; (repeat' (first | refine And.intro ?_ ?_ | exact inR_i64 (by omega) (by omega) | omega | rfl | exact trivial | exact none_ne rfl | exact some_ne rfl (Nat.ne_of_beq_eq_false rfl) | exact Nat.ne_of_beq_eq_false rfl | (dsimp only [srcSide]; omega) | (simp; done) | (simp; omega))); done) | (refine side_and ?_ ?_) | (refine drawX_of mixed ?_)))
        all_goals (repeat' (first | refine EndV.mk ?_ | exact trivial | exact rfl | refine And.intro ?_ ?_))
end Go.SX

namespace Go.SX
open Go.Proofs
set_option linter.unusedSimpArgs false
set_option linter.unusedVariables false
set_option maxHeartbeats 4000000
set_option maxRecDepth 100000
theorem refVerify_meets (root : Bs) (n i : Int) (hn : n < 9223372036854775808) (hi : -9223372036854775808 ≤ i) (s : Bs) (hs : s.length ≤ 100) (p : List Bs) (hp : p.length ≤ 1000) (hS : Short p) :
    Meets Tryd.prog Dc 24 [.p (.str root), .p (.int .i64 n), .p (.int .i64 i), .p (.str s), .p (.dsl U.str p)] [] (.p (.bool (verB root n i s p))) [] := by
  have hdg := refDigests_meets p hp
  by_cases h0 : i < 0
  · rw [show verB root n i s p = false by unfold verB; rw [decide_eq_true h0]; rfl]
    refine meets_of_gx Ax tab_ok Tryd.func24 (c := _) rfl Tryd.call24 400 ?_
    (repeat' ((conv => whnf); first | (exfalso; omega) | (refine callx_pure (hdg) rfl rfl ?_) | (refine dcallx_pure (hdg) rfl rfl ?_) | (refine end_fn [] (.inr rfl) ?_ trivial rfl rfl) | (refine split_nd (fun hb => ?_) (fun hb => ?_)) | (refine split_d (fun hb => ?_) (fun hb => ?_)) | (refine split_n (fun hb => ?_) (fun hb => ?_)) | (refine split_x (fun hb => ?_) (fun hb => ?_)) | (refine And.intro (TraceOK.mk (by kernel_rfl)) ?_) | (refine Side.mk ?_; (repeat' (first | refine And.intro ?_ ?_ | exact inR_i64 (by omega) (by omega) | omega | rfl | exact trivial | exact none_ne rfl | exact some_ne rfl (Nat.ne_of_beq_eq_false rfl) | exact Nat.ne_of_beq_eq_false rfl | (dsimp only [srcSide]; omega) | (simp; done) | (simp; omega))); done) | (refine side_and ?_ ?_) | (refine drawX_of mixed ?_)))
    all_goals (repeat' (first | refine EndV.mk ?_ | exact trivial | exact rfl | refine And.intro ?_ ?_))
  by_cases h1 : n ≤ i
  · rw [show verB root n i s p = false by unfold verB; rw [decide_eq_true (p := i ≥ n) h1]; simp]
    refine meets_of_gx Ax tab_ok Tryd.func24 (c := _) rfl Tryd.call24 400 ?_
    (repeat' ((conv => whnf); first | (exfalso; omega) | (refine callx_pure (hdg) rfl rfl ?_) | (refine dcallx_pure (hdg) rfl rfl ?_) | (refine end_fn [] (.inr rfl) ?_ trivial rfl rfl) | (refine split_nd (fun hb => ?_) (fun hb => ?_)) | (refine split_d (fun hb => ?_) (fun hb => ?_)) | (refine split_n (fun hb => ?_) (fun hb => ?_)) | (refine split_x (fun hb => ?_) (fun hb => ?_)) | (refine And.intro (TraceOK.mk (by kernel_rfl)) ?_) | (refine Side.mk ?_; (repeat' (first | refine And.intro ?_ ?_ | exact inR_i64 (by omega) (by omega) | omega | rfl | exact trivial | exact none_ne rfl | exact some_ne rfl (Nat.ne_of_beq_eq_false rfl) | exact Nat.ne_of_beq_eq_false rfl | (dsimp only [srcSide]; omega) | (simp; done) | (simp; omega))); done) | (refine side_and ?_ ?_) | (refine drawX_of mixed ?_)))
    all_goals (repeat' (first | refine EndV.mk ?_ | exact trivial | exact rfl | refine And.intro ?_ ?_))
  by_cases hd : digestsB p = true
  · rw [hd] at hdg
    obtain ⟨n, rfl⟩ : ∃ m : Nat, n = m := ⟨n.toNat, by omega⟩
    obtain ⟨i, rfl⟩ : ∃ m : Nat, i = m := ⟨i.toNat, by omega⟩
    have hv := refValue_meets s hs p.reverse n i (by omega) (by omega) (by omega) (by simpa using hp) (fun s hs => hS s (by simpa using hs))
    rw [List.reverse_reverse] at hv
    rw [show verB root n i s p = ((valR s p.reverse n i).2 && ((valR s p.reverse n i).1 == root)) by unfold verB; rw [decide_eq_false h0, decide_eq_false (p := (i : Int) ≥ n) (by omega), hd]; simp]
    generalize valR s p.reverse n i = r at *
    obtain ⟨v, ok⟩ := r
    dsimp only at hv ⊢
    cases ok with
    | false =>
      refine meets_of_gx Ax tab_ok Tryd.func24 (c := _) rfl Tryd.call24 400 ?_
      (repeat' ((conv => whnf); first | (exfalso; omega) | (refine callx_pure (hdg) rfl rfl ?_) | (refine dcallx_pure (hdg) rfl rfl ?_) | (refine callx_pure (hv) rfl rfl ?_) | (refine dcallx_pure (hv) rfl rfl ?_) | (refine end_fn [] (.inr rfl) ?_ trivial rfl rfl) | (refine split_nd (fun hb => ?_) (fun hb => ?_)) | (refine split_d (fun hb => ?_) (fun hb => ?_)) | (refine split_n (fun hb => ?_) (fun hb => ?_)) | (refine split_x (fun hb => ?_) (fun hb => ?_)) | (refine And.intro (TraceOK.mk (by kernel_rfl)) ?_) | (refine Side.mk ?_; (repeat' (first | refine And.intro ?_ ?_ | exact inR_i64 (by omega) (by omega) | omega | rfl | exact trivial | exact none_ne rfl | exact some_ne rfl (Nat.ne_of_beq_eq_false rfl) | exact Nat.ne_of_beq_eq_false rfl | (dsimp only [srcSide]; omega) | (simp; done) | (simp; omega))); done) | (refine side_and ?_ ?_) | (refine drawX_of mixed ?_)))
      all_goals (repeat' (first | refine EndV.mk ?_ | exact trivial | exact rfl | refine And.intro ?_ ?_))
    | true =>
      refine meets_of_gx Ax tab_ok Tryd.func24 (c := _) rfl Tryd.call24 400 ?_
      (repeat' ((conv => whnf); first | (exfalso; omega) | (refine callx_pure (hdg) rfl rfl ?_) | (refine dcallx_pure (hdg) rfl rfl ?_) | (refine callx_pure (hv) rfl rfl ?_) | (refine dcallx_pure (hv) rfl rfl ?_) | (refine end_fn [] (.inr rfl) ?_ trivial rfl rfl) | (refine split_nd (fun hb => ?_) (fun hb => ?_)) | (refine split_d (fun hb => ?_) (fun hb => ?_)) | (refine split_n (fun hb => ?_) (fun hb => ?_)) | (refine split_x (fun hb => ?_) (fun hb => ?_)) | (refine And.intro (TraceOK.mk (by kernel_rfl)) ?_) | (refine Side.mk ?_; (repeat' (first | refine And.intro ?_ ?_ | exact inR_i64 (by omega) (by omega) | omega | rfl | exact trivial | exact none_ne rfl | exact some_ne rfl (Nat.ne_of_beq_eq_false rfl) | exact Nat.ne_of_beq_eq_false rfl | (dsimp only [srcSide]; omega) | (simp; done) | (simp; omega))); done) | (refine side_and ?_ ?_) | (refine drawX_of mixed ?_)))
      all_goals (repeat' (first | refine EndV.mk ?_ | exact trivial | exact rfl | refine And.intro ?_ ?_))
      all_goals exact congrArg PV.bool (Bool.eq_iff_iff.2 (by simp))
  · rw [Bool.not_eq_true] at hd
    rw [hd] at hdg
    rw [show verB root n i s p = false by unfold verB; rw [hd]; simp]
    refine meets_of_gx Ax tab_ok Tryd.func24 (c := _) rfl Tryd.call24 400 ?_
    (repeat' ((conv => whnf); first | (exfalso; omega) | (refine callx_pure (hdg) rfl rfl ?_) | (refine dcallx_pure (hdg) rfl rfl ?_) | (refine end_fn [] (.inr rfl) ?_ trivial rfl rfl) | (refine split_nd (fun hb => ?_) (fun hb => ?_)) | (refine split_d (fun hb => ?_) (fun hb => ?_)) | (refine split_n (fun hb => ?_) (fun hb => ?_)) | (refine split_x (fun hb => ?_) (fun hb => ?_)) | (refine And.intro (TraceOK.mk (by kernel_rfl)) ?_) | (refine Side.mk ?_; (repeat' (first | refine And.intro ?_ ?_ | exact inR_i64 (by omega) (by omega) | omega | rfl | exact trivial | exact none_ne rfl | exact some_ne rfl (Nat.ne_of_beq_eq_false rfl) | exact Nat.ne_of_beq_eq_false rfl | (dsimp only [srcSide]; omega) | (simp; done) | (simp; omega))); done) | (refine side_and ?_ ?_) | (refine drawX_of mixed ?_)))
    all_goals (repeat' (first | refine EndV.mk ?_ | exact trivial | exact rfl | refine And.intro ?_ ?_))
theorem bothR_length (old : Bs) (ho : old.length ≤ 100) : ∀ (q : List Bs) (m n : Nat) (whole : Bool), Short q → (bothR old q m n whole).1.length ≤ 100 ∧ (bothR old q m n whole).2.1.length ≤ 100
  | [], m, n, whole, hS => by
    unfold bothR
    split
    · split <;> simp [ho]
    · simp
  | x :: q, m, n, whole, hS => by
    have hx : x.length ≤ 100 := hS x (by simp)
    have hq : Short q := fun s hs => hS s (by simp [hs])
    have h1 := bothR_length old ho q m (leftN n) whole hq
    unfold bothR
    split
    · split
      · simp [ho]
      · split <;> simp [hx]
    · split
      · exact ⟨h1.1, by simp [nodeH_length]⟩
      · simp [nodeH_length]
theorem bothR_lt (old x : Bs) (q : List Bs) (m n : Nat) (whole : Bool) (he : m ≠ n) (hik : m ≤ leftN n) : bothR old (x :: q) m n whole = ((bothR old q m (leftN n) whole).1, nodeH (bothR old q m (leftN n) whole).2.1 x, (bothR old q m (leftN n) whole).2.2) := by
  conv => lhs; unfold bothR
  rw [if_neg he, if_pos hik]
theorem bothR_gt (old x : Bs) (q : List Bs) (m n : Nat) (whole : Bool) (he : m ≠ n) (hik : ¬ m ≤ leftN n) : bothR old (x :: q) m n whole = (nodeH x (bothR old q (m - leftN n) (n - leftN n) false).1, nodeH x (bothR old q (m - leftN n) (n - leftN n) false).2.1, (bothR old q (m - leftN n) (n - leftN n) false).2.2) := by
  conv => lhs; unfold bothR
  rw [if_neg he, if_neg hik]
theorem refBoth_meets (old : Bs) (ho : old.length ≤ 100) : ∀ (q : List Bs) (m n : Nat) (whole : Bool), 1 ≤ m → m ≤ n → n < 9223372036854775808 → q.length ≤ 1000 → Short q → Meets Tryd.prog Dc 64 [.p (.str old), .p (.int .i64 (m : Int)), .p (.int .i64 (n : Int)), .p (.dsl U.str q.reverse), .p (.bool whole)] []
    (.tuple [.p (.str (bothR old q m n whole).1), .p (.str (bothR old q m n whole).2.1), .p (.bool (bothR old q m n whole).2.2)]) [] := by
  intro q
  induction q with
  | nil =>
    intro m n whole h1 hmn hn hq hS
    by_cases he : m = n
    · subst he
      cases whole with
      | true =>
        rw [show bothR old [] m m true = (old, old, true) by simp [bothR]]
        refine meets_of_gx Ax tab_ok Tryd.func64 (c := _) rfl Tryd.call64 400 ?_
        (repeat' ((conv => whnf); first | (exfalso; omega) | (refine end_fn [] (.inr rfl) ?_ trivial rfl rfl) | (refine split_nd (fun hb => ?_) (fun hb => ?_)) | (refine split_d (fun hb => ?_) (fun hb => ?_)) | (refine split_n (fun hb => ?_) (fun hb => ?_)) | (refine split_x (fun hb => ?_) (fun hb => ?_)) | (refine And.intro (TraceOK.mk (by kernel_rfl)) ?_) | (refine Side.mk ?_; (repeat' (first | refine And.intro ?_ ?_ | exact inR_i64 (by omega) (by omega) | omega | rfl | exact trivial | exact none_ne rfl | exact some_ne rfl (Nat.ne_of_beq_eq_false rfl) | exact Nat.ne_of_beq_eq_false rfl | (dsimp only [srcSide]; omega) | (simp; done) | (simp; omega))); done) | (refine side_and ?_ ?_) | (refine drawX_of mixed ?_)))
        all_goals (repeat' (first | refine EndV.mk ?_ | exact trivial | exact rfl | refine And.intro ?_ ?_))
      | false =>
        rw [show bothR old [] m m false = ([], [], false) by simp [bothR]]
        refine meets_of_gx Ax tab_ok Tryd.func64 (c := _) rfl Tryd.call64 400 ?_
        (repeat' ((conv => whnf); first | (exfalso; omega) | (refine end_fn [] (.inr rfl) ?_ trivial rfl rfl) | (refine split_nd (fun hb => ?_) (fun hb => ?_)) | (refine split_d (fun hb => ?_) (fun hb => ?_)) | (refine split_n (fun hb => ?_) (fun hb => ?_)) | (refine split_x (fun hb => ?_) (fun hb => ?_)) | (refine And.intro (TraceOK.mk (by kernel_rfl)) ?_) | (refine Side.mk ?_; (repeat' (first | refine And.intro ?_ ?_ | exact inR_i64 (by omega) (by omega) | omega | rfl | exact trivial | exact none_ne rfl | exact some_ne rfl (Nat.ne_of_beq_eq_false rfl) | exact Nat.ne_of_beq_eq_false rfl | (dsimp only [srcSide]; omega) | (simp; done) | (simp; omega))); done) | (refine side_and ?_ ?_) | (refine drawX_of mixed ?_)))
        all_goals (repeat' (first | refine EndV.mk ?_ | exact trivial | exact rfl | refine And.intro ?_ ?_))
    · rw [show bothR old [] m n whole = ([], [], false) by unfold bothR; rw [if_neg he]]
      refine meets_of_gx Ax tab_ok Tryd.func64 (c := _) rfl Tryd.call64 400 ?_
      (repeat' ((conv => whnf); first | (exfalso; omega) | (refine end_fn [] (.inr rfl) ?_ trivial rfl rfl) | (refine split_nd (fun hb => ?_) (fun hb => ?_)) | (refine split_d (fun hb => ?_) (fun hb => ?_)) | (refine split_n (fun hb => ?_) (fun hb => ?_)) | (refine split_x (fun hb => ?_) (fun hb => ?_)) | (refine And.intro (TraceOK.mk (by kernel_rfl)) ?_) | (refine Side.mk ?_; (repeat' (first | refine And.intro ?_ ?_ | exact inR_i64 (by omega) (by omega) | omega | rfl | exact trivial | exact none_ne rfl | exact some_ne rfl (Nat.ne_of_beq_eq_false rfl) | exact Nat.ne_of_beq_eq_false rfl | (dsimp only [srcSide]; omega) | (simp; done) | (simp; omega))); done) | (refine side_and ?_ ?_) | (refine drawX_of mixed ?_)))
      all_goals (repeat' (first | refine EndV.mk ?_ | exact trivial | exact rfl | refine And.intro ?_ ?_))
  | cons x q ih =>
    intro m n whole h1 hmn hn hq hS
    have hx100 : x.length ≤ 100 := hS x (by simp)
    have hSq : Short q := fun s hs => hS s (by simp [hs])
    simp only [List.length_cons] at hq
    have hP0 : q.length = 0 → (x :: q).reverse.getD (0 : Int).toNat (Cd.dflt U.str) = x := by
      intro h; obtain rfl := List.eq_nil_of_length_eq_zero h; rfl
    have hP1 : ((x :: q).reverse.length : Int) = (q.length : Int) + 1 := by simp
    have hP2 : (x :: q).reverse.getD ((x :: q).reverse.length - 1 : Int).toNat (Cd.dflt U.str) = x := by
      rw [hP1, show ((q.length : Int) + 1 - 1).toNat = q.length by omega]; simp [List.getD_eq_getElem?_getD]
    have hP3 : List.drop (Int.toNat 0) (List.take ((x :: q).reverse.length - 1 : Int).toNat (x :: q).reverse) = q.reverse := by
      rw [hP1, show ((q.length : Int) + 1 - 1).toNat = q.length by omega]; simp
    generalize (x :: q).reverse = P at hP0 hP1 hP2 hP3 ⊢
    by_cases he : m = n
    · subst he
      cases whole with
      | true =>
        rw [show bothR old (x :: q) m m true = (old, old, decide ((P.length : Int) - 1 < 0)) by rw [decide_eq_false (by omega)]; simp [bothR]]
        refine meets_of_gx Ax tab_ok Tryd.func64 (c := _) rfl Tryd.call64 400 ?_
        (repeat' ((conv => whnf); first | (exfalso; omega) | (refine end_fn [] (.inr rfl) ?_ trivial rfl rfl) | (refine split_nd (fun hb => ?_) (fun hb => ?_)) | (refine split_d (fun hb => ?_) (fun hb => ?_)) | (refine split_n (fun hb => ?_) (fun hb => ?_)) | (refine split_x (fun hb => ?_) (fun hb => ?_)) | (refine And.intro (TraceOK.mk (by kernel_rfl)) ?_) | (refine Side.mk ?_; (repeat' (first | refine And.intro ?_ ?_ | exact inR_i64 (by omega) (by omega) | omega | rfl | exact trivial | exact none_ne rfl | exact some_ne rfl (Nat.ne_of_beq_eq_false rfl) | exact Nat.ne_of_beq_eq_false rfl | (dsimp only [srcSide]; omega) | (simp; done) | (simp; omega))); done) | (refine side_and ?_ ?_) | (refine drawX_of mixed ?_)))
        all_goals (repeat' (first | refine EndV.mk ?_ | exact trivial | exact rfl | refine And.intro ?_ ?_))
      | false =>
        rcases q with _ | ⟨y, q⟩
        · rw [show bothR old [x] m m false = (x, x, true) by simp [bothR], ← hP0 rfl]
          simp only [List.length_nil] at hP1
          refine meets_of_gx Ax tab_ok Tryd.func64 (c := _) rfl Tryd.call64 400 ?_
          (repeat' ((conv => whnf); first | (exfalso; omega) | (refine end_fn [] (.inr rfl) ?_ trivial rfl rfl) | (refine split_nd (fun hb => ?_) (fun hb => ?_)) | (refine split_d (fun hb => ?_) (fun hb => ?_)) | (refine split_n (fun hb => ?_) (fun hb => ?_)) | (refine split_x (fun hb => ?_) (fun hb => ?_)) | (refine And.intro (TraceOK.mk (by kernel_rfl)) ?_) | (refine Side.mk ?_; (repeat' (first | refine And.intro ?_ ?_ | exact inR_i64 (by omega) (by omega) | omega | rfl | exact trivial | exact none_ne rfl | exact some_ne rfl (Nat.ne_of_beq_eq_false rfl) | exact Nat.ne_of_beq_eq_false rfl | (dsimp only [srcSide]; omega) | (simp; done) | (simp; omega))); done) | (refine side_and ?_ ?_) | (refine drawX_of mixed ?_)))
          all_goals (repeat' (first | refine EndV.mk ?_ | exact trivial | exact rfl | refine And.intro ?_ ?_))
        · rw [show bothR old (x :: y :: q) m m false = ([], [], false) by simp [bothR]]
          simp only [List.length_cons] at hP1 hq
          refine meets_of_gx Ax tab_ok Tryd.func64 (c := _) rfl Tryd.call64 400 ?_
          (repeat' ((conv => whnf); first | (exfalso; omega) | (refine end_fn [] (.inr rfl) ?_ trivial rfl rfl) | (refine split_nd (fun hb => ?_) (fun hb => ?_)) | (refine split_d (fun hb => ?_) (fun hb => ?_)) | (refine split_n (fun hb => ?_) (fun hb => ?_)) | (refine split_x (fun hb => ?_) (fun hb => ?_)) | (refine And.intro (TraceOK.mk (by kernel_rfl)) ?_) | (refine Side.mk ?_; (repeat' (first | refine And.intro ?_ ?_ | exact inR_i64 (by omega) (by omega) | omega | rfl | exact trivial | exact none_ne rfl | exact some_ne rfl (Nat.ne_of_beq_eq_false rfl) | exact Nat.ne_of_beq_eq_false rfl | (dsimp only [srcSide]; omega) | (simp; done) | (simp; omega))); done) | (refine side_and ?_ ?_) | (refine drawX_of mixed ?_)))
          all_goals (repeat' (first | refine EndV.mk ?_ | exact trivial | exact rfl | refine And.intro ?_ ?_))
    · have hsp := leftN_spec (n := n) (by omega)
      have hleft := refLeft_meets n (by omega) (by omega)
      obtain ⟨k, hk⟩ : ∃ k, leftN n = k := ⟨_, rfl⟩
      have hvl := bothR_length old ho q
      by_cases hik : m ≤ leftN n
      · have hv : bothR old (x :: q) m n whole = ((bothR old q m (leftN n) whole).1, nodeH (bothR old q m (leftN n) whole).2.1 x, (bothR old q m (leftN n) whole).2.2) := bothR_lt old x q m n whole he hik
        rw [hv, ← hP2]
        rw [hk] at hsp hleft hik ⊢
        have ih1 := ih m k whole h1 hik (by omega) (by omega) hSq
        rw [← hP3] at ih1
        have hv1 := hvl m k whole hSq
        generalize bothR old q m k whole = r at *
        have hno := refNodeH r.2.1 x (by omega) (by omega)
        rw [← hP2] at hno
        dsimp only
        refine meets_of_gx Ax tab_ok Tryd.func64 (c := _) rfl Tryd.call64 400 ?_
        (repeat' ((conv => whnf); first | (exfalso; omega) | (refine callx_pure (hleft) rfl rfl ?_) | (refine dcallx_pure (hleft) rfl rfl ?_) | (refine callx_pure (ih1) rfl rfl ?_) | (refine dcallx_pure (ih1) rfl rfl ?_) | (refine callx_pure (hno) rfl rfl ?_) | (refine dcallx_pure (hno) rfl rfl ?_) | (refine end_fn [] (.inr rfl) ?_ trivial rfl rfl) | (refine split_nd (fun hb => ?_) (fun hb => ?_)) | (refine split_d (fun hb => ?_) (fun hb => ?_)) | (refine split_n (fun hb => ?_) (fun hb => ?_)) | (refine split_x (fun hb => ?_) (fun hb => ?_)) | (refine And.intro (TraceOK.mk (by kernel_rfl)) ?_) | (refine Side.mk ?_; (repeat' (first | refine And.intro ?_ ?_ | exact inR_i64 (by omega) (by omega) | omega | rfl | exact trivial | exact none_ne rfl | exact some_ne rfl (Nat.ne_of_beq_eq_false rfl) | exact Nat.ne_of_beq_eq_false rfl | (dsimp only [srcSide]; omega) | (simp; done) | (simp; omega))); done) | (refine side_and ?_ ?_) | (refine drawX_of mixed ?_)))
        all_goals (repeat' (first | refine EndV.mk ?_ | exact trivial | exact rfl | refine And.intro ?_ ?_))
      · have hv : bothR old (x :: q) m n whole = (nodeH x (bothR old q (m - leftN n) (n - leftN n) false).1, nodeH x (bothR old q (m - leftN n) (n - leftN n) false).2.1, (bothR old q (m - leftN n) (n - leftN n) false).2.2) := bothR_gt old x q m n whole he hik
        rw [hv, ← hP2]
        rw [hk] at hsp hleft hik ⊢
        have ih1 := ih (m - k) (n - k) false (by omega) (by omega) (by omega) (by omega) hSq
        rw [← hP3] at ih1
        have hv1 := hvl (m - k) (n - k) false hSq
        generalize bothR old q (m - k) (n - k) false = r at *
        have hno1 := refNodeH x r.1 (by omega) (by omega)
        have hno2 := refNodeH x r.2.1 (by omega) (by omega)
        rw [← hP2] at hno1 hno2
        have en : ((n - k : Nat) : Int) = (n : Int) - k := by omega
        have ei : ((m - k : Nat) : Int) = (m : Int) - k := by omega
        rw [en, ei] at ih1
        dsimp only
        refine meets_of_gx Ax tab_ok Tryd.func64 (c := _) rfl Tryd.call64 400 ?_
        (repeat' ((conv => whnf); first | (exfalso; omega) | (refine callx_pure (hleft) rfl rfl ?_) | (refine dcallx_pure (hleft) rfl rfl ?_) | (refine callx_pure (ih1) rfl rfl ?_) | (refine dcallx_pure (ih1) rfl rfl ?_) | (refine callx_pure (hno1) rfl rfl ?_) | (refine dcallx_pure (hno1) rfl rfl ?_) | (refine callx_pure (hno2) rfl rfl ?_) | (refine dcallx_pure (hno2) rfl rfl ?_) | (refine end_fn [] (.inr rfl) ?_ trivial rfl rfl) | (refine split_nd (fun hb => ?_) (fun hb => ?_)) | (refine split_d (fun hb => ?_) (fun hb => ?_)) | (refine split_n (fun hb => ?_) (fun hb => ?_)) | (refine split_x (fun hb => ?_) (fun hb => ?_)) | (refine And.intro (TraceOK.mk (by kernel_rfl)) ?_) | (refine Side.mk ?_; (repeat' (first | refine And.intro ?_ ?_ | exact inR_i64 (by omega) (by omega) | omega | rfl | exact trivial | exact none_ne rfl | exact some_ne rfl (Nat.ne_of_beq_eq_false rfl) | exact Nat.ne_of_beq_eq_false rfl | (dsimp only [srcSide]; omega) | (simp; done) | (simp; omega))); done) | (refine side_and ?_ ?_) | (refine drawX_of mixed ?_)))
        all_goals (repeat' (first | refine EndV.mk ?_ | exact trivial | exact rfl | refine And.intro ?_ ?_))
theorem refVerX_meets (old : Bs) (m : Int) (root : Bs) (n : Int) (hn : n < 9223372036854775808) (hm : -9223372036854775808 ≤ m) (p : List Bs) (hp : p.length ≤ 1000) (hS : Short p) :
    Meets Tryd.prog Dc 26 [.p (.str old), .p (.int .i64 m), .p (.str root), .p (.int .i64 n), .p (.dsl U.str p)] [] (.p (.bool (verXB old m root n p))) [] := by
  have hdg := refDigests_meets p hp
  have hsum := refSum_meets [] (by simp)
  by_cases h0 : m < 0
  · rw [show verXB old m root n p = false by unfold verXB; rw [decide_eq_true h0]; simp]
    refine meets_of_gx Ax tab_ok Tryd.func26 (c := _) rfl Tryd.call26 400 ?_
    (repeat' ((conv => whnf); first | (exfalso; omega) | (refine callx_pure (hdg) rfl rfl ?_) | (refine dcallx_pure (hdg) rfl rfl ?_) | (refine end_fn [] (.inr rfl) ?_ trivial rfl rfl) | (refine split_nd (fun hb => ?_) (fun hb => ?_)) | (refine split_d (fun hb => ?_) (fun hb => ?_)) | (refine split_n (fun hb => ?_) (fun hb => ?_)) | (refine split_x (fun hb => ?_) (fun hb => ?_)) | (refine And.intro (TraceOK.mk (by kernel_rfl)) ?_) | (refine Side.mk ?_; (repeat' (first | refine And.intro ?_ ?_ | exact inR_i64 (by omega) (by omega) | omega | rfl | exact trivial | exact none_ne rfl | exact some_ne rfl (Nat.ne_of_beq_eq_false rfl) | exact Nat.ne_of_beq_eq_false rfl | (dsimp only [srcSide]; omega) | (simp; done) | (simp; omega))); done) | (refine side_and ?_ ?_) | (refine drawX_of mixed ?_)))
    all_goals (repeat' (first | refine EndV.mk ?_ | exact trivial | exact rfl | refine And.intro ?_ ?_))
  by_cases h1 : n < m
  · rw [show verXB old m root n p = false by unfold verXB; rw [decide_eq_true (p := m > n) h1]; simp]
    refine meets_of_gx Ax tab_ok Tryd.func26 (c := _) rfl Tryd.call26 400 ?_
    (repeat' ((conv => whnf); first | (exfalso; omega) | (refine callx_pure (hdg) rfl rfl ?_) | (refine dcallx_pure (hdg) rfl rfl ?_) | (refine end_fn [] (.inr rfl) ?_ trivial rfl rfl) | (refine split_nd (fun hb => ?_) (fun hb => ?_)) | (refine split_d (fun hb => ?_) (fun hb => ?_)) | (refine split_n (fun hb => ?_) (fun hb => ?_)) | (refine split_x (fun hb => ?_) (fun hb => ?_)) | (refine And.intro (TraceOK.mk (by kernel_rfl)) ?_) | (refine Side.mk ?_; (repeat' (first | refine And.intro ?_ ?_ | exact inR_i64 (by omega) (by omega) | omega | rfl | exact trivial | exact none_ne rfl | exact some_ne rfl (Nat.ne_of_beq_eq_false rfl) | exact Nat.ne_of_beq_eq_false rfl | (dsimp only [srcSide]; omega) | (simp; done) | (simp; omega))); done) | (refine side_and ?_ ?_) | (refine drawX_of mixed ?_)))
    all_goals (repeat' (first | refine EndV.mk ?_ | exact trivial | exact rfl | refine And.intro ?_ ?_))
  by_cases hd : digestsB p = true
  · rw [hd] at hdg
    by_cases ho : old.length = 32
    · by_cases hr : root.length = 32
      · obtain ⟨n, rfl⟩ : ∃ k : Nat, n = k := ⟨n.toNat, by omega⟩
        obtain ⟨m, rfl⟩ : ∃ k : Nat, m = k := ⟨m.toNat, by omega⟩
        have hE : verXB old m root n p = (if (m : Int) = 0 then p.length == 0 && old == sumB [] else if (m : Int) = n then p.length == 0 && old == root else
            (bothR old p.reverse m n true).2.2 && (bothR old p.reverse m n true).1 == old && (bothR old p.reverse m n true).2.1 == root) := by
          unfold verXB; rw [decide_eq_false h0, decide_eq_false (p := (m : Int) > n) (by omega), hd, ho, hr]; simp
        rw [hE]
        clear hE
        by_cases hm0 : (m : Int) = 0
        · rw [if_pos hm0, show (p.length == 0 && old == sumB []) = (decide ((p.length : Int) = 0) && decide (old = sumB [])) from Bool.eq_iff_iff.2 (by simp)]
          generalize sumB [] = z at *
          by_cases hp0 : (p.length : Int) = 0
          · rw [decide_eq_true hp0]
            refine meets_of_gx Ax tab_ok Tryd.func26 (c := _) rfl Tryd.call26 400 ?_
            (repeat' ((conv => whnf); first | (exfalso; omega) | (refine callx_pure (hdg) rfl rfl ?_) | (refine dcallx_pure (hdg) rfl rfl ?_) | (refine callx_pure (hsum) rfl rfl ?_) | (refine dcallx_pure (hsum) rfl rfl ?_) | (refine end_fn [] (.inr rfl) ?_ trivial rfl rfl) | (refine split_nd (fun hb => ?_) (fun hb => ?_)) | (refine split_d (fun hb => ?_) (fun hb => ?_)) | (refine split_n (fun hb => ?_) (fun hb => ?_)) | (refine split_x (fun hb => ?_) (fun hb => ?_)) | (refine And.intro (TraceOK.mk (by kernel_rfl)) ?_) | (refine Side.mk ?_; (repeat' (first | refine And.intro ?_ ?_ | exact inR_i64 (by omega) (by omega) | omega | rfl | exact trivial | exact none_ne rfl | exact some_ne rfl (Nat.ne_of_beq_eq_false rfl) | exact Nat.ne_of_beq_eq_false rfl | (dsimp only [srcSide]; omega) | (simp; done) | (simp; omega))); done) | (refine side_and ?_ ?_) | (refine drawX_of mixed ?_)))
            all_goals (repeat' (first | refine EndV.mk ?_ | exact trivial | exact rfl | refine And.intro ?_ ?_))
          · rw [decide_eq_false hp0]
            refine meets_of_gx Ax tab_ok Tryd.func26 (c := _) rfl Tryd.call26 400 ?_
            (repeat' ((conv => whnf); first | (exfalso; omega) | (refine callx_pure (hdg) rfl rfl ?_) | (refine dcallx_pure (hdg) rfl rfl ?_) | (refine callx_pure (hsum) rfl rfl ?_) | (refine dcallx_pure (hsum) rfl rfl ?_) | (refine end_fn [] (.inr rfl) ?_ trivial rfl rfl) | (refine split_nd (fun hb => ?_) (fun hb => ?_)) | (refine split_d (fun hb => ?_) (fun hb => ?_)) | (refine split_n (fun hb => ?_) (fun hb => ?_)) | (refine split_x (fun hb => ?_) (fun hb => ?_)) | (refine And.intro (TraceOK.mk (by kernel_rfl)) ?_) | (refine Side.mk ?_; (repeat' (first | refine And.intro ?_ ?_ | exact inR_i64 (by omega) (by omega) | omega | rfl | exact trivial | exact none_ne rfl | exact some_ne rfl (Nat.ne_of_beq_eq_false rfl) | exact Nat.ne_of_beq_eq_false rfl | (dsimp only [srcSide]; omega) | (simp; done) | (simp; omega))); done) | (refine side_and ?_ ?_) | (refine drawX_of mixed ?_)))
            all_goals (repeat' (first | refine EndV.mk ?_ | exact trivial | exact rfl | refine And.intro ?_ ?_))
        · rw [if_neg hm0]
          by_cases hmn : (m : Int) = n
          · rw [if_pos hmn, show (p.length == 0 && old == root) = (decide ((p.length : Int) = 0) && decide (old = root)) from Bool.eq_iff_iff.2 (by simp)]
            by_cases hp0 : (p.length : Int) = 0
            · rw [decide_eq_true hp0]
              refine meets_of_gx Ax tab_ok Tryd.func26 (c := _) rfl Tryd.call26 400 ?_
              (repeat' ((conv => whnf); first | (exfalso; omega) | (refine callx_pure (hdg) rfl rfl ?_) | (refine dcallx_pure (hdg) rfl rfl ?_) | (refine callx_pure (hsum) rfl rfl ?_) | (refine dcallx_pure (hsum) rfl rfl ?_) | (refine end_fn [] (.inr rfl) ?_ trivial rfl rfl) | (refine split_nd (fun hb => ?_) (fun hb => ?_)) | (refine split_d (fun hb => ?_) (fun hb => ?_)) | (refine split_n (fun hb => ?_) (fun hb => ?_)) | (refine split_x (fun hb => ?_) (fun hb => ?_)) | (refine And.intro (TraceOK.mk (by kernel_rfl)) ?_) | (refine Side.mk ?_; (repeat' (first | refine And.intro ?_ ?_ | exact inR_i64 (by omega) (by omega) | omega | rfl | exact trivial | exact none_ne rfl | exact some_ne rfl (Nat.ne_of_beq_eq_false rfl) | exact Nat.ne_of_beq_eq_false rfl | (dsimp only [srcSide]; omega) | (simp; done) | (simp; omega))); done) | (refine side_and ?_ ?_) | (refine drawX_of mixed ?_)))
              all_goals (repeat' (first | refine EndV.mk ?_ | exact trivial | exact rfl | refine And.intro ?_ ?_))
            · rw [decide_eq_false hp0]
              refine meets_of_gx Ax tab_ok Tryd.func26 (c := _) rfl Tryd.call26 400 ?_
              (repeat' ((conv => whnf); first | (exfalso; omega) | (refine callx_pure (hdg) rfl rfl ?_) | (refine dcallx_pure (hdg) rfl rfl ?_) | (refine callx_pure (hsum) rfl rfl ?_) | (refine dcallx_pure (hsum) rfl rfl ?_) | (refine end_fn [] (.inr rfl) ?_ trivial rfl rfl) | (refine split_nd (fun hb => ?_) (fun hb => ?_)) | (refine split_d (fun hb => ?_) (fun hb => ?_)) | (refine split_n (fun hb => ?_) (fun hb => ?_)) | (refine split_x (fun hb => ?_) (fun hb => ?_)) | (refine And.intro (TraceOK.mk (by kernel_rfl)) ?_) | (refine Side.mk ?_; (repeat' (first | refine And.intro ?_ ?_ | exact inR_i64 (by omega) (by omega) | omega | rfl | exact trivial | exact none_ne rfl | exact some_ne rfl (Nat.ne_of_beq_eq_false rfl) | exact Nat.ne_of_beq_eq_false rfl | (dsimp only [srcSide]; omega) | (simp; done) | (simp; omega))); done) | (refine side_and ?_ ?_) | (refine drawX_of mixed ?_)))
              all_goals (repeat' (first | refine EndV.mk ?_ | exact trivial | exact rfl | refine And.intro ?_ ?_))
          · rw [if_neg hmn]
            have hv := refBoth_meets old (by omega) p.reverse m n true (by omega) (by omega) (by omega) (by simpa using hp) (fun s hs => hS s (by simpa using hs))
            rw [List.reverse_reverse] at hv
            generalize bothR old p.reverse m n true = r at *
            obtain ⟨a, b, ok⟩ := r
            dsimp only at hv ⊢
            rw [show (ok && a == old && b == root) = (ok && decide (a = old) && decide (b = root)) from Bool.eq_iff_iff.2 (by simp)]
            cases ok with
            | false =>
              refine meets_of_gx Ax tab_ok Tryd.func26 (c := _) rfl Tryd.call26 400 ?_
              (repeat' ((conv => whnf); first | (exfalso; omega) | (refine callx_pure (hdg) rfl rfl ?_) | (refine dcallx_pure (hdg) rfl rfl ?_) | (refine callx_pure (hv) rfl rfl ?_) | (refine dcallx_pure (hv) rfl rfl ?_) | (refine end_fn [] (.inr rfl) ?_ trivial rfl rfl) | (refine split_nd (fun hb => ?_) (fun hb => ?_)) | (refine split_d (fun hb => ?_) (fun hb => ?_)) | (refine split_n (fun hb => ?_) (fun hb => ?_)) | (refine split_x (fun hb => ?_) (fun hb => ?_)) | (refine And.intro (TraceOK.mk (by kernel_rfl)) ?_) | (refine Side.mk ?_; (repeat' (first | refine And.intro ?_ ?_ | exact inR_i64 (by omega) (by omega) | omega | rfl | exact trivial | exact none_ne rfl | exact some_ne rfl (Nat.ne_of_beq_eq_false rfl) | exact Nat.ne_of_beq_eq_false rfl | (dsimp only [srcSide]; omega) | (simp; done) | (simp; omega))); done) | (refine side_and ?_ ?_) | (refine drawX_of mixed ?_)))
              all_goals (repeat' (first | refine EndV.mk ?_ | exact trivial | exact rfl | refine And.intro ?_ ?_))
            | true =>
              by_cases hao : a = old
              · rw [decide_eq_true hao]
                refine meets_of_gx Ax tab_ok Tryd.func26 (c := _) rfl Tryd.call26 400 ?_
                (repeat' ((conv => whnf); first | (exfalso; omega) | (refine callx_pure (hdg) rfl rfl ?_) | (refine dcallx_pure (hdg) rfl rfl ?_) | (refine callx_pure (hv) rfl rfl ?_) | (refine dcallx_pure (hv) rfl rfl ?_) | (exact absurd hao hb) | (refine end_fn [] (.inr rfl) ?_ trivial rfl rfl) | (refine split_nd (fun hb => ?_) (fun hb => ?_)) | (refine split_d (fun hb => ?_) (fun hb => ?_)) | (refine split_n (fun hb => ?_) (fun hb => ?_)) | (refine split_x (fun hb => ?_) (fun hb => ?_)) | (refine And.intro (TraceOK.mk (by kernel_rfl)) ?_) | (refine Side.mk ?_; (repeat' (first | refine And.intro ?_ ?_ | exact inR_i64 (by omega) (by omega) | omega | rfl | exact trivial | exact none_ne rfl | exact some_ne rfl (Nat.ne_of_beq_eq_false rfl) | exact Nat.ne_of_beq_eq_false rfl | (dsimp only [srcSide]; omega) | (simp; done) | (simp; omega))); done) | (refine side_and ?_ ?_) | (refine drawX_of mixed ?_)))
                all_goals (repeat' (first | refine EndV.mk ?_ | exact trivial | exact rfl | refine And.intro ?_ ?_))
              · rw [decide_eq_false hao]
                refine meets_of_gx Ax tab_ok Tryd.func26 (c := _) rfl Tryd.call26 400 ?_
                (repeat' ((conv => whnf); first | (exfalso; omega) | (refine callx_pure (hdg) rfl rfl ?_) | (refine dcallx_pure (hdg) rfl rfl ?_) | (refine callx_pure (hv) rfl rfl ?_) | (refine dcallx_pure (hv) rfl rfl ?_) | (exact absurd hb hao) | (refine end_fn [] (.inr rfl) ?_ trivial rfl rfl) | (refine split_nd (fun hb => ?_) (fun hb => ?_)) | (refine split_d (fun hb => ?_) (fun hb => ?_)) | (refine split_n (fun hb => ?_) (fun hb => ?_)) | (refine split_x (fun hb => ?_) (fun hb => ?_)) | (refine And.intro (TraceOK.mk (by kernel_rfl)) ?_) | (refine Side.mk ?_; (repeat' (first | refine And.intro ?_ ?_ | exact inR_i64 (by omega) (by omega) | omega | rfl | exact trivial | exact none_ne rfl | exact some_ne rfl (Nat.ne_of_beq_eq_false rfl) | exact Nat.ne_of_beq_eq_false rfl | (dsimp only [srcSide]; omega) | (simp; done) | (simp; omega))); done) | (refine side_and ?_ ?_) | (refine drawX_of mixed ?_)))
                all_goals (repeat' (first | refine EndV.mk ?_ | exact trivial | exact rfl | refine And.intro ?_ ?_))
      · rw [show verXB old m root n p = false by unfold verXB; rw [beq_eq_false_iff_ne.2 hr]; simp]
        refine meets_of_gx Ax tab_ok Tryd.func26 (c := _) rfl Tryd.call26 400 ?_
        (repeat' ((conv => whnf); first | (exfalso; omega) | (refine callx_pure (hdg) rfl rfl ?_) | (refine dcallx_pure (hdg) rfl rfl ?_) | (refine end_fn [] (.inr rfl) ?_ trivial rfl rfl) | (refine split_nd (fun hb => ?_) (fun hb => ?_)) | (refine split_d (fun hb => ?_) (fun hb => ?_)) | (refine split_n (fun hb => ?_) (fun hb => ?_)) | (refine split_x (fun hb => ?_) (fun hb => ?_)) | (refine And.intro (TraceOK.mk (by kernel_rfl)) ?_) | (refine Side.mk ?_; (repeat' (first | refine And.intro ?_ ?_ | exact inR_i64 (by omega) (by omega) | omega | rfl | exact trivial | exact none_ne rfl | exact some_ne rfl (Nat.ne_of_beq_eq_false rfl) | exact Nat.ne_of_beq_eq_false rfl | (dsimp only [srcSide]; omega) | (simp; done) | (simp; omega))); done) | (refine side_and ?_ ?_) | (refine drawX_of mixed ?_)))
        all_goals (repeat' (first | refine EndV.mk ?_ | exact trivial | exact rfl | refine And.intro ?_ ?_))
    · rw [show verXB old m root n p = false by unfold verXB; rw [beq_eq_false_iff_ne.2 ho]; simp]
      refine meets_of_gx Ax tab_ok Tryd.func26 (c := _) rfl Tryd.call26 400 ?_
      (repeat' ((conv => whnf); first | (exfalso; omega) | (refine callx_pure (hdg) rfl rfl ?_) | (refine dcallx_pure (hdg) rfl rfl ?_) | (refine end_fn [] (.inr rfl) ?_ trivial rfl rfl) | (refine split_nd (fun hb => ?_) (fun hb => ?_)) | (refine split_d (fun hb => ?_) (fun hb => ?_)) | (refine split_n (fun hb => ?_) (fun hb => ?_)) | (refine split_x (fun hb => ?_) (fun hb => ?_)) | (refine And.intro (TraceOK.mk (by kernel_rfl)) ?_) | (refine Side.mk ?_; (repeat' (first | refine And.intro ?_ ?_ | exact inR_i64 (by omega) (by omega) | omega | rfl | exact trivial | exact none_ne rfl | exact some_ne rfl (Nat.ne_of_beq_eq_false rfl) | exact Nat.ne_of_beq_eq_false rfl | (dsimp only [srcSide]; omega) | (simp; done) | (simp; omega))); done) | (refine side_and ?_ ?_) | (refine drawX_of mixed ?_)))
      all_goals (repeat' (first | refine EndV.mk ?_ | exact trivial | exact rfl | refine And.intro ?_ ?_))
  · rw [Bool.not_eq_true] at hd
    rw [hd] at hdg
    rw [show verXB old m root n p = false by unfold verXB; rw [hd]; simp]
    refine meets_of_gx Ax tab_ok Tryd.func26 (c := _) rfl Tryd.call26 400 ?_
    (repeat' ((conv => whnf); first | (exfalso; omega) | (refine callx_pure (hdg) rfl rfl ?_) | (refine dcallx_pure (hdg) rfl rfl ?_) | (refine end_fn [] (.inr rfl) ?_ trivial rfl rfl) | (refine split_nd (fun hb => ?_) (fun hb => ?_)) | (refine split_d (fun hb => ?_) (fun hb => ?_)) | (refine split_n (fun hb => ?_) (fun hb => ?_)) | (refine split_x (fun hb => ?_) (fun hb => ?_)) | (refine And.intro (TraceOK.mk (by kernel_rfl)) ?_) | (refine Side.mk ?_; (repeat' (first | refine And.intro ?_ ?_ | exact inR_i64 (by omega) (by omega) | omega | rfl | exact trivial | exact none_ne rfl | exact some_ne rfl (Nat.ne_of_beq_eq_false rfl) | exact Nat.ne_of_beq_eq_false rfl | (dsimp only [srcSide]; omega) | (simp; done) | (simp; omega))); done) | (refine side_and ?_ ?_) | (refine drawX_of mixed ?_)))
    all_goals (repeat' (first | refine EndV.mk ?_ | exact trivial | exact rfl | refine And.intro ?_ ?_))
end Go.SX
