/-
  Walks: Dm4, Dm1, Dl8: what single functions of the program compute.
-/
import Derived.Test.YtboldmbaiocjpaaDoorSxDm3
import Derived.Test.YtboldmbaiocjpaaDoorSxDl5
namespace Go.SX
open Go.Proofs
set_option linter.unusedSimpArgs false
set_option linter.unusedVariables false
set_option maxHeartbeats 4000000
set_option maxRecDepth 100000
def joinF1 (x : DSide) (o : Bs) : Bs := if x.first then joinS x o else o
def joinF (way : List DSide) (o : Bs) : Bs := way.foldr joinF1 o
theorem joinF_snoc (way : List DSide) (x : DSide) (o : Bs) : joinF (way ++ [x]) o = joinF way (joinF1 x o) := by simp [joinF]
theorem bothW_length (way : List DSide) (o : Bs) (ho : o.length ≤ 100) : (joinF way o).length ≤ 100 ∧ (joinW way o).length ≤ 100 := by
  induction way with
  | nil => exact ⟨ho, ho⟩
  | cons x way ih =>
    have h2 : (joinW (x :: way) o).length = 32 := joinS_length x (joinW way o)
    refine ⟨?_, by omega⟩
    show (joinF1 x (joinF way o)).length ≤ 100
    unfold joinF1
    split
    · rw [joinS_length]; omega
    · exact ih.1
structure WG where
  q : List Bs
  m : Nat
  n : Nat
  whole : Bool
  way : List DSide
structure WOK (old root : Bs) (tgt : Bool) (g : WG) : Prop where
  eq : ((bothR old g.q g.m g.n g.whole).2.2 && (joinF g.way (bothR old g.q g.m g.n g.whole).1 == old) && (joinW g.way (bothR old g.q g.m g.n g.whole).2.1 == root)) = tgt
  m1 : 1 ≤ g.m
  mn : g.m ≤ g.n
  n2 : g.n < 9223372036854775808
  ql : g.way.length + g.q.length ≤ 1000
  qs : Short g.q
  ws : ∀ x ∈ g.way, x.root.length ≤ 100
theorem verX_meets (old : Bs) (m : Int) (root : Bs) (n : Int) (hn : n < 9223372036854775808) (hm : -9223372036854775808 ≤ m) (p : List Bs) (hp : p.length ≤ 1000) (hS : Short p) :
    Meets Tryd.prog Dc 25 [.p (.str old), .p (.int .i64 m), .p (.str root), .p (.int .i64 n), .p (.dsl U.str p)] [] (.p (.bool (verXB old m root n p))) [] := by
  have hdg := all_meets p hp
  have hsum := sum_meets [] (by simp)
  by_cases h0 : m < 0
  · rw [show verXB old m root n p = false by unfold verXB; rw [decide_eq_true h0]; simp]
    refine meets_of_gx Ax tab_ok Tryd.func25 (c := _) rfl Tryd.call25 400 ?_
    (repeat' ((conv => whnf); first | (exfalso; omega) | (refine callx_pure (hdg) rfl rfl ?_) | (refine dcallx_pure (hdg) rfl rfl ?_) | (refine call_in Ax tab_ok Tryd.func63 (c := _) rfl Tryd.call63 100 ?_) | (refine end_fn [] (.inr rfl) ?_ trivial rfl rfl) | (refine split_nd (fun hb => ?_) (fun hb => ?_)) | (refine split_d (fun hb => ?_) (fun hb => ?_)) | (refine split_n (fun hb => ?_) (fun hb => ?_)) | (refine split_x (fun hb => ?_) (fun hb => ?_)) | (refine And.intro (TraceOK.mk (by kernel_rfl)) ?_) | (refine Side.mk ?_; (repeat' (first | refine And.intro ?_ ?_ | exact inR_i64 (by omega) (by omega) | omega | rfl | exact trivial | exact none_ne rfl | exact some_ne rfl (Nat.ne_of_beq_eq_false rfl) | exact Nat.ne_of_beq_eq_false rfl | (dsimp only [srcSide]; omega) | (simp; done) | (simp; omega))); done) | (refine side_and ?_ ?_) | (refine drawX_of mixed ?_)))
    all_goals (repeat' (first | refine EndV.mk ?_ | exact trivial | exact rfl | refine And.intro ?_ ?_))
  by_cases h1 : n < m
  · rw [show verXB old m root n p = false by unfold verXB; rw [decide_eq_true (p := m > n) h1]; simp]
    refine meets_of_gx Ax tab_ok Tryd.func25 (c := _) rfl Tryd.call25 400 ?_
    (repeat' ((conv => whnf); first | (exfalso; omega) | (refine callx_pure (hdg) rfl rfl ?_) | (refine dcallx_pure (hdg) rfl rfl ?_) | (refine call_in Ax tab_ok Tryd.func63 (c := _) rfl Tryd.call63 100 ?_) | (refine end_fn [] (.inr rfl) ?_ trivial rfl rfl) | (refine split_nd (fun hb => ?_) (fun hb => ?_)) | (refine split_d (fun hb => ?_) (fun hb => ?_)) | (refine split_n (fun hb => ?_) (fun hb => ?_)) | (refine split_x (fun hb => ?_) (fun hb => ?_)) | (refine And.intro (TraceOK.mk (by kernel_rfl)) ?_) | (refine Side.mk ?_; (repeat' (first | refine And.intro ?_ ?_ | exact inR_i64 (by omega) (by omega) | omega | rfl | exact trivial | exact none_ne rfl | exact some_ne rfl (Nat.ne_of_beq_eq_false rfl) | exact Nat.ne_of_beq_eq_false rfl | (dsimp only [srcSide]; omega) | (simp; done) | (simp; omega))); done) | (refine side_and ?_ ?_) | (refine drawX_of mixed ?_)))
    all_goals (repeat' (first | refine EndV.mk ?_ | exact trivial | exact rfl | refine And.intro ?_ ?_))
  by_cases hd : digestsB p = true
  · rw [hd] at hdg
    by_cases ho : old.length = 32
    · by_cases hr : root.length = 32
      · obtain ⟨n, rfl⟩ : ∃ k : Nat, n = k := ⟨n.toNat, by omega⟩
        obtain ⟨m, rfl⟩ : ∃ k : Nat, m = k := ⟨m.toNat, by omega⟩
        have hE : verXB old m root n p = (if (m : Int) = 0 then p.length == 0 && old == sumB [] else if (m : Int) = n then p.length == 0 && old == root else
            (bothR old p.reverse m n true).2.2 && (bothR old p.reverse m n true).1 == old && (bothR old p.reverse m n true).2.1 == root) := by
          unfold verXB; rw [decide_eq_false h0, decide_eq_false (p := (m : Int) > n) (by omega), hd, ho, hr]; simp
        rw [hE]
        clear hE
        by_cases hm0 : (m : Int) = 0
        · rw [if_pos hm0, show (p.length == 0 && old == sumB []) = (decide ((p.length : Int) = 0) && decide (old = sumB [])) from Bool.eq_iff_iff.2 (by simp)]
          generalize sumB [] = z at *
          by_cases hp0 : (p.length : Int) = 0
          · rw [decide_eq_true hp0]
            refine meets_of_gx Ax tab_ok Tryd.func25 (c := _) rfl Tryd.call25 400 ?_
            (repeat' ((conv => whnf); first | (exfalso; omega) | (refine callx_pure (hdg) rfl rfl ?_) | (refine dcallx_pure (hdg) rfl rfl ?_) | (refine callx_pure (hsum) rfl rfl ?_) | (refine dcallx_pure (hsum) rfl rfl ?_) | (refine call_in Ax tab_ok Tryd.func63 (c := _) rfl Tryd.call63 100 ?_) | (refine end_fn [] (.inr rfl) ?_ trivial rfl rfl) | (refine split_nd (fun hb => ?_) (fun hb => ?_)) | (refine split_d (fun hb => ?_) (fun hb => ?_)) | (refine split_n (fun hb => ?_) (fun hb => ?_)) | (refine split_x (fun hb => ?_) (fun hb => ?_)) | (refine And.intro (TraceOK.mk (by kernel_rfl)) ?_) | (refine Side.mk ?_; (repeat' (first | refine And.intro ?_ ?_ | exact inR_i64 (by omega) (by omega) | omega | rfl | exact trivial | exact none_ne rfl | exact some_ne rfl (Nat.ne_of_beq_eq_false rfl) | exact Nat.ne_of_beq_eq_false rfl | (dsimp only [srcSide]; omega) | (simp; done) | (simp; omega))); done) | (refine side_and ?_ ?_) | (refine drawX_of mixed ?_)))
            all_goals (repeat' (first | refine EndV.mk ?_ | exact trivial | exact rfl | refine And.intro ?_ ?_))
          · rw [decide_eq_false hp0]
            refine meets_of_gx Ax tab_ok Tryd.func25 (c := _) rfl Tryd.call25 400 ?_
            (repeat' ((conv => whnf); first | (exfalso; omega) | (refine callx_pure (hdg) rfl rfl ?_) | (refine dcallx_pure (hdg) rfl rfl ?_) | (refine callx_pure (hsum) rfl rfl ?_) | (refine dcallx_pure (hsum) rfl rfl ?_) | (refine call_in Ax tab_ok Tryd.func63 (c := _) rfl Tryd.call63 100 ?_) | (refine end_fn [] (.inr rfl) ?_ trivial rfl rfl) | (refine split_nd (fun hb => ?_) (fun hb => ?_)) | (refine split_d (fun hb => ?_) (fun hb => ?_)) | (refine split_n (fun hb => ?_) (fun hb => ?_)) | (refine split_x (fun hb => ?_) (fun hb => ?_)) | (refine And.intro (TraceOK.mk (by kernel_rfl)) ?_) | (refine Side.mk ?_; (repeat' (first | refine And.intro ?_ ?_ | exact inR_i64 (by omega) (by omega) | omega | rfl | exact trivial | exact none_ne rfl | exact some_ne rfl (Nat.ne_of_beq_eq_false rfl) | exact Nat.ne_of_beq_eq_false rfl | (dsimp only [srcSide]; omega) | (simp; done) | (simp; omega))); done) | (refine side_and ?_ ?_) | (refine drawX_of mixed ?_)))
            all_goals (repeat' (first | refine EndV.mk ?_ | exact trivial | exact rfl | refine And.intro ?_ ?_))
        · rw [if_neg hm0]
          by_cases hmn : (m : Int) = n
          · rw [if_pos hmn, show (p.length == 0 && old == root) = (decide ((p.length : Int) = 0) && decide (old = root)) from Bool.eq_iff_iff.2 (by simp)]
            by_cases hp0 : (p.length : Int) = 0
            · rw [decide_eq_true hp0]
              refine meets_of_gx Ax tab_ok Tryd.func25 (c := _) rfl Tryd.call25 400 ?_
              (repeat' ((conv => whnf); first | (exfalso; omega) | (refine callx_pure (hdg) rfl rfl ?_) | (refine dcallx_pure (hdg) rfl rfl ?_) | (refine callx_pure (hsum) rfl rfl ?_) | (refine dcallx_pure (hsum) rfl rfl ?_) | (refine call_in Ax tab_ok Tryd.func63 (c := _) rfl Tryd.call63 100 ?_) | (refine end_fn [] (.inr rfl) ?_ trivial rfl rfl) | (refine split_nd (fun hb => ?_) (fun hb => ?_)) | (refine split_d (fun hb => ?_) (fun hb => ?_)) | (refine split_n (fun hb => ?_) (fun hb => ?_)) | (refine split_x (fun hb => ?_) (fun hb => ?_)) | (refine And.intro (TraceOK.mk (by kernel_rfl)) ?_) | (refine Side.mk ?_; (repeat' (first | refine And.intro ?_ ?_ | exact inR_i64 (by omega) (by omega) | omega | rfl | exact trivial | exact none_ne rfl | exact some_ne rfl (Nat.ne_of_beq_eq_false rfl) | exact Nat.ne_of_beq_eq_false rfl | (dsimp only [srcSide]; omega) | (simp; done) | (simp; omega))); done) | (refine side_and ?_ ?_) | (refine drawX_of mixed ?_)))
              all_goals (repeat' (first | refine EndV.mk ?_ | exact trivial | exact rfl | refine And.intro ?_ ?_))
            · rw [decide_eq_false hp0]
              refine meets_of_gx Ax tab_ok Tryd.func25 (c := _) rfl Tryd.call25 400 ?_
              (repeat' ((conv => whnf); first | (exfalso; omega) | (refine callx_pure (hdg) rfl rfl ?_) | (refine dcallx_pure (hdg) rfl rfl ?_) | (refine callx_pure (hsum) rfl rfl ?_) | (refine dcallx_pure (hsum) rfl rfl ?_) | (refine call_in Ax tab_ok Tryd.func63 (c := _) rfl Tryd.call63 100 ?_) | (refine end_fn [] (.inr rfl) ?_ trivial rfl rfl) | (refine split_nd (fun hb => ?_) (fun hb => ?_)) | (refine split_d (fun hb => ?_) (fun hb => ?_)) | (refine split_n (fun hb => ?_) (fun hb => ?_)) | (refine split_x (fun hb => ?_) (fun hb => ?_)) | (refine And.intro (TraceOK.mk (by kernel_rfl)) ?_) | (refine Side.mk ?_; (repeat' (first | refine And.intro ?_ ?_ | exact inR_i64 (by omega) (by omega) | omega | rfl | exact trivial | exact none_ne rfl | exact some_ne rfl (Nat.ne_of_beq_eq_false rfl) | exact Nat.ne_of_beq_eq_false rfl | (dsimp only [srcSide]; omega) | (simp; done) | (simp; omega))); done) | (refine side_and ?_ ?_) | (refine drawX_of mixed ?_)))
              all_goals (repeat' (first | refine EndV.mk ?_ | exact trivial | exact rfl | refine And.intro ?_ ?_))
          · rw [if_neg hmn]
            refine meets_of_gx Ax tab_ok Tryd.func25 (c := _) rfl Tryd.call25 600 ?_
            (repeat' ((conv => whnf); first | (exfalso; omega) | (refine callx_pure (hdg) rfl rfl ?_) | (refine dcallx_pure (hdg) rfl rfl ?_) | (refine callx_pure (hsum) rfl rfl ?_) | (refine dcallx_pure (hsum) rfl rfl ?_) | (refine call_in Ax tab_ok Tryd.func63 (c := _) rfl Tryd.call63 100 ?_) | (refine end_fn [] (.inr rfl) ?_ trivial rfl rfl) | (refine split_nd (fun hb => ?_) (fun hb => ?_)) | (refine split_d (fun hb => ?_) (fun hb => ?_)) | (refine split_n (fun hb => ?_) (fun hb => ?_)) | (refine split_x (fun hb => ?_) (fun hb => ?_)) | (refine And.intro (TraceOK.mk (by kernel_rfl)) ?_) | (refine Side.mk ?_; (repeat' (first | refine And.intro ?_ ?_ | exact inR_i64 (by omega) (by omega) | omega | rfl | exact trivial | exact none_ne rfl | exact some_ne rfl (Nat.ne_of_beq_eq_false rfl) | exact Nat.ne_of_beq_eq_false rfl | (dsimp only [srcSide]; omega) | (simp; done) | (simp; omega))); done) | (refine side_and ?_ ?_) | (refine drawX_of mixed ?_)))
            clear hdg hsum
            refine loop_inv (fun g : WG => [(1, .p (.int .i64 g.m)), (3, .p (.int .i64 g.n)), (4, .p (.dsl U.str g.q.reverse)), (11, .slice 0 0 2 0 g.way.length), (12, .p (.bool g.whole))]) (fun g => [.rows U.side g.way]) (WOK old root ((bothR old p.reverse m n true).2.2 && (bothR old p.reverse m n true).1 == old && (bothR old p.reverse m n true).2.1 == root)) (fun g => g.q.length) ⟨p.reverse, m, n, true, []⟩ ⟨rfl, by dsimp only; omega, by dsimp only; omega, by dsimp only; omega, by simpa using hp, fun s hs => hS s (by simpa using hs), fun x hx => by simp at hx⟩ [none] ⟨by (dsimp only; rw [List.reverse_reverse]; (repeat' (first | refine EndV.mk ?_ | exact trivial | exact rfl | refine And.intro ?_ ?_))), by (repeat' (first | refine EndV.mk ?_ | exact trivial | exact rfl | refine And.intro ?_ ?_)) <;> exact ⟨_, rfl⟩, rfl, rfl⟩ ?_
            rintro ⟨q, m', n', whole, way⟩ ⟨g1, gm, g2, g3, g5, g6, g7⟩ K hK
            dsimp only at g1 gm g2 g3 g5 g6 g7 hK ⊢
            generalize ((bothR old p.reverse m n true).2.2 && (bothR old p.reverse m n true).1 == old && (bothR old p.reverse m n true).2.1 == root) = tgt at *
            have hus : 0 + 2 = Cd.n U.side := rfl
            by_cases hn1 : m' = n'
            · clear hK
              subst hn1
              cases whole with
              | true =>
                have hqb : bothR old q m' m' true = (old, old, decide ((q.reverse.length : Int) = 0)) := by
                  rcases q with _ | ⟨y, q⟩
                  · simp [bothR]
                  · simp [bothR]; omega
                rw [hqb] at g1
                rw [← g1]
                have hqr : q.reverse.length ≤ 1000 := by simp; omega
                generalize q.reverse = P at *
                (repeat' ((conv => whnf); first | (exfalso; omega) | (refine call_in Ax tab_ok Tryd.func59 (c := _) rfl Tryd.call59 200 ?_) | (refine range_in Ax tab_ok rfl Tryd.func95 (c := _) rfl Tryd.call95 rfl rfl 400 ?_) | (refine end_fn [] (.inr rfl) ?_ trivial rfl rfl) | (refine split_nd (fun hb => ?_) (fun hb => ?_)) | (refine split_d (fun hb => ?_) (fun hb => ?_)) | (refine split_n (fun hb => ?_) (fun hb => ?_)) | (refine split_x (fun hb => ?_) (fun hb => ?_)) | (refine And.intro (TraceOK.mk (by kernel_rfl)) ?_) | (refine Side.mk ?_; (repeat' (first | refine And.intro ?_ ?_ | exact inR_i64 (by omega) (by omega) | omega | rfl | exact trivial | exact none_ne rfl | exact some_ne rfl (Nat.ne_of_beq_eq_false rfl) | exact Nat.ne_of_beq_eq_false rfl | (dsimp only [srcSide]; omega) | (simp; done) | (simp; omega))); done) | (refine side_and ?_ ?_) | (refine drawX_of mixed ?_)))
                have hfw := bothW_length way old (by omega)
                intro gn tmps bd
                (repeat' ((conv => whnf); first | (refine end_fn [] (.inr rfl) ?_ trivial rfl rfl) | (refine split_nd (fun hb => ?_) (fun hb => ?_)) | (refine split_d (fun hb => ?_) (fun hb => ?_)) | (refine split_n (fun hb => ?_) (fun hb => ?_)) | (refine split_x (fun hb => ?_) (fun hb => ?_)) | (refine And.intro (TraceOK.mk (by kernel_rfl)) ?_) | (refine Side.mk ?_; (repeat' (first | refine And.intro ?_ ?_ | exact inR_i64 (by omega) (by omega) | omega | rfl | exact trivial | exact none_ne rfl | exact some_ne rfl (Nat.ne_of_beq_eq_false rfl) | exact Nat.ne_of_beq_eq_false rfl | (dsimp only [srcSide]; omega) | (simp; done) | (simp; omega))); done) | (refine side_and ?_ ?_) | (refine drawX_of mixed ?_)))
                refine loop_up (fun j : Nat => [(3, .p (.int .i64 (jS (way.length : Int) j)))]) (fun j => [(1, .var [.p (.str (joinF (way.drop (way.length - j)) old))]), (2, .var [.p (.str (joinW (way.drop (way.length - j)) old))])]) (fun j => j ≤ way.length) (fun j => way.length - j) 0 (Nat.zero_le _) ⟨by (repeat' (first | refine EndV.mk ?_ | exact trivial | exact rfl | refine And.intro ?_ ?_)), by (rw [show way.drop (way.length - 0) = [] by simp]; (repeat' (first | refine EndV.mk ?_ | exact trivial | exact rfl | refine And.intro ?_ ?_))), rfl, rfl⟩ ?_
                intro j hj K hK
                have hjs : jS (way.length : Int) j = (way.length : Int) - 1 - j := jS_eq _ j
                have hjs1 : jS (way.length : Int) (j + 1) = jS (way.length : Int) j - 1 := rfl
                generalize jS (way.length : Int) j = jj at *
                rcases Nat.lt_or_ge j way.length with hlt | hge
                · have w2 : way.getD (0 + jj.toNat) (Cd.dflt U.side) = way.getD (way.length - 1 - j) ⟨[], false⟩ := by
                    rw [show 0 + jj.toNat = way.length - 1 - j by omega]; rfl
                  have hr100 : (way.getD (way.length - 1 - j) ⟨[], false⟩).root.length ≤ 100 := by
                    rw [List.getD_eq_getElem?_getD, List.getElem?_eq_getElem (by omega)]; exact g7 _ (List.getElem_mem _)
                  have hdr : way.drop (way.length - (j + 1)) = way.getD (way.length - 1 - j) ⟨[], false⟩ :: way.drop (way.length - j) := by
                    rw [show way.length - (j + 1) = way.length - 1 - j by omega, List.drop_eq_getElem_cons (by omega), show way.length - 1 - j + 1 = way.length - j by omega, List.getD_eq_getElem?_getD, List.getElem?_eq_getElem (by omega)]
                    rfl
                  have hfl := bothW_length (way.drop (way.length - j)) old (by omega)
                  have hf2 : joinW (way.drop (way.length - (j + 1))) old = joinS (way.getD (way.length - 1 - j) ⟨[], false⟩) (joinW (way.drop (way.length - j)) old) := by rw [hdr]; rfl
                  have hf1 : joinF (way.drop (way.length - (j + 1))) old = joinF1 (way.getD (way.length - 1 - j) ⟨[], false⟩) (joinF (way.drop (way.length - j)) old) := by rw [hdr]; rfl
                  generalize way.getD (way.length - 1 - j) ⟨[], false⟩ = r at *
                  obtain ⟨rr, rf⟩ := r
                  generalize joinW (way.drop (way.length - j)) old = o2 at *
                  generalize joinF (way.drop (way.length - j)) old = o1 at *
                  have hno1 := join_meets ⟨rr, rf⟩ o1 hr100 (by omega)
                  have hno2 := join_meets ⟨rr, rf⟩ o2 hr100 (by omega)
                  cases rf with
                  | true =>
                    rw [show joinF1 ⟨rr, true⟩ o1 = joinS ⟨rr, true⟩ o1 from rfl] at hf1
                    (repeat' ((conv => whnf); first | (exfalso; omega) | (rw [w2]) | (refine yield_in Ax tab_ok rfl rfl rfl 200 200 ?_) | (refine callx_pure (hno1) rfl rfl ?_) | (refine dcallx_pure (hno1) rfl rfl ?_) | (refine callx_pure (hno2) rfl rfl ?_) | (refine dcallx_pure (hno2) rfl rfl ?_) | (refine hK (j + 1) ([some 0, some 1, some 2, some 3, some 4]) _ _ ?_ ?_ ?_) | (refine end_fn [] (.inr rfl) ?_ trivial rfl rfl) | (refine split_nd (fun hb => ?_) (fun hb => ?_)) | (refine split_d (fun hb => ?_) (fun hb => ?_)) | (refine split_n (fun hb => ?_) (fun hb => ?_)) | (refine split_x (fun hb => ?_) (fun hb => ?_)) | (refine And.intro (TraceOK.mk (by kernel_rfl)) ?_) | (refine Side.mk ?_; (repeat' (first | refine And.intro ?_ ?_ | exact inR_i64 (by omega) (by omega) | omega | rfl | exact trivial | exact none_ne rfl | exact some_ne rfl (Nat.ne_of_beq_eq_false rfl) | exact Nat.ne_of_beq_eq_false rfl | (dsimp only [srcSide]; omega) | (simp; done) | (simp; omega))); done) | (refine side_and ?_ ?_) | (refine drawX_of mixed ?_)))
                    dsimp only
                    rw [hf1, hf2, hjs1]
                    (refine Back.mk ?_ ?_ rfl rfl <;> (repeat' (first | refine EndV.mk ?_ | exact trivial | exact rfl | refine And.intro ?_ ?_)))
                  | false =>
                    rw [show joinF1 ⟨rr, false⟩ o1 = o1 from rfl] at hf1
                    (repeat' ((conv => whnf); first | (exfalso; omega) | (rw [w2]) | (refine yield_in Ax tab_ok rfl rfl rfl 200 200 ?_) | (refine callx_pure (hno1) rfl rfl ?_) | (refine dcallx_pure (hno1) rfl rfl ?_) | (refine callx_pure (hno2) rfl rfl ?_) | (refine dcallx_pure (hno2) rfl rfl ?_) | (refine hK (j + 1) ([some 0, some 1, some 2, some 3, some 4]) _ _ ?_ ?_ ?_) | (refine end_fn [] (.inr rfl) ?_ trivial rfl rfl) | (refine split_nd (fun hb => ?_) (fun hb => ?_)) | (refine split_d (fun hb => ?_) (fun hb => ?_)) | (refine split_n (fun hb => ?_) (fun hb => ?_)) | (refine split_x (fun hb => ?_) (fun hb => ?_)) | (refine And.intro (TraceOK.mk (by kernel_rfl)) ?_) | (refine Side.mk ?_; (repeat' (first | refine And.intro ?_ ?_ | exact inR_i64 (by omega) (by omega) | omega | rfl | exact trivial | exact none_ne rfl | exact some_ne rfl (Nat.ne_of_beq_eq_false rfl) | exact Nat.ne_of_beq_eq_false rfl | (dsimp only [srcSide]; omega) | (simp; done) | (simp; omega))); done) | (refine side_and ?_ ?_) | (refine drawX_of mixed ?_)))
                    dsimp only
                    rw [hf1, hf2, hjs1]
                    (refine Back.mk ?_ ?_ rfl rfl <;> (repeat' (first | refine EndV.mk ?_ | exact trivial | exact rfl | refine And.intro ?_ ?_)))
                · rw [show way.drop (way.length - j) = way by rw [show way.length - j = 0 by omega]; rfl]
                  clear hK
                  generalize joinW way old = o2 at *
                  generalize joinF way old = o1 at *
                  dsimp only
                  rw [show (decide ((P.length : Int) = 0) && (o1 == old) && (o2 == root)) = (decide ((P.length : Int) = 0) && decide (o1 = old) && decide (o2 = root)) from Bool.eq_iff_iff.2 (by simp)]
                  by_cases hp0 : (P.length : Int) = 0
                  · rw [decide_eq_true hp0]
                    by_cases ho1 : o1 = old
                    · rw [decide_eq_true ho1]
                      (repeat' ((conv => whnf); first | (exfalso; omega) | (exact absurd ho1 hb) | (refine end_fn [] (.inr rfl) ?_ trivial rfl rfl) | (refine split_nd (fun hb => ?_) (fun hb => ?_)) | (refine split_d (fun hb => ?_) (fun hb => ?_)) | (refine split_n (fun hb => ?_) (fun hb => ?_)) | (refine split_x (fun hb => ?_) (fun hb => ?_)) | (refine And.intro (TraceOK.mk (by kernel_rfl)) ?_) | (refine Side.mk ?_; (repeat' (first | refine And.intro ?_ ?_ | exact inR_i64 (by omega) (by omega) | omega | rfl | exact trivial | exact none_ne rfl | exact some_ne rfl (Nat.ne_of_beq_eq_false rfl) | exact Nat.ne_of_beq_eq_false rfl | (dsimp only [srcSide]; omega) | (simp; done) | (simp; omega))); done) | (refine side_and ?_ ?_) | (refine drawX_of mixed ?_)))
                      all_goals (repeat' (first | refine EndV.mk ?_ | exact trivial | exact rfl | refine And.intro ?_ ?_))
                    · rw [decide_eq_false ho1]
                      (repeat' ((conv => whnf); first | (exfalso; omega) | (exact absurd hb ho1) | (refine end_fn [] (.inr rfl) ?_ trivial rfl rfl) | (refine split_nd (fun hb => ?_) (fun hb => ?_)) | (refine split_d (fun hb => ?_) (fun hb => ?_)) | (refine split_n (fun hb => ?_) (fun hb => ?_)) | (refine split_x (fun hb => ?_) (fun hb => ?_)) | (refine And.intro (TraceOK.mk (by kernel_rfl)) ?_) | (refine Side.mk ?_; (repeat' (first | refine And.intro ?_ ?_ | exact inR_i64 (by omega) (by omega) | omega | rfl | exact trivial | exact none_ne rfl | exact some_ne rfl (Nat.ne_of_beq_eq_false rfl) | exact Nat.ne_of_beq_eq_false rfl | (dsimp only [srcSide]; omega) | (simp; done) | (simp; omega))); done) | (refine side_and ?_ ?_) | (refine drawX_of mixed ?_)))
                      all_goals (repeat' (first | refine EndV.mk ?_ | exact trivial | exact rfl | refine And.intro ?_ ?_))
                  · rw [decide_eq_false hp0]
                    (repeat' ((conv => whnf); first | (exfalso; omega) | (refine end_fn [] (.inr rfl) ?_ trivial rfl rfl) | (refine split_nd (fun hb => ?_) (fun hb => ?_)) | (refine split_d (fun hb => ?_) (fun hb => ?_)) | (refine split_n (fun hb => ?_) (fun hb => ?_)) | (refine split_x (fun hb => ?_) (fun hb => ?_)) | (refine And.intro (TraceOK.mk (by kernel_rfl)) ?_) | (refine Side.mk ?_; (repeat' (first | refine And.intro ?_ ?_ | exact inR_i64 (by omega) (by omega) | omega | rfl | exact trivial | exact none_ne rfl | exact some_ne rfl (Nat.ne_of_beq_eq_false rfl) | exact Nat.ne_of_beq_eq_false rfl | (dsimp only [srcSide]; omega) | (simp; done) | (simp; omega))); done) | (refine side_and ?_ ?_) | (refine drawX_of mixed ?_)))
                    all_goals (repeat' (first | refine EndV.mk ?_ | exact trivial | exact rfl | refine And.intro ?_ ?_))
              | false =>
                rcases q with _ | ⟨y, _ | ⟨z, q⟩⟩
                · rw [show bothR old [] m' m' false = ([], [], false) by simp [bothR]] at g1
                  rw [← g1]
                  (repeat' ((conv => whnf); first | (exfalso; omega) | (refine call_in Ax tab_ok Tryd.func59 (c := _) rfl Tryd.call59 200 ?_) | (refine range_in Ax tab_ok rfl Tryd.func95 (c := _) rfl Tryd.call95 rfl rfl 400 ?_) | (refine end_fn [] (.inr rfl) ?_ trivial rfl rfl) | (refine split_nd (fun hb => ?_) (fun hb => ?_)) | (refine split_d (fun hb => ?_) (fun hb => ?_)) | (refine split_n (fun hb => ?_) (fun hb => ?_)) | (refine split_x (fun hb => ?_) (fun hb => ?_)) | (refine And.intro (TraceOK.mk (by kernel_rfl)) ?_) | (refine Side.mk ?_; (repeat' (first | refine And.intro ?_ ?_ | exact inR_i64 (by omega) (by omega) | omega | rfl | exact trivial | exact none_ne rfl | exact some_ne rfl (Nat.ne_of_beq_eq_false rfl) | exact Nat.ne_of_beq_eq_false rfl | (dsimp only [srcSide]; omega) | (simp; done) | (simp; omega))); done) | (refine side_and ?_ ?_) | (refine drawX_of mixed ?_)))
                  all_goals (repeat' (first | refine EndV.mk ?_ | exact trivial | exact rfl | refine And.intro ?_ ?_))
                · rw [show bothR old [y] m' m' false = (y, y, true) by simp [bothR]] at g1
                  rw [← g1]
                  have hy100 : y.length ≤ 100 := g6 y (by simp)
                  have hy0 : [y].reverse.getD (Int.toNat 0) (Cd.dflt U.str) = y := rfl
                  (repeat' ((conv => whnf); first | (exfalso; omega) | (rw [hy0]) | (refine call_in Ax tab_ok Tryd.func59 (c := _) rfl Tryd.call59 200 ?_) | (refine range_in Ax tab_ok rfl Tryd.func95 (c := _) rfl Tryd.call95 rfl rfl 400 ?_) | (refine end_fn [] (.inr rfl) ?_ trivial rfl rfl) | (refine split_nd (fun hb => ?_) (fun hb => ?_)) | (refine split_d (fun hb => ?_) (fun hb => ?_)) | (refine split_n (fun hb => ?_) (fun hb => ?_)) | (refine split_x (fun hb => ?_) (fun hb => ?_)) | (refine And.intro (TraceOK.mk (by kernel_rfl)) ?_) | (refine Side.mk ?_; (repeat' (first | refine And.intro ?_ ?_ | exact inR_i64 (by omega) (by omega) | omega | rfl | exact trivial | exact none_ne rfl | exact some_ne rfl (Nat.ne_of_beq_eq_false rfl) | exact Nat.ne_of_beq_eq_false rfl | (dsimp only [srcSide]; omega) | (simp; done) | (simp; omega))); done) | (refine side_and ?_ ?_) | (refine drawX_of mixed ?_)))
                  have hfw := bothW_length way y (by omega)
                  intro gn tmps bd
                  (repeat' ((conv => whnf); first | (refine end_fn [] (.inr rfl) ?_ trivial rfl rfl) | (refine split_nd (fun hb => ?_) (fun hb => ?_)) | (refine split_d (fun hb => ?_) (fun hb => ?_)) | (refine split_n (fun hb => ?_) (fun hb => ?_)) | (refine split_x (fun hb => ?_) (fun hb => ?_)) | (refine And.intro (TraceOK.mk (by kernel_rfl)) ?_) | (refine Side.mk ?_; (repeat' (first | refine And.intro ?_ ?_ | exact inR_i64 (by omega) (by omega) | omega | rfl | exact trivial | exact none_ne rfl | exact some_ne rfl (Nat.ne_of_beq_eq_false rfl) | exact Nat.ne_of_beq_eq_false rfl | (dsimp only [srcSide]; omega) | (simp; done) | (simp; omega))); done) | (refine side_and ?_ ?_) | (refine drawX_of mixed ?_)))
                  refine loop_up (fun j : Nat => [(3, .p (.int .i64 (jS (way.length : Int) j)))]) (fun j => [(1, .var [.p (.str (joinF (way.drop (way.length - j)) y))]), (2, .var [.p (.str (joinW (way.drop (way.length - j)) y))])]) (fun j => j ≤ way.length) (fun j => way.length - j) 0 (Nat.zero_le _) ⟨by (repeat' (first | refine EndV.mk ?_ | exact trivial | exact rfl | refine And.intro ?_ ?_)), by (rw [show way.drop (way.length - 0) = [] by simp]; (repeat' (first | refine EndV.mk ?_ | exact trivial | exact rfl | refine And.intro ?_ ?_))), rfl, rfl⟩ ?_
                  intro j hj K hK
                  have hjs : jS (way.length : Int) j = (way.length : Int) - 1 - j := jS_eq _ j
                  have hjs1 : jS (way.length : Int) (j + 1) = jS (way.length : Int) j - 1 := rfl
                  generalize jS (way.length : Int) j = jj at *
                  rcases Nat.lt_or_ge j way.length with hlt | hge
                  · have w2 : way.getD (0 + jj.toNat) (Cd.dflt U.side) = way.getD (way.length - 1 - j) ⟨[], false⟩ := by
                      rw [show 0 + jj.toNat = way.length - 1 - j by omega]; rfl
                    have hr100 : (way.getD (way.length - 1 - j) ⟨[], false⟩).root.length ≤ 100 := by
                      rw [List.getD_eq_getElem?_getD, List.getElem?_eq_getElem (by omega)]; exact g7 _ (List.getElem_mem _)
                    have hdr : way.drop (way.length - (j + 1)) = way.getD (way.length - 1 - j) ⟨[], false⟩ :: way.drop (way.length - j) := by
                      rw [show way.length - (j + 1) = way.length - 1 - j by omega, List.drop_eq_getElem_cons (by omega), show way.length - 1 - j + 1 = way.length - j by omega, List.getD_eq_getElem?_getD, List.getElem?_eq_getElem (by omega)]
                      rfl
                    have hfl := bothW_length (way.drop (way.length - j)) y (by omega)
                    have hf2 : joinW (way.drop (way.length - (j + 1))) y = joinS (way.getD (way.length - 1 - j) ⟨[], false⟩) (joinW (way.drop (way.length - j)) y) := by rw [hdr]; rfl
                    have hf1 : joinF (way.drop (way.length - (j + 1))) y = joinF1 (way.getD (way.length - 1 - j) ⟨[], false⟩) (joinF (way.drop (way.length - j)) y) := by rw [hdr]; rfl
                    generalize way.getD (way.length - 1 - j) ⟨[], false⟩ = r at *
                    obtain ⟨rr, rf⟩ := r
                    generalize joinW (way.drop (way.length - j)) y = o2 at *
                    generalize joinF (way.drop (way.length - j)) y = o1 at *
                    have hno1 := join_meets ⟨rr, rf⟩ o1 hr100 (by omega)
                    have hno2 := join_meets ⟨rr, rf⟩ o2 hr100 (by omega)
                    cases rf with
                    | true =>
                      rw [show joinF1 ⟨rr, true⟩ o1 = joinS ⟨rr, true⟩ o1 from rfl] at hf1
                      (repeat' ((conv => whnf); first | (exfalso; omega) | (rw [w2]) | (refine yield_in Ax tab_ok rfl rfl rfl 200 200 ?_) | (refine callx_pure (hno1) rfl rfl ?_) | (refine dcallx_pure (hno1) rfl rfl ?_) | (refine callx_pure (hno2) rfl rfl ?_) | (refine dcallx_pure (hno2) rfl rfl ?_) | (refine hK (j + 1) ([some 0, some 1, some 2, some 3, some 4]) _ _ ?_ ?_ ?_) | (refine end_fn [] (.inr rfl) ?_ trivial rfl rfl) | (refine split_nd (fun hb => ?_) (fun hb => ?_)) | (refine split_d (fun hb => ?_) (fun hb => ?_)) | (refine split_n (fun hb => ?_) (fun hb => ?_)) | (refine split_x (fun hb => ?_) (fun hb => ?_)) | (refine And.intro (TraceOK.mk (by kernel_rfl)) ?_) | (refine Side.mk ?_; (repeat' (first | refine And.intro ?_ ?_ | exact inR_i64 (by omega) (by omega) | omega | rfl | exact trivial | exact none_ne rfl | exact some_ne rfl (Nat.ne_of_beq_eq_false rfl) | exact Nat.ne_of_beq_eq_false rfl | (dsimp only [srcSide]; omega) | (simp; done) | (simp; omega))); done) | (refine side_and ?_ ?_) | (refine drawX_of mixed ?_)))
                      dsimp only
                      rw [hf1, hf2, hjs1]
                      (refine Back.mk ?_ ?_ rfl rfl <;> (repeat' (first | refine EndV.mk ?_ | exact trivial | exact rfl | refine And.intro ?_ ?_)))
                    | false =>
                      rw [show joinF1 ⟨rr, false⟩ o1 = o1 from rfl] at hf1
                      (repeat' ((conv => whnf); first | (exfalso; omega) | (rw [w2]) | (refine yield_in Ax tab_ok rfl rfl rfl 200 200 ?_) | (refine callx_pure (hno1) rfl rfl ?_) | (refine dcallx_pure (hno1) rfl rfl ?_) | (refine callx_pure (hno2) rfl rfl ?_) | (refine dcallx_pure (hno2) rfl rfl ?_) | (refine hK (j + 1) ([some 0, some 1, some 2, some 3, some 4]) _ _ ?_ ?_ ?_) | (refine end_fn [] (.inr rfl) ?_ trivial rfl rfl) | (refine split_nd (fun hb => ?_) (fun hb => ?_)) | (refine split_d (fun hb => ?_) (fun hb => ?_)) | (refine split_n (fun hb => ?_) (fun hb => ?_)) | (refine split_x (fun hb => ?_) (fun hb => ?_)) | (refine And.intro (TraceOK.mk (by kernel_rfl)) ?_) | (refine Side.mk ?_; (repeat' (first | refine And.intro ?_ ?_ | exact inR_i64 (by omega) (by omega) | omega | rfl | exact trivial | exact none_ne rfl | exact some_ne rfl (Nat.ne_of_beq_eq_false rfl) | exact Nat.ne_of_beq_eq_false rfl | (dsimp only [srcSide]; omega) | (simp; done) | (simp; omega))); done) | (refine side_and ?_ ?_) | (refine drawX_of mixed ?_)))
                      dsimp only
                      rw [hf1, hf2, hjs1]
                      (refine Back.mk ?_ ?_ rfl rfl <;> (repeat' (first | refine EndV.mk ?_ | exact trivial | exact rfl | refine And.intro ?_ ?_)))
                  · rw [show way.drop (way.length - j) = way by rw [show way.length - j = 0 by omega]; rfl]
                    clear hK
                    generalize joinW way y = o2 at *
                    generalize joinF way y = o1 at *
                    dsimp only
                    rw [show (true && (o1 == old) && (o2 == root)) = (decide (o1 = old) && decide (o2 = root)) from Bool.eq_iff_iff.2 (by simp)]
                    by_cases ho1 : o1 = old
                    · rw [decide_eq_true ho1]
                      (repeat' ((conv => whnf); first | (exfalso; omega) | (exact absurd ho1 hb) | (refine end_fn [] (.inr rfl) ?_ trivial rfl rfl) | (refine split_nd (fun hb => ?_) (fun hb => ?_)) | (refine split_d (fun hb => ?_) (fun hb => ?_)) | (refine split_n (fun hb => ?_) (fun hb => ?_)) | (refine split_x (fun hb => ?_) (fun hb => ?_)) | (refine And.intro (TraceOK.mk (by kernel_rfl)) ?_) | (refine Side.mk ?_; (repeat' (first | refine And.intro ?_ ?_ | exact inR_i64 (by omega) (by omega) | omega | rfl | exact trivial | exact none_ne rfl | exact some_ne rfl (Nat.ne_of_beq_eq_false rfl) | exact Nat.ne_of_beq_eq_false rfl | (dsimp only [srcSide]; omega) | (simp; done) | (simp; omega))); done) | (refine side_and ?_ ?_) | (refine drawX_of mixed ?_)))
                      all_goals (repeat' (first | refine EndV.mk ?_ | exact trivial | exact rfl | refine And.intro ?_ ?_))
                    · rw [decide_eq_false ho1]
                      (repeat' ((conv => whnf); first | (exfalso; omega) | (exact absurd hb ho1) | (refine end_fn [] (.inr rfl) ?_ trivial rfl rfl) | (refine split_nd (fun hb => ?_) (fun hb => ?_)) | (refine split_d (fun hb => ?_) (fun hb => ?_)) | (refine split_n (fun hb => ?_) (fun hb => ?_)) | (refine split_x (fun hb => ?_) (fun hb => ?_)) | (refine And.intro (TraceOK.mk (by kernel_rfl)) ?_) | (refine Side.mk ?_; (repeat' (first | refine And.intro ?_ ?_ | exact inR_i64 (by omega) (by omega) | omega | rfl | exact trivial | exact none_ne rfl | exact some_ne rfl (Nat.ne_of_beq_eq_false rfl) | exact Nat.ne_of_beq_eq_false rfl | (dsimp only [srcSide]; omega) | (simp; done) | (simp; omega))); done) | (refine side_and ?_ ?_) | (refine drawX_of mixed ?_)))
                      all_goals (repeat' (first | refine EndV.mk ?_ | exact trivial | exact rfl | refine And.intro ?_ ?_))
                · rw [show bothR old (y :: z :: q) m' m' false = ([], [], false) by simp [bothR]] at g1
                  rw [← g1]
                  have hql : (y :: z :: q).reverse.length = q.length + 2 := by simp
                  simp only [List.length_cons] at g5
                  generalize (y :: z :: q).reverse = P at *
                  (repeat' ((conv => whnf); first | (exfalso; omega) | (refine call_in Ax tab_ok Tryd.func59 (c := _) rfl Tryd.call59 200 ?_) | (refine range_in Ax tab_ok rfl Tryd.func95 (c := _) rfl Tryd.call95 rfl rfl 400 ?_) | (refine end_fn [] (.inr rfl) ?_ trivial rfl rfl) | (refine split_nd (fun hb => ?_) (fun hb => ?_)) | (refine split_d (fun hb => ?_) (fun hb => ?_)) | (refine split_n (fun hb => ?_) (fun hb => ?_)) | (refine split_x (fun hb => ?_) (fun hb => ?_)) | (refine And.intro (TraceOK.mk (by kernel_rfl)) ?_) | (refine Side.mk ?_; (repeat' (first | refine And.intro ?_ ?_ | exact inR_i64 (by omega) (by omega) | omega | rfl | exact trivial | exact none_ne rfl | exact some_ne rfl (Nat.ne_of_beq_eq_false rfl) | exact Nat.ne_of_beq_eq_false rfl | (dsimp only [srcSide]; omega) | (simp; done) | (simp; omega))); done) | (refine side_and ?_ ?_) | (refine drawX_of mixed ?_)))
                  all_goals (repeat' (first | refine EndV.mk ?_ | exact trivial | exact rfl | refine And.intro ?_ ?_))
            · rcases q with _ | ⟨x, q⟩
              · clear hK
                have htk := take_nil
                rw [← g1, show bothR old [] m' n' whole = ([], [], false) by unfold bothR; rw [if_neg hn1]]
                (repeat' ((conv => whnf); first | (exfalso; omega) | (refine callx_pure (htk) rfl rfl ?_) | (refine dcallx_pure (htk) rfl rfl ?_) | (refine end_fn [] (.inr rfl) ?_ trivial rfl rfl) | (refine split_nd (fun hb => ?_) (fun hb => ?_)) | (refine split_d (fun hb => ?_) (fun hb => ?_)) | (refine split_n (fun hb => ?_) (fun hb => ?_)) | (refine split_x (fun hb => ?_) (fun hb => ?_)) | (refine And.intro (TraceOK.mk (by kernel_rfl)) ?_) | (refine Side.mk ?_; (repeat' (first | refine And.intro ?_ ?_ | exact inR_i64 (by omega) (by omega) | omega | rfl | exact trivial | exact none_ne rfl | exact some_ne rfl (Nat.ne_of_beq_eq_false rfl) | exact Nat.ne_of_beq_eq_false rfl | (dsimp only [srcSide]; omega) | (simp; done) | (simp; omega))); done) | (refine side_and ?_ ?_) | (refine drawX_of mixed ?_)))
                all_goals (repeat' (first | refine EndV.mk ?_ | exact trivial | exact rfl | refine And.intro ?_ ?_))
              · have htk := take_cons x q (by simp only [List.length_cons] at g5; omega)
                have hsp := leftN_spec (n := n') (by omega)
                have hleft := left_meets n' (by omega) (by omega)
                have hx100 : x.length ≤ 100 := g6 x (by simp)
                have hSq : Short q := fun s hs => g6 s (by simp [hs])
                simp only [List.length_cons] at g5
                by_cases hik : m' ≤ leftN n'
                · rw [bothR_lt old x q m' n' whole hn1 hik] at g1
                  obtain ⟨k, hk⟩ : ∃ k, leftN n' = k := ⟨_, rfl⟩
                  rw [hk] at hsp hleft hik g1
                  have hsd : Side (WOK old root tgt ⟨q, m', k, whole, way ++ [⟨x, false⟩]⟩) := ⟨⟨by dsimp only; rw [joinW_snoc, joinF_snoc]; exact g1, gm, hik, by dsimp only; omega, by simp; omega, hSq, fun y hy => by rcases List.mem_append.1 hy with h | h; exact g7 y h; (rw [List.mem_singleton.1 h]; exact hx100)⟩⟩
                  have hdec : decide ((k : Int) < (m' : Int)) = false := decide_eq_false (by omega)
                  have es : List.take way.length way ++ List.take 1 (List.drop 0 [(⟨x, decide ((k : Int) < (m' : Int))⟩ : DSide)]) = way ++ [⟨x, false⟩] := by rw [List.take_length, hdec]; rfl
                  (repeat' ((conv => whnf); first | (exfalso; omega) | (refine callx_pure (htk) rfl rfl ?_) | (refine dcallx_pure (htk) rfl rfl ?_) | (refine callx_pure (hleft) rfl rfl ?_) | (refine dcallx_pure (hleft) rfl rfl ?_) | (refine hK ⟨q, m', k, whole, way ++ [⟨x, false⟩]⟩ [some 2] _ _ hsd ⟨Nat.lt_succ_self _⟩ ?_) | (refine end_fn [] (.inr rfl) ?_ trivial rfl rfl) | (refine split_nd (fun hb => ?_) (fun hb => ?_)) | (refine split_d (fun hb => ?_) (fun hb => ?_)) | (refine split_n (fun hb => ?_) (fun hb => ?_)) | (refine split_x (fun hb => ?_) (fun hb => ?_)) | (refine And.intro (TraceOK.mk (by kernel_rfl)) ?_) | (refine Side.mk ?_; (repeat' (first | refine And.intro ?_ ?_ | exact inR_i64 (by omega) (by omega) | omega | rfl | exact trivial | exact none_ne rfl | exact some_ne rfl (Nat.ne_of_beq_eq_false rfl) | exact Nat.ne_of_beq_eq_false rfl | (dsimp only [srcSide]; omega) | (simp; done) | (simp; omega))); done) | (refine side_and ?_ ?_) | (refine drawX_of mixed ?_)))
                  rw [es]
                  dsimp only
                  (refine Back.mk ?_ ?_ rfl rfl <;> (repeat' (first | refine EndV.mk ?_ | exact trivial | exact rfl | refine And.intro ?_ ?_)))
                · rw [bothR_gt old x q m' n' whole hn1 hik] at g1
                  obtain ⟨k, hk⟩ : ∃ k, leftN n' = k := ⟨_, rfl⟩
                  rw [hk] at hsp hleft hik g1
                  have hsd : Side (WOK old root tgt ⟨q, m' - k, n' - k, false, way ++ [⟨x, true⟩]⟩) := ⟨⟨by dsimp only; rw [joinW_snoc, joinF_snoc]; exact g1, by dsimp only; omega, by dsimp only; omega, by dsimp only; omega, by simp; omega, hSq, fun y hy => by rcases List.mem_append.1 hy with h | h; exact g7 y h; (rw [List.mem_singleton.1 h]; exact hx100)⟩⟩
                  have hdec : decide ((k : Int) < (m' : Int)) = true := decide_eq_true (by omega)
                  have es : List.take way.length way ++ List.take 1 (List.drop 0 [(⟨x, decide ((k : Int) < (m' : Int))⟩ : DSide)]) = way ++ [⟨x, true⟩] := by rw [List.take_length, hdec]; rfl
                  have en : (n' : Int) - k = ((n' - k : Nat) : Int) := by omega
                  have ei : (m' : Int) - k = ((m' - k : Nat) : Int) := by omega
                  (repeat' ((conv => whnf); first | (exfalso; omega) | (refine callx_pure (htk) rfl rfl ?_) | (refine dcallx_pure (htk) rfl rfl ?_) | (refine callx_pure (hleft) rfl rfl ?_) | (refine dcallx_pure (hleft) rfl rfl ?_) | (refine hK ⟨q, m' - k, n' - k, false, way ++ [⟨x, true⟩]⟩ [some 2] _ _ hsd ⟨Nat.lt_succ_self _⟩ ?_) | (refine end_fn [] (.inr rfl) ?_ trivial rfl rfl) | (refine split_nd (fun hb => ?_) (fun hb => ?_)) | (refine split_d (fun hb => ?_) (fun hb => ?_)) | (refine split_n (fun hb => ?_) (fun hb => ?_)) | (refine split_x (fun hb => ?_) (fun hb => ?_)) | (refine And.intro (TraceOK.mk (by kernel_rfl)) ?_) | (refine Side.mk ?_; (repeat' (first | refine And.intro ?_ ?_ | exact inR_i64 (by omega) (by omega) | omega | rfl | exact trivial | exact none_ne rfl | exact some_ne rfl (Nat.ne_of_beq_eq_false rfl) | exact Nat.ne_of_beq_eq_false rfl | (dsimp only [srcSide]; omega) | (simp; done) | (simp; omega))); done) | (refine side_and ?_ ?_) | (refine drawX_of mixed ?_)))
                  rw [es, en, ei]
                  dsimp only
                  (refine Back.mk ?_ ?_ rfl rfl <;> (repeat' (first | refine EndV.mk ?_ | exact trivial | exact rfl | refine And.intro ?_ ?_)))
      · rw [show verXB old m root n p = false by unfold verXB; rw [beq_eq_false_iff_ne.2 hr]; simp]
        refine meets_of_gx Ax tab_ok Tryd.func25 (c := _) rfl Tryd.call25 400 ?_
        (repeat' ((conv => whnf); first | (exfalso; omega) | (refine callx_pure (hdg) rfl rfl ?_) | (refine dcallx_pure (hdg) rfl rfl ?_) | (refine call_in Ax tab_ok Tryd.func63 (c := _) rfl Tryd.call63 100 ?_) | (refine end_fn [] (.inr rfl) ?_ trivial rfl rfl) | (refine split_nd (fun hb => ?_) (fun hb => ?_)) | (refine split_d (fun hb => ?_) (fun hb => ?_)) | (refine split_n (fun hb => ?_) (fun hb => ?_)) | (refine split_x (fun hb => ?_) (fun hb => ?_)) | (refine And.intro (TraceOK.mk (by kernel_rfl)) ?_) | (refine Side.mk ?_; (repeat' (first | refine And.intro ?_ ?_ | exact inR_i64 (by omega) (by omega) | omega | rfl | exact trivial | exact none_ne rfl | exact some_ne rfl (Nat.ne_of_beq_eq_false rfl) | exact Nat.ne_of_beq_eq_false rfl | (dsimp only [srcSide]; omega) | (simp; done) | (simp; omega))); done) | (refine side_and ?_ ?_) | (refine drawX_of mixed ?_)))
        all_goals (repeat' (first | refine EndV.mk ?_ | exact trivial | exact rfl | refine And.intro ?_ ?_))
    · rw [show verXB old m root n p = false by unfold verXB; rw [beq_eq_false_iff_ne.2 ho]; simp]
      refine meets_of_gx Ax tab_ok Tryd.func25 (c := _) rfl Tryd.call25 400 ?_
      (repeat' ((conv => whnf); first | (exfalso; omega) | (refine callx_pure (hdg) rfl rfl ?_) | (refine dcallx_pure (hdg) rfl rfl ?_) | (refine call_in Ax tab_ok Tryd.func63 (c := _) rfl Tryd.call63 100 ?_) | (refine end_fn [] (.inr rfl) ?_ trivial rfl rfl) | (refine split_nd (fun hb => ?_) (fun hb => ?_)) | (refine split_d (fun hb => ?_) (fun hb => ?_)) | (refine split_n (fun hb => ?_) (fun hb => ?_)) | (refine split_x (fun hb => ?_) (fun hb => ?_)) | (refine And.intro (TraceOK.mk (by kernel_rfl)) ?_) | (refine Side.mk ?_; (repeat' (first | refine And.intro ?_ ?_ | exact inR_i64 (by omega) (by omega) | omega | rfl | exact trivial | exact none_ne rfl | exact some_ne rfl (Nat.ne_of_beq_eq_false rfl) | exact Nat.ne_of_beq_eq_false rfl | (dsimp only [srcSide]; omega) | (simp; done) | (simp; omega))); done) | (refine side_and ?_ ?_) | (refine drawX_of mixed ?_)))
      all_goals (repeat' (first | refine EndV.mk ?_ | exact trivial | exact rfl | refine And.intro ?_ ?_))
  · rw [Bool.not_eq_true] at hd
    rw [hd] at hdg
    rw [show verXB old m root n p = false by unfold verXB; rw [hd]; simp]
    refine meets_of_gx Ax tab_ok Tryd.func25 (c := _) rfl Tryd.call25 400 ?_
    (repeat' ((conv => whnf); first | (exfalso; omega) | (refine callx_pure (hdg) rfl rfl ?_) | (refine dcallx_pure (hdg) rfl rfl ?_) | (refine call_in Ax tab_ok Tryd.func63 (c := _) rfl Tryd.call63 100 ?_) | (refine end_fn [] (.inr rfl) ?_ trivial rfl rfl) | (refine split_nd (fun hb => ?_) (fun hb => ?_)) | (refine split_d (fun hb => ?_) (fun hb => ?_)) | (refine split_n (fun hb => ?_) (fun hb => ?_)) | (refine split_x (fun hb => ?_) (fun hb => ?_)) | (refine And.intro (TraceOK.mk (by kernel_rfl)) ?_) | (refine Side.mk ?_; (repeat' (first | refine And.intro ?_ ?_ | exact inR_i64 (by omega) (by omega) | omega | rfl | exact trivial | exact none_ne rfl | exact some_ne rfl (Nat.ne_of_beq_eq_false rfl) | exact Nat.ne_of_beq_eq_false rfl | (dsimp only [srcSide]; omega) | (simp; done) | (simp; omega))); done) | (refine side_and ?_ ?_) | (refine drawX_of mixed ?_)))
    all_goals (repeat' (first | refine EndV.mk ?_ | exact trivial | exact rfl | refine And.intro ?_ ?_))
end Go.SX

namespace Go.SX
open Go.Proofs
set_option linter.unusedSimpArgs false
set_option linter.unusedVariables false
set_option maxHeartbeats 4000000
set_option maxRecDepth 100000
def wW (st : List (Nat × Bs)) : List Bs := (st.map Prod.snd).reverse
def wZ (st : List (Nat × Bs)) : List Int := (st.map fun p => (p.1 : Int)).reverse
theorem wW_length (st : List (Nat × Bs)) : (wW st).length = st.length := by simp [wW]
theorem wZ_length (st : List (Nat × Bs)) : (wZ st).length = st.length := by simp [wZ]
theorem wW_cons (n : Nat) (x : Bs) (st : List (Nat × Bs)) : wW ((n, x) :: st) = wW st ++ [x] := by simp [wW]
theorem wZ_cons (n : Nat) (x : Bs) (st : List (Nat × Bs)) : wZ ((n, x) :: st) = wZ st ++ [(n : Int)] := by simp [wZ]
/-- the state of the inner loop -/
structure Cnt where
  st : List (Nat × Bs)
  n : Nat
  x : Bs
structure CntOK (g : Cnt) (tgt : List (Nat × Bs)) : Prop where
  eq : pushC g.n g.x g.st = tgt
  xl : g.x.length = 32
  sl : ∀ p ∈ g.st, p.2.length = 32
  sum : g.n + (g.st.map Prod.fst).sum ≤ 1000
  pos : ∀ p ∈ g.st, 1 ≤ p.1
  len : g.st.length ≤ 1000
theorem foldC_snoc (st : List (Nat × Bs)) (p : Nat × Bs) (x : Bs) : foldC (st ++ [p]) x = nodeH p.2 (foldC st x) := by simp [foldC]
theorem foldC_length (st : List (Nat × Bs)) (x : Bs) (hx : x.length = 32) : (foldC st x).length = 32 := by
  unfold foldC
  induction st generalizing x with
  | nil => exact hx
  | cons p st ih => exact ih _ (nodeH_length _ _)
theorem root_meets (l : List Bs) (hl : l.length ≤ 900) (hS : Short l) : Meets Tryd.prog Dc 21 [.p (.dsl U.str l)] [] (.p (.str (rootC l))) [] := by
  have hus : 0 + 1 = Cd.n U.str := rfl
  have hui : 0 + 1 = Cd.n U.int := rfl
  refine meets_of_gx Ax tab_ok Tryd.func21 (c := _) rfl Tryd.call21 900 ?_
  (repeat' ((conv => whnf); first | (exfalso; omega) | (refine end_fn [] (.inr rfl) ?_ trivial rfl rfl) | (refine split_nd (fun hb => ?_) (fun hb => ?_)) | (refine split_d (fun hb => ?_) (fun hb => ?_)) | (refine split_n (fun hb => ?_) (fun hb => ?_)) | (refine split_x (fun hb => ?_) (fun hb => ?_)) | (refine And.intro (TraceOK.mk (by kernel_rfl)) ?_) | (refine Side.mk ?_; (repeat' (first | refine And.intro ?_ ?_ | exact inR_i64 (by omega) (by omega) | omega | rfl | exact trivial | exact none_ne rfl | exact some_ne rfl (Nat.ne_of_beq_eq_false rfl) | exact Nat.ne_of_beq_eq_false rfl | (dsimp only [srcSide]; omega) | (simp; done) | (simp; omega))); done) | (refine side_and ?_ ?_) | (refine drawX_of mixed ?_)))
  refine loop_inv (fun i : Nat => [(13, .p (.int .i64 i)), (3, .slice 0 0 1 0 (wW (stackC (l.take i))).length), (4, .slice 1 0 1 0 (wZ (stackC (l.take i))).length)]) (fun i => [.rows U.str (wW (stackC (l.take i))), .rows U.int (wZ (stackC (l.take i)))]) (fun i => i ≤ l.length) (fun i => l.length - i) 0 (Nat.zero_le _) [none, none] ⟨by (repeat' (first | refine EndV.mk ?_ | exact trivial | exact rfl | refine And.intro ?_ ?_)), by (repeat' (first | refine EndV.mk ?_ | exact trivial | exact rfl | refine And.intro ?_ ?_)) <;> exact ⟨_, rfl⟩, rfl, rfl⟩ ?_
  intro i hi K hK
  have hdec := dec_stack (l.take i)
  have hsum := dec_sum _ _ hdec
  have hlen := dec_len _ _ hdec
  have hrt := dec_root _ _ hdec
  have hps := dec_pos _ _ hdec
  have hw1 := wW_length (stackC (l.take i))
  have hz1 := wZ_length (stackC (l.take i))
  rcases Nat.lt_or_ge i l.length with hlt | hge
  · have hsx : (l.getD (i : Int).toNat (Cd.dflt U.str)).length ≤ 100 := hS.getD i
    have htk : l.take (i + 1) = l.take i ++ [l.getD i []] := by
      rw [List.take_add_one, List.getD_eq_getElem?_getD, List.getElem?_eq_getElem hlt]; rfl
    have htgt : stackC (l.take (i + 1)) = pushC 1 (leafH (l.getD i [])) (stackC (l.take i)) := by rw [htk, stackC_snoc]
    have hle := leafM (l.getD (i : Int).toNat (Cd.dflt U.str)) (by omega)
    have hll := leafH_length (l.getD (i : Int).toNat (Cd.dflt U.str))
    rw [show leafH (l.getD i []) = leafH (l.getD (i : Int).toNat (Cd.dflt U.str)) from rfl] at htgt
    generalize hst : stackC (l.take i) = st at *
    generalize leafH (l.getD (i : Int).toNat (Cd.dflt U.str)) = x at *
    have hli : (l.take i).length = i := by simp; omega
    rw [hli] at hsum hlen
    have es1 : List.take (wW st).length (wW st) ++ List.take 1 (List.drop 0 [x]) = wW st ++ [x] := by rw [List.take_of_length_le (by omega)]; rfl
    have es2 : List.take (wZ st).length (wZ st) ++ List.take 1 (List.drop 0 [(1 : Int)]) = wZ st ++ [(1 : Int)] := by rw [List.take_of_length_le (by omega)]; rfl
    (repeat' ((conv => whnf); first | (exfalso; omega) | (refine callx_pure (hle) rfl rfl ?_) | (refine dcallx_pure (hle) rfl rfl ?_) | (refine end_fn [] (.inr rfl) ?_ trivial rfl rfl) | (refine split_nd (fun hb => ?_) (fun hb => ?_)) | (refine split_d (fun hb => ?_) (fun hb => ?_)) | (refine split_n (fun hb => ?_) (fun hb => ?_)) | (refine split_x (fun hb => ?_) (fun hb => ?_)) | (refine And.intro (TraceOK.mk (by kernel_rfl)) ?_) | (refine Side.mk ?_; (repeat' (first | refine And.intro ?_ ?_ | exact inR_i64 (by omega) (by omega) | omega | rfl | exact trivial | exact none_ne rfl | exact some_ne rfl (Nat.ne_of_beq_eq_false rfl) | exact Nat.ne_of_beq_eq_false rfl | (dsimp only [srcSide]; omega) | (simp; done) | (simp; omega))); done) | (refine side_and ?_ ?_) | (refine drawX_of mixed ?_)))
    rw [es1, es2]
    clear es1 es2
    refine loop_up (fun g : Cnt => [(3, .slice 3 0 1 0 (wW g.st ++ [g.x]).length), (4, .slice 5 0 1 0 (wZ g.st ++ [(g.n : Int)]).length), (7, .p (.int .i64 ((wZ g.st ++ [(g.n : Int)]).length : Int))), (17, .any), (20, .any), (21, .any), (22, .any), (23, .any), (24, .any), (25, .any)]) (fun g => [(3, .rows U.str (wW g.st ++ [g.x])), (5, .rows U.int (wZ g.st ++ [(g.n : Int)]))]) (fun g => CntOK g (pushC 1 x st)) (fun g => g.st.length) ⟨st, 1, x⟩ ⟨rfl, hll, hrt, by dsimp only; omega, hps, by dsimp only; omega⟩ ⟨by (repeat' (first | refine EndV.mk ?_ | exact trivial | exact rfl | refine And.intro ?_ ?_)), by (repeat' (first | refine EndV.mk ?_ | exact trivial | exact rfl | refine And.intro ?_ ?_)), rfl, rfl⟩ ?_
    rintro ⟨st2, n, y⟩ ⟨g1, g2, g3, g4, g5, g6⟩ K2 hK2
    dsimp only at g1 g2 g3 g4 g5 g6 hK2 ⊢
    rcases st2 with _ | ⟨⟨m, z⟩, st2⟩
    · have hfin : stackC (l.take (i + 1)) = [(n, y)] := by rw [htgt, ← g1]; rfl
      have hl0 : (wZ [] ++ [(n : Int)]).length = 1 := rfl
      clear hK2
      (repeat' ((conv => whnf); first | (exfalso; omega) | (refine hK (i + 1) [some 3, some 5] _ _ ?_ ?_ ?_) | (refine end_fn [] (.inr rfl) ?_ trivial rfl rfl) | (refine split_nd (fun hb => ?_) (fun hb => ?_)) | (refine split_d (fun hb => ?_) (fun hb => ?_)) | (refine split_n (fun hb => ?_) (fun hb => ?_)) | (refine split_x (fun hb => ?_) (fun hb => ?_)) | (refine And.intro (TraceOK.mk (by kernel_rfl)) ?_) | (refine Side.mk ?_; (repeat' (first | refine And.intro ?_ ?_ | exact inR_i64 (by omega) (by omega) | omega | rfl | exact trivial | exact none_ne rfl | exact some_ne rfl (Nat.ne_of_beq_eq_false rfl) | exact Nat.ne_of_beq_eq_false rfl | (dsimp only [srcSide]; omega) | (simp; done) | (simp; omega))); done) | (refine side_and ?_ ?_) | (refine drawX_of mixed ?_)))
      dsimp only
      rw [hfin, wW_cons, wZ_cons]
      (refine Back.mk ?_ ?_ rfl rfl <;> (repeat' (first | refine EndV.mk ?_ | exact trivial | exact rfl | refine And.intro ?_ ?_)))
    · rw [wW_cons, wZ_cons]
      have hA := wW_length st2
      have hB := wZ_length st2
      have g6' : st2.length ≤ 999 := by simp only [List.length_cons] at g6; omega
      have hl1 : (wW st2 ++ [z] ++ [y]).length = st2.length + 2 := by simp [wW_length]
      have hl2 : (wZ st2 ++ [(m : Int)] ++ [(n : Int)]).length = st2.length + 2 := by simp [wZ_length]
      have z1 : (wZ st2 ++ [(m : Int)] ++ [(n : Int)]).getD (0 + ((st2.length + 2 : Nat) - 2 : Int).toNat) (Cd.dflt U.int) = (m : Int) := by
        rw [show 0 + (((st2.length + 2 : Nat) : Int) - 2).toNat = st2.length by omega, List.append_assoc, List.getD_eq_getElem?_getD, List.getElem?_append_right (by omega), hB]; simp
      have z2 : (wZ st2 ++ [(m : Int)] ++ [(n : Int)]).getD (0 + ((st2.length + 2 : Nat) - 1 : Int).toNat) (Cd.dflt U.int) = (n : Int) := by
        rw [show 0 + (((st2.length + 2 : Nat) : Int) - 1).toNat = st2.length + 1 by omega, List.getD_eq_getElem?_getD, List.getElem?_append_right (by simp; omega)]; simp [hB]
      simp only [pushC] at g1
      by_cases hmn : m = n
      · rw [if_pos hmn] at g1
        have w1 : (wW st2 ++ [z] ++ [y]).getD (0 + ((st2.length + 2 : Nat) - 2 : Int).toNat) (Cd.dflt U.str) = z := by
          rw [show 0 + (((st2.length + 2 : Nat) : Int) - 2).toNat = st2.length by omega, List.append_assoc, List.getD_eq_getElem?_getD, List.getElem?_append_right (by omega), hA]; simp
        have w2 : (wW st2 ++ [z] ++ [y]).getD (0 + ((st2.length + 2 : Nat) - 1 : Int).toNat) (Cd.dflt U.str) = y := by
          rw [show 0 + (((st2.length + 2 : Nat) : Int) - 1).toNat = st2.length + 1 by omega, List.getD_eq_getElem?_getD, List.getElem?_append_right (by simp; omega)]; simp [hA]
        have hnl := nodeH_length z y
        have hz : z.length = 32 := g3 (m, z) (by simp)
        have hno := nodeM z y (by omega) (by omega)
        have hsd : Side (CntOK ⟨st2, 2 * n, nodeH z y⟩ (pushC 1 x st)) := ⟨⟨g1, hnl, fun p hp => g3 p (by simp [hp]), by simp at g4; dsimp only; omega, fun p hp => g5 p (by simp [hp]), by dsimp only; omega⟩⟩
        have wt : List.take (((st2.length + 2 : Nat) - 2 : Int).toNat - Int.toNat 0) (wW st2 ++ [z] ++ [y]) ++ List.take 1 (List.drop 0 [nodeH z y]) = wW st2 ++ [nodeH z y] := by
          rw [show (((st2.length + 2 : Nat) : Int) - 2).toNat - Int.toNat 0 = (wW st2).length by omega, List.append_assoc, List.take_left]; rfl
        have zt : List.take (((st2.length + 2 : Nat) - 2 : Int).toNat - Int.toNat 0) (wZ st2 ++ [(m : Int)] ++ [(n : Int)]) ++ List.take 1 (List.drop 0 [2 * (n : Int)]) = wZ st2 ++ [((2 * n : Nat) : Int)] := by
          rw [show (((st2.length + 2 : Nat) : Int) - 2).toNat - Int.toNat 0 = (wZ st2).length by omega, List.append_assoc, List.take_left]
          congr 1
        have hln : (st2.length + 2 : Nat) - (1 : Int) = ((wZ st2 ++ [((2 * n : Nat) : Int)]).length : Int) := by simp [wZ_length]; omega
        generalize nodeH z y = nd at *
        generalize wW st2 ++ [z] ++ [y] = W at *
        generalize wZ st2 ++ [(m : Int)] ++ [(n : Int)] = Z at *
        rw [← hl2] at z1 z2 w1 w2 wt zt hln
        rw [← w1, ← w2] at hno
        (repeat' ((conv => whnf); first | (exfalso; omega) | (refine callx_pure (hno) rfl rfl ?_) | (refine dcallx_pure (hno) rfl rfl ?_) | (rw [z2]) | (refine hK2 ⟨st2, 2 * n, nd⟩ [some 0, some 1, some 2, some 7, some 4, some 9] _ _ hsd ⟨Nat.lt_succ_self _⟩ ?_) | (refine end_fn [] (.inr rfl) ?_ trivial rfl rfl) | (refine split_nd (fun hb => ?_) (fun hb => ?_)) | (refine split_d (fun hb => ?_) (fun hb => ?_)) | (refine split_n (fun hb => ?_) (fun hb => ?_)) | (refine split_x (fun hb => ?_) (fun hb => ?_)) | (refine And.intro (TraceOK.mk (by kernel_rfl)) ?_) | (refine Side.mk ?_; (repeat' (first | refine And.intro ?_ ?_ | exact inR_i64 (by omega) (by omega) | omega | rfl | exact trivial | exact none_ne rfl | exact some_ne rfl (Nat.ne_of_beq_eq_false rfl) | exact Nat.ne_of_beq_eq_false rfl | (dsimp only [srcSide]; omega) | (simp; done) | (simp; omega))); done) | (refine side_and ?_ ?_) | (refine drawX_of mixed ?_)))
        dsimp only
        rw [wt, zt, hln]
        (refine Back.mk ?_ ?_ rfl rfl <;> (repeat' (first | refine EndV.mk ?_ | exact trivial | exact rfl | refine And.intro ?_ ?_)))
      · have hfin : stackC (l.take (i + 1)) = (n, y) :: (m, z) :: st2 := by rw [htgt, ← g1, if_neg hmn]
        clear hK2
        obtain ⟨W, hW⟩ : ∃ W, wW st2 ++ [z] ++ [y] = W := ⟨_, rfl⟩
        obtain ⟨Z, hZ⟩ : ∃ Z, wZ st2 ++ [(m : Int)] ++ [(n : Int)] = Z := ⟨_, rfl⟩
        rw [hW] at hl1 ⊢
        rw [hZ] at hl2 z1 z2 ⊢
        rw [← hl2] at z1 z2
        (repeat' ((conv => whnf); first | (exfalso; omega) | (refine hK (i + 1) [some 3, some 5] _ _ ?_ ?_ ?_) | (refine end_fn [] (.inr rfl) ?_ trivial rfl rfl) | (refine split_nd (fun hb => ?_) (fun hb => ?_)) | (refine split_d (fun hb => ?_) (fun hb => ?_)) | (refine split_n (fun hb => ?_) (fun hb => ?_)) | (refine split_x (fun hb => ?_) (fun hb => ?_)) | (refine And.intro (TraceOK.mk (by kernel_rfl)) ?_) | (refine Side.mk ?_; (repeat' (first | refine And.intro ?_ ?_ | exact inR_i64 (by omega) (by omega) | omega | rfl | exact trivial | exact none_ne rfl | exact some_ne rfl (Nat.ne_of_beq_eq_false rfl) | exact Nat.ne_of_beq_eq_false rfl | (dsimp only [srcSide]; omega) | (simp; done) | (simp; omega))); done) | (refine side_and ?_ ?_) | (refine drawX_of mixed ?_)))
        dsimp only
        rw [hfin, wW_cons, wW_cons, wZ_cons, wZ_cons, hW, hZ]
        (refine Back.mk ?_ ?_ rfl rfl <;> (repeat' (first | refine EndV.mk ?_ | exact trivial | exact rfl | refine And.intro ?_ ?_)))
  · rw [List.take_of_length_le (by omega)] at *
    clear hK
    unfold rootC
    generalize stackC l = st at *
    rcases st with _ | ⟨⟨n, x⟩, st⟩
    · have hsum := sum_meets [] (by simp)
      dsimp only
      have hl0 : (wW []).length = 0 := rfl
      (repeat' ((conv => whnf); first | (exfalso; omega) | (refine callx_pure (hsum) rfl rfl ?_) | (refine dcallx_pure (hsum) rfl rfl ?_) | (refine end_fn [] (.inr rfl) ?_ trivial rfl rfl) | (refine split_nd (fun hb => ?_) (fun hb => ?_)) | (refine split_d (fun hb => ?_) (fun hb => ?_)) | (refine split_n (fun hb => ?_) (fun hb => ?_)) | (refine split_x (fun hb => ?_) (fun hb => ?_)) | (refine And.intro (TraceOK.mk (by kernel_rfl)) ?_) | (refine Side.mk ?_; (repeat' (first | refine And.intro ?_ ?_ | exact inR_i64 (by omega) (by omega) | omega | rfl | exact trivial | exact none_ne rfl | exact some_ne rfl (Nat.ne_of_beq_eq_false rfl) | exact Nat.ne_of_beq_eq_false rfl | (dsimp only [srcSide]; omega) | (simp; done) | (simp; omega))); done) | (refine side_and ?_ ?_) | (refine drawX_of mixed ?_)))
      all_goals (repeat' (first | refine EndV.mk ?_ | exact trivial | exact rfl | refine And.intro ?_ ?_))
    · dsimp only
      rw [wW_cons]
      have hA := wW_length st
      have hx32 : x.length = 32 := hrt (n, x) (by simp)
      have hr2 : ∀ p ∈ st, p.2.length = 32 := fun p hp => hrt p (by simp [hp])
      have hl1 : (wW st ++ [x]).length = st.length + 1 := by simp [wW_length]
      have hlen' : st.length ≤ 900 := by simp only [List.length_cons] at hlen; omega
      have w1 : (wW st ++ [x]).getD (0 + ((st.length + 1 : Nat) - 1 : Int).toNat) (Cd.dflt U.str) = x := by
        rw [show 0 + (((st.length + 1 : Nat) : Int) - 1).toNat = st.length by omega, List.getD_eq_getElem?_getD, List.getElem?_append_right (by omega), hA]; simp
      rw [← hl1] at w1
      generalize hW : wW st ++ [x] = W at *
      (repeat' ((conv => whnf); first | (exfalso; omega) | (rw [w1]) | (refine call_in Ax tab_ok Tryd.func56 (c := _) rfl Tryd.call56 200 ?_) | (refine range_in Ax tab_ok rfl Tryd.func92 (c := _) rfl Tryd.call92 rfl rfl 400 ?_) | (refine end_fn [] (.inr rfl) ?_ trivial rfl rfl) | (refine split_nd (fun hb => ?_) (fun hb => ?_)) | (refine split_d (fun hb => ?_) (fun hb => ?_)) | (refine split_n (fun hb => ?_) (fun hb => ?_)) | (refine split_x (fun hb => ?_) (fun hb => ?_)) | (refine And.intro (TraceOK.mk (by kernel_rfl)) ?_) | (refine Side.mk ?_; (repeat' (first | refine And.intro ?_ ?_ | exact inR_i64 (by omega) (by omega) | omega | rfl | exact trivial | exact none_ne rfl | exact some_ne rfl (Nat.ne_of_beq_eq_false rfl) | exact Nat.ne_of_beq_eq_false rfl | (dsimp only [srcSide]; omega) | (simp; done) | (simp; omega))); done) | (refine side_and ?_ ?_) | (refine drawX_of mixed ?_)))
      intro gn tmps bd
      (repeat' ((conv => whnf); first | (refine end_fn [] (.inr rfl) ?_ trivial rfl rfl) | (refine split_nd (fun hb => ?_) (fun hb => ?_)) | (refine split_d (fun hb => ?_) (fun hb => ?_)) | (refine split_n (fun hb => ?_) (fun hb => ?_)) | (refine split_x (fun hb => ?_) (fun hb => ?_)) | (refine And.intro (TraceOK.mk (by kernel_rfl)) ?_) | (refine Side.mk ?_; (repeat' (first | refine And.intro ?_ ?_ | exact inR_i64 (by omega) (by omega) | omega | rfl | exact trivial | exact none_ne rfl | exact some_ne rfl (Nat.ne_of_beq_eq_false rfl) | exact Nat.ne_of_beq_eq_false rfl | (dsimp only [srcSide]; omega) | (simp; done) | (simp; omega))); done) | (refine side_and ?_ ?_) | (refine drawX_of mixed ?_)))
      have hWn : ((((W.length : Int) - 1).toNat - Int.toNat 0 : Nat) : Int) = st.length := by omega
      refine loop_up (fun j : Nat => [(3, .p (.int .i64 (jS ((((W.length : Int) - 1).toNat - Int.toNat 0 : Nat) : Int) j)))]) (fun j => [(2, .var [.p (.str (foldC (st.take j) x))])]) (fun j => j ≤ st.length) (fun j => st.length - j) 0 (Nat.zero_le _) ⟨by (repeat' (first | refine EndV.mk ?_ | exact trivial | exact rfl | refine And.intro ?_ ?_)), by (repeat' (first | refine EndV.mk ?_ | exact trivial | exact rfl | refine And.intro ?_ ?_)), rfl, rfl⟩ ?_
      intro j hj K hK
      have hjs : jS ((((W.length : Int) - 1).toNat - Int.toNat 0 : Nat) : Int) j = (st.length : Int) - 1 - j := by rw [jS_eq, hWn]
      have hjs1 : jS ((((W.length : Int) - 1).toNat - Int.toNat 0 : Nat) : Int) (j + 1) = jS ((((W.length : Int) - 1).toNat - Int.toNat 0 : Nat) : Int) j - 1 := rfl
      generalize jS ((((W.length : Int) - 1).toNat - Int.toNat 0 : Nat) : Int) j = jj at *
      rcases Nat.lt_or_ge j st.length with hlt | hge
      · have w2 : W.getD (0 + Int.toNat 0 + jj.toNat) (Cd.dflt U.str) = (st.getD j (0, [])).2 := by
          rw [← hW, show 0 + Int.toNat 0 + jj.toNat = st.length - 1 - j by omega, List.getD_eq_getElem?_getD, List.getElem?_append_left (by omega)]
          unfold wW
          rw [List.getElem?_reverse (by simp; omega), List.getElem?_map, List.length_map, show st.length - 1 - (st.length - 1 - j) = j by omega, List.getD_eq_getElem?_getD, List.getElem?_eq_getElem hlt]
          rfl
        have hr32 : (st.getD j (0, [])).2.length = 32 := by
          rw [List.getD_eq_getElem?_getD, List.getElem?_eq_getElem hlt]; exact hr2 _ (List.getElem_mem hlt)
        have hf1 : foldC (st.take (j + 1)) x = nodeH (st.getD j (0, [])).2 (foldC (st.take j) x) := by
          rw [List.take_add_one, List.getElem?_eq_getElem hlt, List.getD_eq_getElem?_getD, List.getElem?_eq_getElem hlt]
          exact foldC_snoc _ _ _
        have hfl : (foldC (st.take j) x).length = 32 := foldC_length _ _ hx32
        generalize (st.getD j (0, [])).2 = r at *
        generalize foldC (st.take j) x = o at *
        have hno := nodeM r o (by omega) (by omega)
        (repeat' ((conv => whnf); first | (exfalso; omega) | (rw [w2]) | (refine yield_in Ax tab_ok rfl rfl rfl 200 200 ?_) | (refine callx_pure (hno) rfl rfl ?_) | (refine dcallx_pure (hno) rfl rfl ?_) | (refine hK (j + 1) ([some 0, some 1, some 2, some 3, some 4]) _ _ ?_ ?_ ?_) | (refine end_fn [] (.inr rfl) ?_ trivial rfl rfl) | (refine split_nd (fun hb => ?_) (fun hb => ?_)) | (refine split_d (fun hb => ?_) (fun hb => ?_)) | (refine split_n (fun hb => ?_) (fun hb => ?_)) | (refine split_x (fun hb => ?_) (fun hb => ?_)) | (refine And.intro (TraceOK.mk (by kernel_rfl)) ?_) | (refine Side.mk ?_; (repeat' (first | refine And.intro ?_ ?_ | exact inR_i64 (by omega) (by omega) | omega | rfl | exact trivial | exact none_ne rfl | exact some_ne rfl (Nat.ne_of_beq_eq_false rfl) | exact Nat.ne_of_beq_eq_false rfl | (dsimp only [srcSide]; omega) | (simp; done) | (simp; omega))); done) | (refine side_and ?_ ?_) | (refine drawX_of mixed ?_)))
        dsimp only
        rw [hf1, hjs1]
        (refine Back.mk ?_ ?_ rfl rfl <;> (repeat' (first | refine EndV.mk ?_ | exact trivial | exact rfl | refine And.intro ?_ ?_)))
      · rw [List.take_of_length_le hge]
        clear hK
        generalize foldC st x = res at *
        (repeat' ((conv => whnf); first | (exfalso; omega) | (refine end_fn [] (.inr rfl) ?_ trivial rfl rfl) | (refine split_nd (fun hb => ?_) (fun hb => ?_)) | (refine split_d (fun hb => ?_) (fun hb => ?_)) | (refine split_n (fun hb => ?_) (fun hb => ?_)) | (refine split_x (fun hb => ?_) (fun hb => ?_)) | (refine And.intro (TraceOK.mk (by kernel_rfl)) ?_) | (refine Side.mk ?_; (repeat' (first | refine And.intro ?_ ?_ | exact inR_i64 (by omega) (by omega) | omega | rfl | exact trivial | exact none_ne rfl | exact some_ne rfl (Nat.ne_of_beq_eq_false rfl) | exact Nat.ne_of_beq_eq_false rfl | (dsimp only [srcSide]; omega) | (simp; done) | (simp; omega))); done) | (refine side_and ?_ ?_) | (refine drawX_of mixed ?_)))
        all_goals (repeat' (first | refine EndV.mk ?_ | exact trivial | exact rfl | refine And.intro ?_ ?_))
theorem rootM (l : List Bs) (hl : l.length ≤ 900) (hS : Short l) : Meets Tryd.prog Dc 21 [.p (.dsl U.str l)] [] (.p (.str (rootS l))) [] := by
  rw [← rootC_eq]; exact root_meets l hl hS
end Go.SX

namespace Go.SX
open Go.Proofs
set_option linter.unusedSimpArgs false
set_option linter.unusedVariables false
set_option maxHeartbeats 4000000
set_option maxRecDepth 100000
theorem refRootH (l : List Bs) (h : l.length ≤ 1000) (hS : Short l) : Meets Tryd.prog Dc 22 [.p (.dsl U.str l)] [] (.p (.str (rootS l))) [] := refRoot_meets l.length l rfl h hS
theorem proofS_length : ∀ (n : Nat) (l : List Bs) (i : Nat), l.length = n → i < n → (proofS l i).length < n := by
  intro n
  induction n using Nat.strongRecOn with
  | _ n ih =>
    intro l i hl hi
    rcases Nat.lt_or_ge n 2 with h2 | h2
    · rw [proofS_one l i (by omega)]; simp; omega
    · have hsp := leftN_spec (n := l.length) (by omega)
      rcases Nat.lt_or_ge i (leftN l.length) with h | h
      · rw [proofS_lt l i (by omega) h]
        have := ih (leftN l.length) (by omega) (l.take (leftN l.length)) i (by simp; omega) h
        simp; omega
      · rw [proofS_ge l i (by omega) h]
        have := ih (n - leftN l.length) (by omega) (l.drop (leftN l.length)) (i - leftN l.length) (by simp; omega) (by omega)
        simp; omega
theorem refProofO_meets : ∀ (n : Nat) (l : List Bs) (i : Nat), l.length = n → n ≤ 1000 → i < n → Short l → Meets Tryd.prog Dc 17 [.p (.dsl U.str l), .p (.int .i64 (i : Int))] [] (.tuple [.slice 0 0 1 0 (proofS l i).length, .p (.int .i64 0)]) [.rows U.str (proofS l i)] := by
  intro n
  induction n using Nat.strongRecOn with
  | _ n ih =>
    intro l i hl hn hi hS
    rcases Nat.lt_or_ge n 2 with h2 | h2
    · rw [proofS_one l i (by omega)]
      refine meets_of_gx Ax tab_ok Tryd.func17 (c := _) rfl Tryd.call17 400 ?_
      (repeat' ((conv => whnf); first | (exfalso; omega) | (refine end_fn [none] (.inr rfl) ?_ ?_ rfl rfl) | (refine end_fn [] (.inr rfl) ?_ trivial rfl rfl) | (refine split_nd (fun hb => ?_) (fun hb => ?_)) | (refine split_d (fun hb => ?_) (fun hb => ?_)) | (refine split_n (fun hb => ?_) (fun hb => ?_)) | (refine split_x (fun hb => ?_) (fun hb => ?_)) | (refine And.intro (TraceOK.mk (by kernel_rfl)) ?_) | (refine Side.mk ?_; (repeat' (first | refine And.intro ?_ ?_ | exact inR_i64 (by omega) (by omega) | omega | rfl | exact trivial | exact none_ne rfl | exact some_ne rfl (Nat.ne_of_beq_eq_false rfl) | exact Nat.ne_of_beq_eq_false rfl | (dsimp only [srcSide]; omega) | (simp; done) | (simp; omega))); done) | (refine side_and ?_ ?_) | (refine drawX_of mixed ?_)))
      all_goals (repeat' (first | refine EndV.mk ?_ | exact trivial | exact rfl | refine And.intro ?_ ?_))
    · have hsp := leftN_spec (n := l.length) (by omega)
      have hleft := refLeft_meets l.length (by omega) (by omega)
      by_cases hik : i < leftN l.length
      · rw [proofS_lt l i (by omega) hik]
        obtain ⟨k, hk⟩ : ∃ k, leftN l.length = k := ⟨_, rfl⟩
        rw [hk] at hsp hleft hik ⊢
        have h1 := ih k (by omega) (l.take k) i (by simp; omega) (by omega) hik (hS.take k)
        have hr := refRootH (l.drop k) (by simp; omega) (hS.drop k)
        have hpl := proofS_length k (l.take k) i (by simp; omega) hik
        generalize proofS (l.take k) i = w at *
        generalize rootS (l.drop k) = x at *
        have es : List.take w.length w ++ List.take 1 (List.drop 0 [x]) = w ++ [x] := by simp
        rw [show List.drop k l = List.drop (k : Int).toNat (List.take (l.length : Int).toNat l) by rw [Int.toNat_natCast, Int.toNat_natCast, List.take_length]] at hr
        refine meets_of_gx Ax tab_ok Tryd.func17 (c := _) rfl Tryd.call17 400 ?_
        (repeat' ((conv => whnf); first | (exfalso; omega) | (refine callx_pure (hleft) rfl rfl ?_) | (refine dcallx_pure (hleft) rfl rfl ?_) | (refine callx_pure (hr) rfl rfl ?_) | (refine dcallx_pure (hr) rfl rfl ?_) | (refine callh [] h1 rfl rfl ⟨⟩ ?_) | (rw [es]) | (refine end_fn [some 2] (.inr rfl) ?_ ?_ rfl rfl) | (refine end_fn [] (.inr rfl) ?_ trivial rfl rfl) | (refine split_nd (fun hb => ?_) (fun hb => ?_)) | (refine split_d (fun hb => ?_) (fun hb => ?_)) | (refine split_n (fun hb => ?_) (fun hb => ?_)) | (refine split_x (fun hb => ?_) (fun hb => ?_)) | (refine And.intro (TraceOK.mk (by kernel_rfl)) ?_) | (refine Side.mk ?_; (repeat' (first | refine And.intro ?_ ?_ | exact inR_i64 (by omega) (by omega) | omega | rfl | exact trivial | exact none_ne rfl | exact some_ne rfl (Nat.ne_of_beq_eq_false rfl) | exact Nat.ne_of_beq_eq_false rfl | (dsimp only [srcSide]; omega) | (simp; done) | (simp; omega))); done) | (refine side_and ?_ ?_) | (refine drawX_of mixed ?_)))
        all_goals (repeat' (first | refine EndV.mk ?_ | exact trivial | exact rfl | refine And.intro ?_ ?_))
      · rw [proofS_ge l i (by omega) (by omega)]
        obtain ⟨k, hk⟩ : ∃ k, leftN l.length = k := ⟨_, rfl⟩
        rw [hk] at hsp hleft hik ⊢
        have h1 := ih (n - k) (by omega) (l.drop k) (i - k) (by simp; omega) (by omega) (by omega) (hS.drop k)
        have hr := refRootH (l.take k) (by simp; omega) (hS.take k)
        have hpl := proofS_length (n - k) (l.drop k) (i - k) (by simp; omega) (by omega)
        generalize proofS (l.drop k) (i - k) = w at *
        generalize rootS (l.take k) = x at *
        have es : List.take w.length w ++ List.take 1 (List.drop 0 [x]) = w ++ [x] := by simp
        rw [show List.drop k l = List.drop (k : Int).toNat (List.take (l.length : Int).toNat l) by rw [Int.toNat_natCast, Int.toNat_natCast, List.take_length], show ((i - k : Nat) : Int) = (i : Int) - k by omega] at h1
        refine meets_of_gx Ax tab_ok Tryd.func17 (c := _) rfl Tryd.call17 400 ?_
        (repeat' ((conv => whnf); first | (exfalso; omega) | (refine callx_pure (hleft) rfl rfl ?_) | (refine dcallx_pure (hleft) rfl rfl ?_) | (refine callx_pure (hr) rfl rfl ?_) | (refine dcallx_pure (hr) rfl rfl ?_) | (refine callh [] h1 rfl rfl ⟨⟩ ?_) | (rw [es]) | (refine end_fn [some 2] (.inr rfl) ?_ ?_ rfl rfl) | (refine end_fn [] (.inr rfl) ?_ trivial rfl rfl) | (refine split_nd (fun hb => ?_) (fun hb => ?_)) | (refine split_d (fun hb => ?_) (fun hb => ?_)) | (refine split_n (fun hb => ?_) (fun hb => ?_)) | (refine split_x (fun hb => ?_) (fun hb => ?_)) | (refine And.intro (TraceOK.mk (by kernel_rfl)) ?_) | (refine Side.mk ?_; (repeat' (first | refine And.intro ?_ ?_ | exact inR_i64 (by omega) (by omega) | omega | rfl | exact trivial | exact none_ne rfl | exact some_ne rfl (Nat.ne_of_beq_eq_false rfl) | exact Nat.ne_of_beq_eq_false rfl | (dsimp only [srcSide]; omega) | (simp; done) | (simp; omega))); done) | (refine side_and ?_ ?_) | (refine drawX_of mixed ?_)))
        all_goals (repeat' (first | refine EndV.mk ?_ | exact trivial | exact rfl | refine And.intro ?_ ?_))
/-- an owned list that is returned, seen as one that lasts -/
theorem meets_frz {C : Cod} {P : Program} {D : Codec C} {f : FuncId} {args : List (SV C)} {ret ret' : SV C} {H1 : List (HS C)} (hM : Meets P D f args [] ret H1) (θ : List (Option Nat)) (h : Seen H1 θ [ret] [ret']) (hv : ViewOK H1 θ [] 0) : Meets P D f args [] ret' [] := by
  refine ⟨hM.enter, fun w E hm vs hs hd => (hM.calls w E hm vs hs hd).mono ?_⟩
  rintro e w' ⟨v, E', rfl, h1, h2, h3⟩
  obtain ⟨g1, g2, g3⟩ := view_env h2 h3 hv
  refine ⟨v, _, rfl, ?_, g2, g3⟩
  have hh := h.h
  simp only [ViewL] at hh
  exact view_den h2 g1 _ _ _ hh.1 h1
theorem refProof_meets (l : List Bs) (i : Int) (hi : -9223372036854775808 ≤ i) (hi2 : i < 9223372036854775808) (hl : l.length ≤ 1000) (hS : Short l) :
    Meets Tryd.prog Dc 17 [.p (.dsl U.str l), .p (.int .i64 i)] [] (if 0 ≤ i ∧ i < l.length then .tuple [.p (.dsl U.str (proofS l i.toNat)), .p (.int .i64 0)] else .tuple [.p (.dsl U.str []), .p (.int .i64 2)]) [] := by
  split
  · obtain ⟨i, rfl⟩ : ∃ m : Nat, i = m := ⟨i.toNat, by omega⟩
    have h := refProofO_meets l.length l i rfl hl (by omega) hS
    exact meets_frz h [] ⟨by (repeat' (first | refine EndV.mk ?_ | exact trivial | exact rfl | refine And.intro ?_ ?_)); exact ⟨_, rfl, rfl, rfl, by simp, by (first | (simp; done) | (simp [List.take_of_length_le]; done) | (simp [List.take_of_length_le]; rfl)), rfl⟩⟩ ⟨trivial, rfl, rfl⟩
  · refine meets_of_gx Ax tab_ok Tryd.func17 (c := _) rfl Tryd.call17 400 ?_
    (repeat' ((conv => whnf); first | (exfalso; omega) | (refine end_fn [] (.inr rfl) ?_ trivial rfl rfl) | (refine split_nd (fun hb => ?_) (fun hb => ?_)) | (refine split_d (fun hb => ?_) (fun hb => ?_)) | (refine split_n (fun hb => ?_) (fun hb => ?_)) | (refine split_x (fun hb => ?_) (fun hb => ?_)) | (refine And.intro (TraceOK.mk (by kernel_rfl)) ?_) | (refine Side.mk ?_; (repeat' (first | refine And.intro ?_ ?_ | exact inR_i64 (by omega) (by omega) | omega | rfl | exact trivial | exact none_ne rfl | exact some_ne rfl (Nat.ne_of_beq_eq_false rfl) | exact Nat.ne_of_beq_eq_false rfl | (dsimp only [srcSide]; omega) | (simp; done) | (simp; omega))); done) | (refine side_and ?_ ?_) | (refine drawX_of mixed ?_)))
    all_goals (repeat' (first | refine EndV.mk ?_ | exact trivial | exact rfl | refine And.intro ?_ ?_))
theorem partS_length : ∀ (n : Nat) (l : List Bs) (m : Nat) (whole : Bool), l.length = n → 1 ≤ n → (partS l m whole).length ≤ n := by
  intro n
  induction n using Nat.strongRecOn with
  | _ n ih =>
    intro l m whole hl hn
    rcases Nat.lt_or_ge m l.length with h | h
    · rcases Nat.eq_zero_or_pos m with h0 | h0
      · subst h0
        rw [partS, dif_pos (.inr rfl)]
        split <;> simp; omega
      · have hsp := leftN_spec (n := l.length) (by omega)
        rcases Nat.lt_or_ge (leftN l.length) m with h3 | h3
        · rw [partS_gt l m whole h h3]
          have := ih (n - leftN l.length) (by omega) (l.drop (leftN l.length)) (m - leftN l.length) false (by simp; omega) (by omega)
          simp; omega
        · rw [partS_lt l m whole h0 h h3]
          have := ih (leftN l.length) (by omega) (l.take (leftN l.length)) m whole (by simp; omega) (by omega)
          simp; omega
    · rw [partS_eq l m whole h]; split <;> simp; omega
theorem refPartO_meets : ∀ (n : Nat) (l : List Bs) (m : Nat) (whole : Bool), l.length = n → n ≤ 1000 → 1 ≤ m → m ≤ n → Short l → Meets Tryd.prog Dc 55 [.p (.dsl U.str l), .p (.int .i64 (m : Int)), .p (.bool whole)] [] (.slice 0 0 1 0 (partS l m whole).length) [.rows U.str (partS l m whole)] := by
  intro n
  induction n using Nat.strongRecOn with
  | _ n ih =>
    intro l m whole hl hn h1 hm hS
    rcases Nat.lt_or_ge m l.length with h2 | h2
    · have hsp := leftN_spec (n := l.length) (by omega)
      have hleft := refLeft_meets l.length (by omega) (by omega)
      by_cases hik : m ≤ leftN l.length
      · rw [partS_lt l m whole h1 h2 hik]
        obtain ⟨k, hk⟩ : ∃ k, leftN l.length = k := ⟨_, rfl⟩
        rw [hk] at hsp hleft hik ⊢
        have h1 := ih k (by omega) (l.take k) m whole (by simp; omega) (by omega) h1 hik (hS.take k)
        have hr := refRootH (l.drop k) (by simp; omega) (hS.drop k)
        have hpl := partS_length k (l.take k) m whole (by simp; omega) (by omega)
        generalize partS (l.take k) m whole = w at *
        generalize rootS (l.drop k) = x at *
        have es : List.take w.length w ++ List.take 1 (List.drop 0 [x]) = w ++ [x] := by simp
        rw [show List.drop k l = List.drop (k : Int).toNat (List.take (l.length : Int).toNat l) by rw [Int.toNat_natCast, Int.toNat_natCast, List.take_length]] at hr
        refine meets_of_gx Ax tab_ok Tryd.func55 (c := _) rfl Tryd.call55 400 ?_
        (repeat' ((conv => whnf); first | (exfalso; omega) | (refine callx_pure (hleft) rfl rfl ?_) | (refine dcallx_pure (hleft) rfl rfl ?_) | (refine callx_pure (hr) rfl rfl ?_) | (refine dcallx_pure (hr) rfl rfl ?_) | (refine callh [] h1 rfl rfl ⟨⟩ ?_) | (refine dcallh [] h1 rfl rfl ⟨⟩ ?_) | (rw [es]) | (refine end_fn [some 2] (.inr rfl) ?_ ?_ rfl rfl) | (refine end_fn [some 1] (.inr rfl) ?_ ?_ rfl rfl) | (refine end_fn [] (.inr rfl) ?_ trivial rfl rfl) | (refine split_nd (fun hb => ?_) (fun hb => ?_)) | (refine split_d (fun hb => ?_) (fun hb => ?_)) | (refine split_n (fun hb => ?_) (fun hb => ?_)) | (refine split_x (fun hb => ?_) (fun hb => ?_)) | (refine And.intro (TraceOK.mk (by kernel_rfl)) ?_) | (refine Side.mk ?_; (repeat' (first | refine And.intro ?_ ?_ | exact inR_i64 (by omega) (by omega) | omega | rfl | exact trivial | exact none_ne rfl | exact some_ne rfl (Nat.ne_of_beq_eq_false rfl) | exact Nat.ne_of_beq_eq_false rfl | (dsimp only [srcSide]; omega) | (simp; done) | (simp; omega))); done) | (refine side_and ?_ ?_) | (refine drawX_of mixed ?_)))
        all_goals (repeat' (first | refine EndV.mk ?_ | exact trivial | exact rfl | refine And.intro ?_ ?_))
        all_goals try (conv => whnf)
      · rw [partS_gt l m whole h2 (by omega)]
        obtain ⟨k, hk⟩ : ∃ k, leftN l.length = k := ⟨_, rfl⟩
        rw [hk] at hsp hleft hik ⊢
        have h1 := ih (n - k) (by omega) (l.drop k) (m - k) false (by simp; omega) (by omega) (by omega) (by omega) (hS.drop k)
        have hr := refRootH (l.take k) (by simp; omega) (hS.take k)
        have hpl := partS_length (n - k) (l.drop k) (m - k) false (by simp; omega) (by omega)
        generalize partS (l.drop k) (m - k) false = w at *
        generalize rootS (l.take k) = x at *
        have es : List.take w.length w ++ List.take 1 (List.drop 0 [x]) = w ++ [x] := by simp
        rw [show List.drop k l = List.drop (k : Int).toNat (List.take (l.length : Int).toNat l) by rw [Int.toNat_natCast, Int.toNat_natCast, List.take_length], show ((m - k : Nat) : Int) = (m : Int) - k by omega] at h1
        refine meets_of_gx Ax tab_ok Tryd.func55 (c := _) rfl Tryd.call55 400 ?_
        (repeat' ((conv => whnf); first | (exfalso; omega) | (refine callx_pure (hleft) rfl rfl ?_) | (refine dcallx_pure (hleft) rfl rfl ?_) | (refine callx_pure (hr) rfl rfl ?_) | (refine dcallx_pure (hr) rfl rfl ?_) | (refine callh [] h1 rfl rfl ⟨⟩ ?_) | (refine dcallh [] h1 rfl rfl ⟨⟩ ?_) | (rw [es]) | (refine end_fn [some 2] (.inr rfl) ?_ ?_ rfl rfl) | (refine end_fn [some 1] (.inr rfl) ?_ ?_ rfl rfl) | (refine end_fn [] (.inr rfl) ?_ trivial rfl rfl) | (refine split_nd (fun hb => ?_) (fun hb => ?_)) | (refine split_d (fun hb => ?_) (fun hb => ?_)) | (refine split_n (fun hb => ?_) (fun hb => ?_)) | (refine split_x (fun hb => ?_) (fun hb => ?_)) | (refine And.intro (TraceOK.mk (by kernel_rfl)) ?_) | (refine Side.mk ?_; (repeat' (first | refine And.intro ?_ ?_ | exact inR_i64 (by omega) (by omega) | omega | rfl | exact trivial | exact none_ne rfl | exact some_ne rfl (Nat.ne_of_beq_eq_false rfl) | exact Nat.ne_of_beq_eq_false rfl | (dsimp only [srcSide]; omega) | (simp; done) | (simp; omega))); done) | (refine side_and ?_ ?_) | (refine drawX_of mixed ?_)))
        all_goals (repeat' (first | refine EndV.mk ?_ | exact trivial | exact rfl | refine And.intro ?_ ?_))
        all_goals try (conv => whnf)
    · rw [partS_eq l m whole h2]
      cases whole with
      | true =>
        refine meets_of_gx Ax tab_ok Tryd.func55 (c := _) rfl Tryd.call55 400 ?_
        (repeat' ((conv => whnf); first | (exfalso; omega) | (refine end_fn [none] (.inr rfl) ?_ ?_ rfl rfl) | (refine end_fn [] (.inr rfl) ?_ trivial rfl rfl) | (refine split_nd (fun hb => ?_) (fun hb => ?_)) | (refine split_d (fun hb => ?_) (fun hb => ?_)) | (refine split_n (fun hb => ?_) (fun hb => ?_)) | (refine split_x (fun hb => ?_) (fun hb => ?_)) | (refine And.intro (TraceOK.mk (by kernel_rfl)) ?_) | (refine Side.mk ?_; (repeat' (first | refine And.intro ?_ ?_ | exact inR_i64 (by omega) (by omega) | omega | rfl | exact trivial | exact none_ne rfl | exact some_ne rfl (Nat.ne_of_beq_eq_false rfl) | exact Nat.ne_of_beq_eq_false rfl | (dsimp only [srcSide]; omega) | (simp; done) | (simp; omega))); done) | (refine side_and ?_ ?_) | (refine drawX_of mixed ?_)))
        all_goals (repeat' (first | refine EndV.mk ?_ | exact trivial | exact rfl | refine And.intro ?_ ?_))
      | false =>
        have hr := refRootH l (by omega) hS
        refine meets_of_gx Ax tab_ok Tryd.func55 (c := _) rfl Tryd.call55 400 ?_
        (repeat' ((conv => whnf); first | (exfalso; omega) | (refine callx_pure (hr) rfl rfl ?_) | (refine dcallx_pure (hr) rfl rfl ?_) | (refine end_fn [some 0] (.inr rfl) ?_ ?_ rfl rfl) | (refine end_fn [] (.inr rfl) ?_ trivial rfl rfl) | (refine split_nd (fun hb => ?_) (fun hb => ?_)) | (refine split_d (fun hb => ?_) (fun hb => ?_)) | (refine split_n (fun hb => ?_) (fun hb => ?_)) | (refine split_x (fun hb => ?_) (fun hb => ?_)) | (refine And.intro (TraceOK.mk (by kernel_rfl)) ?_) | (refine Side.mk ?_; (repeat' (first | refine And.intro ?_ ?_ | exact inR_i64 (by omega) (by omega) | omega | rfl | exact trivial | exact none_ne rfl | exact some_ne rfl (Nat.ne_of_beq_eq_false rfl) | exact Nat.ne_of_beq_eq_false rfl | (dsimp only [srcSide]; omega) | (simp; done) | (simp; omega))); done) | (refine side_and ?_ ?_) | (refine drawX_of mixed ?_)))
        all_goals (repeat' (first | refine EndV.mk ?_ | exact trivial | exact rfl | refine And.intro ?_ ?_))
        all_goals try (conv => whnf)
theorem refExtension_meets (l : List Bs) (m : Int) (hi : -9223372036854775808 ≤ m) (hi2 : m < 9223372036854775808) (hl : l.length ≤ 1000) (hS : Short l) :
    Meets Tryd.prog Dc 19 [.p (.dsl U.str l), .p (.int .i64 m)] [] (if 0 ≤ m ∧ m ≤ l.length then .tuple [.p (.dsl U.str (if m = 0 then [] else partS l m.toNat true)), .p (.int .i64 0)] else .tuple [.p (.dsl U.str []), .p (.int .i64 2)]) [] := by
  split
  · obtain ⟨m, rfl⟩ : ∃ k : Nat, m = k := ⟨m.toNat, by omega⟩
    split
    · refine meets_of_gx Ax tab_ok Tryd.func19 (c := _) rfl Tryd.call19 400 ?_
      (repeat' ((conv => whnf); first | (exfalso; omega) | (refine end_fn [] (.inr rfl) ?_ trivial rfl rfl) | (refine split_nd (fun hb => ?_) (fun hb => ?_)) | (refine split_d (fun hb => ?_) (fun hb => ?_)) | (refine split_n (fun hb => ?_) (fun hb => ?_)) | (refine split_x (fun hb => ?_) (fun hb => ?_)) | (refine And.intro (TraceOK.mk (by kernel_rfl)) ?_) | (refine Side.mk ?_; (repeat' (first | refine And.intro ?_ ?_ | exact inR_i64 (by omega) (by omega) | omega | rfl | exact trivial | exact none_ne rfl | exact some_ne rfl (Nat.ne_of_beq_eq_false rfl) | exact Nat.ne_of_beq_eq_false rfl | (dsimp only [srcSide]; omega) | (simp; done) | (simp; omega))); done) | (refine side_and ?_ ?_) | (refine drawX_of mixed ?_)))
      all_goals (repeat' (first | refine EndV.mk ?_ | exact trivial | exact rfl | refine And.intro ?_ ?_))
    · have h := refPartO_meets l.length l m true rfl hl (by omega) (by omega) hS
      rw [Int.toNat_natCast]
      generalize partS l m true = w at *
      refine meets_of_gx Ax tab_ok Tryd.func19 (c := _) rfl Tryd.call19 400 ?_
      (repeat' ((conv => whnf); first | (exfalso; omega) | (refine callh [] h rfl rfl ⟨⟩ ?_) | (refine dcallh [] h rfl rfl ⟨⟩ ?_) | (refine end_fn [] (.inr rfl) ?_ trivial rfl rfl) | (refine split_nd (fun hb => ?_) (fun hb => ?_)) | (refine split_d (fun hb => ?_) (fun hb => ?_)) | (refine split_n (fun hb => ?_) (fun hb => ?_)) | (refine split_x (fun hb => ?_) (fun hb => ?_)) | (refine And.intro (TraceOK.mk (by kernel_rfl)) ?_) | (refine Side.mk ?_; (repeat' (first | refine And.intro ?_ ?_ | exact inR_i64 (by omega) (by omega) | omega | rfl | exact trivial | exact none_ne rfl | exact some_ne rfl (Nat.ne_of_beq_eq_false rfl) | exact Nat.ne_of_beq_eq_false rfl | (dsimp only [srcSide]; omega) | (simp; done) | (simp; omega))); done) | (refine side_and ?_ ?_) | (refine drawX_of mixed ?_)))
      all_goals (repeat' (first | refine EndV.mk ?_ | exact trivial | exact rfl | refine And.intro ?_ ?_))
      all_goals exact ⟨_, rfl, rfl, rfl, by simp, by (first | (simp; done) | (simp [List.take_of_length_le]; done) | (simp [List.take_of_length_le]; rfl)), rfl⟩
  · refine meets_of_gx Ax tab_ok Tryd.func19 (c := _) rfl Tryd.call19 400 ?_
    (repeat' ((conv => whnf); first | (exfalso; omega) | (refine end_fn [] (.inr rfl) ?_ trivial rfl rfl) | (refine split_nd (fun hb => ?_) (fun hb => ?_)) | (refine split_d (fun hb => ?_) (fun hb => ?_)) | (refine split_n (fun hb => ?_) (fun hb => ?_)) | (refine split_x (fun hb => ?_) (fun hb => ?_)) | (refine And.intro (TraceOK.mk (by kernel_rfl)) ?_) | (refine Side.mk ?_; (repeat' (first | refine And.intro ?_ ?_ | exact inR_i64 (by omega) (by omega) | omega | rfl | exact trivial | exact none_ne rfl | exact some_ne rfl (Nat.ne_of_beq_eq_false rfl) | exact Nat.ne_of_beq_eq_false rfl | (dsimp only [srcSide]; omega) | (simp; done) | (simp; omega))); done) | (refine side_and ?_ ?_) | (refine drawX_of mixed ?_)))
    all_goals (repeat' (first | refine EndV.mk ?_ | exact trivial | exact rfl | refine And.intro ?_ ?_))
end Go.SX
