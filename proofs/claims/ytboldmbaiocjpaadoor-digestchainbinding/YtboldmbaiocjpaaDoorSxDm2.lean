/-
  Walks: Dm2, Dm5, Dm6: what single functions of the program compute.
-/
import Derived.Test.YtboldmbaiocjpaaDoorSxDm4
namespace Go.SX
open Go.Proofs
set_option linter.unusedSimpArgs false
set_option linter.unusedVariables false
set_option maxHeartbeats 4000000
set_option maxRecDepth 100000
structure PG where
  l : List Bs
  i : Nat
  out : List Bs
structure POK (tgt : List Bs) (g : PG) : Prop where
  eq : proofS g.l g.i ++ g.out.reverse = tgt
  il : g.i < g.l.length
  sz : g.out.length + g.l.length ≤ 900
  sh : Short g.l
theorem proofM (l : List Bs) (i : Int) (hi : -9223372036854775808 ≤ i) (hi2 : i < 9223372036854775808) (hl : l.length ≤ 900) (hS : Short l) :
    Meets Tryd.prog Dc 16 [.p (.dsl U.str l), .p (.int .i64 i)] [] (if 0 ≤ i ∧ i < l.length then .tuple [.p (.dsl U.str (proofS l i.toNat)), .p (.int .i64 0)] else .tuple [.p (.dsl U.str []), .p (.int .i64 2)]) [] := by
  split
  · obtain ⟨i, rfl⟩ : ∃ m : Nat, i = m := ⟨i.toNat, by omega⟩
    rw [Int.toNat_natCast]
    have hus : 0 + 1 = Cd.n U.str := rfl
    refine meets_of_gx Ax tab_ok Tryd.func16 (c := _) rfl Tryd.call16 400 ?_
    (repeat' ((conv => whnf); first | (exfalso; omega) | (refine end_fn [] (.inr rfl) ?_ trivial rfl rfl) | (refine split_nd (fun hb => ?_) (fun hb => ?_)) | (refine split_d (fun hb => ?_) (fun hb => ?_)) | (refine split_n (fun hb => ?_) (fun hb => ?_)) | (refine split_x (fun hb => ?_) (fun hb => ?_)) | (refine And.intro (TraceOK.mk (by kernel_rfl)) ?_) | (refine Side.mk ?_; (repeat' (first | refine And.intro ?_ ?_ | exact inR_i64 (by omega) (by omega) | omega | rfl | exact trivial | exact none_ne rfl | exact some_ne rfl (Nat.ne_of_beq_eq_false rfl) | exact Nat.ne_of_beq_eq_false rfl | (dsimp only [srcSide]; omega) | (simp; done) | (simp; omega))); done) | (refine side_and ?_ ?_) | (refine drawX_of mixed ?_)))
    refine loop_inv (fun g : PG => [(0, .p (.dsl U.str g.l)), (1, .p (.int .i64 g.i)), (6, .slice 0 0 1 0 g.out.length)]) (fun g => [.rows U.str g.out]) (POK (proofS l i)) (fun g => g.l.length) ⟨l, i, []⟩ ⟨by simp, by dsimp only; omega, by simpa using hl, hS⟩ [none] ⟨by (repeat' (first | refine EndV.mk ?_ | exact trivial | exact rfl | refine And.intro ?_ ?_)), by (repeat' (first | refine EndV.mk ?_ | exact trivial | exact rfl | refine And.intro ?_ ?_)) <;> exact ⟨_, rfl⟩, rfl, rfl⟩ ?_
    rintro ⟨l', i', out⟩ ⟨g1, g2, g3, g4⟩ K hK
    dsimp only at g1 g2 g3 g4 hK ⊢
    generalize proofS l i = tgt at *
    by_cases h1 : l'.length = 1
    · clear hK
      rw [proofS_one l' i' (by omega), List.nil_append] at g1
      have hrev := reverse_meets out (by omega)
      rw [g1] at hrev
      have htl : tgt.length = out.length := by rw [← g1]; simp
      (repeat' ((conv => whnf); first | (exfalso; omega) | (refine callh [some 0] hrev rfl rfl ⟨rfl, trivial⟩ ?_) | (refine end_fn [] (.inr rfl) ?_ trivial rfl rfl) | (refine split_nd (fun hb => ?_) (fun hb => ?_)) | (refine split_d (fun hb => ?_) (fun hb => ?_)) | (refine split_n (fun hb => ?_) (fun hb => ?_)) | (refine split_x (fun hb => ?_) (fun hb => ?_)) | (refine And.intro (TraceOK.mk (by kernel_rfl)) ?_) | (refine Side.mk ?_; (repeat' (first | refine And.intro ?_ ?_ | exact inR_i64 (by omega) (by omega) | omega | rfl | exact trivial | exact none_ne rfl | exact some_ne rfl (Nat.ne_of_beq_eq_false rfl) | exact Nat.ne_of_beq_eq_false rfl | (dsimp only [srcSide]; omega) | (simp; done) | (simp; omega))); done) | (refine side_and ?_ ?_) | (refine drawX_of mixed ?_)))
      all_goals (repeat' (first | refine EndV.mk ?_ | exact trivial | exact rfl | refine And.intro ?_ ?_))
      all_goals exact ⟨_, rfl, rfl, rfl, by omega, by rw [List.drop_zero, List.take_of_length_le (by omega)], rfl⟩
    · have hsp := leftN_spec (n := l'.length) (by omega)
      have hleft := left_meets l'.length (by omega) (by omega)
      obtain ⟨k, hk⟩ : ∃ k, leftN l'.length = k := ⟨_, rfl⟩
      have e3 : List.drop (k : Int).toNat (List.take (l'.length : Int).toNat l') = l'.drop k := by rw [Int.toNat_natCast, Int.toNat_natCast, List.take_length]
      by_cases hik : i' < leftN l'.length
      · rw [proofS_lt l' i' (by omega) hik] at g1
        rw [hk] at hsp hleft hik g1
        have hsd : Side (POK tgt ⟨l'.take k, i', out ++ [rootS (l'.drop k)]⟩) := ⟨⟨by rw [← g1]; simp, by simp; omega, by simp; omega, g4.take k⟩⟩
        have hmu : Side (((⟨l'.take k, i', out ++ [rootS (l'.drop k)]⟩ : PG)).l.length < l'.length) := ⟨by simp; omega⟩
        have hr := rootM (l'.drop k) (by simp; omega) (g4.drop k)
        generalize rootS (l'.drop k) = x at *
        rw [← e3] at hr
        have es : List.take out.length out ++ List.take 1 (List.drop 0 [x]) = out ++ [x] := by rw [List.take_length]; rfl
        (repeat' ((conv => whnf); first | (exfalso; omega) | (refine callx_pure (hleft) rfl rfl ?_) | (refine dcallx_pure (hleft) rfl rfl ?_) | (refine callx_pure (hr) rfl rfl ?_) | (refine dcallx_pure (hr) rfl rfl ?_) | (refine hK ⟨l'.take k, i', out ++ [x]⟩ [some 2] _ _ hsd hmu ?_) | (refine end_fn [] (.inr rfl) ?_ trivial rfl rfl) | (refine split_nd (fun hb => ?_) (fun hb => ?_)) | (refine split_d (fun hb => ?_) (fun hb => ?_)) | (refine split_n (fun hb => ?_) (fun hb => ?_)) | (refine split_x (fun hb => ?_) (fun hb => ?_)) | (refine And.intro (TraceOK.mk (by kernel_rfl)) ?_) | (refine Side.mk ?_; (repeat' (first | refine And.intro ?_ ?_ | exact inR_i64 (by omega) (by omega) | omega | rfl | exact trivial | exact none_ne rfl | exact some_ne rfl (Nat.ne_of_beq_eq_false rfl) | exact Nat.ne_of_beq_eq_false rfl | (dsimp only [srcSide]; omega) | (simp; done) | (simp; omega))); done) | (refine side_and ?_ ?_) | (refine drawX_of mixed ?_)))
        rw [es]
        dsimp only
        (refine Back.mk ?_ ?_ rfl rfl <;> (repeat' (first | refine EndV.mk ?_ | exact trivial | exact rfl | refine And.intro ?_ ?_)))
      · rw [proofS_ge l' i' (by omega) (by omega)] at g1
        rw [hk] at hsp hleft hik g1
        have hsd : Side (POK tgt ⟨l'.drop k, i' - k, out ++ [rootS (l'.take k)]⟩) := ⟨⟨by rw [← g1]; simp, by simp; omega, by simp; omega, g4.drop k⟩⟩
        have hmu : Side (((⟨l'.drop k, i' - k, out ++ [rootS (l'.take k)]⟩ : PG)).l.length < l'.length) := ⟨by simp; omega⟩
        have hr := rootM (l'.take k) (by simp; omega) (g4.take k)
        generalize rootS (l'.take k) = x at *
        have es : List.take out.length out ++ List.take 1 (List.drop 0 [x]) = out ++ [x] := by rw [List.take_length]; rfl
        have ei : (i' : Int) - k = ((i' - k : Nat) : Int) := by omega
        (repeat' ((conv => whnf); first | (exfalso; omega) | (refine callx_pure (hleft) rfl rfl ?_) | (refine dcallx_pure (hleft) rfl rfl ?_) | (refine callx_pure (hr) rfl rfl ?_) | (refine dcallx_pure (hr) rfl rfl ?_) | (refine hK ⟨l'.drop k, i' - k, out ++ [x]⟩ [some 2] _ _ hsd hmu ?_) | (refine end_fn [] (.inr rfl) ?_ trivial rfl rfl) | (refine split_nd (fun hb => ?_) (fun hb => ?_)) | (refine split_d (fun hb => ?_) (fun hb => ?_)) | (refine split_n (fun hb => ?_) (fun hb => ?_)) | (refine split_x (fun hb => ?_) (fun hb => ?_)) | (refine And.intro (TraceOK.mk (by kernel_rfl)) ?_) | (refine Side.mk ?_; (repeat' (first | refine And.intro ?_ ?_ | exact inR_i64 (by omega) (by omega) | omega | rfl | exact trivial | exact none_ne rfl | exact some_ne rfl (Nat.ne_of_beq_eq_false rfl) | exact Nat.ne_of_beq_eq_false rfl | (dsimp only [srcSide]; omega) | (simp; done) | (simp; omega))); done) | (refine side_and ?_ ?_) | (refine drawX_of mixed ?_)))
        rw [es, ei, e3]
        dsimp only
        (refine Back.mk ?_ ?_ rfl rfl <;> (repeat' (first | refine EndV.mk ?_ | exact trivial | exact rfl | refine And.intro ?_ ?_)))
  · refine meets_of_gx Ax tab_ok Tryd.func16 (c := _) rfl Tryd.call16 400 ?_
    (repeat' ((conv => whnf); first | (exfalso; omega) | (refine end_fn [] (.inr rfl) ?_ trivial rfl rfl) | (refine split_nd (fun hb => ?_) (fun hb => ?_)) | (refine split_d (fun hb => ?_) (fun hb => ?_)) | (refine split_n (fun hb => ?_) (fun hb => ?_)) | (refine split_x (fun hb => ?_) (fun hb => ?_)) | (refine And.intro (TraceOK.mk (by kernel_rfl)) ?_) | (refine Side.mk ?_; (repeat' (first | refine And.intro ?_ ?_ | exact inR_i64 (by omega) (by omega) | omega | rfl | exact trivial | exact none_ne rfl | exact some_ne rfl (Nat.ne_of_beq_eq_false rfl) | exact Nat.ne_of_beq_eq_false rfl | (dsimp only [srcSide]; omega) | (simp; done) | (simp; omega))); done) | (refine side_and ?_ ?_) | (refine drawX_of mixed ?_)))
    all_goals (repeat' (first | refine EndV.mk ?_ | exact trivial | exact rfl | refine And.intro ?_ ?_))
structure XG where
  l : List Bs
  m : Nat
  whole : Bool
  out : List Bs
structure XOK (tgt : List Bs) (g : XG) : Prop where
  eq : partS g.l g.m g.whole ++ g.out.reverse = tgt
  m1 : 1 ≤ g.m
  ml : g.m ≤ g.l.length
  sz : g.out.length + g.l.length ≤ 900
  sh : Short g.l
theorem extM (l : List Bs) (m : Int) (hi : -9223372036854775808 ≤ m) (hi2 : m < 9223372036854775808) (hl : l.length ≤ 900) (hS : Short l) :
    Meets Tryd.prog Dc 18 [.p (.dsl U.str l), .p (.int .i64 m)] [] (if 0 ≤ m ∧ m ≤ l.length then .tuple [.p (.dsl U.str (if m = 0 then [] else partS l m.toNat true)), .p (.int .i64 0)] else .tuple [.p (.dsl U.str []), .p (.int .i64 2)]) [] := by
  split
  · obtain ⟨m, rfl⟩ : ∃ k : Nat, m = k := ⟨m.toNat, by omega⟩
    split
    · refine meets_of_gx Ax tab_ok Tryd.func18 (c := _) rfl Tryd.call18 400 ?_
      (repeat' ((conv => whnf); first | (exfalso; omega) | (refine end_fn [] (.inr rfl) ?_ trivial rfl rfl) | (refine split_nd (fun hb => ?_) (fun hb => ?_)) | (refine split_d (fun hb => ?_) (fun hb => ?_)) | (refine split_n (fun hb => ?_) (fun hb => ?_)) | (refine split_x (fun hb => ?_) (fun hb => ?_)) | (refine And.intro (TraceOK.mk (by kernel_rfl)) ?_) | (refine Side.mk ?_; (repeat' (first | refine And.intro ?_ ?_ | exact inR_i64 (by omega) (by omega) | omega | rfl | exact trivial | exact none_ne rfl | exact some_ne rfl (Nat.ne_of_beq_eq_false rfl) | exact Nat.ne_of_beq_eq_false rfl | (dsimp only [srcSide]; omega) | (simp; done) | (simp; omega))); done) | (refine side_and ?_ ?_) | (refine drawX_of mixed ?_)))
      all_goals (repeat' (first | refine EndV.mk ?_ | exact trivial | exact rfl | refine And.intro ?_ ?_))
    · rw [Int.toNat_natCast]
      have hus : 0 + 1 = Cd.n U.str := rfl
      refine meets_of_gx Ax tab_ok Tryd.func18 (c := _) rfl Tryd.call18 400 ?_
      (repeat' ((conv => whnf); first | (exfalso; omega) | (refine end_fn [] (.inr rfl) ?_ trivial rfl rfl) | (refine split_nd (fun hb => ?_) (fun hb => ?_)) | (refine split_d (fun hb => ?_) (fun hb => ?_)) | (refine split_n (fun hb => ?_) (fun hb => ?_)) | (refine split_x (fun hb => ?_) (fun hb => ?_)) | (refine And.intro (TraceOK.mk (by kernel_rfl)) ?_) | (refine Side.mk ?_; (repeat' (first | refine And.intro ?_ ?_ | exact inR_i64 (by omega) (by omega) | omega | rfl | exact trivial | exact none_ne rfl | exact some_ne rfl (Nat.ne_of_beq_eq_false rfl) | exact Nat.ne_of_beq_eq_false rfl | (dsimp only [srcSide]; omega) | (simp; done) | (simp; omega))); done) | (refine side_and ?_ ?_) | (refine drawX_of mixed ?_)))
      refine loop_inv (fun g : XG => [(0, .p (.dsl U.str g.l)), (1, .p (.int .i64 g.m)), (6, .slice 0 0 1 0 g.out.length), (7, .p (.bool g.whole))]) (fun g => [.rows U.str g.out]) (XOK (partS l m true)) (fun g => g.l.length) ⟨l, m, true, []⟩ ⟨by simp, by dsimp only; omega, by dsimp only; omega, by simpa using hl, hS⟩ [none] ⟨by (repeat' (first | refine EndV.mk ?_ | exact trivial | exact rfl | refine And.intro ?_ ?_)), by (repeat' (first | refine EndV.mk ?_ | exact trivial | exact rfl | refine And.intro ?_ ?_)) <;> exact ⟨_, rfl⟩, rfl, rfl⟩ ?_
      rintro ⟨l', m', whole, out⟩ ⟨g1, g0, g2, g3, g4⟩ K hK
      dsimp only at g1 g0 g2 g3 g4 hK ⊢
      generalize partS l m true = tgt at *
      by_cases h1 : m' = l'.length
      · clear hK
        rw [partS_eq l' m' whole (by omega)] at g1
        cases whole with
        | true =>
          rw [if_pos rfl, List.nil_append] at g1
          have hrev := reverse_meets out (by omega)
          rw [g1] at hrev
          have htl : tgt.length = out.length := by rw [← g1]; simp
          (repeat' ((conv => whnf); first | (exfalso; omega) | (refine callh [some 0] hrev rfl rfl ⟨rfl, trivial⟩ ?_) | (refine end_fn [] (.inr rfl) ?_ trivial rfl rfl) | (refine split_nd (fun hb => ?_) (fun hb => ?_)) | (refine split_d (fun hb => ?_) (fun hb => ?_)) | (refine split_n (fun hb => ?_) (fun hb => ?_)) | (refine split_x (fun hb => ?_) (fun hb => ?_)) | (refine And.intro (TraceOK.mk (by kernel_rfl)) ?_) | (refine Side.mk ?_; (repeat' (first | refine And.intro ?_ ?_ | exact inR_i64 (by omega) (by omega) | omega | rfl | exact trivial | exact none_ne rfl | exact some_ne rfl (Nat.ne_of_beq_eq_false rfl) | exact Nat.ne_of_beq_eq_false rfl | (dsimp only [srcSide]; omega) | (simp; done) | (simp; omega))); done) | (refine side_and ?_ ?_) | (refine drawX_of mixed ?_)))
          all_goals (repeat' (first | refine EndV.mk ?_ | exact trivial | exact rfl | refine And.intro ?_ ?_))
          all_goals exact ⟨_, rfl, rfl, rfl, by omega, by rw [List.drop_zero, List.take_of_length_le (by omega)], rfl⟩
        | false =>
          have hr := rootM l' (by omega) g4
          rw [if_neg (by simp)] at g1
          generalize rootS l' = x at *
          have es : List.take out.length out ++ List.take 1 (List.drop 0 [x]) = out ++ [x] := by rw [List.take_length]; rfl
          have hrev := reverse_meets (out ++ [x]) (by simp; omega)
          have g1' : (out ++ [x]).reverse = tgt := by rw [← g1]; simp
          rw [g1'] at hrev
          have htl : tgt.length = (out ++ [x]).length := by rw [← g1']; simp
          generalize out ++ [x] = out2 at *
          (repeat' ((conv => whnf); first | (exfalso; omega) | (refine callx_pure (hr) rfl rfl ?_) | (refine dcallx_pure (hr) rfl rfl ?_) | (rw [es]) | (refine callh [some 2] hrev rfl rfl ⟨rfl, trivial⟩ ?_) | (refine end_fn [] (.inr rfl) ?_ trivial rfl rfl) | (refine split_nd (fun hb => ?_) (fun hb => ?_)) | (refine split_d (fun hb => ?_) (fun hb => ?_)) | (refine split_n (fun hb => ?_) (fun hb => ?_)) | (refine split_x (fun hb => ?_) (fun hb => ?_)) | (refine And.intro (TraceOK.mk (by kernel_rfl)) ?_) | (refine Side.mk ?_; (repeat' (first | refine And.intro ?_ ?_ | exact inR_i64 (by omega) (by omega) | omega | rfl | exact trivial | exact none_ne rfl | exact some_ne rfl (Nat.ne_of_beq_eq_false rfl) | exact Nat.ne_of_beq_eq_false rfl | (dsimp only [srcSide]; omega) | (simp; done) | (simp; omega))); done) | (refine side_and ?_ ?_) | (refine drawX_of mixed ?_)))
          all_goals (repeat' (first | refine EndV.mk ?_ | exact trivial | exact rfl | refine And.intro ?_ ?_))
          all_goals exact ⟨_, rfl, rfl, rfl, by omega, by rw [List.drop_zero, List.take_of_length_le (by omega)], rfl⟩
      · have hsp := leftN_spec (n := l'.length) (by omega)
        have hleft := left_meets l'.length (by omega) (by omega)
        obtain ⟨k, hk⟩ : ∃ k, leftN l'.length = k := ⟨_, rfl⟩
        have e3 : List.drop (k : Int).toNat (List.take (l'.length : Int).toNat l') = l'.drop k := by rw [Int.toNat_natCast, Int.toNat_natCast, List.take_length]
        by_cases hik : m' ≤ leftN l'.length
        · rw [partS_lt l' m' whole g0 (by omega) hik] at g1
          rw [hk] at hsp hleft hik g1
          have hsd : Side (XOK tgt ⟨l'.take k, m', whole, out ++ [rootS (l'.drop k)]⟩) := ⟨⟨by rw [← g1]; simp, g0, by simp; omega, by simp; omega, g4.take k⟩⟩
          have hmu : Side (((⟨l'.take k, m', whole, out ++ [rootS (l'.drop k)]⟩ : XG)).l.length < l'.length) := ⟨by simp; omega⟩
          have hr := rootM (l'.drop k) (by simp; omega) (g4.drop k)
          generalize rootS (l'.drop k) = x at *
          rw [← e3] at hr
          have es : List.take out.length out ++ List.take 1 (List.drop 0 [x]) = out ++ [x] := by rw [List.take_length]; rfl
          (repeat' ((conv => whnf); first | (exfalso; omega) | (refine callx_pure (hleft) rfl rfl ?_) | (refine dcallx_pure (hleft) rfl rfl ?_) | (refine callx_pure (hr) rfl rfl ?_) | (refine dcallx_pure (hr) rfl rfl ?_) | (refine hK ⟨l'.take k, m', whole, out ++ [x]⟩ [some 2] _ _ hsd hmu ?_) | (refine end_fn [] (.inr rfl) ?_ trivial rfl rfl) | (refine split_nd (fun hb => ?_) (fun hb => ?_)) | (refine split_d (fun hb => ?_) (fun hb => ?_)) | (refine split_n (fun hb => ?_) (fun hb => ?_)) | (refine split_x (fun hb => ?_) (fun hb => ?_)) | (refine And.intro (TraceOK.mk (by kernel_rfl)) ?_) | (refine Side.mk ?_; (repeat' (first | refine And.intro ?_ ?_ | exact inR_i64 (by omega) (by omega) | omega | rfl | exact trivial | exact none_ne rfl | exact some_ne rfl (Nat.ne_of_beq_eq_false rfl) | exact Nat.ne_of_beq_eq_false rfl | (dsimp only [srcSide]; omega) | (simp; done) | (simp; omega))); done) | (refine side_and ?_ ?_) | (refine drawX_of mixed ?_)))
          rw [es]
          dsimp only
          (refine Back.mk ?_ ?_ rfl rfl <;> (repeat' (first | refine EndV.mk ?_ | exact trivial | exact rfl | refine And.intro ?_ ?_)))
        · rw [partS_gt l' m' whole (by omega) (by omega)] at g1
          rw [hk] at hsp hleft hik g1
          have hsd : Side (XOK tgt ⟨l'.drop k, m' - k, false, out ++ [rootS (l'.take k)]⟩) := ⟨⟨by rw [← g1]; simp, by dsimp only; omega, by simp; omega, by simp; omega, g4.drop k⟩⟩
          have hmu : Side (((⟨l'.drop k, m' - k, false, out ++ [rootS (l'.take k)]⟩ : XG)).l.length < l'.length) := ⟨by simp; omega⟩
          have hr := rootM (l'.take k) (by simp; omega) (g4.take k)
          generalize rootS (l'.take k) = x at *
          have es : List.take out.length out ++ List.take 1 (List.drop 0 [x]) = out ++ [x] := by rw [List.take_length]; rfl
          have ei : (m' : Int) - k = ((m' - k : Nat) : Int) := by omega
          (repeat' ((conv => whnf); first | (exfalso; omega) | (refine callx_pure (hleft) rfl rfl ?_) | (refine dcallx_pure (hleft) rfl rfl ?_) | (refine callx_pure (hr) rfl rfl ?_) | (refine dcallx_pure (hr) rfl rfl ?_) | (refine hK ⟨l'.drop k, m' - k, false, out ++ [x]⟩ [some 2] _ _ hsd hmu ?_) | (refine end_fn [] (.inr rfl) ?_ trivial rfl rfl) | (refine split_nd (fun hb => ?_) (fun hb => ?_)) | (refine split_d (fun hb => ?_) (fun hb => ?_)) | (refine split_n (fun hb => ?_) (fun hb => ?_)) | (refine split_x (fun hb => ?_) (fun hb => ?_)) | (refine And.intro (TraceOK.mk (by kernel_rfl)) ?_) | (refine Side.mk ?_; (repeat' (first | refine And.intro ?_ ?_ | exact inR_i64 (by omega) (by omega) | omega | rfl | exact trivial | exact none_ne rfl | exact some_ne rfl (Nat.ne_of_beq_eq_false rfl) | exact Nat.ne_of_beq_eq_false rfl | (dsimp only [srcSide]; omega) | (simp; done) | (simp; omega))); done) | (refine side_and ?_ ?_) | (refine drawX_of mixed ?_)))
          rw [es, ei, e3]
          dsimp only
          (refine Back.mk ?_ ?_ rfl rfl <;> (repeat' (first | refine EndV.mk ?_ | exact trivial | exact rfl | refine And.intro ?_ ?_)))
  · refine meets_of_gx Ax tab_ok Tryd.func18 (c := _) rfl Tryd.call18 400 ?_
    (repeat' ((conv => whnf); first | (exfalso; omega) | (refine end_fn [] (.inr rfl) ?_ trivial rfl rfl) | (refine split_nd (fun hb => ?_) (fun hb => ?_)) | (refine split_d (fun hb => ?_) (fun hb => ?_)) | (refine split_n (fun hb => ?_) (fun hb => ?_)) | (refine split_x (fun hb => ?_) (fun hb => ?_)) | (refine And.intro (TraceOK.mk (by kernel_rfl)) ?_) | (refine Side.mk ?_; (repeat' (first | refine And.intro ?_ ?_ | exact inR_i64 (by omega) (by omega) | omega | rfl | exact trivial | exact none_ne rfl | exact some_ne rfl (Nat.ne_of_beq_eq_false rfl) | exact Nat.ne_of_beq_eq_false rfl | (dsimp only [srcSide]; omega) | (simp; done) | (simp; omega))); done) | (refine side_and ?_ ?_) | (refine drawX_of mixed ?_)))
    all_goals (repeat' (first | refine EndV.mk ?_ | exact trivial | exact rfl | refine And.intro ?_ ?_))
end Go.SX

namespace Go.SX
open Go.Proofs
set_option linter.unusedSimpArgs false
set_option linter.unusedVariables false
set_option maxHeartbeats 4000000
set_option maxRecDepth 100000
def hexD (n : Nat) : UInt8 := UInt8.ofNat (if n < 10 then 48 + n else 87 + n)
def hexS (s : Bs) : Bs := s.flatMap fun b => [hexD (b.toNat / 16), hexD (b.toNat % 16)]
abbrev hexAll : List UInt8 := (ByteArray.mk #[48, 49, 50, 51, 52, 53, 54, 55, 56, 57, 97, 98, 99, 100, 101, 102]).data.toList
theorem hexPiece (d : Nat) (h : d < 16) : List.drop (d : Int).toNat (List.take ((d + 1 : Nat) : Int).toNat (ByteArray.mk #[48, 49, 50, 51, 52, 53, 54, 55, 56, 57, 97, 98, 99, 100, 101, 102]).data.toList) = [hexD d] := by
  have : ∀ d : Fin 16, List.drop (d.val : Int).toNat (List.take ((d.val + 1 : Nat) : Int).toNat (ByteArray.mk #[48, 49, 50, 51, 52, 53, 54, 55, 56, 57, 97, 98, 99, 100, 101, 102]).data.toList) = [hexD d.val] := by decide +kernel
  exact this ⟨d, h⟩
theorem hexSide (t : List UInt8) (ht : t.length = 16) (d : Nat) (h : d < 16) : Side (0 ≤ (d : Int) ∧ (d : Int) ≤ ((d + 1 : Nat) : Int) ∧ ((d + 1 : Nat) : Int) ≤ (t.length : Int)) := ⟨by omega, by omega, by omega⟩
theorem u8In (d : Nat) (h : d < 256) : Side ((16 : Int) ≠ 0 ∧ InR .u8 (d : Int)) := ⟨by decide, wrap8 d h⟩
theorem hexS_take (s : Bs) (i : Nat) (h : i < s.length) : hexS (s.take (i + 1)) = hexS (s.take i) ++ [hexD ((s.getD i 0).toNat / 16)] ++ [hexD ((s.getD i 0).toNat % 16)] := by
  have e : s.take (i + 1) = s.take i ++ [s[i]] := by rw [List.take_add_one, List.getElem?_eq_getElem h]; rfl
  rw [e, List.getD_eq_getElem?_getD, List.getElem?_eq_getElem h]
  unfold hexS
  rw [List.flatMap_append]
  simp only [List.flatMap_cons, List.flatMap_nil, List.append_nil, List.append_assoc, Option.getD_some]
  rfl
theorem hexS_length (s : Bs) : (hexS s).length = 2 * s.length := by
  unfold hexS
  induction s with
  | nil => rfl
  | cons b s ih => rw [List.flatMap_cons, List.length_append, ih]; simp; omega
theorem hex_meets (s : Bs) (hs : s.length ≤ 100) : Meets Tryd.prog Dc 51 [.p (.str s)] [] (.p (.str (hexS s))) [] := by
  refine meets_of_gx Ax tab_ok Tryd.func51 (c := _) rfl Tryd.call51 400 ?_
  (repeat' ((conv => whnf); first | (exfalso; omega) | (refine end_fn [] (.inr rfl) ?_ trivial rfl rfl) | (refine split_nd (fun hb => ?_) (fun hb => ?_)) | (refine split_d (fun hb => ?_) (fun hb => ?_)) | (refine split_n (fun hb => ?_) (fun hb => ?_)) | (refine split_x (fun hb => ?_) (fun hb => ?_)) | (refine And.intro (TraceOK.mk (by kernel_rfl)) ?_) | (refine Side.mk ?_; (repeat' (first | refine And.intro ?_ ?_ | exact inR_i64 (by omega) (by omega) | omega | rfl | exact trivial | exact none_ne rfl | exact some_ne rfl (Nat.ne_of_beq_eq_false rfl) | exact Nat.ne_of_beq_eq_false rfl | (dsimp only [srcSide]; omega) | (simp; done) | (simp; omega))); done) | (refine side_and ?_ ?_) | (refine drawX_of mixed ?_)))
  refine loop_up (fun i : Nat => [(3, .p (.str (hexS (s.take i)))), (4, .p (.int .i64 i))]) (fun _ => []) (fun i => i ≤ s.length) (fun i => s.length - i) 0 (Nat.zero_le _) ⟨by (repeat' (first | refine EndV.mk ?_ | exact trivial | exact rfl | refine And.intro ?_ ?_)), by (repeat' (first | refine EndV.mk ?_ | exact trivial | exact rfl | refine And.intro ?_ ?_)), rfl, rfl⟩ ?_
  intro i hi K hK
  rcases Nat.lt_or_ge i s.length with hlt | hge
  · have hl := hexS_length (s.take i)
    have hl2 : (s.take i).length ≤ 100 := by simp; omega
    have ht := hexS_take s i hlt
    have hn : (s.getD i 0).toNat < 256 := (s.getD i 0).toNat_lt
    rw [show s.getD i 0 = s.getD (i : Int).toNat 0 from rfl] at ht hn
    obtain ⟨n, hn2⟩ : ∃ n, (s.getD (i : Int).toNat 0).toNat = n := ⟨_, rfl⟩
    rw [hn2] at ht hn
    have q1 : ((s.getD (i : Int).toNat 0).toNat : Int).tdiv 16 = ((n / 16 : Nat) : Int) := by rw [hn2, Int.tdiv_eq_ediv_of_nonneg (by omega)]; norm_cast
    have q2 : ((s.getD (i : Int).toNat 0).toNat : Int).tmod 16 = ((n % 16 : Nat) : Int) := by rw [hn2, Int.tmod_eq_emod_of_nonneg (by omega)]; norm_cast
    have w1 : IntKind.u8.wrap (((n / 16 : Nat) : Int) + 1) = ((n / 16 + 1 : Nat) : Int) := by rw [← wrap8 (n / 16 + 1) (by omega)]; rfl
    have w2 : IntKind.u8.wrap (((n % 16 : Nat) : Int) + 1) = ((n % 16 + 1 : Nat) : Int) := by rw [← wrap8 (n % 16 + 1) (by omega)]; rfl
    have p1 := hexPiece (n / 16) (by omega)
    have p2 := hexPiece (n % 16) (by omega)
    generalize hexS (s.take i) = o at *
    have ol : (o ++ [hexD (n / 16)]).length = o.length + 1 := by simp
    (repeat' ((conv => whnf); first | (exfalso; omega) | (rw [q1]) | (rw [q2]) | (rw [w1]) | (rw [w2]) | (rw [p1]) | (rw [p2]) | (refine hexSide _ (by decide +kernel) _ (by omega)) | (refine u8In _ (by omega)) | (refine ⟨?_⟩; simp only [List.length_append, List.length_cons, List.length_nil]; omega) | (refine hK (i + 1) [] _ _ ?_ ?_ ?_) | (refine end_fn [] (.inr rfl) ?_ trivial rfl rfl) | (refine split_nd (fun hb => ?_) (fun hb => ?_)) | (refine split_d (fun hb => ?_) (fun hb => ?_)) | (refine split_n (fun hb => ?_) (fun hb => ?_)) | (refine split_x (fun hb => ?_) (fun hb => ?_)) | (refine And.intro (TraceOK.mk (by kernel_rfl)) ?_) | (refine Side.mk ?_; (repeat' (first | refine And.intro ?_ ?_ | exact inR_i64 (by omega) (by omega) | omega | rfl | exact trivial | exact none_ne rfl | exact some_ne rfl (Nat.ne_of_beq_eq_false rfl) | exact Nat.ne_of_beq_eq_false rfl | (dsimp only [srcSide]; omega) | (simp; done) | (simp; omega))); done) | (refine side_and ?_ ?_) | (refine drawX_of mixed ?_)))
    dsimp only
    rw [ht]
    (refine Back.mk ?_ ?_ rfl rfl <;> (repeat' (first | refine EndV.mk ?_ | exact trivial | exact rfl | refine And.intro ?_ ?_)))
  · rw [List.take_of_length_le hge]
    clear hK
    generalize hexS s = o at *
    (repeat' ((conv => whnf); first | (exfalso; omega) | (refine end_fn [] (.inr rfl) ?_ trivial rfl rfl) | (refine split_nd (fun hb => ?_) (fun hb => ?_)) | (refine split_d (fun hb => ?_) (fun hb => ?_)) | (refine split_n (fun hb => ?_) (fun hb => ?_)) | (refine split_x (fun hb => ?_) (fun hb => ?_)) | (refine And.intro (TraceOK.mk (by kernel_rfl)) ?_) | (refine Side.mk ?_; (repeat' (first | refine And.intro ?_ ?_ | exact inR_i64 (by omega) (by omega) | omega | rfl | exact trivial | exact none_ne rfl | exact some_ne rfl (Nat.ne_of_beq_eq_false rfl) | exact Nat.ne_of_beq_eq_false rfl | (dsimp only [srcSide]; omega) | (simp; done) | (simp; omega))); done) | (refine side_and ?_ ?_) | (refine drawX_of mixed ?_)))
    all_goals (repeat' (first | refine EndV.mk ?_ | exact trivial | exact rfl | refine And.intro ?_ ?_))
/-! ### The fixed examples -/
def exL : List Bs := [[97], [98], [99]]
theorem ex1 : hexS (sumB []) = "e3b0c44298fc1c149afbf4c8996fb92427ae41e4649b934ca495991b7852b855".toUTF8.data.toList := by decide +kernel
theorem ex2 : hexS (sumB [97, 98, 99]) = "ba7816bf8f01cfea414140de5dae2223b00361a396177a9cb410ff61f20015ad".toUTF8.data.toList := by decide +kernel
end Go.SX

namespace Go.SX
open Go.Proofs
set_option linter.unusedSimpArgs false
set_option linter.unusedVariables false
set_option maxHeartbeats 4000000
set_option maxRecDepth 100000
theorem lf3 : leftN 3 = 2 := by decide +kernel
theorem lf2 : leftN 2 = 1 := by decide +kernel
theorem root2 (a b : Bs) : rootS [a, b] = nodeH (leafH a) (leafH b) := by
  rw [rootS_two _ (by simp)]
  simp only [List.length_cons, List.length_nil, Nat.zero_add, Nat.reduceAdd, lf2, List.take_succ_cons, List.take_zero, List.drop_succ_cons, List.drop_zero, rootS_one]
theorem exRoot : rootS exL = nodeH (nodeH (leafH [97]) (leafH [98])) (leafH [99]) := by
  unfold exL
  rw [rootS_two _ (by simp)]
  simp only [List.length_cons, List.length_nil, Nat.zero_add, Nat.reduceAdd, lf3, List.take_succ_cons, List.take_zero, List.drop_succ_cons, List.drop_zero, rootS_one, root2]
theorem exProof : proofS exL 2 = [nodeH (leafH [97]) (leafH [98])] := by
  unfold exL
  rw [proofS_ge _ _ (by simp) (by simp [lf3])]
  simp only [List.length_cons, List.length_nil, Nat.zero_add, Nat.reduceAdd, lf3, List.take_succ_cons, List.take_zero, List.drop_succ_cons, List.drop_zero, root2]
  rw [proofS_one _ _ (by simp)]
  rfl
theorem exExt : partS exL 1 true = [leafH [98], leafH [99]] := by
  unfold exL
  rw [partS_lt _ _ _ (by decide) (by simp) (by simp [lf3])]
  simp only [List.length_cons, List.length_nil, Nat.zero_add, Nat.reduceAdd, lf3, List.take_succ_cons, List.take_zero, List.drop_succ_cons, List.drop_zero, rootS_one]
  rw [partS_lt _ _ _ (by decide) (by simp) (by simp [lf2])]
  simp only [List.length_cons, List.length_nil, Nat.zero_add, Nat.reduceAdd, lf2, List.take_succ_cons, List.take_zero, List.drop_succ_cons, List.drop_zero, rootS_one]
  rw [partS_eq _ _ _ (by simp)]
  rfl
theorem exV1 : verB (nodeH (nodeH (leafH [97]) (leafH [98])) (leafH [99])) 3 2 [99] [nodeH (leafH [97]) (leafH [98])] = true := by decide +kernel
theorem exV2 : verB (nodeH (nodeH (leafH [97]) (leafH [98])) (leafH [99])) 3 2 [100] [nodeH (leafH [97]) (leafH [98])] = false := by decide +kernel
theorem exX1 : verXB (leafH [97]) 1 (nodeH (nodeH (leafH [97]) (leafH [98])) (leafH [99])) 3 [leafH [98], leafH [99]] = true := by decide +kernel
theorem exX2 : verXB (nodeH (leafH [97]) (leafH [98])) 1 (nodeH (nodeH (leafH [97]) (leafH [98])) (leafH [99])) 3 [leafH [98], leafH [99]] = false := by decide +kernel
theorem exShort : Short exL := by intro s hs; simp [exL] at hs; rcases hs with rfl | rfl | rfl <;> simp
end Go.SX
