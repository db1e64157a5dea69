/-
  Walks: Dk7, Dk6, Dk8: what single functions of the program compute.
-/
import Derived.Test.YtboldmbaiocjpaaDoorSxDk4
namespace Go.SX
open Go.Proofs
set_option linter.unusedSimpArgs false
set_option linter.unusedVariables false
set_option maxHeartbeats 4000000
set_option maxRecDepth 100000
theorem join1O (a : List UInt8) : Meets Tryd.prog Dc 97 [.slice 0 0 1 0 1, .p (.str [])] [.rows U.str [a]] (.p (.str a)) [.rows U.str [a]] := by
  refine meets_of_gx Ax tab_ok Tryd.func97 (c := _) rfl Tryd.call97 300 ?_
  (repeat' ((conv => whnf); first | (refine end_fn [some 0] (.inr rfl) ?_ ?_ rfl rfl) | (exfalso; omega) | (refine end_fn [] (.inr rfl) ?_ trivial rfl rfl) | (refine split_nd (fun hb => ?_) (fun hb => ?_)) | (refine split_d (fun hb => ?_) (fun hb => ?_)) | (refine split_n (fun hb => ?_) (fun hb => ?_)) | (refine split_x (fun hb => ?_) (fun hb => ?_)) | (refine And.intro (TraceOK.mk (by kernel_rfl)) ?_) | (refine Side.mk ?_; (repeat' (first | refine And.intro ?_ ?_ | exact inR_i64 (by omega) (by omega) | omega | rfl | exact trivial | exact none_ne rfl | exact some_ne rfl (Nat.ne_of_beq_eq_false rfl) | exact Nat.ne_of_beq_eq_false rfl | (dsimp only [srcSide]; omega) | (simp; done) | (simp; omega))); done) | (refine side_and ?_ ?_) | (refine drawX_of mixed ?_)))
  all_goals (repeat' (first | refine EndV.mk ?_ | exact trivial | exact rfl | refine And.intro ?_ ?_))
theorem join2O (a b : List UInt8) (ha : a.length ≤ 100000) (hb : b.length ≤ 100000) : Meets Tryd.prog Dc 97 [.slice 0 0 1 0 2, .p (.str [])] [.rows U.str [a, b]] (.p (.str (a ++ b))) [.rows U.str [a, b]] := by
  refine meets_of_gx Ax tab_ok Tryd.func97 (c := _) rfl Tryd.call97 600 ?_
  (repeat' ((conv => whnf); first | (refine end_fn [some 0] (.inr rfl) ?_ ?_ rfl rfl) | (exfalso; omega) | (refine end_fn [] (.inr rfl) ?_ trivial rfl rfl) | (refine split_nd (fun hb => ?_) (fun hb => ?_)) | (refine split_d (fun hb => ?_) (fun hb => ?_)) | (refine split_n (fun hb => ?_) (fun hb => ?_)) | (refine split_x (fun hb => ?_) (fun hb => ?_)) | (refine And.intro (TraceOK.mk (by kernel_rfl)) ?_) | (refine Side.mk ?_; (repeat' (first | refine And.intro ?_ ?_ | exact inR_i64 (by omega) (by omega) | omega | rfl | exact trivial | exact none_ne rfl | exact some_ne rfl (Nat.ne_of_beq_eq_false rfl) | exact Nat.ne_of_beq_eq_false rfl | (dsimp only [srcSide]; omega) | (simp; done) | (simp; omega))); done) | (refine side_and ?_ ?_) | (refine drawX_of mixed ?_)))
  refine loop_up (fun i : Nat => [(5, .p (.int .i64 ([0, (a.length : Int), a.length + b.length].getD i 0))), (41, .p (.int .i64 i))]) (fun _ => []) (fun i => i ≤ 2) (fun i => 2 - i) 0 (Nat.zero_le _) ⟨by (repeat' (first | refine EndV.mk ?_ | exact trivial | exact rfl | refine And.intro ?_ ?_)), by (repeat' (first | refine EndV.mk ?_ | exact trivial | exact rfl | refine And.intro ?_ ?_)), rfl, rfl⟩ ?_
  intro i hi K hK
  have g0 : [0, (a.length : Int), a.length + b.length].getD 0 0 = 0 := rfl
  have g1 : [0, (a.length : Int), a.length + b.length].getD 1 0 = a.length := rfl
  have g2 : [0, (a.length : Int), a.length + b.length].getD 2 0 = a.length + b.length := rfl
  have l0 : ((List.length ([a, b].getD (0 + ((0 : Nat) : Int).toNat) (Cd.dflt U.str)) : Nat) : Int) = a.length := rfl
  have l1 : ((List.length ([a, b].getD (0 + ((1 : Nat) : Int).toNat) (Cd.dflt U.str)) : Nat) : Int) = b.length := rfl
  obtain rfl | rfl | rfl : i = 0 ∨ i = 1 ∨ i = 2 := by omega
  · (repeat' ((conv => whnf); first | (refine end_fn [some 0] (.inr rfl) ?_ ?_ rfl rfl) | (exfalso; omega) | (refine hK 1 [some 0] _ _ ?_ ?_ ?_) | (refine Back.mk ?_ ?_ rfl rfl <;> (repeat' (first | refine EndV.mk ?_ | exact trivial | exact rfl | refine And.intro ?_ ?_))) | (refine end_fn [] (.inr rfl) ?_ trivial rfl rfl) | (refine split_nd (fun hb => ?_) (fun hb => ?_)) | (refine split_d (fun hb => ?_) (fun hb => ?_)) | (refine split_n (fun hb => ?_) (fun hb => ?_)) | (refine split_x (fun hb => ?_) (fun hb => ?_)) | (refine And.intro (TraceOK.mk (by kernel_rfl)) ?_) | (refine Side.mk ?_; (repeat' (first | refine And.intro ?_ ?_ | exact inR_i64 (by omega) (by omega) | omega | rfl | exact trivial | exact none_ne rfl | exact some_ne rfl (Nat.ne_of_beq_eq_false rfl) | exact Nat.ne_of_beq_eq_false rfl | (dsimp only [srcSide]; omega) | (simp; done) | (simp; omega))); done) | (refine side_and ?_ ?_) | (refine drawX_of mixed ?_)))
    exact congrArg (PV.int IntKind.i64) (by omega)
  · (repeat' ((conv => whnf); first | (refine end_fn [some 0] (.inr rfl) ?_ ?_ rfl rfl) | (exfalso; omega) | (refine hK 2 [some 0] _ _ ?_ ?_ ?_) | (refine Back.mk ?_ ?_ rfl rfl <;> (repeat' (first | refine EndV.mk ?_ | exact trivial | exact rfl | refine And.intro ?_ ?_))) | (refine end_fn [] (.inr rfl) ?_ trivial rfl rfl) | (refine split_nd (fun hb => ?_) (fun hb => ?_)) | (refine split_d (fun hb => ?_) (fun hb => ?_)) | (refine split_n (fun hb => ?_) (fun hb => ?_)) | (refine split_x (fun hb => ?_) (fun hb => ?_)) | (refine And.intro (TraceOK.mk (by kernel_rfl)) ?_) | (refine Side.mk ?_; (repeat' (first | refine And.intro ?_ ?_ | exact inR_i64 (by omega) (by omega) | omega | rfl | exact trivial | exact none_ne rfl | exact some_ne rfl (Nat.ne_of_beq_eq_false rfl) | exact Nat.ne_of_beq_eq_false rfl | (dsimp only [srcSide]; omega) | (simp; done) | (simp; omega))); done) | (refine side_and ?_ ?_) | (refine drawX_of mixed ?_)))
  · rw [g2]
    by_cases h0 : a.length + b.length = 0
    · obtain rfl : a = [] := List.eq_nil_of_length_eq_zero (by omega)
      obtain rfl : b = [] := List.eq_nil_of_length_eq_zero (by omega)
      clear hK
      (repeat' ((conv => whnf); first | (refine end_fn [some 0] (.inr rfl) ?_ ?_ rfl rfl) | (exfalso; omega) | (refine call_in Ax tab_ok Tryd.func117 (c := _) rfl Tryd.call117 200 ?_) | (refine call_in Ax tab_ok Tryd.func111 (c := _) rfl Tryd.call111 100 ?_) | (refine callx_same noEsc ?_) | (refine callx_mnz tab_ok mnz ?_ ?_) | (refine dcallx_mnz tab_ok mnz ?_ ?_) | (refine call_in Ax tab_ok Tryd.func132 (c := _) rfl Tryd.call132 200 ?_) | (refine call_in Ax tab_ok Tryd.func80 (c := _) rfl Tryd.call80 200 ?_) | (refine call_in Ax tab_ok Tryd.func81 (c := _) rfl Tryd.call81 200 ?_) | (refine end_fn [] (.inr rfl) ?_ trivial rfl rfl) | (refine split_nd (fun hb => ?_) (fun hb => ?_)) | (refine split_d (fun hb => ?_) (fun hb => ?_)) | (refine split_n (fun hb => ?_) (fun hb => ?_)) | (refine split_x (fun hb => ?_) (fun hb => ?_)) | (refine And.intro (TraceOK.mk (by kernel_rfl)) ?_) | (refine Side.mk ?_; (repeat' (first | refine And.intro ?_ ?_ | exact inR_i64 (by omega) (by omega) | omega | rfl | exact trivial | exact none_ne rfl | exact some_ne rfl (Nat.ne_of_beq_eq_false rfl) | exact Nat.ne_of_beq_eq_false rfl | (dsimp only [srcSide]; omega) | (simp; done) | (simp; omega))); done) | (refine side_and ?_ ?_) | (refine drawX_of mixed ?_)))
      refine loop_up (fun i : Nat => [(65, .p (.int .i64 i))]) (fun _ => []) (fun i => i ≤ 1) (fun i => 1 - i) 0 (Nat.zero_le _) ⟨by (repeat' (first | refine EndV.mk ?_ | exact trivial | exact rfl | refine And.intro ?_ ?_)), by (repeat' (first | refine EndV.mk ?_ | exact trivial | exact rfl | refine And.intro ?_ ?_)), rfl, rfl⟩ ?_
      intro i hi K hK
      obtain rfl | rfl : i = 0 ∨ i = 1 := by omega
      · (repeat' ((conv => whnf); first | (refine end_fn [some 0] (.inr rfl) ?_ ?_ rfl rfl) | (exfalso; omega) | (refine call_in Ax tab_ok Tryd.func117 (c := _) rfl Tryd.call117 200 ?_) | (refine call_in Ax tab_ok Tryd.func111 (c := _) rfl Tryd.call111 100 ?_) | (refine callx_same noEsc ?_) | (refine callx_mnz tab_ok mnz ?_ ?_) | (refine dcallx_mnz tab_ok mnz ?_ ?_) | (refine call_in Ax tab_ok Tryd.func132 (c := _) rfl Tryd.call132 200 ?_) | (refine call_in Ax tab_ok Tryd.func80 (c := _) rfl Tryd.call80 200 ?_) | (refine call_in Ax tab_ok Tryd.func81 (c := _) rfl Tryd.call81 200 ?_) | (refine hK 1 [some 0, some 1] _ _ ?_ ?_ ?_) | (refine Back.mk ?_ ?_ rfl rfl <;> (repeat' (first | refine EndV.mk ?_ | exact trivial | exact rfl | refine And.intro ?_ ?_))) | (refine end_fn [] (.inr rfl) ?_ trivial rfl rfl) | (refine split_nd (fun hb => ?_) (fun hb => ?_)) | (refine split_d (fun hb => ?_) (fun hb => ?_)) | (refine split_n (fun hb => ?_) (fun hb => ?_)) | (refine split_x (fun hb => ?_) (fun hb => ?_)) | (refine And.intro (TraceOK.mk (by kernel_rfl)) ?_) | (refine Side.mk ?_; (repeat' (first | refine And.intro ?_ ?_ | exact inR_i64 (by omega) (by omega) | omega | rfl | exact trivial | exact none_ne rfl | exact some_ne rfl (Nat.ne_of_beq_eq_false rfl) | exact Nat.ne_of_beq_eq_false rfl | (dsimp only [srcSide]; omega) | (simp; done) | (simp; omega))); done) | (refine side_and ?_ ?_) | (refine drawX_of mixed ?_)))
      · (repeat' ((conv => whnf); first | (refine end_fn [some 0] (.inr rfl) ?_ ?_ rfl rfl) | (exfalso; omega) | (refine call_in Ax tab_ok Tryd.func117 (c := _) rfl Tryd.call117 200 ?_) | (refine call_in Ax tab_ok Tryd.func111 (c := _) rfl Tryd.call111 100 ?_) | (refine callx_same noEsc ?_) | (refine callx_mnz tab_ok mnz ?_ ?_) | (refine dcallx_mnz tab_ok mnz ?_ ?_) | (refine call_in Ax tab_ok Tryd.func132 (c := _) rfl Tryd.call132 200 ?_) | (refine call_in Ax tab_ok Tryd.func80 (c := _) rfl Tryd.call80 200 ?_) | (refine call_in Ax tab_ok Tryd.func81 (c := _) rfl Tryd.call81 200 ?_) | (refine end_fn [] (.inr rfl) ?_ trivial rfl rfl) | (refine split_nd (fun hb => ?_) (fun hb => ?_)) | (refine split_d (fun hb => ?_) (fun hb => ?_)) | (refine split_n (fun hb => ?_) (fun hb => ?_)) | (refine split_x (fun hb => ?_) (fun hb => ?_)) | (refine And.intro (TraceOK.mk (by kernel_rfl)) ?_) | (refine Side.mk ?_; (repeat' (first | refine And.intro ?_ ?_ | exact inR_i64 (by omega) (by omega) | omega | rfl | exact trivial | exact none_ne rfl | exact some_ne rfl (Nat.ne_of_beq_eq_false rfl) | exact Nat.ne_of_beq_eq_false rfl | (dsimp only [srcSide]; omega) | (simp; done) | (simp; omega))); done) | (refine side_and ?_ ?_) | (refine drawX_of mixed ?_)))
        (repeat' (first | refine EndV.mk ?_ | exact trivial | exact rfl | refine And.intro ?_ ?_))
    · clear hK
      (repeat' ((conv => whnf); first | (refine end_fn [some 0] (.inr rfl) ?_ ?_ rfl rfl) | (exfalso; omega) | (refine call_in Ax tab_ok Tryd.func117 (c := _) rfl Tryd.call117 200 ?_) | (refine call_in Ax tab_ok Tryd.func111 (c := _) rfl Tryd.call111 100 ?_) | (refine callx_same noEsc ?_) | (refine callx_mnz tab_ok mnz ?_ ?_) | (refine dcallx_mnz tab_ok mnz ?_ ?_) | (refine call_in Ax tab_ok Tryd.func132 (c := _) rfl Tryd.call132 200 ?_) | (refine call_in Ax tab_ok Tryd.func80 (c := _) rfl Tryd.call80 200 ?_) | (refine call_in Ax tab_ok Tryd.func81 (c := _) rfl Tryd.call81 200 ?_) | (refine end_fn [] (.inr rfl) ?_ trivial rfl rfl) | (refine split_nd (fun hb => ?_) (fun hb => ?_)) | (refine split_d (fun hb => ?_) (fun hb => ?_)) | (refine split_n (fun hb => ?_) (fun hb => ?_)) | (refine split_x (fun hb => ?_) (fun hb => ?_)) | (refine And.intro (TraceOK.mk (by kernel_rfl)) ?_) | (refine Side.mk ?_; (repeat' (first | refine And.intro ?_ ?_ | exact inR_i64 (by omega) (by omega) | omega | rfl | exact trivial | exact none_ne rfl | exact some_ne rfl (Nat.ne_of_beq_eq_false rfl) | exact Nat.ne_of_beq_eq_false rfl | (dsimp only [srcSide]; omega) | (simp; done) | (simp; omega))); done) | (refine side_and ?_ ?_) | (refine drawX_of mixed ?_)))
      refine loop_up (fun i : Nat => [(65, .p (.int .i64 i))]) (fun i => [(1, bld (.ptr 1 0) (.slice 3 0 1 0 ([bytesI a, bytesI a ++ bytesI b].getD i []).length)), (3, .rows U.u8 ([bytesI a, bytesI a ++ bytesI b].getD i []))]) (fun i => i ≤ 1) (fun i => 1 - i) 0 (Nat.zero_le _) ⟨by (repeat' (first | refine EndV.mk ?_ | exact trivial | exact rfl | refine And.intro ?_ ?_)), by (repeat' (first | refine EndV.mk ?_ | exact trivial | exact rfl | refine And.intro ?_ ?_)), rfl, rfl⟩ ?_
      intro i hi K hK
      obtain rfl | rfl : i = 0 ∨ i = 1 := by omega
      · (repeat' ((conv => whnf); first | (refine end_fn [some 0] (.inr rfl) ?_ ?_ rfl rfl) | (exfalso; omega) | (refine call_in Ax tab_ok Tryd.func117 (c := _) rfl Tryd.call117 200 ?_) | (refine call_in Ax tab_ok Tryd.func111 (c := _) rfl Tryd.call111 100 ?_) | (refine callx_same noEsc ?_) | (refine callx_mnz tab_ok mnz ?_ ?_) | (refine dcallx_mnz tab_ok mnz ?_ ?_) | (refine call_in Ax tab_ok Tryd.func132 (c := _) rfl Tryd.call132 200 ?_) | (refine call_in Ax tab_ok Tryd.func80 (c := _) rfl Tryd.call80 200 ?_) | (refine call_in Ax tab_ok Tryd.func81 (c := _) rfl Tryd.call81 200 ?_) | (refine hK 1 [some 0, some 1, some 2, some 5] _ _ ?_ ?_ ?_) | (refine Back.mk ?_ ?_ rfl rfl <;> (repeat' (first | refine EndV.mk ?_ | exact trivial | exact rfl | refine And.intro ?_ ?_))) | (refine end_fn [] (.inr rfl) ?_ trivial rfl rfl) | (refine split_nd (fun hb => ?_) (fun hb => ?_)) | (refine split_d (fun hb => ?_) (fun hb => ?_)) | (refine split_n (fun hb => ?_) (fun hb => ?_)) | (refine split_x (fun hb => ?_) (fun hb => ?_)) | (refine And.intro (TraceOK.mk (by kernel_rfl)) ?_) | (refine Side.mk ?_; (repeat' (first | refine And.intro ?_ ?_ | exact inR_i64 (by omega) (by omega) | omega | rfl | exact trivial | exact none_ne rfl | exact some_ne rfl (Nat.ne_of_beq_eq_false rfl) | exact Nat.ne_of_beq_eq_false rfl | (dsimp only [srcSide]; omega) | (simp; done) | (simp; omega))); done) | (refine side_and ?_ ?_) | (refine drawX_of mixed ?_)))
        · refine ⟨?_⟩; simp [bytesI, SV.topId, un_u8]; omega
        · refine ⟨?_⟩; simp [bytesI, SV.topId, un_u8]; omega
        · refine congrArg (fun n => some (SV.slice 5 0 1 0 n)) ?_
          simp [bytesI]
        · refine congrArg (fun l : List Int => (HS.rows U.u8 l : HS Cd)) ?_
          simp [bytesI, List.take_of_length_le]
      · (repeat' ((conv => whnf); first | (refine end_fn [some 0] (.inr rfl) ?_ ?_ rfl rfl) | (exfalso; omega) | (refine call_in Ax tab_ok Tryd.func117 (c := _) rfl Tryd.call117 200 ?_) | (refine call_in Ax tab_ok Tryd.func111 (c := _) rfl Tryd.call111 100 ?_) | (refine callx_same noEsc ?_) | (refine callx_mnz tab_ok mnz ?_ ?_) | (refine dcallx_mnz tab_ok mnz ?_ ?_) | (refine call_in Ax tab_ok Tryd.func132 (c := _) rfl Tryd.call132 200 ?_) | (refine call_in Ax tab_ok Tryd.func80 (c := _) rfl Tryd.call80 200 ?_) | (refine call_in Ax tab_ok Tryd.func81 (c := _) rfl Tryd.call81 200 ?_) | (refine end_fn [] (.inr rfl) ?_ trivial rfl rfl) | (refine split_nd (fun hb => ?_) (fun hb => ?_)) | (refine split_d (fun hb => ?_) (fun hb => ?_)) | (refine split_n (fun hb => ?_) (fun hb => ?_)) | (refine split_x (fun hb => ?_) (fun hb => ?_)) | (refine And.intro (TraceOK.mk (by kernel_rfl)) ?_) | (refine Side.mk ?_; (repeat' (first | refine And.intro ?_ ?_ | exact inR_i64 (by omega) (by omega) | omega | rfl | exact trivial | exact none_ne rfl | exact some_ne rfl (Nat.ne_of_beq_eq_false rfl) | exact Nat.ne_of_beq_eq_false rfl | (dsimp only [srcSide]; omega) | (simp; done) | (simp; omega))); done) | (refine side_and ?_ ?_) | (refine drawX_of mixed ?_)))
        · refine ⟨?_⟩; simp [bytesI]; omega
        · refine ⟨?_⟩; simp [bytesI]; omega
        · refine EndV.mk ?_
          (conv => whnf)
          refine congrArg PV.str ?_
          show List.map (fun n : Int => UInt8.ofNat n.toNat) (List.take ((bytesI a ++ bytesI b).length : Int).toNat (bytesI a ++ bytesI b)) = a ++ b
          rw [Int.toNat_natCast, List.take_length, bytesI_append, strI]
        · exact trivial
end Go.SX

namespace Go.SX
open Go.Proofs
set_option linter.unusedSimpArgs false
set_option linter.unusedVariables false
set_option maxHeartbeats 4000000
set_option maxRecDepth 100000
theorem sum_meetsS (l : List UInt8) (hL : Side (l.length ≤ 5000)) : Meets Tryd.prog Dc 32 [.p (.str l)] [] (.p (.str (sumB l))) [] := sum_meets l hL.h
theorem leaf_meets (s : List UInt8) (hs : s.length ≤ 2000) : Meets Tryd.prog Dc 31 [.p (.str s)] [] (.p (.str (sumB (0 :: s)))) [] := by
  have hsum := sum_meets (0 :: s) (by simp; omega)
  refine meets_of_gx Ax tab_ok Tryd.func31 (c := _) rfl Tryd.call31 400 ?_
  (repeat' ((conv => whnf); first | (exfalso; omega) | (refine call_in Ax tab_ok Tryd.func65 (c := _) rfl Tryd.call65 200 ?_) | (refine call_in Ax tab_ok Tryd.func96 (c := _) rfl Tryd.call96 200 ?_) | (refine dcallh [some 1] (join1O s) rfl rfl ⟨rfl, trivial⟩ ?_) | (refine callx_pure hsum rfl rfl ?_) | (refine dcallx_pure hsum rfl rfl ?_) | (refine end_fn [] (.inr rfl) ?_ trivial rfl rfl) | (refine split_nd (fun hb => ?_) (fun hb => ?_)) | (refine split_d (fun hb => ?_) (fun hb => ?_)) | (refine split_n (fun hb => ?_) (fun hb => ?_)) | (refine split_x (fun hb => ?_) (fun hb => ?_)) | (refine And.intro (TraceOK.mk (by kernel_rfl)) ?_) | (refine Side.mk ?_; (repeat' (first | refine And.intro ?_ ?_ | exact inR_i64 (by omega) (by omega) | omega | rfl | exact trivial | exact none_ne rfl | exact some_ne rfl (Nat.ne_of_beq_eq_false rfl) | exact Nat.ne_of_beq_eq_false rfl | (dsimp only [srcSide]; omega) | (simp; done) | (simp; omega))); done) | (refine side_and ?_ ?_) | (refine drawX_of mixed ?_)))
  all_goals (repeat' (first | refine EndV.mk ?_ | exact trivial | exact rfl | refine And.intro ?_ ?_))
theorem node_meets (a b : List UInt8) (ha : a.length ≤ 2000) (hb : b.length ≤ 2000) : Meets Tryd.prog Dc 34 [.p (.str a), .p (.str b)] [] (.p (.str (sumB (1 :: (a ++ b))))) [] := by
  have hsum := sum_meets (1 :: (a ++ b)) (by simp; omega)
  have hj := join2O a b (by omega) (by omega)
  refine meets_of_gx Ax tab_ok Tryd.func34 (c := _) rfl Tryd.call34 400 ?_
  (repeat' ((conv => whnf); first | (exfalso; omega) | (refine call_in Ax tab_ok Tryd.func65 (c := _) rfl Tryd.call65 200 ?_) | (refine call_in Ax tab_ok Tryd.func96 (c := _) rfl Tryd.call96 200 ?_) | (refine dcallh [some 1] hj rfl rfl ⟨rfl, trivial⟩ ?_) | (refine callx_pure hsum rfl rfl ?_) | (refine dcallx_pure hsum rfl rfl ?_) | (refine end_fn [] (.inr rfl) ?_ trivial rfl rfl) | (refine split_nd (fun hb => ?_) (fun hb => ?_)) | (refine split_d (fun hb => ?_) (fun hb => ?_)) | (refine split_n (fun hb => ?_) (fun hb => ?_)) | (refine split_x (fun hb => ?_) (fun hb => ?_)) | (refine And.intro (TraceOK.mk (by kernel_rfl)) ?_) | (refine Side.mk ?_; (repeat' (first | refine And.intro ?_ ?_ | exact inR_i64 (by omega) (by omega) | omega | rfl | exact trivial | exact none_ne rfl | exact some_ne rfl (Nat.ne_of_beq_eq_false rfl) | exact Nat.ne_of_beq_eq_false rfl | (dsimp only [srcSide]; omega) | (simp; done) | (simp; omega))); done) | (refine side_and ?_ ?_) | (refine drawX_of mixed ?_)))
  all_goals (repeat' (first | refine EndV.mk ?_ | exact trivial | exact rfl | refine And.intro ?_ ?_))
theorem chain_meets (a b : List UInt8) (ha : a.length ≤ 2000) (hb : b.length ≤ 2000) : Meets Tryd.prog Dc 38 [.p (.str a), .p (.str b)] [] (.p (.str (sumB (2 :: (a ++ b))))) [] := by
  have hsum := sum_meets (2 :: (a ++ b)) (by simp; omega)
  have hj := join2O a b (by omega) (by omega)
  refine meets_of_gx Ax tab_ok Tryd.func38 (c := _) rfl Tryd.call38 400 ?_
  (repeat' ((conv => whnf); first | (exfalso; omega) | (refine call_in Ax tab_ok Tryd.func65 (c := _) rfl Tryd.call65 200 ?_) | (refine call_in Ax tab_ok Tryd.func96 (c := _) rfl Tryd.call96 200 ?_) | (refine dcallh [some 1] hj rfl rfl ⟨rfl, trivial⟩ ?_) | (refine callx_pure hsum rfl rfl ?_) | (refine dcallx_pure hsum rfl rfl ?_) | (refine end_fn [] (.inr rfl) ?_ trivial rfl rfl) | (refine split_nd (fun hb => ?_) (fun hb => ?_)) | (refine split_d (fun hb => ?_) (fun hb => ?_)) | (refine split_n (fun hb => ?_) (fun hb => ?_)) | (refine split_x (fun hb => ?_) (fun hb => ?_)) | (refine And.intro (TraceOK.mk (by kernel_rfl)) ?_) | (refine Side.mk ?_; (repeat' (first | refine And.intro ?_ ?_ | exact inR_i64 (by omega) (by omega) | omega | rfl | exact trivial | exact none_ne rfl | exact some_ne rfl (Nat.ne_of_beq_eq_false rfl) | exact Nat.ne_of_beq_eq_false rfl | (dsimp only [srcSide]; omega) | (simp; done) | (simp; omega))); done) | (refine side_and ?_ ?_) | (refine drawX_of mixed ?_)))
  all_goals (repeat' (first | refine EndV.mk ?_ | exact trivial | exact rfl | refine And.intro ?_ ?_))
end Go.SX

namespace Go.SX
open Go.Proofs
set_option linter.unusedSimpArgs false
set_option linter.unusedVariables false
set_option maxHeartbeats 4000000
set_option maxRecDepth 100000
theorem bytes_take_succ (l : List UInt8) (i : Nat) (h : i < l.length) : bytesI (l.take i) ++ [((l.getD i 0).toNat : Int)] = bytesI (l.take (i + 1)) := by
  unfold bytesI
  rw [List.take_add_one, List.map_append, List.getD_eq_getElem?_getD, List.getElem?_eq_getElem h]
  rfl
theorem refExt_meets (l : List UInt8) (hL : l.length ≤ 5000) : Meets Tryd.prog Dc 69 [.p (.str l)] [] (.p (.dsl U.u8 (padL l 8))) [] := by
  have hu8 : 0 + 1 = Cd.n U.u8 := rfl
  refine meets_of_gx Ax tab_ok Tryd.func69 (c := _) rfl Tryd.call69 600 ?_
  refine loop_inv (fun i : Nat => [(4, .p (.int .i64 i)), (3, .slice 0 0 1 0 i)]) (fun i => [.rows U.u8 (bytesI (l.take i))]) (fun i => i ≤ l.length) (fun i => l.length - i) 0 (Nat.zero_le _) [none] ⟨by (repeat' (first | refine EndV.mk ?_ | exact trivial | exact rfl | refine And.intro ?_ ?_)), by (repeat' (first | refine EndV.mk ?_ | exact trivial | exact rfl | refine And.intro ?_ ?_)); exact ⟨_, rfl⟩, rfl, rfl⟩ ?_
  intro i hi K hK
  have hlen : (bytesI (l.take i)).length = i := by simp [bytesI]; omega
  rcases Nat.lt_or_ge i l.length with hlt | hge
  · have es : List.take i (bytesI (l.take i)) ++ List.take 1 (List.drop 0 [((l.getD (i : Int).toNat 0).toNat : Int)]) = bytesI (l.take (i + 1)) := by
      rw [List.take_of_length_le (by rw [hlen]; exact Nat.le_refl _)]; exact bytes_take_succ l i hlt
    have hlen1 : (bytesI (l.take (i + 1))).length = i + 1 := by simp [bytesI]; omega
    (repeat' ((conv => whnf); first | (exfalso; omega) | (refine hK (i + 1) [some 2] _ _ ?_ ?_ ?_) | (refine end_fn [] (.inr rfl) ?_ trivial rfl rfl) | (refine split_nd (fun hb => ?_) (fun hb => ?_)) | (refine split_d (fun hb => ?_) (fun hb => ?_)) | (refine split_n (fun hb => ?_) (fun hb => ?_)) | (refine split_x (fun hb => ?_) (fun hb => ?_)) | (refine And.intro (TraceOK.mk (by kernel_rfl)) ?_) | (refine Side.mk ?_; (repeat' (first | refine And.intro ?_ ?_ | exact inR_i64 (by omega) (by omega) | omega | rfl | exact trivial | exact none_ne rfl | exact some_ne rfl (Nat.ne_of_beq_eq_false rfl) | exact Nat.ne_of_beq_eq_false rfl | (dsimp only [srcSide]; omega) | (simp; done) | (simp; omega))); done) | (refine side_and ?_ ?_) | (refine drawX_of mixed ?_)))
    all_goals first | (rw [es, hlen1]; (refine Back.mk ?_ ?_ rfl rfl <;> (repeat' (first | refine EndV.mk ?_ | exact trivial | exact rfl | refine And.intro ?_ ?_)))) | (refine Side.mk ?_; (repeat' (first | refine And.intro ?_ ?_ | exact inR_i64 (by omega) (by omega) | omega | rfl | exact trivial | exact none_ne rfl | exact some_ne rfl (Nat.ne_of_beq_eq_false rfl) | exact Nat.ne_of_beq_eq_false rfl | (dsimp only [srcSide]; omega) | (simp; done) | (simp; omega))); done)
  · have hie : i = l.length := by omega
    subst hie
    clear hK
    rw [List.take_length] at hlen ⊢
    have e0 : List.take l.length (bytesI l) ++ List.take 1 (List.drop 0 [(128 : Int)]) = padZ l 0 := by
      rw [List.take_of_length_le (by rw [hlen]; exact Nat.le_refl _)]; simp [padZ]
    (repeat' ((conv => whnf); first | (exfalso; omega) | (rw [e0]) | (refine end_fn [] (.inr rfl) ?_ trivial rfl rfl) | (refine split_nd (fun hb => ?_) (fun hb => ?_)) | (refine split_d (fun hb => ?_) (fun hb => ?_)) | (refine split_n (fun hb => ?_) (fun hb => ?_)) | (refine split_x (fun hb => ?_) (fun hb => ?_)) | (refine And.intro (TraceOK.mk (by kernel_rfl)) ?_) | (refine Side.mk ?_; (repeat' (first | refine And.intro ?_ ?_ | exact inR_i64 (by omega) (by omega) | omega | rfl | exact trivial | exact none_ne rfl | exact some_ne rfl (Nat.ne_of_beq_eq_false rfl) | exact Nat.ne_of_beq_eq_false rfl | (dsimp only [srcSide]; omega) | (simp; done) | (simp; omega))); done) | (refine side_and ?_ ?_) | (refine drawX_of mixed ?_)))
    refine loop_up (fun j : Nat => [(3, .slice 2 0 1 0 (padZ l j).length), (20, .any)]) (fun j => [(2, .rows U.u8 (padZ l j))]) (fun j => j ≤ zerosN l.length) (fun j => zerosN l.length - j) 0 (Nat.zero_le _) ⟨by (repeat' (first | refine EndV.mk ?_ | exact trivial | exact rfl | refine And.intro ?_ ?_)), by (repeat' (first | refine EndV.mk ?_ | exact trivial | exact rfl | refine And.intro ?_ ?_)), rfl, rfl⟩ ?_
    intro j hj K hK
    have hz1 := zerosN_lt l.length
    have hlz := padZ_length l j
    have hz2 : ((padZ l j).length : Int).tmod 64 = (((l.length + 1 + j) % 64 : Nat) : Int) := by
      rw [hlz, Int.tmod_eq_emod_of_nonneg (by omega)]; omega
    rcases Nat.lt_or_ge j (zerosN l.length) with hlt | hge
    · have hz3 := zeros_mid l.length j hlt
      have hsucc := padZ_succ l j
      have es : List.take (padZ l j).length (padZ l j) ++ List.take 1 (List.drop 0 [(0 : Int)]) = padZ l (j + 1) := by rw [List.take_length]; exact hsucc
      (repeat' ((conv => whnf); first | (exfalso; omega) | (rw [hz2]) | (rw [es]) | (refine hK (j + 1) [some 0, some 1, some 4] _ _ ?_ ?_ ?_) | (refine Back.mk ?_ ?_ rfl rfl <;> (repeat' (first | refine EndV.mk ?_ | exact trivial | exact rfl | refine And.intro ?_ ?_))) | (refine end_fn [] (.inr rfl) ?_ trivial rfl rfl) | (refine split_nd (fun hb => ?_) (fun hb => ?_)) | (refine split_d (fun hb => ?_) (fun hb => ?_)) | (refine split_n (fun hb => ?_) (fun hb => ?_)) | (refine split_x (fun hb => ?_) (fun hb => ?_)) | (refine And.intro (TraceOK.mk (by kernel_rfl)) ?_) | (refine Side.mk ?_; (repeat' (first | refine And.intro ?_ ?_ | exact inR_i64 (by omega) (by omega) | omega | rfl | exact trivial | exact none_ne rfl | exact some_ne rfl (Nat.ne_of_beq_eq_false rfl) | exact Nat.ne_of_beq_eq_false rfl | (dsimp only [srcSide]; omega) | (simp; done) | (simp; omega))); done) | (refine side_and ?_ ?_) | (refine drawX_of mixed ?_)))
    · have hje : j = zerosN l.length := by omega
      have hz3 := zeros_end l.length
      subst hje
      clear hK
      (repeat' ((conv => whnf); first | (exfalso; omega) | (rw [hz2]) | (refine end_fn [] (.inr rfl) ?_ trivial rfl rfl) | (refine split_nd (fun hb => ?_) (fun hb => ?_)) | (refine split_d (fun hb => ?_) (fun hb => ?_)) | (refine split_n (fun hb => ?_) (fun hb => ?_)) | (refine split_x (fun hb => ?_) (fun hb => ?_)) | (refine And.intro (TraceOK.mk (by kernel_rfl)) ?_) | (refine Side.mk ?_; (repeat' (first | refine And.intro ?_ ?_ | exact inR_i64 (by omega) (by omega) | omega | rfl | exact trivial | exact none_ne rfl | exact some_ne rfl (Nat.ne_of_beq_eq_false rfl) | exact Nat.ne_of_beq_eq_false rfl | (dsimp only [srcSide]; omega) | (simp; done) | (simp; omega))); done) | (refine side_and ?_ ?_) | (refine drawX_of mixed ?_)))
      have e1 : padZ l (zerosN l.length) = padL l 0 := by simp [padL, lenB]
      rw [e1]
      refine loop_up (fun k : Nat => [(3, .slice 2 0 1 0 (padL l k).length), (5, .p (.int .i64 (7 - (k : Int)))), (21, .any)]) (fun k => [(2, .rows U.u8 (padL l k))]) (fun k => k ≤ 8) (fun k => 8 - k) 0 (Nat.zero_le _) ⟨by (repeat' (first | refine EndV.mk ?_ | exact trivial | exact rfl | refine And.intro ?_ ?_)), by (repeat' (first | refine EndV.mk ?_ | exact trivial | exact rfl | refine And.intro ?_ ?_)), rfl, rfl⟩ ?_
      intro k hk K hK
      have hlp := padL_length l k
      rcases Nat.lt_or_ge k 8 with hlt | hge
      · have ev : IntKind.u8.wrap (shrop .i64 (8 * (l.length : Int)) (8 * (7 - (k : Int)))) = lenByte l.length (7 - k) := by
          unfold lenByte
          have : ((7 - k : Nat) : Int) = 7 - (k : Int) := by omega
          rw [this]
        have es : List.take (padL l k).length (padL l k) ++ List.take 1 (List.drop 0 [lenByte l.length (7 - k)]) = padL l (k + 1) := by rw [List.take_length]; simp [padL, lenB]
        have e7 : (7 - (k : Int)) - 1 = 7 - ((k + 1 : Nat) : Int) := by omega
        (repeat' ((conv => whnf); first | (exfalso; omega) | (rw [ev]) | (rw [es]) | (rw [e7]) | (refine hK (k + 1) [some 0, some 1, some 4] _ _ ?_ ?_ ?_) | (refine Back.mk ?_ ?_ rfl rfl <;> (repeat' (first | refine EndV.mk ?_ | exact trivial | exact rfl | refine And.intro ?_ ?_))) | (refine end_fn [] (.inr rfl) ?_ trivial rfl rfl) | (refine split_nd (fun hb => ?_) (fun hb => ?_)) | (refine split_d (fun hb => ?_) (fun hb => ?_)) | (refine split_n (fun hb => ?_) (fun hb => ?_)) | (refine split_x (fun hb => ?_) (fun hb => ?_)) | (refine And.intro (TraceOK.mk (by kernel_rfl)) ?_) | (refine Side.mk ?_; (repeat' (first | refine And.intro ?_ ?_ | exact inR_i64 (by omega) (by omega) | omega | rfl | exact trivial | exact none_ne rfl | exact some_ne rfl (Nat.ne_of_beq_eq_false rfl) | exact Nat.ne_of_beq_eq_false rfl | (dsimp only [srcSide]; omega) | (simp; done) | (simp; omega))); done) | (refine side_and ?_ ?_) | (refine drawX_of mixed ?_)))
      · have hke : k = 8 := by omega
        subst hke
        clear hK
        (repeat' ((conv => whnf); first | (exfalso; omega) | (refine end_fn [] (.inr rfl) ?_ trivial rfl rfl) | (refine split_nd (fun hb => ?_) (fun hb => ?_)) | (refine split_d (fun hb => ?_) (fun hb => ?_)) | (refine split_n (fun hb => ?_) (fun hb => ?_)) | (refine split_x (fun hb => ?_) (fun hb => ?_)) | (refine And.intro (TraceOK.mk (by kernel_rfl)) ?_) | (refine Side.mk ?_; (repeat' (first | refine And.intro ?_ ?_ | exact inR_i64 (by omega) (by omega) | omega | rfl | exact trivial | exact none_ne rfl | exact some_ne rfl (Nat.ne_of_beq_eq_false rfl) | exact Nat.ne_of_beq_eq_false rfl | (dsimp only [srcSide]; omega) | (simp; done) | (simp; omega))); done) | (refine side_and ?_ ?_) | (refine drawX_of mixed ?_)))
        all_goals (repeat' (first | refine EndV.mk ?_ | exact trivial | exact rfl | refine And.intro ?_ ?_))
        exact ⟨_, rfl, rfl, rfl, by rw [Nat.zero_add]; exact Nat.le_refl _, by rw [List.drop_zero, List.take_length], rfl⟩
end Go.SX
