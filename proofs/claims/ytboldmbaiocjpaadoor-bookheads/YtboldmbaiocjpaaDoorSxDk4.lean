/-
  Walks: Dk4, Dk0, Dk5: what single functions of the program compute.
-/
import Derived.Test.YtboldmbaiocjpaaDoorSxDk1
import Derived.Test.YtboldmbaiocjpaaDoorSxTabD
namespace Go.SX
open Go.Proofs
set_option linter.unusedSimpArgs false
set_option linter.unusedVariables false
set_option maxHeartbeats 4000000
set_option maxRecDepth 100000
/-- a byte of a word -/
def byteS (x : Int) (k : Nat) : Int := IntKind.u8.wrap (shrop .u32 x (24 - 8 * (k : Int)))
def digL (s : St) (n : Nat) : List Int := (List.range 32).map fun j => if j < n then byteS (s.l.getD (j / 4) 0) (j % 4) else 0
def digS (s : St) : List UInt8 := (digL s 32).map fun n : Int => UInt8.ofNat n.toNat
theorem digL_length (s : St) (n : Nat) : (digL s n).length = 32 := by simp [digL]
theorem digL_set (s : St) (i k : Nat) (hi : i < 8) (hk : k < 4) : (digL s (4 * i + k)).set (4 * i + k) (byteS (s.l.getD i 0) k) = digL s (4 * i + (k + 1)) := by
  unfold digL
  apply List.ext_getElem
  · simp
  · intro j h1 h2
    simp only [List.length_set, List.length_map, List.length_range] at h1
    rw [List.getElem_set]
    simp only [List.getElem_map, List.getElem_range]
    by_cases e : 4 * i + k = j
    · rw [if_pos e, if_pos (by omega)]
      have e1 : j / 4 = i := by omega
      have e2 : j % 4 = k := by omega
      rw [e1, e2]
    · rw [if_neg e]
      by_cases e3 : j < 4 * i + k
      · rw [if_pos e3, if_pos (by omega)]
      · rw [if_neg e3, if_neg (by omega)]
theorem digest_meets (s : St) : Meets Tryd.prog Dc 68 [.agg [.arr U.u32 8 s.l]] [] (.p (.str (digS s))) [] := by
  have hs8 : s.l.length = 8 := rfl
  refine meets_of_gx Ax tab_ok Tryd.func68 (c := _) rfl Tryd.call68 400 ?_
  (repeat' ((conv => whnf); first | (exfalso; omega) | (refine end_fn [] (.inr rfl) ?_ trivial rfl rfl) | (refine split_nd (fun hb => ?_) (fun hb => ?_)) | (refine split_d (fun hb => ?_) (fun hb => ?_)) | (refine split_n (fun hb => ?_) (fun hb => ?_)) | (refine split_x (fun hb => ?_) (fun hb => ?_)) | (refine And.intro (TraceOK.mk (by kernel_rfl)) ?_) | (refine Side.mk ?_; (repeat' (first | refine And.intro ?_ ?_ | exact inR_i64 (by omega) (by omega) | omega | rfl | exact trivial | exact none_ne rfl | exact some_ne rfl (Nat.ne_of_beq_eq_false rfl) | exact Nat.ne_of_beq_eq_false rfl | (dsimp only [srcSide]; omega) | (simp; done) | (simp; omega))); done) | (refine side_and ?_ ?_) | (refine drawX_of mixed ?_)))
  have hu8 : 0 + 1 = Cd.n U.u8 := rfl
  refine loop_up (fun i : Nat => [(8, .p (.int .i64 i))]) (fun i => [(1, .var [.arr U.u8 32 (digL s (4 * i))])]) (fun i => i ≤ 8) (fun i => 8 - i) 0 (Nat.zero_le _) ⟨by (repeat' (first | refine EndV.mk ?_ | exact trivial | exact rfl | refine And.intro ?_ ?_)), by (repeat' (first | refine EndV.mk ?_ | exact trivial | exact rfl | refine And.intro ?_ ?_)), rfl, rfl⟩ ?_
  intro i hi K hK
  rcases Nat.lt_or_ge i 8 with hlt | hge
  · (repeat' ((conv => whnf); first | (exfalso; omega) | (refine end_fn [] (.inr rfl) ?_ trivial rfl rfl) | (refine split_nd (fun hb => ?_) (fun hb => ?_)) | (refine split_d (fun hb => ?_) (fun hb => ?_)) | (refine split_n (fun hb => ?_) (fun hb => ?_)) | (refine split_x (fun hb => ?_) (fun hb => ?_)) | (refine And.intro (TraceOK.mk (by kernel_rfl)) ?_) | (refine Side.mk ?_; (repeat' (first | refine And.intro ?_ ?_ | exact inR_i64 (by omega) (by omega) | omega | rfl | exact trivial | exact none_ne rfl | exact some_ne rfl (Nat.ne_of_beq_eq_false rfl) | exact Nat.ne_of_beq_eq_false rfl | (dsimp only [srcSide]; omega) | (simp; done) | (simp; omega))); done) | (refine side_and ?_ ?_) | (refine drawX_of mixed ?_)))
    refine loop_up (fun k : Nat => [(12, .p (.int .i64 k))]) (fun k => [(1, .var [.arr U.u8 32 (digL s (4 * i + k))])]) (fun k => k ≤ 4) (fun k => 4 - k) 0 (Nat.zero_le _) ⟨by (repeat' (first | refine EndV.mk ?_ | exact trivial | exact rfl | refine And.intro ?_ ?_)), by (repeat' (first | refine EndV.mk ?_ | exact trivial | exact rfl | refine And.intro ?_ ?_)), rfl, rfl⟩ ?_
    intro k hk K2 hK2
    have hlk := digL_length s (4 * i + k)
    rcases Nat.lt_or_ge k 4 with hkl | hkg
    · have hst := digL_set s i k hlt hkl
      have e1 : (4 * (i : Int) + (k : Int)).toNat = 4 * i + k := by omega
      have e2 : s.l.getD (i : Int).toNat (Cd.dflt U.u32) = s.l.getD i 0 := rfl
      have e3 : IntKind.u8.wrap (shrop .u32 (s.l.getD i 0) (24 - 8 * (k : Int))) = byteS (s.l.getD i 0) k := rfl
      generalize digL s (4 * i + k) = L at hlk hst ⊢
      (repeat' ((conv => whnf); first | (exfalso; omega) | (rw [e1]) | (rw [e2]) | (refine hK2 (k + 1) [some 0, some 1] _ _ ?_ ?_ ?_) | (refine end_fn [] (.inr rfl) ?_ trivial rfl rfl) | (refine split_nd (fun hb => ?_) (fun hb => ?_)) | (refine split_d (fun hb => ?_) (fun hb => ?_)) | (refine split_n (fun hb => ?_) (fun hb => ?_)) | (refine split_x (fun hb => ?_) (fun hb => ?_)) | (refine And.intro (TraceOK.mk (by kernel_rfl)) ?_) | (refine Side.mk ?_; (repeat' (first | refine And.intro ?_ ?_ | exact inR_i64 (by omega) (by omega) | omega | rfl | exact trivial | exact none_ne rfl | exact some_ne rfl (Nat.ne_of_beq_eq_false rfl) | exact Nat.ne_of_beq_eq_false rfl | (dsimp only [srcSide]; omega) | (simp; done) | (simp; omega))); done) | (refine side_and ?_ ?_) | (refine drawX_of mixed ?_)))
      dsimp only
      rw [← hst, ← e3]
      (refine Back.mk ?_ ?_ rfl rfl <;> (repeat' (first | refine EndV.mk ?_ | exact trivial | exact rfl | refine And.intro ?_ ?_)))
    · have hke : k = 4 := by omega
      subst hke
      have e4 : 4 * (i + 1) = 4 * i + 4 := by omega
      (repeat' ((conv => whnf); first | (exfalso; omega) | (refine hK (i + 1) [some 0, some 1] _ _ ?_ ?_ ?_) | (refine end_fn [] (.inr rfl) ?_ trivial rfl rfl) | (refine split_nd (fun hb => ?_) (fun hb => ?_)) | (refine split_d (fun hb => ?_) (fun hb => ?_)) | (refine split_n (fun hb => ?_) (fun hb => ?_)) | (refine split_x (fun hb => ?_) (fun hb => ?_)) | (refine And.intro (TraceOK.mk (by kernel_rfl)) ?_) | (refine Side.mk ?_; (repeat' (first | refine And.intro ?_ ?_ | exact inR_i64 (by omega) (by omega) | omega | rfl | exact trivial | exact none_ne rfl | exact some_ne rfl (Nat.ne_of_beq_eq_false rfl) | exact Nat.ne_of_beq_eq_false rfl | (dsimp only [srcSide]; omega) | (simp; done) | (simp; omega))); done) | (refine side_and ?_ ?_) | (refine drawX_of mixed ?_)))
      dsimp only
      rw [e4]
      (refine Back.mk ?_ ?_ rfl rfl <;> (repeat' (first | refine EndV.mk ?_ | exact trivial | exact rfl | refine And.intro ?_ ?_)))
  · have hie : i = 8 := by omega
    subst hie
    have hdl := digL_length s (4 * 8)
    have hds : digS s = (digL s (4 * 8)).map fun n : Int => UInt8.ofNat n.toNat := rfl
    rw [hds]
    generalize digL s (4 * 8) = L at hdl ⊢
    (repeat' ((conv => whnf); first | (exfalso; omega) | (refine end_fn [] (.inr rfl) ?_ trivial rfl rfl) | (refine split_nd (fun hb => ?_) (fun hb => ?_)) | (refine split_d (fun hb => ?_) (fun hb => ?_)) | (refine split_n (fun hb => ?_) (fun hb => ?_)) | (refine split_x (fun hb => ?_) (fun hb => ?_)) | (refine And.intro (TraceOK.mk (by kernel_rfl)) ?_) | (refine Side.mk ?_; (repeat' (first | refine And.intro ?_ ?_ | exact inR_i64 (by omega) (by omega) | omega | rfl | exact trivial | exact none_ne rfl | exact some_ne rfl (Nat.ne_of_beq_eq_false rfl) | exact Nat.ne_of_beq_eq_false rfl | (dsimp only [srcSide]; omega) | (simp; done) | (simp; omega))); done) | (refine side_and ?_ ?_) | (refine drawX_of mixed ?_)))
    refine EndV.mk ?_
    (conv => whnf)
    refine congrArg PV.str ?_
    show List.map (fun n : Int => UInt8.ofNat n.toNat) (List.take 32 (List.drop 0 L)) = List.map (fun n : Int => UInt8.ofNat n.toNat) L
    rw [List.drop_zero, List.take_of_length_le (by omega)]
end Go.SX

namespace Go.SX
open Go.Proofs
set_option linter.unusedSimpArgs false
set_option linter.unusedVariables false
set_option maxHeartbeats 4000000
set_option maxRecDepth 100000
theorem noEsc : SameF Tryd.prog 126 := ⟨fun v w => by
  rw [run_callFunc_extern Tryd.func126 (by kernel_rfl) (by kernel_rfl) (by kernel_rfl) (e := Extern.AbiNoEscape.same) (by kernel_rfl)]
  rfl⟩
theorem mnz : MnzF (C := Cd) Tryd.prog tab 133 U.u8 := ⟨#[3], 46, 5, _, _, fun args w => by
  rw [run_callFunc_extern Tryd.func133 (by kernel_rfl) (by kernel_rfl) (by kernel_rfl) (e := Extern.BytealgMakeNoZero.makeNoZero #[3] #[46]) (by kernel_rfl)], rfl, rfl, rfl, rfl, rfl⟩
/-- a strings.Builder -/
def bld (a b : SV Cd) : HS Cd := .vart (some 109) [a, b]
abbrev nilP : SV Cd := .p (.lit (.pointer none))
abbrev nilS : SV Cd := .p (.lit (.slice none 0 0))
/-- bytes as a row's elements -/
def bytesI (l : List UInt8) : List Int := l.map fun b => (b.toNat : Int)
theorem strI (l : List UInt8) : (bytesI l).map (fun n : Int => UInt8.ofNat n.toNat) = l := by
  unfold bytesI
  rw [List.map_map]
  conv => rhs; rw [← List.map_id l]
  apply List.map_congr_left
  intro b _
  simp
theorem bytesI_length (l : List UInt8) : (bytesI l).length = l.length := by simp [bytesI]
theorem bytesI_append (a b : List UInt8) : bytesI a ++ bytesI b = bytesI (a ++ b) := by simp [bytesI]
theorem grow_meets (n : Int) (h0 : 0 < n) (h1 : n ≤ 1000000) : Meets Tryd.prog Dc 132 [.ptr 0 0, .p (.int .i64 n)] [bld (.ptr 0 0) nilS] (.tuple []) [bld (.ptr 0 0) (.slice 1 0 1 0 0), .rows U.u8 []] := by
  refine meets_of_gx Ax tab_ok Tryd.func132 (c := _) rfl Tryd.call132 300 ?_
  (repeat' ((conv => whnf); first | (refine callx_mnz tab_ok mnz ?_ ?_) | (refine dcallx_mnz tab_ok mnz ?_ ?_) | (refine end_fn [some 0, some 1] (.inl rfl) ?_ ?_ rfl rfl) | (refine end_fn [] (.inr rfl) ?_ trivial rfl rfl) | (refine split_nd (fun hb => ?_) (fun hb => ?_)) | (refine split_d (fun hb => ?_) (fun hb => ?_)) | (refine split_n (fun hb => ?_) (fun hb => ?_)) | (refine split_x (fun hb => ?_) (fun hb => ?_)) | (refine And.intro (TraceOK.mk (by kernel_rfl)) ?_) | (refine Side.mk ?_; (repeat' (first | refine And.intro ?_ ?_ | exact inR_i64 (by omega) (by omega) | omega | rfl | exact trivial | exact none_ne rfl | exact some_ne rfl (Nat.ne_of_beq_eq_false rfl) | exact Nat.ne_of_beq_eq_false rfl | (dsimp only [srcSide]; omega) | (simp; done) | (simp; omega))); done) | (refine side_and ?_ ?_) | (refine drawX_of mixed ?_)))
  all_goals (repeat' (first | refine EndV.mk ?_ | exact trivial | exact rfl | refine And.intro ?_ ?_))
theorem join1_meets (a : List UInt8) : Meets Tryd.prog Dc 97 [.p (.dsl U.str [a]), .p (.str [])] [] (.p (.str a)) [] := by
  refine meets_of_gx Ax tab_ok Tryd.func97 (c := _) rfl Tryd.call97 300 ?_
  (repeat' ((conv => whnf); first | (exfalso; omega) | (refine end_fn [] (.inr rfl) ?_ trivial rfl rfl) | (refine split_nd (fun hb => ?_) (fun hb => ?_)) | (refine split_d (fun hb => ?_) (fun hb => ?_)) | (refine split_n (fun hb => ?_) (fun hb => ?_)) | (refine split_x (fun hb => ?_) (fun hb => ?_)) | (refine And.intro (TraceOK.mk (by kernel_rfl)) ?_) | (refine Side.mk ?_; (repeat' (first | refine And.intro ?_ ?_ | exact inR_i64 (by omega) (by omega) | omega | rfl | exact trivial | exact none_ne rfl | exact some_ne rfl (Nat.ne_of_beq_eq_false rfl) | exact Nat.ne_of_beq_eq_false rfl | (dsimp only [srcSide]; omega) | (simp; done) | (simp; omega))); done) | (refine side_and ?_ ?_) | (refine drawX_of mixed ?_)))
  all_goals (repeat' (first | refine EndV.mk ?_ | exact trivial | exact rfl | refine And.intro ?_ ?_))
theorem join2_meets (a b : List UInt8) (ha : a.length ≤ 100000) (hb : b.length ≤ 100000) : Meets Tryd.prog Dc 97 [.p (.dsl U.str [a, b]), .p (.str [])] [] (.p (.str (a ++ b))) [] := by
  refine meets_of_gx Ax tab_ok Tryd.func97 (c := _) rfl Tryd.call97 600 ?_
  (repeat' ((conv => whnf); first | (exfalso; omega) | (refine end_fn [] (.inr rfl) ?_ trivial rfl rfl) | (refine split_nd (fun hb => ?_) (fun hb => ?_)) | (refine split_d (fun hb => ?_) (fun hb => ?_)) | (refine split_n (fun hb => ?_) (fun hb => ?_)) | (refine split_x (fun hb => ?_) (fun hb => ?_)) | (refine And.intro (TraceOK.mk (by kernel_rfl)) ?_) | (refine Side.mk ?_; (repeat' (first | refine And.intro ?_ ?_ | exact inR_i64 (by omega) (by omega) | omega | rfl | exact trivial | exact none_ne rfl | exact some_ne rfl (Nat.ne_of_beq_eq_false rfl) | exact Nat.ne_of_beq_eq_false rfl | (dsimp only [srcSide]; omega) | (simp; done) | (simp; omega))); done) | (refine side_and ?_ ?_) | (refine drawX_of mixed ?_)))
  refine loop_up (fun i : Nat => [(5, .p (.int .i64 ([0, (a.length : Int), a.length + b.length].getD i 0))), (41, .p (.int .i64 i))]) (fun _ => []) (fun i => i ≤ 2) (fun i => 2 - i) 0 (Nat.zero_le _) ⟨by (repeat' (first | refine EndV.mk ?_ | exact trivial | exact rfl | refine And.intro ?_ ?_)), by (repeat' (first | refine EndV.mk ?_ | exact trivial | exact rfl | refine And.intro ?_ ?_)), rfl, rfl⟩ ?_
  intro i hi K hK
  have g0 : [0, (a.length : Int), a.length + b.length].getD 0 0 = 0 := rfl
  have g1 : [0, (a.length : Int), a.length + b.length].getD 1 0 = a.length := rfl
  have g2 : [0, (a.length : Int), a.length + b.length].getD 2 0 = a.length + b.length := rfl
  have l0 : ((List.length ([a, b].getD ((0 : Nat) : Int).toNat (Cd.dflt U.str)) : Nat) : Int) = a.length := rfl
  have l1 : ((List.length ([a, b].getD ((1 : Nat) : Int).toNat (Cd.dflt U.str)) : Nat) : Int) = b.length := rfl
  obtain rfl | rfl | rfl : i = 0 ∨ i = 1 ∨ i = 2 := by omega
  · (repeat' ((conv => whnf); first | (exfalso; omega) | (refine hK 1 [] _ _ ?_ ?_ ?_) | (refine Back.mk ?_ ?_ rfl rfl <;> (repeat' (first | refine EndV.mk ?_ | exact trivial | exact rfl | refine And.intro ?_ ?_))) | (refine end_fn [] (.inr rfl) ?_ trivial rfl rfl) | (refine split_nd (fun hb => ?_) (fun hb => ?_)) | (refine split_d (fun hb => ?_) (fun hb => ?_)) | (refine split_n (fun hb => ?_) (fun hb => ?_)) | (refine split_x (fun hb => ?_) (fun hb => ?_)) | (refine And.intro (TraceOK.mk (by kernel_rfl)) ?_) | (refine Side.mk ?_; (repeat' (first | refine And.intro ?_ ?_ | exact inR_i64 (by omega) (by omega) | omega | rfl | exact trivial | exact none_ne rfl | exact some_ne rfl (Nat.ne_of_beq_eq_false rfl) | exact Nat.ne_of_beq_eq_false rfl | (dsimp only [srcSide]; omega) | (simp; done) | (simp; omega))); done) | (refine side_and ?_ ?_) | (refine drawX_of mixed ?_)))
    exact congrArg (PV.int IntKind.i64) (by omega)
  · (repeat' ((conv => whnf); first | (exfalso; omega) | (refine hK 2 [] _ _ ?_ ?_ ?_) | (refine Back.mk ?_ ?_ rfl rfl <;> (repeat' (first | refine EndV.mk ?_ | exact trivial | exact rfl | refine And.intro ?_ ?_))) | (refine end_fn [] (.inr rfl) ?_ trivial rfl rfl) | (refine split_nd (fun hb => ?_) (fun hb => ?_)) | (refine split_d (fun hb => ?_) (fun hb => ?_)) | (refine split_n (fun hb => ?_) (fun hb => ?_)) | (refine split_x (fun hb => ?_) (fun hb => ?_)) | (refine And.intro (TraceOK.mk (by kernel_rfl)) ?_) | (refine Side.mk ?_; (repeat' (first | refine And.intro ?_ ?_ | exact inR_i64 (by omega) (by omega) | omega | rfl | exact trivial | exact none_ne rfl | exact some_ne rfl (Nat.ne_of_beq_eq_false rfl) | exact Nat.ne_of_beq_eq_false rfl | (dsimp only [srcSide]; omega) | (simp; done) | (simp; omega))); done) | (refine side_and ?_ ?_) | (refine drawX_of mixed ?_)))
  · rw [g2]
    by_cases h0 : a.length + b.length = 0
    · obtain rfl : a = [] := List.eq_nil_of_length_eq_zero (by omega)
      obtain rfl : b = [] := List.eq_nil_of_length_eq_zero (by omega)
      clear hK
      (repeat' ((conv => whnf); first | (exfalso; omega) | (refine call_in Ax tab_ok Tryd.func117 (c := _) rfl Tryd.call117 200 ?_) | (refine call_in Ax tab_ok Tryd.func111 (c := _) rfl Tryd.call111 100 ?_) | (refine callx_same noEsc ?_) | (refine callx_mnz tab_ok mnz ?_ ?_) | (refine dcallx_mnz tab_ok mnz ?_ ?_) | (refine call_in Ax tab_ok Tryd.func132 (c := _) rfl Tryd.call132 200 ?_) | (refine call_in Ax tab_ok Tryd.func80 (c := _) rfl Tryd.call80 200 ?_) | (refine call_in Ax tab_ok Tryd.func81 (c := _) rfl Tryd.call81 200 ?_) | (refine end_fn [] (.inr rfl) ?_ trivial rfl rfl) | (refine split_nd (fun hb => ?_) (fun hb => ?_)) | (refine split_d (fun hb => ?_) (fun hb => ?_)) | (refine split_n (fun hb => ?_) (fun hb => ?_)) | (refine split_x (fun hb => ?_) (fun hb => ?_)) | (refine And.intro (TraceOK.mk (by kernel_rfl)) ?_) | (refine Side.mk ?_; (repeat' (first | refine And.intro ?_ ?_ | exact inR_i64 (by omega) (by omega) | omega | rfl | exact trivial | exact none_ne rfl | exact some_ne rfl (Nat.ne_of_beq_eq_false rfl) | exact Nat.ne_of_beq_eq_false rfl | (dsimp only [srcSide]; omega) | (simp; done) | (simp; omega))); done) | (refine side_and ?_ ?_) | (refine drawX_of mixed ?_)))
      refine loop_up (fun i : Nat => [(65, .p (.int .i64 i))]) (fun _ => []) (fun i => i ≤ 1) (fun i => 1 - i) 0 (Nat.zero_le _) ⟨by (repeat' (first | refine EndV.mk ?_ | exact trivial | exact rfl | refine And.intro ?_ ?_)), by (repeat' (first | refine EndV.mk ?_ | exact trivial | exact rfl | refine And.intro ?_ ?_)), rfl, rfl⟩ ?_
      intro i hi K hK
      obtain rfl | rfl : i = 0 ∨ i = 1 := by omega
      · (repeat' ((conv => whnf); first | (exfalso; omega) | (refine call_in Ax tab_ok Tryd.func117 (c := _) rfl Tryd.call117 200 ?_) | (refine call_in Ax tab_ok Tryd.func111 (c := _) rfl Tryd.call111 100 ?_) | (refine callx_same noEsc ?_) | (refine callx_mnz tab_ok mnz ?_ ?_) | (refine dcallx_mnz tab_ok mnz ?_ ?_) | (refine call_in Ax tab_ok Tryd.func132 (c := _) rfl Tryd.call132 200 ?_) | (refine call_in Ax tab_ok Tryd.func80 (c := _) rfl Tryd.call80 200 ?_) | (refine call_in Ax tab_ok Tryd.func81 (c := _) rfl Tryd.call81 200 ?_) | (refine hK 1 [some 0] _ _ ?_ ?_ ?_) | (refine Back.mk ?_ ?_ rfl rfl <;> (repeat' (first | refine EndV.mk ?_ | exact trivial | exact rfl | refine And.intro ?_ ?_))) | (refine end_fn [] (.inr rfl) ?_ trivial rfl rfl) | (refine split_nd (fun hb => ?_) (fun hb => ?_)) | (refine split_d (fun hb => ?_) (fun hb => ?_)) | (refine split_n (fun hb => ?_) (fun hb => ?_)) | (refine split_x (fun hb => ?_) (fun hb => ?_)) | (refine And.intro (TraceOK.mk (by kernel_rfl)) ?_) | (refine Side.mk ?_; (repeat' (first | refine And.intro ?_ ?_ | exact inR_i64 (by omega) (by omega) | omega | rfl | exact trivial | exact none_ne rfl | exact some_ne rfl (Nat.ne_of_beq_eq_false rfl) | exact Nat.ne_of_beq_eq_false rfl | (dsimp only [srcSide]; omega) | (simp; done) | (simp; omega))); done) | (refine side_and ?_ ?_) | (refine drawX_of mixed ?_)))
      · (repeat' ((conv => whnf); first | (exfalso; omega) | (refine call_in Ax tab_ok Tryd.func117 (c := _) rfl Tryd.call117 200 ?_) | (refine call_in Ax tab_ok Tryd.func111 (c := _) rfl Tryd.call111 100 ?_) | (refine callx_same noEsc ?_) | (refine callx_mnz tab_ok mnz ?_ ?_) | (refine dcallx_mnz tab_ok mnz ?_ ?_) | (refine call_in Ax tab_ok Tryd.func132 (c := _) rfl Tryd.call132 200 ?_) | (refine call_in Ax tab_ok Tryd.func80 (c := _) rfl Tryd.call80 200 ?_) | (refine call_in Ax tab_ok Tryd.func81 (c := _) rfl Tryd.call81 200 ?_) | (refine end_fn [] (.inr rfl) ?_ trivial rfl rfl) | (refine split_nd (fun hb => ?_) (fun hb => ?_)) | (refine split_d (fun hb => ?_) (fun hb => ?_)) | (refine split_n (fun hb => ?_) (fun hb => ?_)) | (refine split_x (fun hb => ?_) (fun hb => ?_)) | (refine And.intro (TraceOK.mk (by kernel_rfl)) ?_) | (refine Side.mk ?_; (repeat' (first | refine And.intro ?_ ?_ | exact inR_i64 (by omega) (by omega) | omega | rfl | exact trivial | exact none_ne rfl | exact some_ne rfl (Nat.ne_of_beq_eq_false rfl) | exact Nat.ne_of_beq_eq_false rfl | (dsimp only [srcSide]; omega) | (simp; done) | (simp; omega))); done) | (refine side_and ?_ ?_) | (refine drawX_of mixed ?_)))
        (repeat' (first | refine EndV.mk ?_ | exact trivial | exact rfl | refine And.intro ?_ ?_))
    · clear hK
      (repeat' ((conv => whnf); first | (exfalso; omega) | (refine call_in Ax tab_ok Tryd.func117 (c := _) rfl Tryd.call117 200 ?_) | (refine call_in Ax tab_ok Tryd.func111 (c := _) rfl Tryd.call111 100 ?_) | (refine callx_same noEsc ?_) | (refine callx_mnz tab_ok mnz ?_ ?_) | (refine dcallx_mnz tab_ok mnz ?_ ?_) | (refine call_in Ax tab_ok Tryd.func132 (c := _) rfl Tryd.call132 200 ?_) | (refine call_in Ax tab_ok Tryd.func80 (c := _) rfl Tryd.call80 200 ?_) | (refine call_in Ax tab_ok Tryd.func81 (c := _) rfl Tryd.call81 200 ?_) | (refine end_fn [] (.inr rfl) ?_ trivial rfl rfl) | (refine split_nd (fun hb => ?_) (fun hb => ?_)) | (refine split_d (fun hb => ?_) (fun hb => ?_)) | (refine split_n (fun hb => ?_) (fun hb => ?_)) | (refine split_x (fun hb => ?_) (fun hb => ?_)) | (refine And.intro (TraceOK.mk (by kernel_rfl)) ?_) | (refine Side.mk ?_; (repeat' (first | refine And.intro ?_ ?_ | exact inR_i64 (by omega) (by omega) | omega | rfl | exact trivial | exact none_ne rfl | exact some_ne rfl (Nat.ne_of_beq_eq_false rfl) | exact Nat.ne_of_beq_eq_false rfl | (dsimp only [srcSide]; omega) | (simp; done) | (simp; omega))); done) | (refine side_and ?_ ?_) | (refine drawX_of mixed ?_)))
      refine loop_up (fun i : Nat => [(65, .p (.int .i64 i))]) (fun i => [(0, bld (.ptr 0 0) (.slice 2 0 1 0 ([bytesI a, bytesI a ++ bytesI b].getD i []).length)), (2, .rows U.u8 ([bytesI a, bytesI a ++ bytesI b].getD i []))]) (fun i => i ≤ 1) (fun i => 1 - i) 0 (Nat.zero_le _) ⟨by (repeat' (first | refine EndV.mk ?_ | exact trivial | exact rfl | refine And.intro ?_ ?_)), by (repeat' (first | refine EndV.mk ?_ | exact trivial | exact rfl | refine And.intro ?_ ?_)), rfl, rfl⟩ ?_
      intro i hi K hK
      obtain rfl | rfl : i = 0 ∨ i = 1 := by omega
      · (repeat' ((conv => whnf); first | (exfalso; omega) | (refine call_in Ax tab_ok Tryd.func117 (c := _) rfl Tryd.call117 200 ?_) | (refine call_in Ax tab_ok Tryd.func111 (c := _) rfl Tryd.call111 100 ?_) | (refine callx_same noEsc ?_) | (refine callx_mnz tab_ok mnz ?_ ?_) | (refine dcallx_mnz tab_ok mnz ?_ ?_) | (refine call_in Ax tab_ok Tryd.func132 (c := _) rfl Tryd.call132 200 ?_) | (refine call_in Ax tab_ok Tryd.func80 (c := _) rfl Tryd.call80 200 ?_) | (refine call_in Ax tab_ok Tryd.func81 (c := _) rfl Tryd.call81 200 ?_) | (refine hK 1 [some 0, some 1, some 4] _ _ ?_ ?_ ?_) | (refine Back.mk ?_ ?_ rfl rfl <;> (repeat' (first | refine EndV.mk ?_ | exact trivial | exact rfl | refine And.intro ?_ ?_))) | (refine end_fn [] (.inr rfl) ?_ trivial rfl rfl) | (refine split_nd (fun hb => ?_) (fun hb => ?_)) | (refine split_d (fun hb => ?_) (fun hb => ?_)) | (refine split_n (fun hb => ?_) (fun hb => ?_)) | (refine split_x (fun hb => ?_) (fun hb => ?_)) | (refine And.intro (TraceOK.mk (by kernel_rfl)) ?_) | (refine Side.mk ?_; (repeat' (first | refine And.intro ?_ ?_ | exact inR_i64 (by omega) (by omega) | omega | rfl | exact trivial | exact none_ne rfl | exact some_ne rfl (Nat.ne_of_beq_eq_false rfl) | exact Nat.ne_of_beq_eq_false rfl | (dsimp only [srcSide]; omega) | (simp; done) | (simp; omega))); done) | (refine side_and ?_ ?_) | (refine drawX_of mixed ?_)))
        · refine ⟨?_⟩; simp [bytesI, SV.topId, un_u8]; omega
        · refine ⟨?_⟩; simp [bytesI, SV.topId, un_u8]; omega
        · refine congrArg (fun n => some (SV.slice 4 0 1 0 n)) ?_
          simp [bytesI]
        · refine congrArg (fun l : List Int => (HS.rows U.u8 l : HS Cd)) ?_
          simp [bytesI, List.take_of_length_le]
      · (repeat' ((conv => whnf); first | (exfalso; omega) | (refine call_in Ax tab_ok Tryd.func117 (c := _) rfl Tryd.call117 200 ?_) | (refine call_in Ax tab_ok Tryd.func111 (c := _) rfl Tryd.call111 100 ?_) | (refine callx_same noEsc ?_) | (refine callx_mnz tab_ok mnz ?_ ?_) | (refine dcallx_mnz tab_ok mnz ?_ ?_) | (refine call_in Ax tab_ok Tryd.func132 (c := _) rfl Tryd.call132 200 ?_) | (refine call_in Ax tab_ok Tryd.func80 (c := _) rfl Tryd.call80 200 ?_) | (refine call_in Ax tab_ok Tryd.func81 (c := _) rfl Tryd.call81 200 ?_) | (refine end_fn [] (.inr rfl) ?_ trivial rfl rfl) | (refine split_nd (fun hb => ?_) (fun hb => ?_)) | (refine split_d (fun hb => ?_) (fun hb => ?_)) | (refine split_n (fun hb => ?_) (fun hb => ?_)) | (refine split_x (fun hb => ?_) (fun hb => ?_)) | (refine And.intro (TraceOK.mk (by kernel_rfl)) ?_) | (refine Side.mk ?_; (repeat' (first | refine And.intro ?_ ?_ | exact inR_i64 (by omega) (by omega) | omega | rfl | exact trivial | exact none_ne rfl | exact some_ne rfl (Nat.ne_of_beq_eq_false rfl) | exact Nat.ne_of_beq_eq_false rfl | (dsimp only [srcSide]; omega) | (simp; done) | (simp; omega))); done) | (refine side_and ?_ ?_) | (refine drawX_of mixed ?_)))
        · refine ⟨?_⟩; simp [bytesI]; omega
        · refine ⟨?_⟩; simp [bytesI]; omega
        · refine EndV.mk ?_
          (conv => whnf)
          refine congrArg PV.str ?_
          show List.map (fun n : Int => UInt8.ofNat n.toNat) (List.take ((bytesI a ++ bytesI b).length : Int).toNat (bytesI a ++ bytesI b)) = a ++ b
          rw [Int.toNat_natCast, List.take_length, bytesI_append, strI]
end Go.SX

namespace Go.SX
open Go.Proofs
set_option linter.unusedSimpArgs false
set_option linter.unusedVariables false
set_option maxHeartbeats 4000000
set_option maxRecDepth 100000
/-- what is added to a string -/
def zerosN (n : Nat) : Nat := (119 - n % 64) % 64
theorem zeros_end (n : Nat) : (n + 1 + zerosN n) % 64 = 56 := by unfold zerosN; omega
theorem zeros_mid (n j : Nat) (h : j < zerosN n) : (n + 1 + j) % 64 ≠ 56 := by unfold zerosN at h; omega
theorem zerosN_lt (n : Nat) : zerosN n < 64 := by unfold zerosN; omega
def padZ (l : List UInt8) (j : Nat) : List Int := bytesI l ++ [128] ++ List.replicate j 0
theorem padZ_length (l : List UInt8) (j : Nat) : (padZ l j).length = l.length + 1 + j := by simp [padZ, bytesI]; omega
theorem padZ_succ (l : List UInt8) (j : Nat) : padZ l j ++ [0] = padZ l (j + 1) := by simp [padZ, List.replicate_succ']
def lenByte (n : Nat) (i : Nat) : Int := IntKind.u8.wrap (shrop .i64 (8 * (n : Int)) (8 * (i : Int)))
/-- the bytes of the length, the first k of them -/
def lenB (n : Nat) : Nat → List Int
  | 0 => []
  | k + 1 => lenB n k ++ [lenByte n (7 - k)]
theorem lenB_length (n : Nat) : ∀ k, (lenB n k).length = k
  | 0 => rfl
  | k + 1 => by simp [lenB, lenB_length n k]
def padL (l : List UInt8) (k : Nat) : List Int := padZ l (zerosN l.length) ++ lenB l.length k
theorem padL_length (l : List UInt8) (k : Nat) : (padL l k).length = l.length + 1 + zerosN l.length + k := by simp [padL, padZ_length, lenB_length]
/-- the words after the first m blocks -/
def ivS : St := ⟨1779033703, 3144134277, 1013904242, 2773480762, 1359893119, 2600822924, 528734635, 1541459225⟩
def hashN (bs : List Int) : Nat → St
  | 0 => ivS
  | m + 1 => blockS (hashN bs m) bs (64 * m)
def sumB (l : List UInt8) : List UInt8 := digS (hashN (padL l 8) ((padL l 8).length / 64))
theorem pad_blocks (l : List UInt8) : (padL l 8).length % 64 = 0 := by
  rw [padL_length]
  have := zeros_end l.length
  omega
theorem sum_meets (l : List UInt8) (hL : l.length ≤ 5000) : Meets Tryd.prog Dc 32 [.p (.str l)] [] (.p (.str (sumB l))) [] := by
  refine meets_of_gx Ax tab_ok Tryd.func32 (c := _) rfl Tryd.call32 600 ?_
  (repeat' ((conv => whnf); first | (exfalso; omega) | (refine end_fn [] (.inr rfl) ?_ trivial rfl rfl) | (refine split_nd (fun hb => ?_) (fun hb => ?_)) | (refine split_d (fun hb => ?_) (fun hb => ?_)) | (refine split_n (fun hb => ?_) (fun hb => ?_)) | (refine split_x (fun hb => ?_) (fun hb => ?_)) | (refine And.intro (TraceOK.mk (by kernel_rfl)) ?_) | (refine Side.mk ?_; (repeat' (first | refine And.intro ?_ ?_ | exact inR_i64 (by omega) (by omega) | omega | rfl | exact trivial | exact none_ne rfl | exact some_ne rfl (Nat.ne_of_beq_eq_false rfl) | exact Nat.ne_of_beq_eq_false rfl | (dsimp only [srcSide]; omega) | (simp; done) | (simp; omega))); done) | (refine side_and ?_ ?_) | (refine drawX_of mixed ?_)))
  have hu8 : 0 + 1 = Cd.n U.u8 := rfl
  have e0 : (List.take (List.map (fun b : UInt8 => (b.toNat : Int)) l).length (List.map (fun b : UInt8 => (b.toNat : Int)) l) ++ List.take 1 (List.drop 0 [(128 : Int)])) = padZ l 0 := by rw [List.take_length]; simp [padZ, bytesI]
  rw [e0]
  refine loop_up (fun j : Nat => [(4, .slice 3 0 1 0 (padZ l j).length), (11, .any)]) (fun j => [(3, .rows U.u8 (padZ l j))]) (fun j => j ≤ zerosN l.length) (fun j => zerosN l.length - j) 0 (Nat.zero_le _) ⟨by (repeat' (first | refine EndV.mk ?_ | exact trivial | exact rfl | refine And.intro ?_ ?_)), by (repeat' (first | refine EndV.mk ?_ | exact trivial | exact rfl | refine And.intro ?_ ?_)), rfl, rfl⟩ ?_
  intro j hj K hK
  have hz1 := zerosN_lt l.length
  have hlz := padZ_length l j
  have hz2 : ((padZ l j).length : Int).tmod 64 = (((l.length + 1 + j) % 64 : Nat) : Int) := by
    rw [hlz, Int.tmod_eq_emod_of_nonneg (by omega)]; omega
  rcases Nat.lt_or_ge j (zerosN l.length) with hlt | hge
  · have hz3 := zeros_mid l.length j hlt
    have hsucc := padZ_succ l j
    have es : List.take (padZ l j).length (padZ l j) ++ List.take 1 (List.drop 0 [(0 : Int)]) = padZ l (j + 1) := by rw [List.take_length]; exact hsucc
    (repeat' ((conv => whnf); first | (exfalso; omega) | (rw [hz2]) | (rw [es]) | (refine hK (j + 1) [some 0, some 1, some 2, some 5] _ _ ?_ ?_ ?_) | (refine Back.mk ?_ ?_ rfl rfl <;> (repeat' (first | refine EndV.mk ?_ | exact trivial | exact rfl | refine And.intro ?_ ?_))) | (refine end_fn [] (.inr rfl) ?_ trivial rfl rfl) | (refine split_nd (fun hb => ?_) (fun hb => ?_)) | (refine split_d (fun hb => ?_) (fun hb => ?_)) | (refine split_n (fun hb => ?_) (fun hb => ?_)) | (refine split_x (fun hb => ?_) (fun hb => ?_)) | (refine And.intro (TraceOK.mk (by kernel_rfl)) ?_) | (refine Side.mk ?_; (repeat' (first | refine And.intro ?_ ?_ | exact inR_i64 (by omega) (by omega) | omega | rfl | exact trivial | exact none_ne rfl | exact some_ne rfl (Nat.ne_of_beq_eq_false rfl) | exact Nat.ne_of_beq_eq_false rfl | (dsimp only [srcSide]; omega) | (simp; done) | (simp; omega))); done) | (refine side_and ?_ ?_) | (refine drawX_of mixed ?_)))
  · have hje : j = zerosN l.length := by omega
    have hz3 := zeros_end l.length
    subst hje
    clear hK
    (repeat' ((conv => whnf); first | (exfalso; omega) | (rw [hz2]) | (refine end_fn [] (.inr rfl) ?_ trivial rfl rfl) | (refine split_nd (fun hb => ?_) (fun hb => ?_)) | (refine split_d (fun hb => ?_) (fun hb => ?_)) | (refine split_n (fun hb => ?_) (fun hb => ?_)) | (refine split_x (fun hb => ?_) (fun hb => ?_)) | (refine And.intro (TraceOK.mk (by kernel_rfl)) ?_) | (refine Side.mk ?_; (repeat' (first | refine And.intro ?_ ?_ | exact inR_i64 (by omega) (by omega) | omega | rfl | exact trivial | exact none_ne rfl | exact some_ne rfl (Nat.ne_of_beq_eq_false rfl) | exact Nat.ne_of_beq_eq_false rfl | (dsimp only [srcSide]; omega) | (simp; done) | (simp; omega))); done) | (refine side_and ?_ ?_) | (refine drawX_of mixed ?_)))
    have e1 : padZ l (zerosN l.length) = padL l 0 := by simp [padL, lenB]
    rw [e1]
    refine loop_up (fun k : Nat => [(4, .slice 3 0 1 0 (padL l k).length), (5, .p (.int .i64 (7 - (k : Int)))), (11, .any), (12, .any)]) (fun k => [(3, .rows U.u8 (padL l k))]) (fun k => k ≤ 8) (fun k => 8 - k) 0 (Nat.zero_le _) ⟨by (repeat' (first | refine EndV.mk ?_ | exact trivial | exact rfl | refine And.intro ?_ ?_)), by (repeat' (first | refine EndV.mk ?_ | exact trivial | exact rfl | refine And.intro ?_ ?_)), rfl, rfl⟩ ?_
    intro k hk K hK
    have hlp := padL_length l k
    rcases Nat.lt_or_ge k 8 with hlt | hge
    · have ev : IntKind.u8.wrap (shrop .i64 (8 * (l.length : Int)) (8 * (7 - (k : Int)))) = lenByte l.length (7 - k) := by
        unfold lenByte
        have : ((7 - k : Nat) : Int) = 7 - (k : Int) := by omega
        rw [this]
      have es : List.take (padL l k).length (padL l k) ++ List.take 1 (List.drop 0 [lenByte l.length (7 - k)]) = padL l (k + 1) := by rw [List.take_length]; simp [padL, lenB]
      have e7 : (7 - (k : Int)) - 1 = 7 - ((k + 1 : Nat) : Int) := by omega
      (repeat' ((conv => whnf); first | (exfalso; omega) | (rw [ev]) | (rw [es]) | (rw [e7]) | (refine hK (k + 1) [some 0, some 1, some 2, some 5] _ _ ?_ ?_ ?_) | (refine Back.mk ?_ ?_ rfl rfl <;> (repeat' (first | refine EndV.mk ?_ | exact trivial | exact rfl | refine And.intro ?_ ?_))) | (refine end_fn [] (.inr rfl) ?_ trivial rfl rfl) | (refine split_nd (fun hb => ?_) (fun hb => ?_)) | (refine split_d (fun hb => ?_) (fun hb => ?_)) | (refine split_n (fun hb => ?_) (fun hb => ?_)) | (refine split_x (fun hb => ?_) (fun hb => ?_)) | (refine And.intro (TraceOK.mk (by kernel_rfl)) ?_) | (refine Side.mk ?_; (repeat' (first | refine And.intro ?_ ?_ | exact inR_i64 (by omega) (by omega) | omega | rfl | exact trivial | exact none_ne rfl | exact some_ne rfl (Nat.ne_of_beq_eq_false rfl) | exact Nat.ne_of_beq_eq_false rfl | (dsimp only [srcSide]; omega) | (simp; done) | (simp; omega))); done) | (refine side_and ?_ ?_) | (refine drawX_of mixed ?_)))
    · have hke : k = 8 := by omega
      subst hke
      clear hK
      (repeat' ((conv => whnf); first | (exfalso; omega) | (refine call_in Ax tab_ok Tryd.func66 (c := _) rfl Tryd.call66 100 ?_) | (refine range_in Ax tab_ok rfl Tryd.func98 (c := _) rfl Tryd.call98 rfl rfl 300 ?_) | (refine end_fn [] (.inr rfl) ?_ trivial rfl rfl) | (refine split_nd (fun hb => ?_) (fun hb => ?_)) | (refine split_d (fun hb => ?_) (fun hb => ?_)) | (refine split_n (fun hb => ?_) (fun hb => ?_)) | (refine split_x (fun hb => ?_) (fun hb => ?_)) | (refine And.intro (TraceOK.mk (by kernel_rfl)) ?_) | (refine Side.mk ?_; (repeat' (first | refine And.intro ?_ ?_ | exact inR_i64 (by omega) (by omega) | omega | rfl | exact trivial | exact none_ne rfl | exact some_ne rfl (Nat.ne_of_beq_eq_false rfl) | exact Nat.ne_of_beq_eq_false rfl | (dsimp only [srcSide]; omega) | (simp; done) | (simp; omega))); done) | (refine side_and ?_ ?_) | (refine drawX_of mixed ?_)))
      intro gn tmps bd
      (repeat' ((conv => whnf); first | (refine end_fn [] (.inr rfl) ?_ trivial rfl rfl) | (refine split_nd (fun hb => ?_) (fun hb => ?_)) | (refine split_d (fun hb => ?_) (fun hb => ?_)) | (refine split_n (fun hb => ?_) (fun hb => ?_)) | (refine split_x (fun hb => ?_) (fun hb => ?_)) | (refine And.intro (TraceOK.mk (by kernel_rfl)) ?_) | (refine Side.mk ?_; (repeat' (first | refine And.intro ?_ ?_ | exact inR_i64 (by omega) (by omega) | omega | rfl | exact trivial | exact none_ne rfl | exact some_ne rfl (Nat.ne_of_beq_eq_false rfl) | exact Nat.ne_of_beq_eq_false rfl | (dsimp only [srcSide]; omega) | (simp; done) | (simp; omega))); done) | (refine side_and ?_ ?_) | (refine drawX_of mixed ?_)))
      have hpb := pad_blocks l
      have hsb : sumB l = digS (hashN (padL l 8) ((padL l 8).length / 64)) := rfl
      rw [hsb]
      have hz1' := zerosN_lt l.length
      obtain ⟨M, hM⟩ : ∃ M, (padL l 8).length / 64 = M := ⟨_, rfl⟩
      rw [hM]
      generalize padL l 8 = bs at hlp hpb hM ⊢
      refine loop_up (fun m : Nat => [(4, .p (.int .i64 (64 * (m : Int))))]) (fun m => [(0, .var [.arr U.u32 8 (hashN bs m).l])]) (fun m => m ≤ M) (fun m => M - m) 0 (Nat.zero_le _) ⟨by (repeat' (first | refine EndV.mk ?_ | exact trivial | exact rfl | refine And.intro ?_ ?_)), by (repeat' (first | refine EndV.mk ?_ | exact trivial | exact rfl | refine And.intro ?_ ?_)), rfl, rfl⟩ ?_
      intro m hm K hK
      rcases Nat.lt_or_ge m M with hlt | hge2
      · have e64 : min (64 : Int) ((((bs.length : Int).toNat - (64 * (m : Int)).toNat : Nat)) : Int) = 64 := by omega
        have eo : 0 + (64 * (m : Int)).toNat = 64 * m := by omega
        have el : (64 * (m : Int) + 64).toNat - (64 * (m : Int)).toNat = 64 := by omega
        have es : 64 * (m : Int) + 64 = 64 * ((m + 1 : Nat) : Int) := by omega
        have hbk : hashN bs (m + 1) = blockS (hashN bs m) bs (64 * m) := rfl
        have hadd := add_meets (hashN bs m) bs (64 * m) (by omega) (by omega)
        generalize blockS (hashN bs m) bs (64 * m) = s2 at hbk hadd
        generalize hashN bs m = s1 at hadd ⊢
        (repeat' ((conv => whnf); first | (exfalso; omega) | (rw [e64]) | (rw [eo]) | (rw [el]) | (refine yield_in Ax tab_ok rfl rfl rfl 200 200 ?_) | (refine callh [some 0, some 3] hadd rfl rfl ⟨rfl, rfl, trivial⟩ ?_) | (refine hK (m + 1) ([some 0, some 1, some 2, some 3, some 4, some 5, some 6]) _ _ ?_ ?_ ?_) | (refine end_fn [] (.inr rfl) ?_ trivial rfl rfl) | (refine split_nd (fun hb => ?_) (fun hb => ?_)) | (refine split_d (fun hb => ?_) (fun hb => ?_)) | (refine split_n (fun hb => ?_) (fun hb => ?_)) | (refine split_x (fun hb => ?_) (fun hb => ?_)) | (refine And.intro (TraceOK.mk (by kernel_rfl)) ?_) | (refine Side.mk ?_; (repeat' (first | refine And.intro ?_ ?_ | exact inR_i64 (by omega) (by omega) | omega | rfl | exact trivial | exact none_ne rfl | exact some_ne rfl (Nat.ne_of_beq_eq_false rfl) | exact Nat.ne_of_beq_eq_false rfl | (dsimp only [srcSide]; omega) | (simp; done) | (simp; omega))); done) | (refine side_and ?_ ?_) | (refine drawX_of mixed ?_)))
        dsimp only
        rw [hbk, ← es]
        (refine Back.mk ?_ ?_ rfl rfl <;> (repeat' (first | refine EndV.mk ?_ | exact trivial | exact rfl | refine And.intro ?_ ?_)))
      · have hme : m = M := by omega
        subst hme
        (repeat' ((conv => whnf); first | (exfalso; omega) | (refine callx_pure (digest_meets _) rfl rfl ?_) | (refine end_fn [] (.inr rfl) ?_ trivial rfl rfl) | (refine split_nd (fun hb => ?_) (fun hb => ?_)) | (refine split_d (fun hb => ?_) (fun hb => ?_)) | (refine split_n (fun hb => ?_) (fun hb => ?_)) | (refine split_x (fun hb => ?_) (fun hb => ?_)) | (refine And.intro (TraceOK.mk (by kernel_rfl)) ?_) | (refine Side.mk ?_; (repeat' (first | refine And.intro ?_ ?_ | exact inR_i64 (by omega) (by omega) | omega | rfl | exact trivial | exact none_ne rfl | exact some_ne rfl (Nat.ne_of_beq_eq_false rfl) | exact Nat.ne_of_beq_eq_false rfl | (dsimp only [srcSide]; omega) | (simp; done) | (simp; omega))); done) | (refine side_and ?_ ?_) | (refine drawX_of mixed ?_)))
        all_goals (repeat' (first | refine EndV.mk ?_ | exact trivial | exact rfl | refine And.intro ?_ ?_))
end Go.SX
