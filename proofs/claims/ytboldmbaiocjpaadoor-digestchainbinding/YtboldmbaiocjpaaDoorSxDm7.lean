/-
  Walks: Dm7, Dn0: what single functions of the program compute.
-/
import Derived.Test.YtboldmbaiocjpaaDoorSxDm2
namespace Go.SX
open Go.Proofs
set_option linter.unusedSimpArgs false
set_option linter.unusedVariables false
set_option maxHeartbeats 4000000
set_option maxRecDepth 100000
/-- what is owned is given up for good ahead of a call: slots and chunks seen as others -/
theorem callx_frzT {C : Cod} {P : Program} {D : Codec C} {X : Ctx C} {R : Kont C} {k : List (It C)} {T : List (SV C)} {Hp : List (HS C)} {f : FuncId} {args : List (SV C)} {dst : Option Nat} {all rest : List Oper} (θ : List (Option Nat)) (us : List (Nat × SV C)) (cs : List (Nat × HS C)) (args' : List (SV C)) (hb : Back X.m0 θ T Hp (setMany T us) (setCs Hp cs)) (ha : Seen Hp θ args args')
    (h : forceV (setMany T us) fun T1 => setCsK Hp cs fun Hp1 => CallX P D X R f args' dst all rest k T1 Hp1) : CallX P D X R f args dst all rest k T Hp := by
  rw [forceV_eq, setCsK_eq] at h
  obtain ⟨T2, Hp2, args2, hsub, S, h1, h2⟩ := h.h
  refine ⟨T2, Hp2, args2, fun B E df a w hm hR hsz => ?_, S, h1, h2⟩
  obtain ⟨E1, hR1, hsz1, hd1⟩ := subA_of (D := D) _ hb.T ha.h ⟨hb.H, hb.id, hb.nd⟩ B E df a w hm hR hsz
  obtain ⟨E2, hR2, hsz2, hd2⟩ := hsub B E1 df a w hm hR1 hsz1
  exact ⟨E2, hR2, hsz2, fun vs hv => hd2 vs (hd1 vs hv)⟩
theorem sane_meets : Meets Tryd.prog Dc 14 [] [] (.p (.bool true)) [] := by
  have c1 := proofM exL 2 (by decide) (by decide) (by decide) exShort
  rw [if_pos (by decide), show (2 : Int).toNat = 2 from rfl, exProof] at c1
  have c2 := extM exL 1 (by decide) (by decide) (by decide) exShort
  rw [if_pos (by decide), if_neg (by decide), show (1 : Int).toNat = 1 from rfl, exExt] at c2
  have c3 := proofM exL 3 (by decide) (by decide) (by decide) exShort
  rw [if_neg (by decide)] at c3
  have c4 := rootM exL (by decide) exShort
  rw [exRoot] at c4
  have c5 := rootM [[97]] (by decide) (exShort.take 1)
  rw [rootS_one] at c5
  have c6 := rootM [[97], [98]] (by decide) (exShort.take 2)
  rw [root2] at c6
  have r4 : (nodeH (nodeH (leafH [97]) (leafH [98])) (leafH [99])).length = 32 := nodeH_length _ _
  have hp1 : Short [nodeH (leafH [97]) (leafH [98])] := by intro s hs; rw [List.mem_singleton.1 hs, nodeH_length]; omega
  have hx1 : Short [leafH [98], leafH [99]] := by intro s hs; simp at hs; rcases hs with rfl | rfl <;> rw [leafH_length] <;> omega
  have c7 := verify_meets (nodeH (nodeH (leafH [97]) (leafH [98])) (leafH [99])) 3 2 (by decide) (by decide) [99] (by decide) [nodeH (leafH [97]) (leafH [98])] (by simp) hp1
  rw [exV1] at c7
  have c8 := verify_meets (nodeH (nodeH (leafH [97]) (leafH [98])) (leafH [99])) 3 2 (by decide) (by decide) [100] (by decide) [nodeH (leafH [97]) (leafH [98])] (by simp) hp1
  rw [exV2] at c8
  have c9 := verX_meets (leafH [97]) 1 (nodeH (nodeH (leafH [97]) (leafH [98])) (leafH [99])) 3 (by decide) (by decide) [leafH [98], leafH [99]] (by simp) hx1
  rw [exX1] at c9
  have c10 := verX_meets (nodeH (leafH [97]) (leafH [98])) 1 (nodeH (nodeH (leafH [97]) (leafH [98])) (leafH [99])) 3 (by decide) (by decide) [leafH [98], leafH [99]] (by simp) hx1
  rw [exX2] at c10
  have c11 := sum_meets [] (by simp)
  have c12 := sum_meets [97, 98, 99] (by simp)
  have c13 := hex_meets (sumB []) (by rw [sumB_length]; omega)
  have c14 := hex_meets (sumB [97, 98, 99]) (by rw [sumB_length]; omega)
  rw [ex1] at c13
  rw [ex2] at c14
  generalize nodeH (nodeH (leafH [97]) (leafH [98])) (leafH [99]) = rt at *
  generalize nodeH (leafH [97]) (leafH [98]) = nd at *
  generalize leafH [97] = la at *
  generalize leafH [98] = lb at *
  generalize leafH [99] = lc at *
  generalize sumB [] = s0 at *
  generalize sumB [97, 98, 99] = s1 at *
  have hel : exL.length = 3 := rfl
  refine meets_of_gx Ax tab_ok Tryd.func14 (c := _) rfl Tryd.call14 1000 ?_
  (repeat' ((conv => whnf); first | (exfalso; omega) | (refine end_fn [] (.inr rfl) ?_ trivial rfl rfl) | (refine split_nd (fun hb => ?_) (fun hb => ?_)) | (refine split_d (fun hb => ?_) (fun hb => ?_)) | (refine split_n (fun hb => ?_) (fun hb => ?_)) | (refine split_x (fun hb => ?_) (fun hb => ?_)) | (refine And.intro (TraceOK.mk (by kernel_rfl)) ?_) | (refine Side.mk ?_; (repeat' (first | refine And.intro ?_ ?_ | exact inR_i64 (by omega) (by omega) | omega | rfl | exact trivial | exact none_ne rfl | exact some_ne rfl (Nat.ne_of_beq_eq_false rfl) | exact Nat.ne_of_beq_eq_false rfl | (dsimp only [srcSide]; omega) | (simp; done) | (simp; omega))); done) | (refine side_and ?_ ?_) | (refine drawX_of mixed ?_)))
  refine callx_frzT [none] [(1, .p (.dsl U.str exL)), (11, .p (.dsl U.str exL)), (13, .p (.dsl U.str exL))] [(0, .rows U.str [])] [.p (.dsl U.str exL), .p (.int .i64 2)] ⟨by (repeat' (first | refine EndV.mk ?_ | exact trivial | exact rfl | refine And.intro ?_ ?_)) <;> (exact ⟨_, rfl, rfl, rfl, by simp, by (first | (simp; done) | (simp [List.take_of_length_le]; done) | (simp [List.take_of_length_le]; rfl)), rfl⟩), by (repeat' (first | refine EndV.mk ?_ | exact trivial | exact rfl | refine And.intro ?_ ?_)) <;> exact ⟨_, rfl⟩, rfl, rfl⟩ ⟨by (repeat' (first | refine EndV.mk ?_ | exact trivial | exact rfl | refine And.intro ?_ ?_)) <;> (exact ⟨_, rfl, rfl, rfl, by simp, by (first | (simp; done) | (simp [List.take_of_length_le]; done) | (simp [List.take_of_length_le]; rfl)), rfl⟩)⟩ ?_
  (repeat' ((conv => whnf); first | (exfalso; omega) | (refine callx_pure (c1) rfl rfl ?_) | (refine dcallx_pure (c1) rfl rfl ?_) | (refine callx_pure (c2) rfl rfl ?_) | (refine dcallx_pure (c2) rfl rfl ?_) | (refine callx_pure (c3) rfl rfl ?_) | (refine dcallx_pure (c3) rfl rfl ?_) | (refine callx_pure (c4) rfl rfl ?_) | (refine dcallx_pure (c4) rfl rfl ?_) | (refine callx_pure (c5) rfl rfl ?_) | (refine dcallx_pure (c5) rfl rfl ?_) | (refine callx_pure (c6) rfl rfl ?_) | (refine dcallx_pure (c6) rfl rfl ?_) | (refine callx_pure (c7) rfl rfl ?_) | (refine dcallx_pure (c7) rfl rfl ?_) | (refine callx_pure (c8) rfl rfl ?_) | (refine dcallx_pure (c8) rfl rfl ?_) | (refine callx_pure (c9) rfl rfl ?_) | (refine dcallx_pure (c9) rfl rfl ?_) | (refine callx_pure (c10) rfl rfl ?_) | (refine dcallx_pure (c10) rfl rfl ?_) | (refine callx_pure (c11) rfl rfl ?_) | (refine dcallx_pure (c11) rfl rfl ?_) | (refine callx_pure (c12) rfl rfl ?_) | (refine dcallx_pure (c12) rfl rfl ?_) | (refine callx_pure (c13) rfl rfl ?_) | (refine dcallx_pure (c13) rfl rfl ?_) | (refine callx_pure (c14) rfl rfl ?_) | (refine dcallx_pure (c14) rfl rfl ?_) | (exfalso; revert hb; decide +kernel) | (refine end_fn [] (.inr rfl) ?_ trivial rfl rfl) | (refine split_nd (fun hb => ?_) (fun hb => ?_)) | (refine split_d (fun hb => ?_) (fun hb => ?_)) | (refine split_n (fun hb => ?_) (fun hb => ?_)) | (refine split_x (fun hb => ?_) (fun hb => ?_)) | (refine And.intro (TraceOK.mk (by kernel_rfl)) ?_) | (refine Side.mk ?_; (repeat' (first | refine And.intro ?_ ?_ | exact inR_i64 (by omega) (by omega) | omega | rfl | exact trivial | exact none_ne rfl | exact some_ne rfl (Nat.ne_of_beq_eq_false rfl) | exact Nat.ne_of_beq_eq_false rfl | (dsimp only [srcSide]; omega) | (simp; done) | (simp; omega))); done) | (refine side_and ?_ ?_) | (refine drawX_of mixed ?_)))
  all_goals (repeat' (first | refine EndV.mk ?_ | exact trivial | exact rfl | refine And.intro ?_ ?_))
end Go.SX

namespace Go.SX
open Go.Proofs
set_option linter.unusedSimpArgs false
set_option linter.unusedVariables false
set_option maxHeartbeats 4000000
set_option maxRecDepth 100000
theorem fewS_short (l : List Bs) (n : Nat) : Short (fewS l n) := by
  intro s hs
  unfold fewS at hs
  obtain ⟨t, _, rfl⟩ := List.mem_map.1 hs
  simp; omega
theorem fewS_length (l : List Bs) (n : Nat) : (fewS l n).length ≤ n := by simp [fewS]; omega
theorem same_refl (a : List Bs) (h : a.length ≤ 1000) : Meets Tryd.prog Dc 20 [.p (.dsl U.str a), .p (.dsl U.str a)] [] (.p (.bool true)) [] := by
  have := refSame_meets a a h
  rwa [decide_eq_true (p := a = a) rfl] at this
def argSt (l : List Bs) : SV Cd := .p (.dsl U.str l)
theorem proofS_len (l : List Bs) (i : Nat) (h : i < l.length) : (proofS l i).length < l.length := proofS_length l.length l i rfl h
theorem tree_walk (l : List Bs) (i m : Int) (hi : -9223372036854775808 ≤ i) (hi2 : i < 9223372036854775808) (hm : -9223372036854775808 ≤ m) (hm2 : m < 9223372036854775808) :
    Meets Tryd.prog Dc 3 [.p (.dsl U.str l), .p (.int .i64 i), .p (.int .i64 m)] [] (.p (.bool true)) [] := by
  have hf := few_meets l 40 (by omega)
  have hS := fewS_short l 40
  have hL := fewS_length l 40
  generalize fewS l 40 = w at *
  have hsane := sane_meets
  have c1 := proofM w i hi hi2 (by omega) hS
  have c2 := refProof_meets w i hi hi2 (by omega) hS
  have c3 := extM w m hm hm2 (by omega) hS
  have c4 := refExtension_meets w m hm hm2 (by omega) hS
  have c5 := rootM w (by omega) hS
  have c6 := refRootH w (by omega) hS
  have hp : ∃ (p : List Bs) (e : Int), (if 0 ≤ i ∧ i < w.length then (.tuple [.p (.dsl U.str (proofS w i.toNat)), .p (.int .i64 0)] : SV Cd) else .tuple [.p (.dsl U.str []), .p (.int .i64 2)]) = .tuple [.p (.dsl U.str p), .p (.int .i64 e)] ∧ p.length ≤ 1000 := by
    split
    · rename_i h
      exact ⟨_, _, rfl, by have := proofS_len w i.toNat (by omega); omega⟩
    · exact ⟨_, _, rfl, by simp⟩
  have hx : ∃ (p : List Bs) (e : Int), (if 0 ≤ m ∧ m ≤ w.length then (.tuple [.p (.dsl U.str (if m = 0 then [] else partS w m.toNat true)), .p (.int .i64 0)] : SV Cd) else .tuple [.p (.dsl U.str []), .p (.int .i64 2)]) = .tuple [.p (.dsl U.str p), .p (.int .i64 e)] ∧ p.length ≤ 1000 := by
    split
    · rename_i h
      refine ⟨_, _, rfl, ?_⟩
      split
      · simp
      · have := partS_length w.length w m.toNat true rfl (by omega); omega
    · exact ⟨_, _, rfl, by simp⟩
  obtain ⟨p, e, hp, hpl⟩ := hp
  obtain ⟨x, g, hx, hxl⟩ := hx
  rw [hp] at c1 c2
  rw [hx] at c3 c4
  have c7 := same_refl p hpl
  have c8 := same_refl x hxl
  generalize rootS w = rt at *
  refine meets_of_gx Ax tab_ok Tryd.func3 (c := _) rfl Tryd.call3 400 ?_
  (repeat' ((conv => whnf); first | (exfalso; omega) | (refine callx_pure (hsane) rfl rfl ?_) | (refine dcallx_pure (hsane) rfl rfl ?_) | (refine callx_pure (hf) rfl rfl ?_) | (refine dcallx_pure (hf) rfl rfl ?_) | (refine callx_pure (c1) rfl rfl ?_) | (refine dcallx_pure (c1) rfl rfl ?_) | (refine callx_pure (c2) rfl rfl ?_) | (refine dcallx_pure (c2) rfl rfl ?_) | (refine callx_pure (c3) rfl rfl ?_) | (refine dcallx_pure (c3) rfl rfl ?_) | (refine callx_pure (c4) rfl rfl ?_) | (refine dcallx_pure (c4) rfl rfl ?_) | (refine callx_pure (c5) rfl rfl ?_) | (refine dcallx_pure (c5) rfl rfl ?_) | (refine callx_pure (c6) rfl rfl ?_) | (refine dcallx_pure (c6) rfl rfl ?_) | (refine callx_pure (c7) rfl rfl ?_) | (refine dcallx_pure (c7) rfl rfl ?_) | (refine callx_pure (c8) rfl rfl ?_) | (refine dcallx_pure (c8) rfl rfl ?_) | (exact absurd rfl hb) | (refine end_fn [] (.inr rfl) ?_ trivial rfl rfl) | (refine split_nd (fun hb => ?_) (fun hb => ?_)) | (refine split_d (fun hb => ?_) (fun hb => ?_)) | (refine split_n (fun hb => ?_) (fun hb => ?_)) | (refine split_x (fun hb => ?_) (fun hb => ?_)) | (refine And.intro (TraceOK.mk (by kernel_rfl)) ?_) | (refine Side.mk ?_; (repeat' (first | refine And.intro ?_ ?_ | exact inR_i64 (by omega) (by omega) | omega | rfl | exact trivial | exact none_ne rfl | exact some_ne rfl (Nat.ne_of_beq_eq_false rfl) | exact Nat.ne_of_beq_eq_false rfl | (dsimp only [srcSide]; omega) | (simp; done) | (simp; omega))); done) | (refine side_and ?_ ?_) | (refine drawX_of mixed ?_)))
  all_goals (repeat' (first | refine EndV.mk ?_ | exact trivial | exact rfl | refine And.intro ?_ ?_))
  all_goals ((conv => whnf); simp)
end Go.SX
