/-
  Walks: Dk9, Dl0, Dl1: what single functions of the program compute.
-/
import Derived.Test.YtboldmbaiocjpaaDoorSxDk7
namespace Go.SX
open Go.Proofs
set_option linter.unusedSimpArgs false
set_option linter.unusedVariables false
set_option maxHeartbeats 4000000
set_option maxRecDepth 100000
theorem ror_rol (x n : Int) : rorS x n = rolS x n := by
  unfold rorS rolS bitop
  simp only [BitVec.or_comm]
theorem wrap_bv (v : BitVec 32) : IntKind.u32.wrap (v.toNat : Int) = (v.toNat : Int) := by
  have hv := v.isLt
  have h2 : (v.toNat : Int) < 4294967296 := by omega
  have h3 : (2 : Int) ^ (32 : Nat) = 4294967296 := by decide
  have h4 : (v.toNat : Int) % (2 ^ (32 : Nat) : Int) = (v.toNat : Int) := by rw [h3]; omega
  unfold IntKind.wrap
  show (if (false && decide ((v.toNat : Int) % (2 ^ (32 : Nat) : Int) ≥ (2 ^ 31 : Int))) = true then ((v.toNat : Int) % (2 ^ (32 : Nat) : Int)) - (2 ^ (32 : Nat) : Int) else (v.toNat : Int) % (2 ^ (32 : Nat) : Int)) = _
  rw [Bool.false_and, if_neg (by decide), h4]
theorem ofInt_bv (v : BitVec 32) : BitVec.ofInt 32 (v.toNat : Int) = v := by simp
theorem bitop_xor0 (a b : Int) : bitop .xor .u32 0 (bitop .or .u32 a b) = bitop .or .u32 a b := by
  show IntKind.u32.wrap ((BitVec.ofInt 32 0 ^^^ BitVec.ofInt 32 (IntKind.u32.wrap ((BitVec.ofInt 32 a ||| BitVec.ofInt 32 b).toNat : Int))).toNat : Int) = IntKind.u32.wrap ((BitVec.ofInt 32 a ||| BitVec.ofInt 32 b).toNat : Int)
  generalize BitVec.ofInt 32 a ||| BitVec.ofInt 32 b = v
  rw [wrap_bv v, ofInt_bv, show BitVec.ofInt 32 0 = 0#32 from rfl, BitVec.zero_xor, wrap_bv]
theorem mix2S (x a b : Int) : mixS x [a, b] = bitop .xor .u32 (rolS x a) (rolS x b) := by
  show bitop .xor .u32 (bitop .xor .u32 0 (rolS x a)) (rolS x b) = _
  conv => lhs; arg 3; unfold rolS; rw [bitop_xor0]
  rfl
theorem mix3S (x a b c : Int) : mixS x [a, b, c] = bitop .xor .u32 (bitop .xor .u32 (rolS x a) (rolS x b)) (rolS x c) := by
  show bitop .xor .u32 (bitop .xor .u32 (bitop .xor .u32 0 (rolS x a)) (rolS x b)) (rolS x c) = _
  conv => lhs; arg 3; arg 3; unfold rolS; rw [bitop_xor0]
  rfl
theorem refRot_meets (x n : Int) (h0 : 0 ≤ n) (h1 : n ≤ 32) : Meets Tryd.prog Dc 101 [.p (.int .u32 x), .p (.int .i64 n)] [] (.p (.int .u32 (rolS x n))) [] := by
  rw [← ror_rol]; exact rotated_meets x n h0 h1
theorem refConst_meets : Meets Tryd.prog Dc 102 [] [] (.p (.dsl U.u32 roundK)) [] := by
  refine meets_of_gx Ax tab_ok Tryd.func102 (c := _) rfl Tryd.call102 600 ?_
  (repeat' ((conv => whnf); first | (exfalso; omega) | (refine end_fn [] (.inr rfl) ?_ trivial rfl rfl) | (refine split_nd (fun hb => ?_) (fun hb => ?_)) | (refine split_d (fun hb => ?_) (fun hb => ?_)) | (refine split_n (fun hb => ?_) (fun hb => ?_)) | (refine split_x (fun hb => ?_) (fun hb => ?_)) | (refine And.intro (TraceOK.mk (by kernel_rfl)) ?_) | (refine Side.mk ?_; (repeat' (first | refine And.intro ?_ ?_ | exact inR_i64 (by omega) (by omega) | omega | rfl | exact trivial | exact none_ne rfl | exact some_ne rfl (Nat.ne_of_beq_eq_false rfl) | exact Nat.ne_of_beq_eq_false rfl | (dsimp only [srcSide]; omega) | (simp; done) | (simp; omega))); done) | (refine side_and ?_ ?_) | (refine drawX_of mixed ?_)))
  (repeat' (first | refine EndV.mk ?_ | exact trivial | exact rfl | refine And.intro ?_ ?_))
  exact ⟨_, rfl, rfl, rfl, by decide, by decide, rfl⟩
theorem be32_int (bs : List Int) (i : Nat) : bitop BinOp.or IntKind.u32 (bitop BinOp.or IntKind.u32 (bitop BinOp.or IntKind.u32 (shlop IntKind.u32 (IntKind.u32.wrap (bs.getD (4 * (i : Int)).toNat (Cd.dflt U.u8))) 24) (shlop IntKind.u32 (IntKind.u32.wrap (bs.getD (4 * (i : Int) + 1).toNat (Cd.dflt U.u8))) 16)) (shlop IntKind.u32 (IntKind.u32.wrap (bs.getD (4 * (i : Int) + 2).toNat (Cd.dflt U.u8))) 8)) (IntKind.u32.wrap (bs.getD (4 * (i : Int) + 3).toNat (Cd.dflt U.u8))) = be32 bs (4 * i) := by
  have e0 : (4 * (i : Int)).toNat = 4 * i := by omega
  have e1 : (4 * (i : Int) + 1).toNat = 4 * i + 1 := by omega
  have e2 : (4 * (i : Int) + 2).toNat = 4 * i + 2 := by omega
  have e3 : (4 * (i : Int) + 3).toNat = 4 * i + 3 := by omega
  rw [e0, e1, e2, e3]
  rfl
theorem refNext (w : List Int) (i : Nat) (h16 : 16 ≤ i) : IntKind.u32.wrap (IntKind.u32.wrap (IntKind.u32.wrap (w.getD (0 + ((i : Int) - 16).toNat) (Cd.dflt U.u32) + bitop BinOp.xor IntKind.u32 (bitop BinOp.xor IntKind.u32 (rolS (w.getD (0 + ((i : Int) - 15).toNat) (Cd.dflt U.u32)) 7) (rolS (w.getD (0 + ((i : Int) - 15).toNat) (Cd.dflt U.u32)) 18)) (shrop IntKind.u32 (w.getD (0 + ((i : Int) - 15).toNat) (Cd.dflt U.u32)) 3)) + w.getD (0 + ((i : Int) - 7).toNat) (Cd.dflt U.u32)) + bitop BinOp.xor IntKind.u32 (bitop BinOp.xor IntKind.u32 (rolS (w.getD (0 + ((i : Int) - 2).toNat) (Cd.dflt U.u32)) 17) (rolS (w.getD (0 + ((i : Int) - 2).toNat) (Cd.dflt U.u32)) 19)) (shrop IntKind.u32 (w.getD (0 + ((i : Int) - 2).toNat) (Cd.dflt U.u32)) 10)) = wNext w i := by
  have e0 : 0 + ((i : Int) - 16).toNat = i - 16 := by omega
  have e1 : 0 + ((i : Int) - 15).toNat = i - 15 := by omega
  have e2 : 0 + ((i : Int) - 7).toNat = i - 7 := by omega
  have e3 : 0 + ((i : Int) - 2).toNat = i - 2 := by omega
  rw [e0, e1, e2, e3]
  unfold wNext
  rw [mix2S, mix2S]
  rfl
theorem refT (v : St) (k w : Int) : IntKind.u32.wrap (IntKind.u32.wrap (IntKind.u32.wrap (IntKind.u32.wrap ((v.l.getD (0 + Int.toNat 7) (Cd.dflt U.u32)) + bitop BinOp.xor IntKind.u32 (bitop BinOp.xor IntKind.u32 (rolS (v.l.getD (0 + Int.toNat 4) (Cd.dflt U.u32)) 6) (rolS (v.l.getD (0 + Int.toNat 4) (Cd.dflt U.u32)) 11)) (rolS (v.l.getD (0 + Int.toNat 4) (Cd.dflt U.u32)) 25)) + bitop BinOp.xor IntKind.u32 (bitop BinOp.and IntKind.u32 (v.l.getD (0 + Int.toNat 4) (Cd.dflt U.u32)) (v.l.getD (0 + Int.toNat 5) (Cd.dflt U.u32))) (bitop BinOp.and IntKind.u32 (bitop BinOp.xor IntKind.u32 (if IntKind.u32.signed = true then -1 else IntKind.u32.max) (v.l.getD (0 + Int.toNat 4) (Cd.dflt U.u32))) (v.l.getD (0 + Int.toNat 6) (Cd.dflt U.u32)))) + k) + w) = t1S v k w := by
  unfold t1S
  rw [mix3S]
  rfl
theorem refU (v : St) : IntKind.u32.wrap (bitop BinOp.xor IntKind.u32 (bitop BinOp.xor IntKind.u32 (rolS (v.l.getD (0 + Int.toNat 0) (Cd.dflt U.u32)) 2) (rolS (v.l.getD (0 + Int.toNat 0) (Cd.dflt U.u32)) 13)) (rolS (v.l.getD (0 + Int.toNat 0) (Cd.dflt U.u32)) 22) + bitop BinOp.xor IntKind.u32 (bitop BinOp.xor IntKind.u32 (bitop BinOp.and IntKind.u32 (v.l.getD (0 + Int.toNat 0) (Cd.dflt U.u32)) (v.l.getD (0 + Int.toNat 1) (Cd.dflt U.u32))) (bitop BinOp.and IntKind.u32 (v.l.getD (0 + Int.toNat 0) (Cd.dflt U.u32)) (v.l.getD (0 + Int.toNat 2) (Cd.dflt U.u32)))) (bitop BinOp.and IntKind.u32 (v.l.getD (0 + Int.toNat 1) (Cd.dflt U.u32)) (v.l.getD (0 + Int.toNat 2) (Cd.dflt U.u32)))) = t2S v := by
  unfold t2S
  rw [mix3S]
  rfl
def outL (s v : St) (n : Nat) : List Int := (sumS s v).l.take n
theorem outL_succ (s v : St) (n : Nat) (h : n < 8) : outL s v n ++ [IntKind.u32.wrap (s.l.getD n 0 + v.l.getD n 0)] = outL s v (n + 1) := by
  match n, h with
  | 0, _ => rfl
  | 1, _ => rfl
  | 2, _ => rfl
  | 3, _ => rfl
  | 4, _ => rfl
  | 5, _ => rfl
  | 6, _ => rfl
  | 7, _ => rfl
theorem outL_length (s v : St) (n : Nat) (h : n ≤ 8) : (outL s v n).length = n := by
  unfold outL
  rw [List.length_take]
  exact Nat.min_eq_left h
theorem refBlock_meets (s : St) (bs : List Int) (h : bs.length = 64) : Meets Tryd.prog Dc 70 [.p (.dsl U.u32 s.l), .p (.dsl U.u8 bs)] [] (.p (.dsl U.u32 (blockS s bs 0).l)) [] := by
  have hu8 : 0 + 1 = Cd.n U.u8 := rfl
  have hu32 : 0 + 1 = Cd.n U.u32 := rfl
  have hs8 : s.l.length = 8 := rfl
  refine meets_of_gx Ax tab_ok Tryd.func70 (c := _) rfl Tryd.call70 900 ?_
  refine loop_inv (fun i : Nat => [(6, .p (.int .i64 i)), (5, .slice 0 0 1 0 i)]) (fun i => [.rows U.u32 (wList bs 0 i)]) (fun i => i ≤ 16) (fun i => 16 - i) 0 (Nat.zero_le _) [none] ⟨by (repeat' (first | refine EndV.mk ?_ | exact trivial | exact rfl | refine And.intro ?_ ?_)), by (repeat' (first | refine EndV.mk ?_ | exact trivial | exact rfl | refine And.intro ?_ ?_)); exact ⟨_, rfl⟩, rfl, rfl⟩ ?_
  intro i hi K hK
  have hlen := wList_length bs 0 i
  rcases Nat.lt_or_ge i 16 with hlt | hge
  · have hsu : wList bs 0 (i + 1) = wList bs 0 i ++ [be32 bs (4 * i)] := by
      show wList bs 0 i ++ [if i < 16 then be32 bs (0 + 4 * i) else _] = _
      rw [if_pos hlt, Nat.zero_add]
    have hl1 := wList_length bs 0 (i + 1)
    have hbe := be32_int bs i
    generalize wList bs 0 i = w at hlen hsu ⊢
    have es : List.take i w ++ List.take 1 (List.drop 0 [be32 bs (4 * i)]) = wList bs 0 (i + 1) := by
      rw [List.take_of_length_le (by omega), hsu]; rfl
    (repeat' ((conv => whnf); first | (exfalso; omega) | (refine hK (i + 1) [some 2] _ _ ?_ ?_ ?_) | (refine end_fn [] (.inr rfl) ?_ trivial rfl rfl) | (refine split_nd (fun hb => ?_) (fun hb => ?_)) | (refine split_d (fun hb => ?_) (fun hb => ?_)) | (refine split_n (fun hb => ?_) (fun hb => ?_)) | (refine split_x (fun hb => ?_) (fun hb => ?_)) | (refine And.intro (TraceOK.mk (by kernel_rfl)) ?_) | (refine Side.mk ?_; (repeat' (first | refine And.intro ?_ ?_ | exact inR_i64 (by omega) (by omega) | omega | rfl | exact trivial | exact none_ne rfl | exact some_ne rfl (Nat.ne_of_beq_eq_false rfl) | exact Nat.ne_of_beq_eq_false rfl | (dsimp only [srcSide]; omega) | (simp; done) | (simp; omega))); done) | (refine side_and ?_ ?_) | (refine drawX_of mixed ?_)))
    all_goals first | (rw [hbe, es, hl1]; dsimp only; generalize wList bs 0 (i + 1) = w1; (refine Back.mk ?_ ?_ rfl rfl <;> (repeat' (first | refine EndV.mk ?_ | exact trivial | exact rfl | refine And.intro ?_ ?_)))) | (refine Side.mk ?_; (repeat' (first | refine And.intro ?_ ?_ | exact inR_i64 (by omega) (by omega) | omega | rfl | exact trivial | exact none_ne rfl | exact some_ne rfl (Nat.ne_of_beq_eq_false rfl) | exact Nat.ne_of_beq_eq_false rfl | (dsimp only [srcSide]; omega) | (simp; done) | (simp; omega))); done)
  · have hie : i = 16 := by omega
    subst hie
    clear hK
    clear hlen
    (repeat' ((conv => whnf); first | (exfalso; omega) | (refine end_fn [] (.inr rfl) ?_ trivial rfl rfl) | (refine split_nd (fun hb => ?_) (fun hb => ?_)) | (refine split_d (fun hb => ?_) (fun hb => ?_)) | (refine split_n (fun hb => ?_) (fun hb => ?_)) | (refine split_x (fun hb => ?_) (fun hb => ?_)) | (refine And.intro (TraceOK.mk (by kernel_rfl)) ?_) | (refine Side.mk ?_; (repeat' (first | refine And.intro ?_ ?_ | exact inR_i64 (by omega) (by omega) | omega | rfl | exact trivial | exact none_ne rfl | exact some_ne rfl (Nat.ne_of_beq_eq_false rfl) | exact Nat.ne_of_beq_eq_false rfl | (dsimp only [srcSide]; omega) | (simp; done) | (simp; omega))); done) | (refine side_and ?_ ?_) | (refine drawX_of mixed ?_)))
    refine loop_up (fun i : Nat => [(7, .p (.int .i64 i)), (5, .slice 0 0 1 0 i)]) (fun i => [(0, .rows U.u32 (wList bs 0 i))]) (fun i => 16 ≤ i ∧ i ≤ 64) (fun i => 64 - i) 16 ⟨Nat.le_refl _, by omega⟩ ⟨by (repeat' (first | refine EndV.mk ?_ | exact trivial | exact rfl | refine And.intro ?_ ?_)), by (repeat' (first | refine EndV.mk ?_ | exact trivial | exact rfl | refine And.intro ?_ ?_)), rfl, rfl⟩ ?_
    rintro i ⟨hi1, hi2⟩ K hK
    have hlen := wList_length bs 0 i
    rcases Nat.lt_or_ge i 64 with hlt | hge
    · have hsu : wList bs 0 (i + 1) = wList bs 0 i ++ [wNext (wList bs 0 i) i] := by
        show wList bs 0 i ++ [if i < 16 then _ else wNext (wList bs 0 i) i] = _
        rw [if_neg (by omega)]
      have hl1 := wList_length bs 0 (i + 1)
      generalize wList bs 0 i = w at hlen hsu ⊢
      have hne := refNext w i hi1
      have es : List.take i w ++ List.take 1 (List.drop 0 [wNext w i]) = wList bs 0 (i + 1) := by
        rw [List.take_of_length_le (by omega), hsu]; rfl
      (repeat' ((conv => whnf); first | (exfalso; omega) | (refine dcallx_pure (refRot_meets _ _ (by decide) (by decide)) rfl rfl ?_) | (refine callx_pure (refRot_meets _ _ (by decide) (by decide)) rfl rfl ?_) | (refine hK (i + 1) [some 2] _ _ ?_ ?_ ?_) | (refine end_fn [] (.inr rfl) ?_ trivial rfl rfl) | (refine split_nd (fun hb => ?_) (fun hb => ?_)) | (refine split_d (fun hb => ?_) (fun hb => ?_)) | (refine split_n (fun hb => ?_) (fun hb => ?_)) | (refine split_x (fun hb => ?_) (fun hb => ?_)) | (refine And.intro (TraceOK.mk (by kernel_rfl)) ?_) | (refine Side.mk ?_; (repeat' (first | refine And.intro ?_ ?_ | exact inR_i64 (by omega) (by omega) | omega | rfl | exact trivial | exact none_ne rfl | exact some_ne rfl (Nat.ne_of_beq_eq_false rfl) | exact Nat.ne_of_beq_eq_false rfl | (dsimp only [srcSide]; omega) | (simp; done) | (simp; omega))); done) | (refine side_and ?_ ?_) | (refine drawX_of mixed ?_)))
      all_goals first | (rw [hne, es, hl1]; dsimp only; generalize wList bs 0 (i + 1) = w1; (refine Back.mk ?_ ?_ rfl rfl <;> (repeat' (first | refine EndV.mk ?_ | exact trivial | exact rfl | refine And.intro ?_ ?_)))) | (refine Side.mk ?_; (repeat' (first | refine And.intro ?_ ?_ | exact inR_i64 (by omega) (by omega) | omega | rfl | exact trivial | exact none_ne rfl | exact some_ne rfl (Nat.ne_of_beq_eq_false rfl) | exact Nat.ne_of_beq_eq_false rfl | (dsimp only [srcSide]; omega) | (simp; done) | (simp; omega))); done)
    · have hie : i = 64 := by omega
      subst hie
      clear hK hi
      have hbl : blockS s bs 0 = sumS s (roundsS s (wList bs 0 64) 64) := rfl
      rw [hbl]
      generalize wList bs 0 64 = W at hlen ⊢
      have hRl : roundK.length = 64 := by decide
      (repeat' ((conv => whnf); first | (exfalso; omega) | (refine callx_pure refConst_meets rfl rfl ?_) | (refine end_fn [] (.inr rfl) ?_ trivial rfl rfl) | (refine split_nd (fun hb => ?_) (fun hb => ?_)) | (refine split_d (fun hb => ?_) (fun hb => ?_)) | (refine split_n (fun hb => ?_) (fun hb => ?_)) | (refine split_x (fun hb => ?_) (fun hb => ?_)) | (refine And.intro (TraceOK.mk (by kernel_rfl)) ?_) | (refine Side.mk ?_; (repeat' (first | refine And.intro ?_ ?_ | exact inR_i64 (by omega) (by omega) | omega | rfl | exact trivial | exact none_ne rfl | exact some_ne rfl (Nat.ne_of_beq_eq_false rfl) | exact Nat.ne_of_beq_eq_false rfl | (dsimp only [srcSide]; omega) | (simp; done) | (simp; omega))); done) | (refine side_and ?_ ?_) | (refine drawX_of mixed ?_)))
      refine loop_up (fun i : Nat => [(11, .slice 1 0 1 0 8), (12, .p (.int .i64 i)), (124, .any)]) (fun i => [(1, .rows U.u32 (roundsS s W i).l)]) (fun i => i ≤ 64) (fun i => 64 - i) 0 (Nat.zero_le _) ⟨by (repeat' (first | refine EndV.mk ?_ | exact trivial | exact rfl | refine And.intro ?_ ?_)), by (repeat' (first | refine EndV.mk ?_ | exact trivial | exact rfl | refine And.intro ?_ ?_)), rfl, rfl⟩ ?_
      intro i hi K hK
      rcases Nat.lt_or_ge i 64 with hlt | hge
      · have hs : roundsS s W (i + 1) = stepS (roundsS s W i) (roundK.getD i 0) (W.getD i 0) := rfl
        generalize roundK = RK at hRl hK hs ⊢
        generalize roundsS s W i = v at hs ⊢
        have hv8 : v.l.length = 8 := rfl
        have hz : W.getD (0 + (i : Int).toNat) (Cd.dflt U.u32) = W.getD i 0 := by rw [Nat.zero_add]; rfl
        have hz2 : RK.getD (i : Int).toNat (Cd.dflt U.u32) = RK.getD i 0 := rfl
        (repeat' ((conv => whnf); first | (exfalso; omega) | (refine dcallx_pure (refRot_meets _ _ (by decide) (by decide)) rfl rfl ?_) | (refine callx_pure (refRot_meets _ _ (by decide) (by decide)) rfl rfl ?_) | (refine hK (i + 1) [some 0, some 2] _ _ ?_ ?_ ?_) | (refine end_fn [] (.inr rfl) ?_ trivial rfl rfl) | (refine split_nd (fun hb => ?_) (fun hb => ?_)) | (refine split_d (fun hb => ?_) (fun hb => ?_)) | (refine split_n (fun hb => ?_) (fun hb => ?_)) | (refine split_x (fun hb => ?_) (fun hb => ?_)) | (refine And.intro (TraceOK.mk (by kernel_rfl)) ?_) | (refine Side.mk ?_; (repeat' (first | refine And.intro ?_ ?_ | exact inR_i64 (by omega) (by omega) | omega | rfl | exact trivial | exact none_ne rfl | exact some_ne rfl (Nat.ne_of_beq_eq_false rfl) | exact Nat.ne_of_beq_eq_false rfl | (dsimp only [srcSide]; omega) | (simp; done) | (simp; omega))); done) | (refine side_and ?_ ?_) | (refine drawX_of mixed ?_)))
        all_goals first | (dsimp only; rw [hz, hz2, refT, refU, hs]; (refine Back.mk ?_ ?_ rfl rfl <;> (repeat' (first | refine EndV.mk ?_ | exact trivial | exact rfl | refine And.intro ?_ ?_)))) | (refine Side.mk ?_; (repeat' (first | refine And.intro ?_ ?_ | exact inR_i64 (by omega) (by omega) | omega | rfl | exact trivial | exact none_ne rfl | exact some_ne rfl (Nat.ne_of_beq_eq_false rfl) | exact Nat.ne_of_beq_eq_false rfl | (dsimp only [srcSide]; omega) | (simp; done) | (simp; omega))); done)
      · have hie : i = 64 := by omega
        subst hie
        clear hK hi
        generalize roundsS s W 64 = v
        have hv8 : v.l.length = 8 := rfl
        (repeat' ((conv => whnf); first | (exfalso; omega) | (refine end_fn [] (.inr rfl) ?_ trivial rfl rfl) | (refine split_nd (fun hb => ?_) (fun hb => ?_)) | (refine split_d (fun hb => ?_) (fun hb => ?_)) | (refine split_n (fun hb => ?_) (fun hb => ?_)) | (refine split_x (fun hb => ?_) (fun hb => ?_)) | (refine And.intro (TraceOK.mk (by kernel_rfl)) ?_) | (refine Side.mk ?_; (repeat' (first | refine And.intro ?_ ?_ | exact inR_i64 (by omega) (by omega) | omega | rfl | exact trivial | exact none_ne rfl | exact some_ne rfl (Nat.ne_of_beq_eq_false rfl) | exact Nat.ne_of_beq_eq_false rfl | (dsimp only [srcSide]; omega) | (simp; done) | (simp; omega))); done) | (refine side_and ?_ ?_) | (refine drawX_of mixed ?_)))
        refine loop_inv (fun n : Nat => [(5, .any), (11, .slice 0 0 1 0 8), (18, .p (.int .i64 n)), (17, .slice 1 0 1 0 n)]) (fun n => [.rows U.u32 v.l, .rows U.u32 (outL s v n)]) (fun n => n ≤ 8) (fun n => 8 - n) 0 (Nat.zero_le _) [some 1, none] ⟨by (repeat' (first | refine EndV.mk ?_ | exact trivial | exact rfl | refine And.intro ?_ ?_)), by (repeat' (first | refine EndV.mk ?_ | exact trivial | exact rfl | refine And.intro ?_ ?_)); exact ⟨_, rfl⟩, rfl, rfl⟩ ?_
        intro n hn K hK
        have hlen := outL_length s v n hn
        rcases Nat.lt_or_ge n 8 with hlt | hge
        · have hl1 := outL_length s v (n + 1) hlt
          have ho := outL_succ s v n hlt
          have hz3 : v.l.getD (0 + (n : Int).toNat) (Cd.dflt U.u32) = v.l.getD n 0 := by rw [Nat.zero_add]; rfl
          have hz4 : s.l.getD (n : Int).toNat (Cd.dflt U.u32) = s.l.getD n 0 := rfl
          have es : List.take n (outL s v n) ++ List.take 1 (List.drop 0 [IntKind.u32.wrap (s.l.getD n 0 + v.l.getD n 0)]) = outL s v (n + 1) := by
            rw [List.take_of_length_le (by omega)]; exact ho
          generalize outL s v n = w at hlen es ⊢
          (repeat' ((conv => whnf); first | (exfalso; omega) | (refine hK (n + 1) [some 0, some 3] _ _ ?_ ?_ ?_) | (refine end_fn [] (.inr rfl) ?_ trivial rfl rfl) | (refine split_nd (fun hb => ?_) (fun hb => ?_)) | (refine split_d (fun hb => ?_) (fun hb => ?_)) | (refine split_n (fun hb => ?_) (fun hb => ?_)) | (refine split_x (fun hb => ?_) (fun hb => ?_)) | (refine And.intro (TraceOK.mk (by kernel_rfl)) ?_) | (refine Side.mk ?_; (repeat' (first | refine And.intro ?_ ?_ | exact inR_i64 (by omega) (by omega) | omega | rfl | exact trivial | exact none_ne rfl | exact some_ne rfl (Nat.ne_of_beq_eq_false rfl) | exact Nat.ne_of_beq_eq_false rfl | (dsimp only [srcSide]; omega) | (simp; done) | (simp; omega))); done) | (refine side_and ?_ ?_) | (refine drawX_of mixed ?_)))
          all_goals first | (rw [hz3, hz4, es, hl1]; dsimp only; generalize outL s v (n + 1) = w1; (refine Back.mk ?_ ?_ rfl rfl <;> (repeat' (first | refine EndV.mk ?_ | exact trivial | exact rfl | refine And.intro ?_ ?_)))) | (refine Side.mk ?_; (repeat' (first | refine And.intro ?_ ?_ | exact inR_i64 (by omega) (by omega) | omega | rfl | exact trivial | exact none_ne rfl | exact some_ne rfl (Nat.ne_of_beq_eq_false rfl) | exact Nat.ne_of_beq_eq_false rfl | (dsimp only [srcSide]; omega) | (simp; done) | (simp; omega))); done)
        · have hne : n = 8 := by omega
          subst hne
          clear hK
          have ho : outL s v 8 = (sumS s v).l := rfl
          rw [ho] at hlen ⊢
          generalize sumS s v = r at hlen ⊢
          (repeat' ((conv => whnf); first | (exfalso; omega) | (refine end_fn [] (.inr rfl) ?_ trivial rfl rfl) | (refine split_nd (fun hb => ?_) (fun hb => ?_)) | (refine split_d (fun hb => ?_) (fun hb => ?_)) | (refine split_n (fun hb => ?_) (fun hb => ?_)) | (refine split_x (fun hb => ?_) (fun hb => ?_)) | (refine And.intro (TraceOK.mk (by kernel_rfl)) ?_) | (refine Side.mk ?_; (repeat' (first | refine And.intro ?_ ?_ | exact inR_i64 (by omega) (by omega) | omega | rfl | exact trivial | exact none_ne rfl | exact some_ne rfl (Nat.ne_of_beq_eq_false rfl) | exact Nat.ne_of_beq_eq_false rfl | (dsimp only [srcSide]; omega) | (simp; done) | (simp; omega))); done) | (refine side_and ?_ ?_) | (refine drawX_of mixed ?_)))
          (repeat' (first | refine EndV.mk ?_ | exact trivial | exact rfl | refine And.intro ?_ ?_))
          exact ⟨_, rfl, rfl, rfl, Nat.le_refl 8, rfl, rfl⟩
end Go.SX

namespace Go.SX
open Go.Proofs
set_option linter.unusedSimpArgs false
set_option linter.unusedVariables false
set_option maxHeartbeats 4000000
set_option maxRecDepth 100000
theorem getD_drop_take (bs : List Int) (o j : Nat) (hj : j < 64) : ((bs.drop o).take 64).getD j 0 = bs.getD (o + j) 0 := by
  rw [List.getD_eq_getElem?_getD, List.getD_eq_getElem?_getD, List.getElem?_take_of_lt hj, List.getElem?_drop]
theorem be32_sub (bs : List Int) (o i : Nat) (hi : i < 16) : be32 ((bs.drop o).take 64) (0 + 4 * i) = be32 bs (o + 4 * i) := by
  unfold be32
  rw [getD_drop_take _ _ _ (by omega), getD_drop_take _ _ _ (by omega), getD_drop_take _ _ _ (by omega), getD_drop_take _ _ _ (by omega)]
  rw [Nat.zero_add]
  rfl
theorem wList_sub (bs : List Int) (o : Nat) : ∀ i, wList ((bs.drop o).take 64) 0 i = wList bs o i
  | 0 => rfl
  | i + 1 => by
    show wList _ 0 i ++ [if i < 16 then _ else _] = wList bs o i ++ [if i < 16 then _ else _]
    rw [wList_sub bs o i]
    split
    · rename_i h; rw [be32_sub bs o i h]
    · rfl
theorem blockS_sub (s : St) (bs : List Int) (o : Nat) : blockS s ((bs.drop o).take 64) 0 = blockS s bs o := by
  unfold blockS
  rw [wList_sub]
def outB (s : St) (n : Nat) : List Int := (digL s 32).take (4 * n)
theorem shr0 (x : Int) : IntKind.u8.wrap x = byteS x 3 := by
  unfold byteS shrop
  show IntKind.u8.wrap x = IntKind.u8.wrap (x.fdiv 1)
  rw [Int.fdiv_one]
theorem outB_succ (s : St) (n : Nat) (h : n < 8) : outB s n ++ [byteS (s.l.getD n 0) 0, byteS (s.l.getD n 0) 1, byteS (s.l.getD n 0) 2, byteS (s.l.getD n 0) 3] = outB s (n + 1) := by
  match n, h with
  | 0, _ => rfl
  | 1, _ => rfl
  | 2, _ => rfl
  | 3, _ => rfl
  | 4, _ => rfl
  | 5, _ => rfl
  | 6, _ => rfl
  | 7, _ => rfl
theorem outB_length (s : St) (n : Nat) (h : n ≤ 8) : (outB s n).length = 4 * n := by
  unfold outB
  rw [List.length_take, digL_length]
  omega
theorem refSum_meets (l : List UInt8) (hL : l.length ≤ 5000) : Meets Tryd.prog Dc 35 [.p (.str l)] [] (.p (.str (sumB l))) [] := by
  have hu8 : 0 + 1 = Cd.n U.u8 := rfl
  have hu32 : 0 + 1 = Cd.n U.u32 := rfl
  have hext := refExt_meets l hL
  have hsb : sumB l = digS (hashN (padL l 8) ((padL l 8).length / 64)) := rfl
  rw [hsb]
  have hpb := pad_blocks l
  have hz := zerosN_lt l.length
  have hlp := padL_length l 8
  obtain ⟨M, hM⟩ : ∃ M, (padL l 8).length / 64 = M := ⟨_, rfl⟩
  rw [hM]
  generalize padL l 8 = bs at hlp hpb hM hext ⊢
  refine meets_of_gx Ax tab_ok Tryd.func35 (c := _) rfl Tryd.call35 600 ?_
  (repeat' ((conv => whnf); first | (exfalso; omega) | (refine callx_pure hext rfl rfl ?_) | (refine end_fn [] (.inr rfl) ?_ trivial rfl rfl) | (refine split_nd (fun hb => ?_) (fun hb => ?_)) | (refine split_d (fun hb => ?_) (fun hb => ?_)) | (refine split_n (fun hb => ?_) (fun hb => ?_)) | (refine split_x (fun hb => ?_) (fun hb => ?_)) | (refine And.intro (TraceOK.mk (by kernel_rfl)) ?_) | (refine Side.mk ?_; (repeat' (first | refine And.intro ?_ ?_ | exact inR_i64 (by omega) (by omega) | omega | rfl | exact trivial | exact none_ne rfl | exact some_ne rfl (Nat.ne_of_beq_eq_false rfl) | exact Nat.ne_of_beq_eq_false rfl | (dsimp only [srcSide]; omega) | (simp; done) | (simp; omega))); done) | (refine side_and ?_ ?_) | (refine drawX_of mixed ?_)))
  refine loop_inv (fun m : Nat => [(3, .p (.dsl U.u32 (hashN bs m).l)), (5, .p (.int .i64 (64 * (m : Int)))), (8, .any)]) (fun m => []) (fun m => m ≤ M) (fun m => M - m) 0 (Nat.zero_le _) [] ⟨by (repeat' (first | refine EndV.mk ?_ | exact trivial | exact rfl | refine And.intro ?_ ?_)); exact ⟨_, rfl, rfl, rfl, Nat.le_refl 8, rfl, rfl⟩, by (repeat' (first | refine EndV.mk ?_ | exact trivial | exact rfl | refine And.intro ?_ ?_)), rfl, rfl⟩ ?_
  intro m hm K hK
  rcases Nat.lt_or_ge m M with hlt | hge2
  · have hbk : hashN bs (m + 1) = blockS (hashN bs m) bs (64 * m) := rfl
    have hlt64 : ((bs.drop (64 * m)).take 64).length = 64 := by simp; omega
    have hblk := refBlock_meets (hashN bs m) ((bs.drop (64 * m)).take 64) hlt64
    rw [blockS_sub] at hblk
    have em : (64 * (m : Int)).toNat = 64 * m := by omega
    have el : (64 * (m : Int) + 64).toNat - (64 * (m : Int)).toNat = 64 := by omega
    have esl : List.drop (64 * m) (List.take (64 * (m : Int) + 64).toNat bs) = (bs.drop (64 * m)).take 64 := by
      rw [List.drop_take]; congr 1 <;> omega
    have es : 64 * (m : Int) + 64 = 64 * ((m + 1 : Nat) : Int) := by omega
    generalize blockS (hashN bs m) bs (64 * m) = s2 at hbk hblk
    generalize hashN bs m = s1 at hblk ⊢
    (repeat' ((conv => whnf); first | (exfalso; omega) | (rw [el]) | (rw [em]) | (rw [esl]) | (refine callx_pure hblk rfl rfl ?_) | (refine hK (m + 1) [] _ _ ?_ ?_ ?_) | (refine end_fn [] (.inr rfl) ?_ trivial rfl rfl) | (refine split_nd (fun hb => ?_) (fun hb => ?_)) | (refine split_d (fun hb => ?_) (fun hb => ?_)) | (refine split_n (fun hb => ?_) (fun hb => ?_)) | (refine split_x (fun hb => ?_) (fun hb => ?_)) | (refine And.intro (TraceOK.mk (by kernel_rfl)) ?_) | (refine Side.mk ?_; (repeat' (first | refine And.intro ?_ ?_ | exact inR_i64 (by omega) (by omega) | omega | rfl | exact trivial | exact none_ne rfl | exact some_ne rfl (Nat.ne_of_beq_eq_false rfl) | exact Nat.ne_of_beq_eq_false rfl | (dsimp only [srcSide]; omega) | (simp; done) | (simp; omega))); done) | (refine side_and ?_ ?_) | (refine drawX_of mixed ?_)))
    all_goals first | (dsimp only; rw [hbk, ← es]; (refine Back.mk ?_ ?_ rfl rfl <;> (repeat' (first | refine EndV.mk ?_ | exact trivial | exact rfl | refine And.intro ?_ ?_)))) | (refine Side.mk ?_; (repeat' (first | refine And.intro ?_ ?_ | exact inR_i64 (by omega) (by omega) | omega | rfl | exact trivial | exact none_ne rfl | exact some_ne rfl (Nat.ne_of_beq_eq_false rfl) | exact Nat.ne_of_beq_eq_false rfl | (dsimp only [srcSide]; omega) | (simp; done) | (simp; omega))); done) | skip
  · have hme : m = M := by omega
    subst hme
    clear hK
    generalize hashN bs m = s
    (repeat' ((conv => whnf); first | (exfalso; omega) | (refine end_fn [] (.inr rfl) ?_ trivial rfl rfl) | (refine split_nd (fun hb => ?_) (fun hb => ?_)) | (refine split_d (fun hb => ?_) (fun hb => ?_)) | (refine split_n (fun hb => ?_) (fun hb => ?_)) | (refine split_x (fun hb => ?_) (fun hb => ?_)) | (refine And.intro (TraceOK.mk (by kernel_rfl)) ?_) | (refine Side.mk ?_; (repeat' (first | refine And.intro ?_ ?_ | exact inR_i64 (by omega) (by omega) | omega | rfl | exact trivial | exact none_ne rfl | exact some_ne rfl (Nat.ne_of_beq_eq_false rfl) | exact Nat.ne_of_beq_eq_false rfl | (dsimp only [srcSide]; omega) | (simp; done) | (simp; omega))); done) | (refine side_and ?_ ?_) | (refine drawX_of mixed ?_)))
    refine loop_inv (fun n : Nat => [(6, .slice 0 0 1 0 (4 * n)), (7, .p (.int .i64 n))]) (fun n => [.rows U.u8 (outB s n)]) (fun n => n ≤ 8) (fun n => 8 - n) 0 (Nat.zero_le _) [none] ⟨by (repeat' (first | refine EndV.mk ?_ | exact trivial | exact rfl | refine And.intro ?_ ?_)), by (repeat' (first | refine EndV.mk ?_ | exact trivial | exact rfl | refine And.intro ?_ ?_)); exact ⟨_, rfl⟩, rfl, rfl⟩ ?_
    intro n hn K hK
    have hlen := outB_length s n hn
    have hs8 : s.l.length = 8 := rfl
    rcases Nat.lt_or_ge n 8 with hlt | hge
    · have hl1 := outB_length s (n + 1) hlt
      have ho := outB_succ s n hlt
      have hz4 : s.l.getD (n : Int).toNat (Cd.dflt U.u32) = s.l.getD n 0 := rfl
      have es : List.take (4 * n) (outB s n) ++ List.take 4 (List.drop 0 [IntKind.u8.wrap (shrop .u32 (s.l.getD n 0) 24), IntKind.u8.wrap (shrop .u32 (s.l.getD n 0) 16), IntKind.u8.wrap (shrop .u32 (s.l.getD n 0) 8), IntKind.u8.wrap (s.l.getD n 0)]) = outB s (n + 1) := by
        rw [List.take_of_length_le (by omega), shr0 (s.l.getD n 0), ← ho]; rfl
      generalize outB s n = w at hlen es ⊢
      (repeat' ((conv => whnf); first | (exfalso; omega) | (refine hK (n + 1) [some 2] _ _ ?_ ?_ ?_) | (refine end_fn [] (.inr rfl) ?_ trivial rfl rfl) | (refine split_nd (fun hb => ?_) (fun hb => ?_)) | (refine split_d (fun hb => ?_) (fun hb => ?_)) | (refine split_n (fun hb => ?_) (fun hb => ?_)) | (refine split_x (fun hb => ?_) (fun hb => ?_)) | (refine And.intro (TraceOK.mk (by kernel_rfl)) ?_) | (refine Side.mk ?_; (repeat' (first | refine And.intro ?_ ?_ | exact inR_i64 (by omega) (by omega) | omega | rfl | exact trivial | exact none_ne rfl | exact some_ne rfl (Nat.ne_of_beq_eq_false rfl) | exact Nat.ne_of_beq_eq_false rfl | (dsimp only [srcSide]; omega) | (simp; done) | (simp; omega))); done) | (refine side_and ?_ ?_) | (refine drawX_of mixed ?_)))
      all_goals first | (rw [hz4, es, hl1]; dsimp only; generalize outB s (n + 1) = w1; (refine Back.mk ?_ ?_ rfl rfl <;> (repeat' (first | refine EndV.mk ?_ | exact trivial | exact rfl | refine And.intro ?_ ?_)))) | (refine Side.mk ?_; (repeat' (first | refine And.intro ?_ ?_ | exact inR_i64 (by omega) (by omega) | omega | rfl | exact trivial | exact none_ne rfl | exact some_ne rfl (Nat.ne_of_beq_eq_false rfl) | exact Nat.ne_of_beq_eq_false rfl | (dsimp only [srcSide]; omega) | (simp; done) | (simp; omega))); done) | skip
    · have hne : n = 8 := by omega
      subst hne
      clear hK
      have ho : outB s 8 = digL s 32 := rfl
      have hd : digS s = (digL s 32).map fun n : Int => UInt8.ofNat n.toNat := rfl
      rw [ho] at hlen ⊢
      rw [hd]
      generalize digL s 32 = r at hlen ⊢
      have hrt : List.take (4 * 8) (List.drop 0 r) = r := by rw [List.drop_zero, List.take_of_length_le (by omega)]
      (repeat' ((conv => whnf); first | (exfalso; omega) | (rw [hrt]) | (refine end_fn [] (.inr rfl) ?_ trivial rfl rfl) | (refine split_nd (fun hb => ?_) (fun hb => ?_)) | (refine split_d (fun hb => ?_) (fun hb => ?_)) | (refine split_n (fun hb => ?_) (fun hb => ?_)) | (refine split_x (fun hb => ?_) (fun hb => ?_)) | (refine And.intro (TraceOK.mk (by kernel_rfl)) ?_) | (refine Side.mk ?_; (repeat' (first | refine And.intro ?_ ?_ | exact inR_i64 (by omega) (by omega) | omega | rfl | exact trivial | exact none_ne rfl | exact some_ne rfl (Nat.ne_of_beq_eq_false rfl) | exact Nat.ne_of_beq_eq_false rfl | (dsimp only [srcSide]; omega) | (simp; done) | (simp; omega))); done) | (refine side_and ?_ ?_) | (refine drawX_of mixed ?_)))
      all_goals (repeat' (first | refine EndV.mk ?_ | exact trivial | exact rfl | refine And.intro ?_ ?_))
end Go.SX

namespace Go.SX
open Go.Proofs
set_option linter.unusedSimpArgs false
set_option linter.unusedVariables false
set_option maxHeartbeats 4000000
set_option maxRecDepth 100000
theorem refLeaf_meets (s : List UInt8) (hs : s.length ≤ 2000) : Meets Tryd.prog Dc 36 [.p (.str s)] [] (.p (.str (sumB (0 :: s)))) [] := by
  have hsum := refSum_meets (0 :: s) (by simp; omega)
  refine meets_of_gx Ax tab_ok Tryd.func36 (c := _) rfl Tryd.call36 400 ?_
  (repeat' ((conv => whnf); first | (exfalso; omega) | (refine callx_pure hsum rfl rfl ?_) | (refine end_fn [] (.inr rfl) ?_ trivial rfl rfl) | (refine split_nd (fun hb => ?_) (fun hb => ?_)) | (refine split_d (fun hb => ?_) (fun hb => ?_)) | (refine split_n (fun hb => ?_) (fun hb => ?_)) | (refine split_x (fun hb => ?_) (fun hb => ?_)) | (refine And.intro (TraceOK.mk (by kernel_rfl)) ?_) | (refine Side.mk ?_; (repeat' (first | refine And.intro ?_ ?_ | exact inR_i64 (by omega) (by omega) | omega | rfl | exact trivial | exact none_ne rfl | exact some_ne rfl (Nat.ne_of_beq_eq_false rfl) | exact Nat.ne_of_beq_eq_false rfl | (dsimp only [srcSide]; omega) | (simp; done) | (simp; omega))); done) | (refine side_and ?_ ?_) | (refine drawX_of mixed ?_)))
  all_goals (repeat' (first | refine EndV.mk ?_ | exact trivial | exact rfl | refine And.intro ?_ ?_))
theorem refNode_meets (a b : List UInt8) (ha : a.length ≤ 2000) (hb : b.length ≤ 2000) : Meets Tryd.prog Dc 37 [.p (.str a), .p (.str b)] [] (.p (.str (sumB (1 :: (a ++ b))))) [] := by
  have hsum := refSum_meets (1 :: (a ++ b)) (by simp; omega)
  refine meets_of_gx Ax tab_ok Tryd.func37 (c := _) rfl Tryd.call37 400 ?_
  (repeat' ((conv => whnf); first | (exfalso; omega) | (refine callx_pure hsum rfl rfl ?_) | (refine end_fn [] (.inr rfl) ?_ trivial rfl rfl) | (refine split_nd (fun hb => ?_) (fun hb => ?_)) | (refine split_d (fun hb => ?_) (fun hb => ?_)) | (refine split_n (fun hb => ?_) (fun hb => ?_)) | (refine split_x (fun hb => ?_) (fun hb => ?_)) | (refine And.intro (TraceOK.mk (by kernel_rfl)) ?_) | (refine Side.mk ?_; (repeat' (first | refine And.intro ?_ ?_ | exact inR_i64 (by omega) (by omega) | omega | rfl | exact trivial | exact none_ne rfl | exact some_ne rfl (Nat.ne_of_beq_eq_false rfl) | exact Nat.ne_of_beq_eq_false rfl | (dsimp only [srcSide]; omega) | (simp; done) | (simp; omega))); done) | (refine side_and ?_ ?_) | (refine drawX_of mixed ?_)))
  all_goals (repeat' (first | refine EndV.mk ?_ | exact trivial | exact rfl | refine And.intro ?_ ?_))
theorem refChain_meets (a b : List UInt8) (ha : a.length ≤ 2000) (hb : b.length ≤ 2000) : Meets Tryd.prog Dc 39 [.p (.str a), .p (.str b)] [] (.p (.str (sumB (2 :: (a ++ b))))) [] := by
  have hsum := refSum_meets (2 :: (a ++ b)) (by simp; omega)
  refine meets_of_gx Ax tab_ok Tryd.func39 (c := _) rfl Tryd.call39 400 ?_
  (repeat' ((conv => whnf); first | (exfalso; omega) | (refine callx_pure hsum rfl rfl ?_) | (refine end_fn [] (.inr rfl) ?_ trivial rfl rfl) | (refine split_nd (fun hb => ?_) (fun hb => ?_)) | (refine split_d (fun hb => ?_) (fun hb => ?_)) | (refine split_n (fun hb => ?_) (fun hb => ?_)) | (refine split_x (fun hb => ?_) (fun hb => ?_)) | (refine And.intro (TraceOK.mk (by kernel_rfl)) ?_) | (refine Side.mk ?_; (repeat' (first | refine And.intro ?_ ?_ | exact inR_i64 (by omega) (by omega) | omega | rfl | exact trivial | exact none_ne rfl | exact some_ne rfl (Nat.ne_of_beq_eq_false rfl) | exact Nat.ne_of_beq_eq_false rfl | (dsimp only [srcSide]; omega) | (simp; done) | (simp; omega))); done) | (refine side_and ?_ ?_) | (refine drawX_of mixed ?_)))
  all_goals (repeat' (first | refine EndV.mk ?_ | exact trivial | exact rfl | refine And.intro ?_ ?_))
end Go.SX
