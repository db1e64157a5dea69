/-
  Walks: Dk1, Dk2, Dk3: what single functions of the program compute.
-/
import Derived.Test.YtboldmbaiocjpaaDoorSxTabD
namespace Go.SX
open Go.Proofs
set_option linter.unusedSimpArgs false
set_option linter.unusedVariables false
set_option maxHeartbeats 4000000
set_option maxRecDepth 100000
/-- a word turned right, by the reference and by the program -/
def rorS (x n : Int) : Int := bitop .or .u32 (shrop .u32 x n) (shlop .u32 x (32 - n))
def rolS (x n : Int) : Int := bitop .or .u32 (shlop .u32 x (32 - n)) (shrop .u32 x n)
theorem rotated_meets (x n : Int) (h0 : 0 ≤ n) (h1 : n ≤ 32) : Meets Tryd.prog Dc 101 [.p (.int .u32 x), .p (.int .i64 n)] [] (.p (.int .u32 (rorS x n))) [] := by
  refine meets_of_gx Ax tab_ok Tryd.func101 (c := _) rfl Tryd.call101 100 ?_
  (repeat' ((conv => whnf); first | (refine end_fn [] (.inr rfl) ?_ trivial rfl rfl) | (refine split_nd (fun hb => ?_) (fun hb => ?_)) | (refine split_d (fun hb => ?_) (fun hb => ?_)) | (refine split_n (fun hb => ?_) (fun hb => ?_)) | (refine split_x (fun hb => ?_) (fun hb => ?_)) | (refine And.intro (TraceOK.mk (by kernel_rfl)) ?_) | (refine Side.mk ?_; (repeat' (first | refine And.intro ?_ ?_ | exact inR_i64 (by omega) (by omega) | omega | rfl | exact trivial | exact none_ne rfl | exact some_ne rfl (Nat.ne_of_beq_eq_false rfl) | exact Nat.ne_of_beq_eq_false rfl | (dsimp only [srcSide]; omega) | (simp; done) | (simp; omega))); done) | (refine side_and ?_ ?_) | (refine drawX_of mixed ?_)))
  all_goals (repeat' (first | refine EndV.mk ?_ | exact trivial | exact rfl | refine And.intro ?_ ?_))
theorem rot_amount : ∀ m : Nat, m < 32 → 1 ≤ m → bitop .and .u64 (IntKind.u64.wrap (0 - (m : Int))) 31 = 32 - (m : Int) := by decide
theorem rot_back : ∀ m : Nat, m < 32 → 1 ≤ m → IntKind.u64.wrap (32 - (32 - (m : Int))) = (m : Int) := by decide
theorem rotl_meets (x n : Int) (h0 : 1 ≤ n) (h1 : n ≤ 31) : Meets Tryd.prog Dc 123 [.p (.int .u32 x), .p (.int .i64 (0 - n))] [] (.p (.int .u32 (rolS x n))) [] := by
  obtain ⟨m, rfl⟩ : ∃ m : Nat, n = (m : Int) := ⟨n.toNat, by omega⟩
  have hr := rot_amount m (by omega) (by omega)
  have hr2 := rot_back m (by omega) (by omega)
  refine meets_of_gx Ax tab_ok Tryd.func123 (c := _) rfl Tryd.call123 100 ?_
  (repeat' ((conv => whnf); first | (rw [hr]) | (rw [hr2]) | (exfalso; omega) | (refine end_fn [] (.inr rfl) ?_ trivial rfl rfl) | (refine split_nd (fun hb => ?_) (fun hb => ?_)) | (refine split_d (fun hb => ?_) (fun hb => ?_)) | (refine split_n (fun hb => ?_) (fun hb => ?_)) | (refine split_x (fun hb => ?_) (fun hb => ?_)) | (refine And.intro (TraceOK.mk (by kernel_rfl)) ?_) | (refine Side.mk ?_; (repeat' (first | refine And.intro ?_ ?_ | exact inR_i64 (by omega) (by omega) | omega | rfl | exact trivial | exact none_ne rfl | exact some_ne rfl (Nat.ne_of_beq_eq_false rfl) | exact Nat.ne_of_beq_eq_false rfl | (dsimp only [srcSide]; omega) | (simp; done) | (simp; omega))); done) | (refine side_and ?_ ?_) | (refine drawX_of mixed ?_)))
  all_goals (repeat' (first | refine EndV.mk ?_ | exact trivial | exact rfl | refine And.intro ?_ ?_))
/-- a word combined with rotations -/
def mixS (x : Int) (l : List Int) : Int := l.foldl (fun out n => bitop .xor .u32 out (rolS x n)) 0
theorem mixed_meets (x : Int) (l : List Int) (hl : ∀ n ∈ l, 1 ≤ n ∧ n ≤ 31) (hL : l.length ≤ 10) : Meets Tryd.prog Dc 100 [.p (.int .u32 x), .p (.dsl U.int l)] [] (.p (.int .u32 (mixS x l))) [] := by
  have hstep : ∀ i, i < l.length → mixS x (l.take (i + 1)) = bitop .xor .u32 (mixS x (l.take i)) (rolS x (l.getD i 0)) := by
    intro i hi
    have e : l.take (i + 1) = l.take i ++ [l.getD i 0] := by rw [List.take_add_one]; simp [hi]
    rw [e]; unfold mixS; rw [List.foldl_append]; rfl
  refine meets_of_gx Ax tab_ok Tryd.func100 (c := _) rfl Tryd.call100 100 ?_
  (repeat' ((conv => whnf); first | (exfalso; omega) | (refine end_fn [] (.inr rfl) ?_ trivial rfl rfl) | (refine split_nd (fun hb => ?_) (fun hb => ?_)) | (refine split_d (fun hb => ?_) (fun hb => ?_)) | (refine split_n (fun hb => ?_) (fun hb => ?_)) | (refine split_x (fun hb => ?_) (fun hb => ?_)) | (refine And.intro (TraceOK.mk (by kernel_rfl)) ?_) | (refine Side.mk ?_; (repeat' (first | refine And.intro ?_ ?_ | exact inR_i64 (by omega) (by omega) | omega | rfl | exact trivial | exact none_ne rfl | exact some_ne rfl (Nat.ne_of_beq_eq_false rfl) | exact Nat.ne_of_beq_eq_false rfl | (dsimp only [srcSide]; omega) | (simp; done) | (simp; omega))); done) | (refine side_and ?_ ?_) | (refine drawX_of mixed ?_)))
  refine loop_up (fun i : Nat => [(5, .p (.int .u32 (mixS x (l.take i)))), (10, .p (.int .i64 i))]) (fun _ => []) (fun i => i ≤ l.length) (fun i => l.length - i) 0 (Nat.zero_le _) ⟨by (repeat' (first | refine EndV.mk ?_ | exact trivial | exact rfl | refine And.intro ?_ ?_)), by (repeat' (first | refine EndV.mk ?_ | exact trivial | exact rfl | refine And.intro ?_ ?_)), rfl, rfl⟩ ?_
  intro i hi K hK
  rcases Nat.lt_or_ge i l.length with hlt | hge
  · have hb := hl (l.getD i 0) (by simp [hlt])
    have hs := hstep i hlt
    have hq : l.getD (i : Int).toNat (Cd.dflt U.int) = l.getD i 0 := rfl
    generalize l.getD i 0 = n at hb hs hq
    (repeat' ((conv => whnf); first | (exfalso; omega) | (rw [hq]) | (refine callx_pure (rotl_meets x n (by omega) (by omega)) rfl rfl ?_) | (refine hK (i + 1) [] _ _ ?_ ?_ ?_) | (refine end_fn [] (.inr rfl) ?_ trivial rfl rfl) | (refine split_nd (fun hb => ?_) (fun hb => ?_)) | (refine split_d (fun hb => ?_) (fun hb => ?_)) | (refine split_n (fun hb => ?_) (fun hb => ?_)) | (refine split_x (fun hb => ?_) (fun hb => ?_)) | (refine And.intro (TraceOK.mk (by kernel_rfl)) ?_) | (refine Side.mk ?_; (repeat' (first | refine And.intro ?_ ?_ | exact inR_i64 (by omega) (by omega) | omega | rfl | exact trivial | exact none_ne rfl | exact some_ne rfl (Nat.ne_of_beq_eq_false rfl) | exact Nat.ne_of_beq_eq_false rfl | (dsimp only [srcSide]; omega) | (simp; done) | (simp; omega))); done) | (refine side_and ?_ ?_) | (refine drawX_of mixed ?_)))
    dsimp only
    rw [hs]
    (refine Back.mk ?_ ?_ rfl rfl <;> (repeat' (first | refine EndV.mk ?_ | exact trivial | exact rfl | refine And.intro ?_ ?_)))
  · have hie : i = l.length := by omega
    subst hie
    rw [List.take_length]
    (repeat' ((conv => whnf); first | (exfalso; omega) | (refine end_fn [] (.inr rfl) ?_ trivial rfl rfl) | (refine split_nd (fun hb => ?_) (fun hb => ?_)) | (refine split_d (fun hb => ?_) (fun hb => ?_)) | (refine split_n (fun hb => ?_) (fun hb => ?_)) | (refine split_x (fun hb => ?_) (fun hb => ?_)) | (refine And.intro (TraceOK.mk (by kernel_rfl)) ?_) | (refine Side.mk ?_; (repeat' (first | refine And.intro ?_ ?_ | exact inR_i64 (by omega) (by omega) | omega | rfl | exact trivial | exact none_ne rfl | exact some_ne rfl (Nat.ne_of_beq_eq_false rfl) | exact Nat.ne_of_beq_eq_false rfl | (dsimp only [srcSide]; omega) | (simp; done) | (simp; omega))); done) | (refine side_and ?_ ?_) | (refine drawX_of mixed ?_)))
    all_goals (repeat' (first | refine EndV.mk ?_ | exact trivial | exact rfl | refine And.intro ?_ ?_))
theorem mixedO_meets (x : Int) (l : List Int) (hl : ∀ n ∈ l, 1 ≤ n ∧ n ≤ 31) (hL : l.length ≤ 10) : Meets Tryd.prog Dc 100 [.p (.int .u32 x), .slice 0 0 1 0 l.length] [.rows U.int l] (.p (.int .u32 (mixS x l))) [.rows U.int l] := by
  have hstep : ∀ i, i < l.length → mixS x (l.take (i + 1)) = bitop .xor .u32 (mixS x (l.take i)) (rolS x (l.getD i 0)) := by
    intro i hi
    have e : l.take (i + 1) = l.take i ++ [l.getD i 0] := by rw [List.take_add_one]; simp [hi]
    rw [e]; unfold mixS; rw [List.foldl_append]; rfl
  have hsz : 0 + 1 = Cd.n U.int := rfl
  refine meets_of_gx Ax tab_ok Tryd.func100 (c := _) rfl Tryd.call100 100 ?_
  (repeat' ((conv => whnf); first | (exfalso; omega) | (refine end_fn [] (.inr rfl) ?_ trivial rfl rfl) | (refine split_nd (fun hb => ?_) (fun hb => ?_)) | (refine split_d (fun hb => ?_) (fun hb => ?_)) | (refine split_n (fun hb => ?_) (fun hb => ?_)) | (refine split_x (fun hb => ?_) (fun hb => ?_)) | (refine And.intro (TraceOK.mk (by kernel_rfl)) ?_) | (refine Side.mk ?_; (repeat' (first | refine And.intro ?_ ?_ | exact inR_i64 (by omega) (by omega) | omega | rfl | exact trivial | exact none_ne rfl | exact some_ne rfl (Nat.ne_of_beq_eq_false rfl) | exact Nat.ne_of_beq_eq_false rfl | (dsimp only [srcSide]; omega) | (simp; done) | (simp; omega))); done) | (refine side_and ?_ ?_) | (refine drawX_of mixed ?_)))
  refine loop_up (fun i : Nat => [(5, .p (.int .u32 (mixS x (l.take i)))), (10, .p (.int .i64 i))]) (fun _ => []) (fun i => i ≤ l.length) (fun i => l.length - i) 0 (Nat.zero_le _) ⟨by (repeat' (first | refine EndV.mk ?_ | exact trivial | exact rfl | refine And.intro ?_ ?_)), by (repeat' (first | refine EndV.mk ?_ | exact trivial | exact rfl | refine And.intro ?_ ?_)), rfl, rfl⟩ ?_
  intro i hi K hK
  rcases Nat.lt_or_ge i l.length with hlt | hge
  · have hb := hl (l.getD i 0) (by simp [hlt])
    have hs := hstep i hlt
    have hq : l.getD (0 + (i : Int).toNat) (Cd.dflt U.int) = l.getD i 0 := by rw [Nat.zero_add]; rfl
    generalize l.getD i 0 = n at hb hs hq
    (repeat' ((conv => whnf); first | (exfalso; omega) | (rw [hq]) | (refine callx_pure (rotl_meets x n (by omega) (by omega)) rfl rfl ?_) | (refine hK (i + 1) [some 0] _ _ ?_ ?_ ?_) | (refine end_fn [] (.inr rfl) ?_ trivial rfl rfl) | (refine split_nd (fun hb => ?_) (fun hb => ?_)) | (refine split_d (fun hb => ?_) (fun hb => ?_)) | (refine split_n (fun hb => ?_) (fun hb => ?_)) | (refine split_x (fun hb => ?_) (fun hb => ?_)) | (refine And.intro (TraceOK.mk (by kernel_rfl)) ?_) | (refine Side.mk ?_; (repeat' (first | refine And.intro ?_ ?_ | exact inR_i64 (by omega) (by omega) | omega | rfl | exact trivial | exact none_ne rfl | exact some_ne rfl (Nat.ne_of_beq_eq_false rfl) | exact Nat.ne_of_beq_eq_false rfl | (dsimp only [srcSide]; omega) | (simp; done) | (simp; omega))); done) | (refine side_and ?_ ?_) | (refine drawX_of mixed ?_)))
    dsimp only
    rw [hs]
    (refine Back.mk ?_ ?_ rfl rfl <;> (repeat' (first | refine EndV.mk ?_ | exact trivial | exact rfl | refine And.intro ?_ ?_)))
  · have hie : i = l.length := by omega
    subst hie
    rw [List.take_length]
    (repeat' ((conv => whnf); first | (refine end_fn [some 0] (.inr rfl) ?_ ?_ rfl rfl) | (exfalso; omega) | (refine end_fn [] (.inr rfl) ?_ trivial rfl rfl) | (refine split_nd (fun hb => ?_) (fun hb => ?_)) | (refine split_d (fun hb => ?_) (fun hb => ?_)) | (refine split_n (fun hb => ?_) (fun hb => ?_)) | (refine split_x (fun hb => ?_) (fun hb => ?_)) | (refine And.intro (TraceOK.mk (by kernel_rfl)) ?_) | (refine Side.mk ?_; (repeat' (first | refine And.intro ?_ ?_ | exact inR_i64 (by omega) (by omega) | omega | rfl | exact trivial | exact none_ne rfl | exact some_ne rfl (Nat.ne_of_beq_eq_false rfl) | exact Nat.ne_of_beq_eq_false rfl | (dsimp only [srcSide]; omega) | (simp; done) | (simp; omega))); done) | (refine side_and ?_ ?_) | (refine drawX_of mixed ?_)))
    all_goals (repeat' (first | refine EndV.mk ?_ | exact trivial | exact rfl | refine And.intro ?_ ?_))
end Go.SX

namespace Go.SX
open Go.Proofs
set_option linter.unusedSimpArgs false
set_option linter.unusedVariables false
set_option maxHeartbeats 4000000
set_option maxRecDepth 100000
/-- the words of a block, one after another -/
def be32 (bs : List Int) (o : Nat) : Int :=
  bitop .or .u32 (bitop .or .u32 (bitop .or .u32 (shlop .u32 (IntKind.u32.wrap (bs.getD o 0)) 24) (shlop .u32 (IntKind.u32.wrap (bs.getD (o + 1) 0)) 16)) (shlop .u32 (IntKind.u32.wrap (bs.getD (o + 2) 0)) 8)) (IntKind.u32.wrap (bs.getD (o + 3) 0))
def wNext (l : List Int) (i : Nat) : Int :=
  IntKind.u32.wrap (IntKind.u32.wrap (IntKind.u32.wrap (l.getD (i - 16) 0 + bitop .xor .u32 (mixS (l.getD (i - 15) 0) [7, 18]) (shrop .u32 (l.getD (i - 15) 0) 3)) + l.getD (i - 7) 0) + bitop .xor .u32 (mixS (l.getD (i - 2) 0) [17, 19]) (shrop .u32 (l.getD (i - 2) 0) 10))
def wList (bs : List Int) (off : Nat) : Nat → List Int
  | 0 => []
  | i + 1 => wList bs off i ++ [if i < 16 then be32 bs (off + 4 * i) else wNext (wList bs off i) i]
theorem wList_length (bs : List Int) (off : Nat) : ∀ i, (wList bs off i).length = i
  | 0 => rfl
  | i + 1 => by simp [wList, wList_length bs off i]
def wArr (bs : List Int) (off i : Nat) : List Int := wList bs off i ++ List.replicate (64 - i) 0
theorem wArr_set (bs : List Int) (off i : Nat) (hi : i < 64) (v : Int) (hv : v = if i < 16 then be32 bs (off + 4 * i) else wNext (wList bs off i) i) : (wArr bs off i).set i v = wArr bs off (i + 1) := by
  unfold wArr
  rw [List.set_append_right _ _ (by rw [wList_length]; exact Nat.le_refl _), wList_length, Nat.sub_self]
  have e : 64 - i = (64 - (i + 1)) + 1 := by omega
  rw [e, List.replicate_succ, List.set_cons_zero, wList, ← hv]
  simp
theorem wArr_get (bs : List Int) (off i j : Nat) (hj : j < i) : (wArr bs off i).getD j 0 = (wList bs off i).getD j 0 := by
  unfold wArr
  rw [List.getD_eq_getElem?_getD, List.getD_eq_getElem?_getD, List.getElem?_append_left (by rw [wList_length]; exact hj)]
theorem wArr_step16 (bs : List Int) (off i : Nat) (hi : i < 16) : (wArr bs off i).set (i : Int).toNat (bitop BinOp.or IntKind.u32 (bitop BinOp.or IntKind.u32 (bitop BinOp.or IntKind.u32 (shlop IntKind.u32 (IntKind.u32.wrap (bs.getD (off + (4 * (i : Int)).toNat) (Cd.dflt U.u8))) 24) (shlop IntKind.u32 (IntKind.u32.wrap (bs.getD (off + (4 * (i : Int) + 1).toNat) (Cd.dflt U.u8))) 16)) (shlop IntKind.u32 (IntKind.u32.wrap (bs.getD (off + (4 * (i : Int) + 2).toNat) (Cd.dflt U.u8))) 8)) (IntKind.u32.wrap (bs.getD (off + (4 * (i : Int) + 3).toNat) (Cd.dflt U.u8)))) = wArr bs off (i + 1) := by
  refine wArr_set bs off i (by omega) _ ?_
  rw [if_pos hi]
  have e0 : (4 * (i : Int)).toNat = 4 * i := by omega
  have e1 : (4 * (i : Int) + 1).toNat = 4 * i + 1 := by omega
  have e2 : (4 * (i : Int) + 2).toNat = 4 * i + 2 := by omega
  have e3 : (4 * (i : Int) + 3).toNat = 4 * i + 3 := by omega
  rw [e0, e1, e2, e3]
  rfl
theorem wArr_step64 (bs : List Int) (off i : Nat) (h16 : 16 ≤ i) (hi : i < 64) : (wArr bs off i).set (i : Int).toNat (IntKind.u32.wrap (IntKind.u32.wrap (IntKind.u32.wrap ((wArr bs off i).getD ((i : Int) - 16).toNat (Cd.dflt U.u32) + bitop BinOp.xor IntKind.u32 (mixS ((wArr bs off i).getD ((i : Int) - 15).toNat (Cd.dflt U.u32)) [7, 18]) (shrop IntKind.u32 ((wArr bs off i).getD ((i : Int) - 15).toNat (Cd.dflt U.u32)) 3)) + (wArr bs off i).getD ((i : Int) - 7).toNat (Cd.dflt U.u32)) + bitop BinOp.xor IntKind.u32 (mixS ((wArr bs off i).getD ((i : Int) - 2).toNat (Cd.dflt U.u32)) [17, 19]) (shrop IntKind.u32 ((wArr bs off i).getD ((i : Int) - 2).toNat (Cd.dflt U.u32)) 10))) = wArr bs off (i + 1) := by
  refine wArr_set bs off i (by omega) _ ?_
  rw [if_neg (by omega)]
  have e0 : ((i : Int) - 16).toNat = i - 16 := by omega
  have e1 : ((i : Int) - 15).toNat = i - 15 := by omega
  have e2 : ((i : Int) - 7).toNat = i - 7 := by omega
  have e3 : ((i : Int) - 2).toNat = i - 2 := by omega
  have g : ∀ j, j < i → (wArr bs off i).getD j (Cd.dflt U.u32) = (wList bs off i).getD j 0 := fun j hj => wArr_get bs off i j hj
  rw [e0, e1, e2, e3, g _ (by omega), g _ (by omega), g _ (by omega), g _ (by omega)]
  rfl
theorem mix7 (x : Int) : Meets Tryd.prog Dc 100 [.p (.int .u32 x), .slice 0 0 1 0 2] [.rows U.int [7, 18]] (.p (.int .u32 (mixS x [7, 18]))) [.rows U.int [7, 18]] := mixedO_meets x [7, 18] (by decide) (by decide)
theorem mix17 (x : Int) : Meets Tryd.prog Dc 100 [.p (.int .u32 x), .slice 0 0 1 0 2] [.rows U.int [17, 19]] (.p (.int .u32 (mixS x [17, 19]))) [.rows U.int [17, 19]] := mixedO_meets x [17, 19] (by decide) (by decide)
theorem sched_meets (bs : List Int) (off : Nat) (h : off + 64 ≤ bs.length) (hL : bs.length ≤ 10000) : Meets Tryd.prog Dc 99 [.slice 0 0 1 off 64] [.rows U.u8 bs] (.agg [.arr U.u32 64 (wList bs off 64)]) [.rows U.u8 bs] := by
  have hs1 : 0 + 1 = Cd.n U.u8 := rfl
  have hs2 : 0 + 1 = Cd.n U.u32 := rfl
  refine meets_of_gx Ax tab_ok Tryd.func99 (c := _) rfl Tryd.call99 400 ?_
  (repeat' ((conv => whnf); first | (exfalso; omega) | (refine end_fn [] (.inr rfl) ?_ trivial rfl rfl) | (refine split_nd (fun hb => ?_) (fun hb => ?_)) | (refine split_d (fun hb => ?_) (fun hb => ?_)) | (refine split_n (fun hb => ?_) (fun hb => ?_)) | (refine split_x (fun hb => ?_) (fun hb => ?_)) | (refine And.intro (TraceOK.mk (by kernel_rfl)) ?_) | (refine Side.mk ?_; (repeat' (first | refine And.intro ?_ ?_ | exact inR_i64 (by omega) (by omega) | omega | rfl | exact trivial | exact none_ne rfl | exact some_ne rfl (Nat.ne_of_beq_eq_false rfl) | exact Nat.ne_of_beq_eq_false rfl | (dsimp only [srcSide]; omega) | (simp; done) | (simp; omega))); done) | (refine side_and ?_ ?_) | (refine drawX_of mixed ?_)))
  refine loop_up (fun i : Nat => [(7, .p (.int .i64 i))]) (fun i => [(1, .var [.arr U.u32 64 (wArr bs off i)])]) (fun i => i ≤ 16) (fun i => 16 - i) 0 (Nat.zero_le _) ⟨by (repeat' (first | refine EndV.mk ?_ | exact trivial | exact rfl | refine And.intro ?_ ?_)), by (repeat' (first | refine EndV.mk ?_ | exact trivial | exact rfl | refine And.intro ?_ ?_)), rfl, rfl⟩ ?_
  intro i hi K hK
  have hlen : (wArr bs off i).length = 64 := by simp [wArr, wList_length]; omega
  rcases Nat.lt_or_ge i 16 with hlt | hge
  · (repeat' ((conv => whnf); first | (exfalso; omega) | (refine hK (i + 1) [some 0, some 1] _ _ ?_ ?_ ?_) | (refine end_fn [] (.inr rfl) ?_ trivial rfl rfl) | (refine split_nd (fun hb => ?_) (fun hb => ?_)) | (refine split_d (fun hb => ?_) (fun hb => ?_)) | (refine split_n (fun hb => ?_) (fun hb => ?_)) | (refine split_x (fun hb => ?_) (fun hb => ?_)) | (refine And.intro (TraceOK.mk (by kernel_rfl)) ?_) | (refine Side.mk ?_; (repeat' (first | refine And.intro ?_ ?_ | exact inR_i64 (by omega) (by omega) | omega | rfl | exact trivial | exact none_ne rfl | exact some_ne rfl (Nat.ne_of_beq_eq_false rfl) | exact Nat.ne_of_beq_eq_false rfl | (dsimp only [srcSide]; omega) | (simp; done) | (simp; omega))); done) | (refine side_and ?_ ?_) | (refine drawX_of mixed ?_)))
    dsimp only
    rw [← wArr_step16 bs off i hlt]
    (refine Back.mk ?_ ?_ rfl rfl <;> (repeat' (first | refine EndV.mk ?_ | exact trivial | exact rfl | refine And.intro ?_ ?_)))
  · have hie : i = 16 := by omega
    subst hie
    (repeat' ((conv => whnf); first | (exfalso; omega) | (refine end_fn [] (.inr rfl) ?_ trivial rfl rfl) | (refine split_nd (fun hb => ?_) (fun hb => ?_)) | (refine split_d (fun hb => ?_) (fun hb => ?_)) | (refine split_n (fun hb => ?_) (fun hb => ?_)) | (refine split_x (fun hb => ?_) (fun hb => ?_)) | (refine And.intro (TraceOK.mk (by kernel_rfl)) ?_) | (refine Side.mk ?_; (repeat' (first | refine And.intro ?_ ?_ | exact inR_i64 (by omega) (by omega) | omega | rfl | exact trivial | exact none_ne rfl | exact some_ne rfl (Nat.ne_of_beq_eq_false rfl) | exact Nat.ne_of_beq_eq_false rfl | (dsimp only [srcSide]; omega) | (simp; done) | (simp; omega))); done) | (refine side_and ?_ ?_) | (refine drawX_of mixed ?_)))
    clear hK
    refine loop_up (fun i : Nat => [(4, .p (.int .i64 i))]) (fun i => [(1, .var [.arr U.u32 64 (wArr bs off i)])]) (fun i => 16 ≤ i ∧ i ≤ 64) (fun i => 64 - i) 16 ⟨Nat.le_refl _, by omega⟩ ⟨by (repeat' (first | refine EndV.mk ?_ | exact trivial | exact rfl | refine And.intro ?_ ?_)), by (repeat' (first | refine EndV.mk ?_ | exact trivial | exact rfl | refine And.intro ?_ ?_)), rfl, rfl⟩ ?_
    rintro i ⟨hi1, hi2⟩ K hK
    have hlen2 : (wArr bs off i).length = 64 := by simp [wArr, wList_length]; omega
    rcases Nat.lt_or_ge i 64 with hlt | hge
    · (repeat' ((conv => whnf); first | (exfalso; omega) | (refine dcallh [some 2] (mix7 _) rfl rfl ⟨rfl, trivial⟩ ?_) | (refine dcallh [some 3] (mix17 _) rfl rfl ⟨rfl, trivial⟩ ?_) | (refine hK (i + 1) [some 0, some 1] _ _ ?_ ?_ ?_) | (refine end_fn [] (.inr rfl) ?_ trivial rfl rfl) | (refine split_nd (fun hb => ?_) (fun hb => ?_)) | (refine split_d (fun hb => ?_) (fun hb => ?_)) | (refine split_n (fun hb => ?_) (fun hb => ?_)) | (refine split_x (fun hb => ?_) (fun hb => ?_)) | (refine And.intro (TraceOK.mk (by kernel_rfl)) ?_) | (refine Side.mk ?_; (repeat' (first | refine And.intro ?_ ?_ | exact inR_i64 (by omega) (by omega) | omega | rfl | exact trivial | exact none_ne rfl | exact some_ne rfl (Nat.ne_of_beq_eq_false rfl) | exact Nat.ne_of_beq_eq_false rfl | (dsimp only [srcSide]; omega) | (simp; done) | (simp; omega))); done) | (refine side_and ?_ ?_) | (refine drawX_of mixed ?_)))
      dsimp only
      rw [← wArr_step64 bs off i hi1 hlt]
      (refine Back.mk ?_ ?_ rfl rfl <;> (repeat' (first | refine EndV.mk ?_ | exact trivial | exact rfl | refine And.intro ?_ ?_)))
    · have hie : i = 64 := by omega
      subst hie
      have e64 : wArr bs off 64 = wList bs off 64 := by simp [wArr]
      rw [e64] at hlen2 ⊢
      clear hK hlen e64
      generalize wList bs off 64 = W at hlen2 ⊢
      (repeat' ((conv => whnf); first | (refine end_fn [some 0] (.inr rfl) ?_ ?_ rfl rfl) | (exfalso; omega) | (refine end_fn [] (.inr rfl) ?_ trivial rfl rfl) | (refine split_nd (fun hb => ?_) (fun hb => ?_)) | (refine split_d (fun hb => ?_) (fun hb => ?_)) | (refine split_n (fun hb => ?_) (fun hb => ?_)) | (refine split_x (fun hb => ?_) (fun hb => ?_)) | (refine And.intro (TraceOK.mk (by kernel_rfl)) ?_) | (refine Side.mk ?_; (repeat' (first | refine And.intro ?_ ?_ | exact inR_i64 (by omega) (by omega) | omega | rfl | exact trivial | exact none_ne rfl | exact some_ne rfl (Nat.ne_of_beq_eq_false rfl) | exact Nat.ne_of_beq_eq_false rfl | (dsimp only [srcSide]; omega) | (simp; done) | (simp; omega))); done) | (refine side_and ?_ ?_) | (refine drawX_of mixed ?_)))
      all_goals (repeat' (first | refine EndV.mk ?_ | exact trivial | exact rfl | refine And.intro ?_ ?_))
end Go.SX

namespace Go.SX
open Go.Proofs
set_option linter.unusedSimpArgs false
set_option linter.unusedVariables false
set_option maxHeartbeats 4000000
set_option maxRecDepth 100000
/-- the eight words -/
structure St where
  a : Int
  b : Int
  c : Int
  d : Int
  e : Int
  f : Int
  g : Int
  h : Int
def St.l (s : St) : List Int := [s.a, s.b, s.c, s.d, s.e, s.f, s.g, s.h]
def t1S (s : St) (k w : Int) : Int := IntKind.u32.wrap (IntKind.u32.wrap (IntKind.u32.wrap (IntKind.u32.wrap (s.h + mixS s.e [6, 11, 25]) + bitop .xor .u32 (bitop .and .u32 s.e s.f) (bitop .and .u32 (bitop .xor .u32 IntKind.u32.max s.e) s.g)) + k) + w)
def t2S (s : St) : Int := IntKind.u32.wrap (mixS s.a [2, 13, 22] + bitop .xor .u32 (bitop .xor .u32 (bitop .and .u32 s.a s.b) (bitop .and .u32 s.a s.c)) (bitop .and .u32 s.b s.c))
def stepS (s : St) (k w : Int) : St := ⟨IntKind.u32.wrap (t1S s k w + t2S s), s.a, s.b, s.c, IntKind.u32.wrap (s.d + t1S s k w), s.e, s.f, s.g⟩
def roundK : List Int := (U.glob 0).map fun v => match v with
  | .int _ n => n
  | _ => 0
def roundsS (h : St) (W : List Int) : Nat → St
  | 0 => h
  | i + 1 => stepS (roundsS h W i) (roundK.getD i 0) (W.getD i 0)
def sumS (h v : St) : St := ⟨IntKind.u32.wrap (h.a + v.a), IntKind.u32.wrap (h.b + v.b), IntKind.u32.wrap (h.c + v.c), IntKind.u32.wrap (h.d + v.d), IntKind.u32.wrap (h.e + v.e), IntKind.u32.wrap (h.f + v.f), IntKind.u32.wrap (h.g + v.g), IntKind.u32.wrap (h.h + v.h)⟩
def blockS (h : St) (bs : List Int) (off : Nat) : St := sumS h (roundsS h (wList bs off 64) 64)
/-- the words, of which the first i are summed up already -/
def sumL (s v : St) (i : Nat) : List Int := (List.range 8).map fun j => if j < i then IntKind.u32.wrap (s.l.getD j 0 + v.l.getD j 0) else s.l.getD j 0
theorem sumL_step (s v : St) (i : Nat) (hi : i < 8) : (sumL s v i).set i (IntKind.u32.wrap ((sumL s v i).getD i 0 + v.l.getD i 0)) = sumL s v (i + 1) := by
  match i, hi with
  | 0, _ => rfl
  | 1, _ => rfl
  | 2, _ => rfl
  | 3, _ => rfl
  | 4, _ => rfl
  | 5, _ => rfl
  | 6, _ => rfl
  | 7, _ => rfl
theorem mix6 (x : Int) : Meets Tryd.prog Dc 100 [.p (.int .u32 x), .slice 0 0 1 0 3] [.rows U.int [6, 11, 25]] (.p (.int .u32 (mixS x [6, 11, 25]))) [.rows U.int [6, 11, 25]] := mixedO_meets x [6, 11, 25] (by decide) (by decide)
theorem mix2 (x : Int) : Meets Tryd.prog Dc 100 [.p (.int .u32 x), .slice 0 0 1 0 3] [.rows U.int [2, 13, 22]] (.p (.int .u32 (mixS x [2, 13, 22]))) [.rows U.int [2, 13, 22]] := mixedO_meets x [2, 13, 22] (by decide) (by decide)
theorem add_meets (s : St) (bs : List Int) (off : Nat) (h : off + 64 ≤ bs.length) (hL : bs.length ≤ 10000) : Meets Tryd.prog Dc 67 [.ptr 0 0, .slice 1 0 1 off 64] [.var [.arr U.u32 8 s.l], .rows U.u8 bs] (.tuple []) [.var [.arr U.u32 8 (blockS s bs off).l], .rows U.u8 bs] := by
  have hsch := sched_meets bs off h hL
  have hbl : blockS s bs off = sumS s (roundsS s (wList bs off 64) 64) := rfl
  rw [hbl]
  generalize hW : wList bs off 64 = W at hsch
  have hWl : W.length = 64 := by rw [← hW, wList_length]
  have hs1 : 0 + 1 = Cd.n U.u32 := rfl
  refine meets_of_gx Ax tab_ok Tryd.func67 (c := _) rfl Tryd.call67 400 ?_
  (repeat' ((conv => whnf); first | (exfalso; omega) | (refine callh [some 1] hsch rfl rfl ⟨rfl, trivial⟩ ?_) | (refine end_fn [] (.inr rfl) ?_ trivial rfl rfl) | (refine split_nd (fun hb => ?_) (fun hb => ?_)) | (refine split_d (fun hb => ?_) (fun hb => ?_)) | (refine split_n (fun hb => ?_) (fun hb => ?_)) | (refine split_x (fun hb => ?_) (fun hb => ?_)) | (refine And.intro (TraceOK.mk (by kernel_rfl)) ?_) | (refine Side.mk ?_; (repeat' (first | refine And.intro ?_ ?_ | exact inR_i64 (by omega) (by omega) | omega | rfl | exact trivial | exact none_ne rfl | exact some_ne rfl (Nat.ne_of_beq_eq_false rfl) | exact Nat.ne_of_beq_eq_false rfl | (dsimp only [srcSide]; omega) | (simp; done) | (simp; omega))); done) | (refine side_and ?_ ?_) | (refine drawX_of mixed ?_)))
  have hKl : roundK.length = 64 := by decide
  refine loop_up (fun i : Nat => [(18, .agg [.arr U.u32 64 roundK]), (19, .p (.int .i64 i))]) (fun i => [(3, .var [.arr U.u32 8 (roundsS s W i).l])]) (fun i => i ≤ 64) (fun i => 64 - i) 0 (Nat.zero_le _) ⟨by (repeat' (first | refine EndV.mk ?_ | exact trivial | exact rfl | refine And.intro ?_ ?_)), by (repeat' (first | refine EndV.mk ?_ | exact trivial | exact rfl | refine And.intro ?_ ?_)), rfl, rfl⟩ ?_
  intro i hi K hK
  rcases Nat.lt_or_ge i 64 with hlt | hge
  · have hs : roundsS s W (i + 1) = stepS (roundsS s W i) (roundK.getD i 0) (W.getD i 0) := rfl
    generalize roundK = RK at hKl hK hs ⊢
    have hs2 : Cd.n U.u32 = 1 := rfl
    have hs3 : 1 = Cd.n U.u32 := rfl
    generalize roundsS s W i = v at hK hs ⊢
    have hv8 : v.l.length = 8 := rfl
    (repeat' ((conv => whnf); first | (exfalso; omega) | (refine hK (i + 1) [some 0, some 1, some 2, some 3] _ _ ?_ ?_ ?_) | (refine dcallh [some 4] (mix6 _) rfl rfl ⟨rfl, trivial⟩ ?_) | (refine dcallh [some 5] (mix2 _) rfl rfl ⟨rfl, trivial⟩ ?_) | (refine callh [some 4] (mix6 _) rfl rfl ⟨rfl, trivial⟩ ?_) | (refine callh [some 5] (mix2 _) rfl rfl ⟨rfl, trivial⟩ ?_) | (refine end_fn [] (.inr rfl) ?_ trivial rfl rfl) | (refine split_nd (fun hb => ?_) (fun hb => ?_)) | (refine split_d (fun hb => ?_) (fun hb => ?_)) | (refine split_n (fun hb => ?_) (fun hb => ?_)) | (refine split_x (fun hb => ?_) (fun hb => ?_)) | (refine And.intro (TraceOK.mk (by kernel_rfl)) ?_) | (refine Side.mk ?_; (repeat' (first | refine And.intro ?_ ?_ | exact inR_i64 (by omega) (by omega) | omega | rfl | exact trivial | exact none_ne rfl | exact some_ne rfl (Nat.ne_of_beq_eq_false rfl) | exact Nat.ne_of_beq_eq_false rfl | (dsimp only [srcSide]; omega) | (simp; done) | (simp; omega))); done) | (refine side_and ?_ ?_) | (refine drawX_of mixed ?_)))
    · exact ⟨⟨by decide, by decide, rfl, Nat.le_refl 8⟩⟩
    · exact ⟨⟨(by decide : 4 < 8), rfl⟩⟩
    · exact ⟨⟨by decide, by decide, rfl, Nat.le_refl 8⟩⟩
    · exact ⟨⟨(by decide : 0 < 8), rfl⟩⟩
    · exact ⟨⟨by decide, by decide, rfl, Nat.le_refl 8⟩⟩
    · exact ⟨⟨(by decide : 4 < 8), rfl⟩⟩
    · dsimp only
      rw [hs]
      (refine Back.mk ?_ ?_ rfl rfl <;> (repeat' (first | refine EndV.mk ?_ | exact trivial | exact rfl | refine And.intro ?_ ?_)))
  · have hie : i = 64 := by omega
    subst hie
    clear hK
    generalize roundsS s W 64 = v
    generalize roundK = RK at hKl ⊢
    have hv8 : v.l.length = 8 := rfl
    have hs8 : s.l.length = 8 := rfl
    have hs2 : Cd.n U.u32 = 1 := rfl
    have hs3 : 1 = Cd.n U.u32 := rfl
    (repeat' ((conv => whnf); first | (exfalso; omega) | (refine end_fn [] (.inr rfl) ?_ trivial rfl rfl) | (refine split_nd (fun hb => ?_) (fun hb => ?_)) | (refine split_d (fun hb => ?_) (fun hb => ?_)) | (refine split_n (fun hb => ?_) (fun hb => ?_)) | (refine split_x (fun hb => ?_) (fun hb => ?_)) | (refine And.intro (TraceOK.mk (by kernel_rfl)) ?_) | (refine Side.mk ?_; (repeat' (first | refine And.intro ?_ ?_ | exact inR_i64 (by omega) (by omega) | omega | rfl | exact trivial | exact none_ne rfl | exact some_ne rfl (Nat.ne_of_beq_eq_false rfl) | exact Nat.ne_of_beq_eq_false rfl | (dsimp only [srcSide]; omega) | (simp; done) | (simp; omega))); done) | (refine side_and ?_ ?_) | (refine drawX_of mixed ?_)))
    refine loop_up (fun i : Nat => [(82, .p (.int .i64 i))]) (fun i => [(0, .var [.arr U.u32 8 (sumL s v i)])]) (fun i => i ≤ 8) (fun i => 8 - i) 0 (Nat.zero_le _) ⟨by (repeat' (first | refine EndV.mk ?_ | exact trivial | exact rfl | refine And.intro ?_ ?_)), by (repeat' (first | refine EndV.mk ?_ | exact trivial | exact rfl | refine And.intro ?_ ?_)), rfl, rfl⟩ ?_
    intro i hi K hK
    have hl8 : (sumL s v i).length = 8 := by simp [sumL]
    rcases Nat.lt_or_ge i 8 with hlt | hge
    · have hst : (sumL s v i).set (i : Int).toNat (IntKind.u32.wrap ((sumL s v i).getD (i : Int).toNat (Cd.dflt U.u32) + v.l.getD (i : Int).toNat (Cd.dflt U.u32))) = sumL s v (i + 1) := sumL_step s v i hlt
      (repeat' ((conv => whnf); first | (exfalso; omega) | (refine hK (i + 1) [some 0, some 1, some 2, some 3] _ _ ?_ ?_ ?_) | (refine end_fn [] (.inr rfl) ?_ trivial rfl rfl) | (refine split_nd (fun hb => ?_) (fun hb => ?_)) | (refine split_d (fun hb => ?_) (fun hb => ?_)) | (refine split_n (fun hb => ?_) (fun hb => ?_)) | (refine split_x (fun hb => ?_) (fun hb => ?_)) | (refine And.intro (TraceOK.mk (by kernel_rfl)) ?_) | (refine Side.mk ?_; (repeat' (first | refine And.intro ?_ ?_ | exact inR_i64 (by omega) (by omega) | omega | rfl | exact trivial | exact none_ne rfl | exact some_ne rfl (Nat.ne_of_beq_eq_false rfl) | exact Nat.ne_of_beq_eq_false rfl | (dsimp only [srcSide]; omega) | (simp; done) | (simp; omega))); done) | (refine side_and ?_ ?_) | (refine drawX_of mixed ?_)))
      dsimp only
      rw [← hst]
      (refine Back.mk ?_ ?_ rfl rfl <;> (repeat' (first | refine EndV.mk ?_ | exact trivial | exact rfl | refine And.intro ?_ ?_)))
    · have hie : i = 8 := by omega
      subst hie
      (repeat' ((conv => whnf); first | (refine end_fn [some 0, some 1] (.inl rfl) ?_ ?_ rfl rfl) | (exfalso; omega) | (refine end_fn [] (.inr rfl) ?_ trivial rfl rfl) | (refine split_nd (fun hb => ?_) (fun hb => ?_)) | (refine split_d (fun hb => ?_) (fun hb => ?_)) | (refine split_n (fun hb => ?_) (fun hb => ?_)) | (refine split_x (fun hb => ?_) (fun hb => ?_)) | (refine And.intro (TraceOK.mk (by kernel_rfl)) ?_) | (refine Side.mk ?_; (repeat' (first | refine And.intro ?_ ?_ | exact inR_i64 (by omega) (by omega) | omega | rfl | exact trivial | exact none_ne rfl | exact some_ne rfl (Nat.ne_of_beq_eq_false rfl) | exact Nat.ne_of_beq_eq_false rfl | (dsimp only [srcSide]; omega) | (simp; done) | (simp; omega))); done) | (refine side_and ?_ ?_) | (refine drawX_of mixed ?_)))
      all_goals (repeat' (first | refine EndV.mk ?_ | exact trivial | exact rfl | refine And.intro ?_ ?_))
end Go.SX
