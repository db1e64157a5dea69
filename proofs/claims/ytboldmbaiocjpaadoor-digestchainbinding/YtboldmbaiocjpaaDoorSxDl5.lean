/-
  Walks: Dl5, Dl9, Dm0: what single functions of the program compute.
-/
import Derived.Test.YtboldmbaiocjpaaDoorSxDl2
namespace Go.SX
open Go.Proofs
set_option linter.unusedSimpArgs false
set_option linter.unusedVariables false
set_option maxHeartbeats 4000000
set_option maxRecDepth 100000
/-- strings that are not too long -/
def Short (l : List Bs) : Prop := ∀ s ∈ l, s.length ≤ 100
theorem Short.take {l : List Bs} (h : Short l) (k : Nat) : Short (l.take k) := fun s hs => h s (List.mem_of_mem_take hs)
theorem Short.drop {l : List Bs} (h : Short l) (k : Nat) : Short (l.drop k) := fun s hs => h s (List.mem_of_mem_drop hs)
theorem Short.getD {l : List Bs} (h : Short l) (i : Nat) : (l.getD i []).length ≤ 100 := by
  rcases Nat.lt_or_ge i l.length with hi | hi
  · rw [List.getD_eq_getElem?_getD, List.getElem?_eq_getElem hi]; exact h _ (List.getElem_mem hi)
  · rw [List.getD_eq_getElem?_getD, List.getElem?_eq_none hi]; simp
theorem refLeafH (s : Bs) (hs : s.length ≤ 2000) : Meets Tryd.prog Dc 36 [.p (.str s)] [] (.p (.str (leafH s))) [] := refLeaf_meets s hs
theorem refNodeH (a b : Bs) (ha : a.length ≤ 2000) (hb : b.length ≤ 2000) : Meets Tryd.prog Dc 37 [.p (.str a), .p (.str b)] [] (.p (.str (nodeH a b))) [] := refNode_meets a b ha hb
theorem refRoot_meets : ∀ (n : Nat) (l : List Bs), l.length = n → n ≤ 1000 → Short l → Meets Tryd.prog Dc 22 [.p (.dsl U.str l)] [] (.p (.str (rootS l))) [] := by
  intro n
  induction n using Nat.strongRecOn with
  | _ n ih =>
    intro l hl hn hs
    rcases Nat.lt_or_ge n 2 with h2 | h2
    · obtain rfl | ⟨s, rfl⟩ : l = [] ∨ ∃ s, l = [s] := by
        rcases l with _ | ⟨s, _ | ⟨t, l⟩⟩
        · exact .inl rfl
        · exact .inr ⟨s, rfl⟩
        · simp at hl; omega
      · rw [rootS_nil]
        have hsum := refSum_meets [] (by simp)
        refine meets_of_gx Ax tab_ok Tryd.func22 (c := _) rfl Tryd.call22 400 ?_
        (repeat' ((conv => whnf); first | (exfalso; omega) | (refine callx_pure hsum rfl rfl ?_) | (refine end_fn [] (.inr rfl) ?_ trivial rfl rfl) | (refine split_nd (fun hb => ?_) (fun hb => ?_)) | (refine split_d (fun hb => ?_) (fun hb => ?_)) | (refine split_n (fun hb => ?_) (fun hb => ?_)) | (refine split_x (fun hb => ?_) (fun hb => ?_)) | (refine And.intro (TraceOK.mk (by kernel_rfl)) ?_) | (refine Side.mk ?_; (repeat' (first | refine And.intro ?_ ?_ | exact inR_i64 (by omega) (by omega) | omega | rfl | exact trivial | exact none_ne rfl | exact some_ne rfl (Nat.ne_of_beq_eq_false rfl) | exact Nat.ne_of_beq_eq_false rfl | (dsimp only [srcSide]; omega) | (simp; done) | (simp; omega))); done) | (refine side_and ?_ ?_) | (refine drawX_of mixed ?_)))
        all_goals (repeat' (first | refine EndV.mk ?_ | exact trivial | exact rfl | refine And.intro ?_ ?_))
      · rw [rootS_one]
        have hs1 : s.length ≤ 100 := hs s (by simp)
        have hle := refLeafH s (by omega)
        refine meets_of_gx Ax tab_ok Tryd.func22 (c := _) rfl Tryd.call22 400 ?_
        (repeat' ((conv => whnf); first | (exfalso; omega) | (refine callx_pure hle rfl rfl ?_) | (refine end_fn [] (.inr rfl) ?_ trivial rfl rfl) | (refine split_nd (fun hb => ?_) (fun hb => ?_)) | (refine split_d (fun hb => ?_) (fun hb => ?_)) | (refine split_n (fun hb => ?_) (fun hb => ?_)) | (refine split_x (fun hb => ?_) (fun hb => ?_)) | (refine And.intro (TraceOK.mk (by kernel_rfl)) ?_) | (refine Side.mk ?_; (repeat' (first | refine And.intro ?_ ?_ | exact inR_i64 (by omega) (by omega) | omega | rfl | exact trivial | exact none_ne rfl | exact some_ne rfl (Nat.ne_of_beq_eq_false rfl) | exact Nat.ne_of_beq_eq_false rfl | (dsimp only [srcSide]; omega) | (simp; done) | (simp; omega))); done) | (refine side_and ?_ ?_) | (refine drawX_of mixed ?_)))
        all_goals (repeat' (first | refine EndV.mk ?_ | exact trivial | exact rfl | refine And.intro ?_ ?_))
    · rw [rootS_two l (by omega)]
      obtain ⟨k, hk⟩ : ∃ k, leftN l.length = k := ⟨_, rfl⟩
      have hsp := leftN_spec (n := l.length) (by omega)
      have hleft := refLeft_meets l.length (by omega) (by omega)
      rw [hk] at hsp hleft ⊢
      have h1 := ih k (by omega) (l.take k) (by simp; omega) (by omega) (hs.take k)
      have h3 := ih (n - k) (by omega) (l.drop k) (by simp; omega) (by omega) (hs.drop k)
      have r1 := rootS_length (l.take k)
      have r3 := rootS_length (l.drop k)
      generalize rootS (l.take k) = x1 at *
      generalize rootS (l.drop k) = x3 at *
      rw [show List.drop k l = List.drop (k : Int).toNat (List.take (l.length : Int).toNat l) by rw [Int.toNat_natCast, Int.toNat_natCast, List.take_length]] at h3
      have hno := refNodeH x1 x3 (by omega) (by omega)
      refine meets_of_gx Ax tab_ok Tryd.func22 (c := _) rfl Tryd.call22 400 ?_
      (repeat' ((conv => whnf); first | (exfalso; omega) | (refine callx_pure (hleft) rfl rfl ?_) | (refine dcallx_pure (hleft) rfl rfl ?_) | (refine callx_pure (h1) rfl rfl ?_) | (refine dcallx_pure (h1) rfl rfl ?_) | (refine callx_pure (h3) rfl rfl ?_) | (refine dcallx_pure (h3) rfl rfl ?_) | (refine callx_pure (hno) rfl rfl ?_) | (refine dcallx_pure (hno) rfl rfl ?_) | (refine end_fn [] (.inr rfl) ?_ trivial rfl rfl) | (refine split_nd (fun hb => ?_) (fun hb => ?_)) | (refine split_d (fun hb => ?_) (fun hb => ?_)) | (refine split_n (fun hb => ?_) (fun hb => ?_)) | (refine split_x (fun hb => ?_) (fun hb => ?_)) | (refine And.intro (TraceOK.mk (by kernel_rfl)) ?_) | (refine Side.mk ?_; (repeat' (first | refine And.intro ?_ ?_ | exact inR_i64 (by omega) (by omega) | omega | rfl | exact trivial | exact none_ne rfl | exact some_ne rfl (Nat.ne_of_beq_eq_false rfl) | exact Nat.ne_of_beq_eq_false rfl | (dsimp only [srcSide]; omega) | (simp; done) | (simp; omega))); done) | (refine side_and ?_ ?_) | (refine drawX_of mixed ?_)))
      all_goals (repeat' (first | refine EndV.mk ?_ | exact trivial | exact rfl | refine And.intro ?_ ?_))
theorem digestsB_false {l : List Bs} {i : Nat} (hi : i < l.length) (h : (l.getD i []).length ≠ 32) : digestsB l = false := by
  unfold digestsB
  rw [List.all_eq_false]
  refine ⟨l[i], List.getElem_mem hi, ?_⟩
  rw [List.getD_eq_getElem?_getD, List.getElem?_eq_getElem hi] at h
  simpa using h
theorem digestsB_true {l : List Bs} (h : ∀ j, j < l.length → (l.getD j []).length = 32) : digestsB l = true := by
  unfold digestsB
  rw [List.all_eq_true]
  intro s hs
  obtain ⟨i, hi, rfl⟩ := List.getElem_of_mem hs
  have := h i hi
  rw [List.getD_eq_getElem?_getD, List.getElem?_eq_getElem hi] at this
  simpa using this
theorem refDigests_meets (l : List Bs) (hl : l.length ≤ 1000) : Meets Tryd.prog Dc 61 [.p (.dsl U.str l)] [] (.p (.bool (digestsB l))) [] := by
  refine meets_of_gx Ax tab_ok Tryd.func61 (c := _) rfl Tryd.call61 400 ?_
  (repeat' ((conv => whnf); first | (exfalso; omega) | (refine end_fn [] (.inr rfl) ?_ trivial rfl rfl) | (refine split_nd (fun hb => ?_) (fun hb => ?_)) | (refine split_d (fun hb => ?_) (fun hb => ?_)) | (refine split_n (fun hb => ?_) (fun hb => ?_)) | (refine split_x (fun hb => ?_) (fun hb => ?_)) | (refine And.intro (TraceOK.mk (by kernel_rfl)) ?_) | (refine Side.mk ?_; (repeat' (first | refine And.intro ?_ ?_ | exact inR_i64 (by omega) (by omega) | omega | rfl | exact trivial | exact none_ne rfl | exact some_ne rfl (Nat.ne_of_beq_eq_false rfl) | exact Nat.ne_of_beq_eq_false rfl | (dsimp only [srcSide]; omega) | (simp; done) | (simp; omega))); done) | (refine side_and ?_ ?_) | (refine drawX_of mixed ?_)))
  refine loop_up (fun i : Nat => [(3, .p (.int .i64 i))]) (fun _ => []) (fun i => i ≤ l.length ∧ ∀ j, j < i → (l.getD j []).length = 32) (fun i => l.length - i) 0 ⟨Nat.zero_le _, fun j hj => by omega⟩ ⟨by (repeat' (first | refine EndV.mk ?_ | exact trivial | exact rfl | refine And.intro ?_ ?_)), by (repeat' (first | refine EndV.mk ?_ | exact trivial | exact rfl | refine And.intro ?_ ?_)), rfl, rfl⟩ ?_
  rintro i ⟨hi, hall⟩ K hK
  have hd : List.length (l.getD (i : Int).toNat (Cd.dflt U.str)) = (l.getD i []).length := rfl
  rcases Nat.lt_or_ge i l.length with hlt | hge
  · by_cases h32 : (l.getD i []).length = 32
    · have hnx : i + 1 ≤ l.length ∧ ∀ j, j < i + 1 → (l.getD j []).length = 32 := ⟨hlt, fun j hj => by rcases Nat.lt_or_ge j i with h | h; exact hall j h; rw [show j = i by omega]; exact h32⟩
      have hsd : Side (i + 1 ≤ l.length ∧ ∀ j, j < i + 1 → (l.getD j []).length = 32) := ⟨hnx⟩
      (repeat' ((conv => whnf); first | (exfalso; omega) | (refine hK (i + 1) [] _ _ hsd ?_ ?_) | (refine Back.mk ?_ ?_ rfl rfl <;> (repeat' (first | refine EndV.mk ?_ | exact trivial | exact rfl | refine And.intro ?_ ?_))) | (refine end_fn [] (.inr rfl) ?_ trivial rfl rfl) | (refine split_nd (fun hb => ?_) (fun hb => ?_)) | (refine split_d (fun hb => ?_) (fun hb => ?_)) | (refine split_n (fun hb => ?_) (fun hb => ?_)) | (refine split_x (fun hb => ?_) (fun hb => ?_)) | (refine And.intro (TraceOK.mk (by kernel_rfl)) ?_) | (refine Side.mk ?_; (repeat' (first | refine And.intro ?_ ?_ | exact inR_i64 (by omega) (by omega) | omega | rfl | exact trivial | exact none_ne rfl | exact some_ne rfl (Nat.ne_of_beq_eq_false rfl) | exact Nat.ne_of_beq_eq_false rfl | (dsimp only [srcSide]; omega) | (simp; done) | (simp; omega))); done) | (refine side_and ?_ ?_) | (refine drawX_of mixed ?_)))
    · have hf := digestsB_false hlt h32
      rw [hf]
      clear hK
      (repeat' ((conv => whnf); first | (exfalso; omega) | (refine end_fn [] (.inr rfl) ?_ trivial rfl rfl) | (refine split_nd (fun hb => ?_) (fun hb => ?_)) | (refine split_d (fun hb => ?_) (fun hb => ?_)) | (refine split_n (fun hb => ?_) (fun hb => ?_)) | (refine split_x (fun hb => ?_) (fun hb => ?_)) | (refine And.intro (TraceOK.mk (by kernel_rfl)) ?_) | (refine Side.mk ?_; (repeat' (first | refine And.intro ?_ ?_ | exact inR_i64 (by omega) (by omega) | omega | rfl | exact trivial | exact none_ne rfl | exact some_ne rfl (Nat.ne_of_beq_eq_false rfl) | exact Nat.ne_of_beq_eq_false rfl | (dsimp only [srcSide]; omega) | (simp; done) | (simp; omega))); done) | (refine side_and ?_ ?_) | (refine drawX_of mixed ?_)))
      all_goals (repeat' (first | refine EndV.mk ?_ | exact trivial | exact rfl | refine And.intro ?_ ?_))
  · have hf : digestsB l = true := digestsB_true fun j hj => hall j (by omega)
    rw [hf]
    clear hK
    (repeat' ((conv => whnf); first | (exfalso; omega) | (refine end_fn [] (.inr rfl) ?_ trivial rfl rfl) | (refine split_nd (fun hb => ?_) (fun hb => ?_)) | (refine split_d (fun hb => ?_) (fun hb => ?_)) | (refine split_n (fun hb => ?_) (fun hb => ?_)) | (refine split_x (fun hb => ?_) (fun hb => ?_)) | (refine And.intro (TraceOK.mk (by kernel_rfl)) ?_) | (refine Side.mk ?_; (repeat' (first | refine And.intro ?_ ?_ | exact inR_i64 (by omega) (by omega) | omega | rfl | exact trivial | exact none_ne rfl | exact some_ne rfl (Nat.ne_of_beq_eq_false rfl) | exact Nat.ne_of_beq_eq_false rfl | (dsimp only [srcSide]; omega) | (simp; done) | (simp; omega))); done) | (refine side_and ?_ ?_) | (refine drawX_of mixed ?_)))
    all_goals (repeat' (first | refine EndV.mk ?_ | exact trivial | exact rfl | refine And.intro ?_ ?_))
end Go.SX

namespace Go.SX
open Go.Proofs
set_option linter.unusedSimpArgs false
set_option linter.unusedVariables false
set_option maxHeartbeats 4000000
set_option maxRecDepth 100000
theorem leafM (s : Bs) (hs : s.length ≤ 2000) : Meets Tryd.prog Dc 31 [.p (.str s)] [] (.p (.str (leafH s))) [] := leaf_meets s hs
theorem nodeM (a b : Bs) (ha : a.length ≤ 2000) (hb : b.length ≤ 2000) : Meets Tryd.prog Dc 34 [.p (.str a), .p (.str b)] [] (.p (.str (nodeH a b))) [] := node_meets a b ha hb
/-- how many bits a number has -/
def lenN (x : Nat) : Nat := if x = 0 then 0 else Nat.log2 x + 1
theorem lenN_shift (x s : Nat) (h : 1 ≤ x / 2 ^ s) : lenN x = s + lenN (x / 2 ^ s) := by
  have hx : x ≠ 0 := by rintro rfl; simp at h
  unfold lenN
  rw [if_neg hx, if_neg (by omega)]
  have h1 := Nat.log2_self_le (n := x / 2 ^ s) (by omega)
  have h2 := Nat.lt_log2_self (n := x / 2 ^ s)
  generalize Nat.log2 (x / 2 ^ s) = a at *
  have hp : 0 < 2 ^ s := Nat.pos_of_ne_zero (by simp)
  have e : Nat.log2 x = s + a := by
    refine (Nat.log2_eq_iff hx).2 ⟨?_, ?_⟩
    · rw [Nat.pow_add, Nat.mul_comm]
      exact (Nat.le_div_iff_mul_le hp).1 h1
    · rw [show s + a + 1 = (a + 1) + s by omega, Nat.pow_add]
      exact (Nat.div_lt_iff_lt_mul hp).1 h2
  omega
theorem shr64 (y k : Nat) (hk : k < 64) : shrop .u64 (y : Int) (k : Int) = ((y / 2 ^ k : Nat) : Int) := by
  unfold shrop
  rw [Int.toNat_natCast, Nat.min_eq_left (by simp [IntKind.bits]; omega), Int.fdiv_eq_ediv_of_nonneg _ (Int.le_of_lt (Int.pow_pos (by decide)))]
  norm_cast
theorem s32 (y : Nat) : shrop .u64 (y : Int) 32 = ((y / 4294967296 : Nat) : Int) := shr64 y 32 (by decide)
theorem s16 (y : Nat) : shrop .u64 (y : Int) 16 = ((y / 65536 : Nat) : Int) := shr64 y 16 (by decide)
theorem s8 (y : Nat) : shrop .u64 (y : Int) 8 = ((y / 256 : Nat) : Int) := shr64 y 8 (by decide)
theorem wrap8 (y : Nat) (h : y < 256) : IntKind.u8.wrap (y : Int) = (y : Int) := by unfold IntKind.wrap; simp [IntKind.bits, IntKind.signed]; omega
theorem tabSide (t : List UInt8) (y : Nat) (ht : t.length = 256) (hy : y < 256) : Side (0 ≤ (y : Int) ∧ (y : Int) < (t.length : Int)) := ⟨by omega⟩
theorem u8Side (u : UInt8) (c : Int) (h0 : 0 ≤ c) (h1 : c ≤ 100) : Side (InR .i64 (c + (u.toNat : Int))) := by
  have := u.toNat_lt
  exact ⟨inR_i64 (by omega) (by omega)⟩
theorem u8Side0 (u : UInt8) : Side (InR .i64 (u.toNat : Int)) := by
  have := u.toNat_lt
  exact ⟨inR_i64 (by omega) (by omega)⟩
theorem tabEnd (t : List UInt8) (ht : ∀ y : Fin 256, (t.getD y.val 0).toNat = lenN y.val) (x s y : Nat) (c : Int) (hy : y < 256) (e : y = x / 2 ^ s) (hc : c = s) (h1 : s = 0 ∨ 1 ≤ y) : PV.int (C := Cd) .i64 (c + ((t.getD ((y : Nat) : Int).toNat 0).toNat : Int)) = PV.int .i64 (lenN x : Int) := by
  subst hc
  have := ht ⟨y, hy⟩
  dsimp only at this
  rw [Int.toNat_natCast, this]
  congr 1
  subst e
  rcases h1 with rfl | h1
  · simp
  · rw [lenN_shift x s h1]; omega
theorem len64_meets (x : Nat) (hx : x < 18446744073709551616) : Meets Tryd.prog Dc 121 [.p (.int .u64 (x : Int))] [] (.p (.int .i64 (lenN x : Int))) [] := by
  refine meets_of_gx Ax tab_ok Tryd.func121 (c := _) rfl Tryd.call121 400 ?_
  (repeat' ((conv => whnf); first | (exfalso; omega) | (rw [s32]) | (rw [s16]) | (rw [s8]) | (rw [wrap8 _ (by omega)]) | (refine tabSide _ _ (by decide +kernel) (by omega)) | exact u8Side0 _ | exact u8Side _ _ (by omega) (by omega) | (refine end_fn [] (.inr rfl) ?_ trivial rfl rfl) | (refine split_nd (fun hb => ?_) (fun hb => ?_)) | (refine split_d (fun hb => ?_) (fun hb => ?_)) | (refine split_n (fun hb => ?_) (fun hb => ?_)) | (refine split_x (fun hb => ?_) (fun hb => ?_)) | (refine And.intro (TraceOK.mk (by kernel_rfl)) ?_) | (refine Side.mk ?_; (repeat' (first | refine And.intro ?_ ?_ | exact inR_i64 (by omega) (by omega) | omega | rfl | exact trivial | exact none_ne rfl | exact some_ne rfl (Nat.ne_of_beq_eq_false rfl) | exact Nat.ne_of_beq_eq_false rfl | (dsimp only [srcSide]; omega) | (simp; done) | (simp; omega))); done) | (refine side_and ?_ ?_) | (refine drawX_of mixed ?_)))
  · refine EndV.mk ?_
    (conv => whnf)
    exact tabEnd _ (by decide +kernel) x 56 _ _ (by omega) (by simp [Nat.div_div_eq_div_mul]) rfl (by omega)
  · refine EndV.mk ?_
    (conv => whnf)
    exact tabEnd _ (by decide +kernel) x 48 _ _ (by omega) (by simp [Nat.div_div_eq_div_mul]) rfl (by omega)
  · refine EndV.mk ?_
    (conv => whnf)
    exact tabEnd _ (by decide +kernel) x 40 _ _ (by omega) (by simp [Nat.div_div_eq_div_mul]) rfl (by omega)
  · refine EndV.mk ?_
    (conv => whnf)
    exact tabEnd _ (by decide +kernel) x 32 _ _ (by omega) (by simp [Nat.div_div_eq_div_mul]) rfl (by omega)
  · refine EndV.mk ?_
    (conv => whnf)
    exact tabEnd _ (by decide +kernel) x 24 _ _ (by omega) (by simp [Nat.div_div_eq_div_mul]) rfl (by omega)
  · refine EndV.mk ?_
    (conv => whnf)
    exact tabEnd _ (by decide +kernel) x 16 _ _ (by omega) (by simp [Nat.div_div_eq_div_mul]) rfl (by omega)
  · refine EndV.mk ?_
    (conv => whnf)
    exact tabEnd _ (by decide +kernel) x 8 _ _ (by omega) (by simp [Nat.div_div_eq_div_mul]) rfl (by omega)
  · refine EndV.mk ?_
    (conv => whnf)
    exact tabEnd _ (by decide +kernel) x 0 _ _ (by omega) (by simp [Nat.div_div_eq_div_mul]) rfl (by omega)
theorem left_meets (n : Nat) (h2 : 2 ≤ n) (hn : n < 9223372036854775808) : Meets Tryd.prog Dc 52 [.p (.int .i64 (n : Int))] [] (.p (.int .i64 (leftN n : Int))) [] := by
  have hw : IntKind.u64.wrap ((n : Int) - 1) = ((n - 1 : Nat) : Int) := by unfold IntKind.wrap; simp [IntKind.bits, IntKind.signed]; omega
  have hm := len64_meets (n - 1) (by omega)
  have hl : lenN (n - 1) = Nat.log2 (n - 1) + 1 := by unfold lenN; rw [if_neg (by omega)]
  have h3 : Nat.log2 (n - 1) < 63 := (Nat.log2_lt (by omega)).2 (by omega)
  have hsh : shlop .i64 1 (((Nat.log2 (n - 1) + 1 : Nat) : Int) - 1) = (leftN n : Int) := by
    unfold leftN
    generalize Nat.log2 (n - 1) = a at *
    rw [show ((a + 1 : Nat) : Int) - 1 = (a : Int) by omega]
    have : ∀ a : Fin 63, shlop .i64 1 (a.val : Int) = ((2 ^ a.val : Nat) : Int) := by decide +kernel
    exact this ⟨a, h3⟩
  rw [hl] at hm
  rw [← hsh]
  generalize Nat.log2 (n - 1) = a at *
  refine meets_of_gx Ax tab_ok Tryd.func52 (c := _) rfl Tryd.call52 400 ?_
  (repeat' ((conv => whnf); first | (exfalso; omega) | (refine call_in Ax tab_ok Tryd.func91 (c := _) rfl Tryd.call91 200 ?_) | (rw [hw]) | (refine callx_pure (hm) rfl rfl ?_) | (refine dcallx_pure (hm) rfl rfl ?_) | (refine end_fn [] (.inr rfl) ?_ trivial rfl rfl) | (refine split_nd (fun hb => ?_) (fun hb => ?_)) | (refine split_d (fun hb => ?_) (fun hb => ?_)) | (refine split_n (fun hb => ?_) (fun hb => ?_)) | (refine split_x (fun hb => ?_) (fun hb => ?_)) | (refine And.intro (TraceOK.mk (by kernel_rfl)) ?_) | (refine Side.mk ?_; (repeat' (first | refine And.intro ?_ ?_ | exact inR_i64 (by omega) (by omega) | omega | rfl | exact trivial | exact none_ne rfl | exact some_ne rfl (Nat.ne_of_beq_eq_false rfl) | exact Nat.ne_of_beq_eq_false rfl | (dsimp only [srcSide]; omega) | (simp; done) | (simp; omega))); done) | (refine side_and ?_ ?_) | (refine drawX_of mixed ?_)))
  all_goals (repeat' (first | refine EndV.mk ?_ | exact trivial | exact rfl | refine And.intro ?_ ?_))
end Go.SX

namespace Go.SX
open Go.Proofs
set_option linter.unusedSimpArgs false
set_option linter.unusedVariables false
set_option maxHeartbeats 4000000
set_option maxRecDepth 100000
theorem index_meets (l : List Bs) (hl : l.length ≤ 1000) : ∃ k : Int, (k < 0 ↔ digestsB l = true) ∧ -1 ≤ k ∧ k < 1000000 ∧ Meets Tryd.prog Dc 122 [.p (.dsl U.str l), .fn (.func 93) [] []] [] (.p (.int .i64 k)) [] := by
  by_cases hex : ∃ i, i < l.length ∧ (l.getD i []).length ≠ 32 ∧ ∀ j, j < i → (l.getD j []).length = 32
  · obtain ⟨i0, hi0, hne, hall⟩ := hex
    refine ⟨i0, by rw [digestsB_false hi0 hne]; simp, by omega, by omega, ?_⟩
    refine meets_of_gx Ax tab_ok Tryd.func122 (c := _) rfl Tryd.call122 400 ?_
    (repeat' ((conv => whnf); first | (exfalso; omega) | (refine call_in Ax tab_ok Tryd.func93 (c := _) rfl Tryd.call93 200 ?_) | (refine call_in Ax tab_ok Tryd.func63 (c := _) rfl Tryd.call63 100 ?_) | (refine end_fn [] (.inr rfl) ?_ trivial rfl rfl) | (refine split_nd (fun hb => ?_) (fun hb => ?_)) | (refine split_d (fun hb => ?_) (fun hb => ?_)) | (refine split_n (fun hb => ?_) (fun hb => ?_)) | (refine split_x (fun hb => ?_) (fun hb => ?_)) | (refine And.intro (TraceOK.mk (by kernel_rfl)) ?_) | (refine Side.mk ?_; (repeat' (first | refine And.intro ?_ ?_ | exact inR_i64 (by omega) (by omega) | omega | rfl | exact trivial | exact none_ne rfl | exact some_ne rfl (Nat.ne_of_beq_eq_false rfl) | exact Nat.ne_of_beq_eq_false rfl | (dsimp only [srcSide]; omega) | (simp; done) | (simp; omega))); done) | (refine side_and ?_ ?_) | (refine drawX_of mixed ?_)))
    refine loop_up (fun i : Nat => [(8, .p (.int .i64 i))]) (fun _ => []) (fun i => i ≤ i0) (fun i => i0 - i) 0 (Nat.zero_le _) ⟨by (repeat' (first | refine EndV.mk ?_ | exact trivial | exact rfl | refine And.intro ?_ ?_)), by (repeat' (first | refine EndV.mk ?_ | exact trivial | exact rfl | refine And.intro ?_ ?_)), rfl, rfl⟩ ?_
    intro i hi K hK
    have hd : List.length (l.getD (i : Int).toNat (Cd.dflt U.str)) = (l.getD i []).length := rfl
    rcases Nat.lt_or_ge i i0 with hlt | hge
    · have h32 := hall i hlt
      (repeat' ((conv => whnf); first | (exfalso; omega) | (refine call_in Ax tab_ok Tryd.func93 (c := _) rfl Tryd.call93 200 ?_) | (refine call_in Ax tab_ok Tryd.func63 (c := _) rfl Tryd.call63 100 ?_) | (refine hK (i + 1) [] _ _ ?_ ?_ ?_) | (refine Back.mk ?_ ?_ rfl rfl <;> (repeat' (first | refine EndV.mk ?_ | exact trivial | exact rfl | refine And.intro ?_ ?_))) | (refine end_fn [] (.inr rfl) ?_ trivial rfl rfl) | (refine split_nd (fun hb => ?_) (fun hb => ?_)) | (refine split_d (fun hb => ?_) (fun hb => ?_)) | (refine split_n (fun hb => ?_) (fun hb => ?_)) | (refine split_x (fun hb => ?_) (fun hb => ?_)) | (refine And.intro (TraceOK.mk (by kernel_rfl)) ?_) | (refine Side.mk ?_; (repeat' (first | refine And.intro ?_ ?_ | exact inR_i64 (by omega) (by omega) | omega | rfl | exact trivial | exact none_ne rfl | exact some_ne rfl (Nat.ne_of_beq_eq_false rfl) | exact Nat.ne_of_beq_eq_false rfl | (dsimp only [srcSide]; omega) | (simp; done) | (simp; omega))); done) | (refine side_and ?_ ?_) | (refine drawX_of mixed ?_)))
    · obtain rfl : i = i0 := by omega
      (repeat' ((conv => whnf); first | (exfalso; omega) | (refine call_in Ax tab_ok Tryd.func93 (c := _) rfl Tryd.call93 200 ?_) | (refine call_in Ax tab_ok Tryd.func63 (c := _) rfl Tryd.call63 100 ?_) | (refine end_fn [] (.inr rfl) ?_ trivial rfl rfl) | (refine split_nd (fun hb => ?_) (fun hb => ?_)) | (refine split_d (fun hb => ?_) (fun hb => ?_)) | (refine split_n (fun hb => ?_) (fun hb => ?_)) | (refine split_x (fun hb => ?_) (fun hb => ?_)) | (refine And.intro (TraceOK.mk (by kernel_rfl)) ?_) | (refine Side.mk ?_; (repeat' (first | refine And.intro ?_ ?_ | exact inR_i64 (by omega) (by omega) | omega | rfl | exact trivial | exact none_ne rfl | exact some_ne rfl (Nat.ne_of_beq_eq_false rfl) | exact Nat.ne_of_beq_eq_false rfl | (dsimp only [srcSide]; omega) | (simp; done) | (simp; omega))); done) | (refine side_and ?_ ?_) | (refine drawX_of mixed ?_)))
      all_goals (repeat' (first | refine EndV.mk ?_ | exact trivial | exact rfl | refine And.intro ?_ ?_))
  · have hall : ∀ n j, j < n → j < l.length → (l.getD j []).length = 32 := by
      intro n
      induction n with
      | zero => intro j hj; omega
      | succ n ih =>
        intro j hj hjl
        rcases Nat.lt_or_ge j n with h | h
        · exact ih j h hjl
        · obtain rfl : j = n := by omega
          by_cases h32 : (l.getD j []).length = 32
          · exact h32
          · exact absurd ⟨j, hjl, h32, fun k hk => ih k hk (by omega)⟩ hex
    have hall : ∀ j, j < l.length → (l.getD j []).length = 32 := fun j hj => hall (j + 1) j (by omega) hj
    refine ⟨-1, by rw [digestsB_true hall]; simp, by omega, by omega, ?_⟩
    refine meets_of_gx Ax tab_ok Tryd.func122 (c := _) rfl Tryd.call122 400 ?_
    (repeat' ((conv => whnf); first | (exfalso; omega) | (refine call_in Ax tab_ok Tryd.func93 (c := _) rfl Tryd.call93 200 ?_) | (refine call_in Ax tab_ok Tryd.func63 (c := _) rfl Tryd.call63 100 ?_) | (refine end_fn [] (.inr rfl) ?_ trivial rfl rfl) | (refine split_nd (fun hb => ?_) (fun hb => ?_)) | (refine split_d (fun hb => ?_) (fun hb => ?_)) | (refine split_n (fun hb => ?_) (fun hb => ?_)) | (refine split_x (fun hb => ?_) (fun hb => ?_)) | (refine And.intro (TraceOK.mk (by kernel_rfl)) ?_) | (refine Side.mk ?_; (repeat' (first | refine And.intro ?_ ?_ | exact inR_i64 (by omega) (by omega) | omega | rfl | exact trivial | exact none_ne rfl | exact some_ne rfl (Nat.ne_of_beq_eq_false rfl) | exact Nat.ne_of_beq_eq_false rfl | (dsimp only [srcSide]; omega) | (simp; done) | (simp; omega))); done) | (refine side_and ?_ ?_) | (refine drawX_of mixed ?_)))
    refine loop_up (fun i : Nat => [(8, .p (.int .i64 i))]) (fun _ => []) (fun i => i ≤ l.length) (fun i => l.length - i) 0 (Nat.zero_le _) ⟨by (repeat' (first | refine EndV.mk ?_ | exact trivial | exact rfl | refine And.intro ?_ ?_)), by (repeat' (first | refine EndV.mk ?_ | exact trivial | exact rfl | refine And.intro ?_ ?_)), rfl, rfl⟩ ?_
    intro i hi K hK
    have hd : List.length (l.getD (i : Int).toNat (Cd.dflt U.str)) = (l.getD i []).length := rfl
    rcases Nat.lt_or_ge i l.length with hlt | hge
    · have h32 := hall i hlt
      (repeat' ((conv => whnf); first | (exfalso; omega) | (refine call_in Ax tab_ok Tryd.func93 (c := _) rfl Tryd.call93 200 ?_) | (refine call_in Ax tab_ok Tryd.func63 (c := _) rfl Tryd.call63 100 ?_) | (refine hK (i + 1) [] _ _ ?_ ?_ ?_) | (refine Back.mk ?_ ?_ rfl rfl <;> (repeat' (first | refine EndV.mk ?_ | exact trivial | exact rfl | refine And.intro ?_ ?_))) | (refine end_fn [] (.inr rfl) ?_ trivial rfl rfl) | (refine split_nd (fun hb => ?_) (fun hb => ?_)) | (refine split_d (fun hb => ?_) (fun hb => ?_)) | (refine split_n (fun hb => ?_) (fun hb => ?_)) | (refine split_x (fun hb => ?_) (fun hb => ?_)) | (refine And.intro (TraceOK.mk (by kernel_rfl)) ?_) | (refine Side.mk ?_; (repeat' (first | refine And.intro ?_ ?_ | exact inR_i64 (by omega) (by omega) | omega | rfl | exact trivial | exact none_ne rfl | exact some_ne rfl (Nat.ne_of_beq_eq_false rfl) | exact Nat.ne_of_beq_eq_false rfl | (dsimp only [srcSide]; omega) | (simp; done) | (simp; omega))); done) | (refine side_and ?_ ?_) | (refine drawX_of mixed ?_)))
    · (repeat' ((conv => whnf); first | (exfalso; omega) | (refine call_in Ax tab_ok Tryd.func93 (c := _) rfl Tryd.call93 200 ?_) | (refine call_in Ax tab_ok Tryd.func63 (c := _) rfl Tryd.call63 100 ?_) | (refine end_fn [] (.inr rfl) ?_ trivial rfl rfl) | (refine split_nd (fun hb => ?_) (fun hb => ?_)) | (refine split_d (fun hb => ?_) (fun hb => ?_)) | (refine split_n (fun hb => ?_) (fun hb => ?_)) | (refine split_x (fun hb => ?_) (fun hb => ?_)) | (refine And.intro (TraceOK.mk (by kernel_rfl)) ?_) | (refine Side.mk ?_; (repeat' (first | refine And.intro ?_ ?_ | exact inR_i64 (by omega) (by omega) | omega | rfl | exact trivial | exact none_ne rfl | exact some_ne rfl (Nat.ne_of_beq_eq_false rfl) | exact Nat.ne_of_beq_eq_false rfl | (dsimp only [srcSide]; omega) | (simp; done) | (simp; omega))); done) | (refine side_and ?_ ?_) | (refine drawX_of mixed ?_)))
      all_goals (repeat' (first | refine EndV.mk ?_ | exact trivial | exact rfl | refine And.intro ?_ ?_))
theorem all_meets (l : List Bs) (hl : l.length ≤ 1000) : Meets Tryd.prog Dc 57 [.p (.dsl U.str l)] [] (.p (.bool (digestsB l))) [] := by
  obtain ⟨k, hk, h1, h2, hm⟩ := index_meets l hl
  rw [show digestsB l = !decide (0 ≤ k) by rw [Bool.eq_iff_iff, ← hk]; simp]
  refine meets_of_gx Ax tab_ok Tryd.func57 (c := _) rfl Tryd.call57 400 ?_
  (repeat' ((conv => whnf); first | (exfalso; omega) | (refine call_in Ax tab_ok Tryd.func94 (c := _) rfl Tryd.call94 200 ?_) | (refine callx_pure (hm) rfl rfl ?_) | (refine dcallx_pure (hm) rfl rfl ?_) | (refine end_fn [] (.inr rfl) ?_ trivial rfl rfl) | (refine split_nd (fun hb => ?_) (fun hb => ?_)) | (refine split_d (fun hb => ?_) (fun hb => ?_)) | (refine split_n (fun hb => ?_) (fun hb => ?_)) | (refine split_x (fun hb => ?_) (fun hb => ?_)) | (refine And.intro (TraceOK.mk (by kernel_rfl)) ?_) | (refine Side.mk ?_; (repeat' (first | refine And.intro ?_ ?_ | exact inR_i64 (by omega) (by omega) | omega | rfl | exact trivial | exact none_ne rfl | exact some_ne rfl (Nat.ne_of_beq_eq_false rfl) | exact Nat.ne_of_beq_eq_false rfl | (dsimp only [srcSide]; omega) | (simp; done) | (simp; omega))); done) | (refine side_and ?_ ?_) | (refine drawX_of mixed ?_)))
  all_goals (repeat' (first | refine EndV.mk ?_ | exact trivial | exact rfl | refine And.intro ?_ ?_))
/-- an empty list, nil or not -/
def takeR (p : List Bs) : SV Cd := .tuple [.p (.str (p.getD (p.length - 1) [])), .p (.dsl U.str (p.take (p.length - 1))), .p (.bool (!(decide (p.length = 0))))]
theorem take_meets (p : List Bs) (hl : p.length ≤ 1000) : Meets Tryd.prog Dc 58 [.p (.dsl U.str p)] [] (takeR p) [] := by
  unfold takeR
  by_cases h0 : p.length = 0
  · obtain rfl := List.eq_nil_of_length_eq_zero h0
    refine meets_of_gx Ax tab_ok Tryd.func58 (c := _) rfl Tryd.call58 400 ?_
    (repeat' ((conv => whnf); first | (exfalso; omega) | (refine end_fn [] (.inr rfl) ?_ trivial rfl rfl) | (refine split_nd (fun hb => ?_) (fun hb => ?_)) | (refine split_d (fun hb => ?_) (fun hb => ?_)) | (refine split_n (fun hb => ?_) (fun hb => ?_)) | (refine split_x (fun hb => ?_) (fun hb => ?_)) | (refine And.intro (TraceOK.mk (by kernel_rfl)) ?_) | (refine Side.mk ?_; (repeat' (first | refine And.intro ?_ ?_ | exact inR_i64 (by omega) (by omega) | omega | rfl | exact trivial | exact none_ne rfl | exact some_ne rfl (Nat.ne_of_beq_eq_false rfl) | exact Nat.ne_of_beq_eq_false rfl | (dsimp only [srcSide]; omega) | (simp; done) | (simp; omega))); done) | (refine side_and ?_ ?_) | (refine drawX_of mixed ?_)))
    all_goals (repeat' (first | refine EndV.mk ?_ | exact trivial | exact rfl | refine And.intro ?_ ?_))
  · rw [decide_eq_false h0]
    have e1 : p.length - 1 = ((p.length : Int) - 1).toNat := by omega
    rw [e1]
    refine meets_of_gx Ax tab_ok Tryd.func58 (c := _) rfl Tryd.call58 400 ?_
    (repeat' ((conv => whnf); first | (exfalso; omega) | (refine end_fn [] (.inr rfl) ?_ trivial rfl rfl) | (refine split_nd (fun hb => ?_) (fun hb => ?_)) | (refine split_d (fun hb => ?_) (fun hb => ?_)) | (refine split_n (fun hb => ?_) (fun hb => ?_)) | (refine split_x (fun hb => ?_) (fun hb => ?_)) | (refine And.intro (TraceOK.mk (by kernel_rfl)) ?_) | (refine Side.mk ?_; (repeat' (first | refine And.intro ?_ ?_ | exact inR_i64 (by omega) (by omega) | omega | rfl | exact trivial | exact none_ne rfl | exact some_ne rfl (Nat.ne_of_beq_eq_false rfl) | exact Nat.ne_of_beq_eq_false rfl | (dsimp only [srcSide]; omega) | (simp; done) | (simp; omega))); done) | (refine side_and ?_ ?_) | (refine drawX_of mixed ?_)))
    all_goals (repeat' (first | refine EndV.mk ?_ | exact trivial | exact rfl | refine And.intro ?_ ?_))
/-- a list whose first and last i elements are swapped -/
def revP (w : List Bs) (i : Nat) : List Bs := (List.range w.length).map fun j => if j < i ∨ w.length - 1 - j < i then w.getD (w.length - 1 - j) [] else w.getD j []
theorem revP_length (w : List Bs) (i : Nat) : (revP w i).length = w.length := by simp [revP]
theorem revP_zero (w : List Bs) : revP w 0 = w := by
  refine List.ext_getElem (by simp [revP]) fun j h1 h2 => ?_
  simp [revP, List.getD_eq_getElem?_getD, List.getElem?_eq_getElem h2]
theorem revP_end (w : List Bs) (i : Nat) (h : w.length - 1 ≤ 2 * i) : revP w i = w.reverse := by
  refine List.ext_getElem (by simp [revP]) fun j h1 h2 => ?_
  have hj : j < w.length := by simpa [revP] using h1
  rw [List.getElem_reverse]
  simp only [revP, List.getElem_map, List.getElem_range, List.getD_eq_getElem?_getD]
  split
  · rw [List.getElem?_eq_getElem (by omega)]; rfl
  · rw [List.getElem?_eq_getElem hj, Option.getD_some]
    congr 1; omega
theorem revP_get (w : List Bs) (i j : Nat) (hj : j < w.length) : (revP w i).getD j [] = if j < i ∨ w.length - 1 - j < i then w.getD (w.length - 1 - j) [] else w.getD j [] := by
  rw [List.getD_eq_getElem?_getD, List.getElem?_eq_getElem (by rw [revP_length]; exact hj), Option.getD_some]
  simp [revP]
theorem revP_step (w : List Bs) (i : Nat) (h : i < w.length - 1 - i) : ((revP w i).set i ((revP w i).getD (w.length - 1 - i) [])).set (w.length - 1 - i) ((revP w i).getD i []) = revP w (i + 1) := by
  rw [revP_get w i i (by omega), revP_get w i (w.length - 1 - i) (by omega), if_neg (by omega), if_neg (by omega)]
  refine List.ext_getElem (by simp [revP]) fun j h1 h2 => ?_
  have hj : j < w.length := by simpa [revP] using h2
  rw [List.getElem_set, List.getElem_set]
  simp only [revP, List.getElem_map, List.getElem_range]
  split
  · rename_i e
    rw [if_pos (by omega)]
    congr 1; omega
  · split
    · rename_i e
      subst e
      rw [if_pos (by omega)]
    · by_cases hc : j < i ∨ w.length - 1 - j < i
      · rw [if_pos hc, if_pos (by omega)]
      · rw [if_neg hc, if_neg (by omega)]
def jS (n : Int) : Nat → Int
  | 0 => n - 1
  | i + 1 => jS n i - 1
theorem jS_eq (n : Int) : ∀ i, jS n i = n - 1 - i
  | 0 => by simp [jS]
  | i + 1 => by rw [jS, jS_eq n i]; omega
theorem reverse_meets (w : List Bs) (hl : w.length ≤ 1000) : Meets Tryd.prog Dc 53 [.slice 0 0 1 0 w.length] [.rows U.str w] (.tuple []) [.rows U.str w.reverse] := by
  have hus : 0 + 1 = Cd.n U.str := rfl
  refine meets_of_gx Ax tab_ok Tryd.func53 (c := _) rfl Tryd.call53 400 ?_
  (repeat' ((conv => whnf); first | (exfalso; omega) | (refine end_fn [] (.inr rfl) ?_ trivial rfl rfl) | (refine split_nd (fun hb => ?_) (fun hb => ?_)) | (refine split_d (fun hb => ?_) (fun hb => ?_)) | (refine split_n (fun hb => ?_) (fun hb => ?_)) | (refine split_x (fun hb => ?_) (fun hb => ?_)) | (refine And.intro (TraceOK.mk (by kernel_rfl)) ?_) | (refine Side.mk ?_; (repeat' (first | refine And.intro ?_ ?_ | exact inR_i64 (by omega) (by omega) | omega | rfl | exact trivial | exact none_ne rfl | exact some_ne rfl (Nat.ne_of_beq_eq_false rfl) | exact Nat.ne_of_beq_eq_false rfl | (dsimp only [srcSide]; omega) | (simp; done) | (simp; omega))); done) | (refine side_and ?_ ?_) | (refine drawX_of mixed ?_)))
  refine loop_up (fun i : Nat => [(2, .p (.int .i64 i)), (3, .p (.int .i64 (jS w.length i)))]) (fun i => [(0, .rows U.str (revP w i))]) (fun i => 2 * i ≤ w.length) (fun i => w.length - i) 0 (Nat.zero_le _) ⟨by (repeat' (first | refine EndV.mk ?_ | exact trivial | exact rfl | refine And.intro ?_ ?_)), by rw [revP_zero]; (repeat' (first | refine EndV.mk ?_ | exact trivial | exact rfl | refine And.intro ?_ ?_)), rfl, rfl⟩ ?_
  intro i hi K hK
  have hrl := revP_length w i
  have hj := jS_eq w.length i
  have hj1 : jS w.length (i + 1) = jS w.length i - 1 := rfl
  rcases Nat.lt_or_ge i (w.length - 1 - i) with hlt | hge
  · have es := revP_step w i hlt
    rw [show w.length - 1 - i = 0 + (jS w.length i).toNat by omega] at es
    have es' : ((revP w i).set (0 + (i : Int).toNat) ((revP w i).getD (0 + (jS w.length i).toNat) (Cd.dflt U.str))).set (0 + (jS w.length i).toNat) ((revP w i).getD (0 + (i : Int).toNat) (Cd.dflt U.str)) = revP w (i + 1) := by rw [← es, Int.toNat_natCast, Nat.zero_add]; rfl
    clear es
    generalize hr : revP w i = r at hrl es' ⊢
    generalize hjj : jS w.length i = j at *
    (repeat' ((conv => whnf); first | (exfalso; omega) | (refine hK (i + 1) [some 0] _ _ ?_ ?_ ?_) | (refine end_fn [] (.inr rfl) ?_ trivial rfl rfl) | (refine split_nd (fun hb => ?_) (fun hb => ?_)) | (refine split_d (fun hb => ?_) (fun hb => ?_)) | (refine split_n (fun hb => ?_) (fun hb => ?_)) | (refine split_x (fun hb => ?_) (fun hb => ?_)) | (refine And.intro (TraceOK.mk (by kernel_rfl)) ?_) | (refine Side.mk ?_; (repeat' (first | refine And.intro ?_ ?_ | exact inR_i64 (by omega) (by omega) | omega | rfl | exact trivial | exact none_ne rfl | exact some_ne rfl (Nat.ne_of_beq_eq_false rfl) | exact Nat.ne_of_beq_eq_false rfl | (dsimp only [srcSide]; omega) | (simp; done) | (simp; omega))); done) | (refine side_and ?_ ?_) | (refine drawX_of mixed ?_)))
    rw [es']
    dsimp only
    rw [hj1]
    (refine Back.mk ?_ ?_ rfl rfl <;> (repeat' (first | refine EndV.mk ?_ | exact trivial | exact rfl | refine And.intro ?_ ?_)))
  · rw [revP_end w i (by omega)] at *
    clear hK
    generalize w.reverse = r at *
    (repeat' ((conv => whnf); first | (exfalso; omega) | (refine end_fn [some 0] (.inl rfl) ?_ ?_ rfl rfl) | (refine end_fn [] (.inr rfl) ?_ trivial rfl rfl) | (refine split_nd (fun hb => ?_) (fun hb => ?_)) | (refine split_d (fun hb => ?_) (fun hb => ?_)) | (refine split_n (fun hb => ?_) (fun hb => ?_)) | (refine split_x (fun hb => ?_) (fun hb => ?_)) | (refine And.intro (TraceOK.mk (by kernel_rfl)) ?_) | (refine Side.mk ?_; (repeat' (first | refine And.intro ?_ ?_ | exact inR_i64 (by omega) (by omega) | omega | rfl | exact trivial | exact none_ne rfl | exact some_ne rfl (Nat.ne_of_beq_eq_false rfl) | exact Nat.ne_of_beq_eq_false rfl | (dsimp only [srcSide]; omega) | (simp; done) | (simp; omega))); done) | (refine side_and ?_ ?_) | (refine drawX_of mixed ?_)))
    all_goals (repeat' (first | refine EndV.mk ?_ | exact trivial | exact rfl | refine And.intro ?_ ?_))
end Go.SX
