/-
  Walks: Dn4, Dn5, Dn1: what single functions of the program compute.
-/
import Derived.Test.YtboldmbaiocjpaaDoorSxDp0
import Derived.Test.YtboldmbaiocjpaaDoorSxDm7
namespace Go.SX
open Go.Proofs
set_option linter.unusedSimpArgs false
set_option linter.unusedVariables false
set_option maxHeartbeats 4000000
set_option maxRecDepth 100000
/-! ### Extensions are accepted, and short -/
theorem leftN_sub {m n : Nat} (h2 : 2 ≤ n) (h1 : leftN n < m) (h3 : m ≤ n) : leftN m = leftN n := by
  have hsp := leftN_spec h2
  have hk : 2 ^ Nat.log2 (n - 1) = leftN n := rfl
  rw [leftN_eq (n := m) (a := Nat.log2 (n - 1)) (by rw [hk]; exact h1) (by rw [Nat.pow_succ, hk]; omega), hk]
theorem rootS_take (l : List Bs) (m : Nat) (h2 : 2 ≤ l.length) (h1 : leftN l.length < m) (h3 : m ≤ l.length) : rootS (l.take m) = nodeH (rootS (l.take (leftN l.length))) (rootS ((l.drop (leftN l.length)).take (m - leftN l.length))) := by
  have hsp := leftN_spec h2
  have hl : (l.take m).length = m := by simp; omega
  rw [rootS_two (l.take m) (by omega), hl, leftN_sub h2 h1 h3, List.take_take, Nat.min_eq_left (by omega), List.drop_take]
theorem both_false (old : Bs) : ∀ (n : Nat) (l : List Bs) (m : Nat), l.length = n → 1 ≤ m → m ≤ n → bothR old (partS l m false).reverse m n false = (rootS (l.take m), rootS l, true) := by
  intro n
  induction n using Nat.strongRecOn with
  | _ n ih =>
    intro l m hl h1 hm
    rcases Nat.lt_or_ge m l.length with h | h
    · have hsp := leftN_spec (n := l.length) (by omega)
      rcases Nat.lt_or_ge (leftN l.length) m with h3 | h3
      · rw [partS_gt l m false h h3, List.reverse_append, List.reverse_singleton, List.singleton_append, bothR_gt old _ _ m n false (by omega) (by rw [← hl]; omega), ← hl]
        rw [ih (l.length - leftN l.length) (by omega) (l.drop (leftN l.length)) (m - leftN l.length) (by simp) (by omega) (by omega)]
        rw [rootS_take l m (by omega) h3 (by omega), rootS_two l (by omega)]
      · rw [partS_lt l m false h1 h h3, List.reverse_append, List.reverse_singleton, List.singleton_append, bothR_lt old _ _ m n false (by omega) (by rw [← hl]; omega), ← hl]
        rw [ih (leftN l.length) (by omega) (l.take (leftN l.length)) m (by simp; omega) h1 h3]
        rw [List.take_take, Nat.min_eq_left h3, rootS_two l (by omega)]
    · obtain rfl : m = n := by omega
      rw [partS_eq l m false h, List.take_of_length_le (by omega)]
      simp [bothR]
theorem both_true : ∀ (n : Nat) (l : List Bs) (m : Nat), l.length = n → 1 ≤ m → m ≤ n → bothR (rootS (l.take m)) (partS l m true).reverse m n true = (rootS (l.take m), rootS l, true) := by
  intro n
  induction n using Nat.strongRecOn with
  | _ n ih =>
    intro l m hl h1 hm
    rcases Nat.lt_or_ge m l.length with h | h
    · have hsp := leftN_spec (n := l.length) (by omega)
      rcases Nat.lt_or_ge (leftN l.length) m with h3 | h3
      · rw [partS_gt l m true h h3, List.reverse_append, List.reverse_singleton, List.singleton_append, bothR_gt _ _ _ m n true (by omega) (by rw [← hl]; omega), ← hl]
        rw [both_false _ (l.length - leftN l.length) (l.drop (leftN l.length)) (m - leftN l.length) (by simp) (by omega) (by omega)]
        rw [rootS_take l m (by omega) h3 (by omega), rootS_two l (by omega)]
      · rw [partS_lt l m true h1 h h3, List.reverse_append, List.reverse_singleton, List.singleton_append, bothR_lt _ _ _ m n true (by omega) (by rw [← hl]; omega), ← hl]
        have := ih (leftN l.length) (by omega) (l.take (leftN l.length)) m (by simp; omega) h1 h3
        rw [List.take_take, Nat.min_eq_left h3] at this
        rw [this, rootS_two l (by omega)]
    · obtain rfl : m = n := by omega
      rw [partS_eq l m true h, List.take_of_length_le (by omega)]
      simp [bothR]
theorem partS_32 : ∀ (n : Nat) (l : List Bs) (m : Nat) (whole : Bool), l.length = n → digestsB (partS l m whole) = true := by
  intro n
  induction n using Nat.strongRecOn with
  | _ n ih =>
    intro l m whole hl
    rcases Nat.lt_or_ge m l.length with h | h
    · rcases Nat.eq_zero_or_pos m with h0 | h0
      · subst h0
        rw [partS, dif_pos (.inr rfl)]
        split <;> simp [digestsB, rootS_length]
      · have hsp := leftN_spec (n := l.length) (by omega)
        rcases Nat.lt_or_ge (leftN l.length) m with h3 | h3
        · rw [partS_gt l m whole h h3]
          have := ih (n - leftN l.length) (by omega) (l.drop (leftN l.length)) (m - leftN l.length) false (by simp; omega)
          unfold digestsB at *
          rw [List.all_append, this]; simp [rootS_length]
        · rw [partS_lt l m whole h0 h h3]
          have := ih (leftN l.length) (by omega) (l.take (leftN l.length)) m whole (by simp; omega)
          unfold digestsB at *
          rw [List.all_append, this]; simp [rootS_length]
    · rw [partS_eq l m whole h]; split <;> simp [digestsB, rootS_length]
theorem partS_short : ∀ (n : Nat) (l : List Bs) (m : Nat) (whole : Bool), l.length = n → 1 ≤ m → m ≤ n → (partS l m whole).length ≤ binS (n - 1) + 1 := by
  intro n
  induction n using Nat.strongRecOn with
  | _ n ih =>
    intro l m whole hl hm1 hmn
    rcases Nat.lt_or_ge m l.length with h | h
    · have hsp := leftN_spec (n := n) (by omega)
      have hb : binS (n - 1) = Nat.log2 (n - 1) + 1 := by unfold binS; rw [if_neg (by omega)]
      have hk : leftN n = 2 ^ Nat.log2 (n - 1) := rfl
      have hlow : ∀ m, 1 ≤ m → m ≤ leftN n → binS (m - 1) ≤ Nat.log2 (n - 1) := by
        intro m h1 h2'
        unfold binS
        split
        · omega
        · rename_i h0
          have := (Nat.log2_lt h0 (k := Nat.log2 (n - 1))).2 (by omega)
          omega
      rcases Nat.lt_or_ge (leftN l.length) m with h3 | h3
      · rw [partS_gt l m whole h h3, hl]
        rw [hl] at h3
        have h1 := ih (n - leftN n) (by omega) (l.drop (leftN n)) (m - leftN n) false (by simp; omega) (by omega) (by omega)
        have := hlow (n - leftN n) (by omega) (by omega)
        simp; omega
      · rw [partS_lt l m whole hm1 h h3, hl]
        rw [hl] at h3
        have h1 := ih (leftN n) (by omega) (l.take (leftN n)) m whole (by simp; omega) (by omega) (by omega)
        have := hlow (leftN n) (by omega) (Nat.le_refl _)
        simp; omega
    · rw [partS_eq l m whole h]; split <;> simp
/-- what Extension returns -/
def extS (l : List Bs) (m : Nat) : List Bs := if m = 0 then [] else partS l m true
theorem extS_32 (l : List Bs) (m : Nat) : digestsB (extS l m) = true := by
  unfold extS
  split
  · rfl
  · exact partS_32 _ l m true rfl
theorem extS_short (l : List Bs) (m : Nat) (h : m ≤ l.length) : (extS l m).length ≤ 2 * binS l.length ∧ (extS l m).length ≤ l.length := by
  unfold extS
  split
  · simp
  · have h1 := partS_short l.length l m true rfl (by omega) h
    have h2 := binS_mono (l.length - 1) l.length (by omega)
    have h3 : 1 ≤ binS l.length := by unfold binS; rw [if_neg (by omega)]; omega
    have h4 := partS_length l.length l m true rfl (by omega)
    omega
theorem verX_ext (l : List Bs) (m : Nat) (h : m ≤ l.length) : verXB (rootS (l.take m)) m (rootS l) l.length (extS l m) = true := by
  unfold verXB
  rw [decide_eq_false (by omega), decide_eq_false (p := (m : Int) > l.length) (by omega), extS_32, rootS_length, rootS_length]
  by_cases h0 : m = 0
  · subst h0
    simp [extS, rootS_nil]
  · rw [if_neg (by omega)]
    by_cases h1 : m = l.length
    · rw [if_pos (by omega)]
      unfold extS
      rw [if_neg h0, partS_eq l m true (by omega), List.take_of_length_le (by omega)]
      simp
    · rw [if_neg (by omega)]
      unfold extS
      rw [if_neg h0, Int.toNat_natCast, Int.toNat_natCast, both_true l.length l m rfl (by omega) h]
      simp
theorem verX_outside (old root : Bs) (m n : Int) (p : List Bs) (h : ¬ (0 ≤ m ∧ m ≤ n)) : verXB old m root n p = false := by
  unfold verXB
  by_cases h0 : m < 0
  · rw [decide_eq_true h0]; simp
  · rw [decide_eq_true (p := m > n) (by omega)]; simp
end Go.SX

namespace Go.SX
open Go.Proofs
set_option linter.unusedSimpArgs false
set_option linter.unusedVariables false
set_option maxHeartbeats 4000000
set_option maxRecDepth 100000
theorem extM2 (l : List Bs) (m : Int) (hi : -9223372036854775808 ≤ m) (hi2 : m < 9223372036854775808) (hl : l.length ≤ 900) (hS : Short l) :
    Meets Tryd.prog Dc 18 [.p (.dsl U.str l), .p (.int .i64 m)] [] (if 0 ≤ m ∧ m ≤ l.length then .tuple [.p (.dsl U.str (extS l m.toNat)), .p (.int .i64 0)] else .tuple [.p (.dsl U.str []), .p (.int .i64 2)]) [] := by
  have h := extM l m hi hi2 hl hS
  split
  · rename_i hin
    rw [if_pos hin] at h
    have e : (if m = 0 then [] else partS l m.toNat true) = extS l m.toNat := by
      unfold extS
      by_cases h0 : m = 0
      · rw [if_pos h0, if_pos (by omega)]
      · rw [if_neg h0, if_neg (by omega)]
    rw [e] at h
    exact h
  · rename_i hin
    rw [if_neg hin] at h
    exact h
theorem extacc_walk (l : List Bs) (m : Int) (hi : -9223372036854775808 ≤ m) (hi2 : m < 9223372036854775808) :
    Meets Tryd.prog Dc 6 [.p (.dsl U.str l), .p (.int .i64 m)] [] (.p (.bool true)) [] := by
  have hf := few_meets l 25 (by omega)
  have hS := fewS_short l 25
  have hL := fewS_length l 25
  generalize fewS l 25 = w at *
  have hsane := sane_meets
  have c5 := rootM w (by omega) hS
  have hrl := rootS_length w
  refine meets_of_gx Ax tab_ok Tryd.func6 (c := _) rfl Tryd.call6 600 ?_
  (repeat' ((conv => whnf); first | (exfalso; omega) | (refine callx_pure (hsane) rfl rfl ?_) | (refine dcallx_pure (hsane) rfl rfl ?_) | (refine callx_pure (hf) rfl rfl ?_) | (refine dcallx_pure (hf) rfl rfl ?_) | (refine callx_pure (c5) rfl rfl ?_) | (refine dcallx_pure (c5) rfl rfl ?_) | (refine end_fn [] (.inr rfl) ?_ trivial rfl rfl) | (refine split_nd (fun hb => ?_) (fun hb => ?_)) | (refine split_d (fun hb => ?_) (fun hb => ?_)) | (refine split_n (fun hb => ?_) (fun hb => ?_)) | (refine split_x (fun hb => ?_) (fun hb => ?_)) | (refine And.intro (TraceOK.mk (by kernel_rfl)) ?_) | (refine Side.mk ?_; (repeat' (first | refine And.intro ?_ ?_ | exact inR_i64 (by omega) (by omega) | omega | rfl | exact trivial | exact none_ne rfl | exact some_ne rfl (Nat.ne_of_beq_eq_false rfl) | exact Nat.ne_of_beq_eq_false rfl | (dsimp only [srcSide]; omega) | (simp; done) | (simp; omega))); done) | (refine side_and ?_ ?_) | (refine drawX_of mixed ?_)))
  refine loop_up (fun k : Nat => [(7, .p (.int .i64 k))]) (fun _ => []) (fun k => k ≤ w.length + 1) (fun k => w.length + 1 - k) 0 (Nat.zero_le _) ⟨by (repeat' (first | refine EndV.mk ?_ | exact trivial | exact rfl | refine And.intro ?_ ?_)), by (repeat' (first | refine EndV.mk ?_ | exact trivial | exact rfl | refine And.intro ?_ ?_)), rfl, rfl⟩ ?_
  intro k hk K hK
  have cb := binary_meets w.length (by omega)
  have hb2 : binS w.length ≤ 20 := by
    unfold binS
    split
    · omega
    · rename_i h
      have := (Nat.log2_lt h (k := 20)).2 (by omega)
      omega
  rcases Nat.lt_or_ge w.length k with hge | hlt
  · clear hK
    have c1 := extM2 w m hi hi2 (by omega) hS
    by_cases hin : 0 ≤ m ∧ m ≤ w.length
    · rw [if_pos hin] at c1
      have hx : decide (m ≤ (w.length : Int)) = decide ((0 : Int) = 0) := by rw [decide_eq_true (by omega)]; rfl
      generalize extS w m.toNat = p at *
      generalize rootS w = rt at *
      (repeat' ((conv => whnf); first | (exfalso; omega) | (exact absurd hx hb) | (refine callx_pure (c1) rfl rfl ?_) | (refine dcallx_pure (c1) rfl rfl ?_) | (refine end_fn [] (.inr rfl) ?_ trivial rfl rfl) | (refine split_nd (fun hb => ?_) (fun hb => ?_)) | (refine split_d (fun hb => ?_) (fun hb => ?_)) | (refine split_n (fun hb => ?_) (fun hb => ?_)) | (refine split_x (fun hb => ?_) (fun hb => ?_)) | (refine And.intro (TraceOK.mk (by kernel_rfl)) ?_) | (refine Side.mk ?_; (repeat' (first | refine And.intro ?_ ?_ | exact inR_i64 (by omega) (by omega) | omega | rfl | exact trivial | exact none_ne rfl | exact some_ne rfl (Nat.ne_of_beq_eq_false rfl) | exact Nat.ne_of_beq_eq_false rfl | (dsimp only [srcSide]; omega) | (simp; done) | (simp; omega))); done) | (refine side_and ?_ ?_) | (refine drawX_of mixed ?_)))
      all_goals (repeat' (first | refine EndV.mk ?_ | exact trivial | exact rfl | refine And.intro ?_ ?_))
    · rw [if_neg hin] at c1
      have c2 := verX_meets (rootS w) m (rootS w) w.length (by omega) hi [] (by simp) (fun s hs => by simp at hs)
      rw [verX_outside _ _ _ _ _ hin] at c2
      generalize rootS w = rt at *
      by_cases h0 : 0 ≤ m
      · have hx : decide (m ≤ (w.length : Int)) = decide ((2 : Int) = 0) := by rw [decide_eq_false (by omega)]; rfl
        (repeat' ((conv => whnf); first | (exfalso; omega) | (exact absurd hx hb) | (refine callx_pure (c1) rfl rfl ?_) | (refine dcallx_pure (c1) rfl rfl ?_) | (refine callx_pure (c2) rfl rfl ?_) | (refine dcallx_pure (c2) rfl rfl ?_) | (refine end_fn [] (.inr rfl) ?_ trivial rfl rfl) | (refine split_nd (fun hb => ?_) (fun hb => ?_)) | (refine split_d (fun hb => ?_) (fun hb => ?_)) | (refine split_n (fun hb => ?_) (fun hb => ?_)) | (refine split_x (fun hb => ?_) (fun hb => ?_)) | (refine And.intro (TraceOK.mk (by kernel_rfl)) ?_) | (refine Side.mk ?_; (repeat' (first | refine And.intro ?_ ?_ | exact inR_i64 (by omega) (by omega) | omega | rfl | exact trivial | exact none_ne rfl | exact some_ne rfl (Nat.ne_of_beq_eq_false rfl) | exact Nat.ne_of_beq_eq_false rfl | (dsimp only [srcSide]; omega) | (simp; done) | (simp; omega))); done) | (refine side_and ?_ ?_) | (refine drawX_of mixed ?_)))
        all_goals (repeat' (first | refine EndV.mk ?_ | exact trivial | exact rfl | refine And.intro ?_ ?_))
      · (repeat' ((conv => whnf); first | (exfalso; omega) | (refine callx_pure (c1) rfl rfl ?_) | (refine dcallx_pure (c1) rfl rfl ?_) | (refine callx_pure (c2) rfl rfl ?_) | (refine dcallx_pure (c2) rfl rfl ?_) | (refine end_fn [] (.inr rfl) ?_ trivial rfl rfl) | (refine split_nd (fun hb => ?_) (fun hb => ?_)) | (refine split_d (fun hb => ?_) (fun hb => ?_)) | (refine split_n (fun hb => ?_) (fun hb => ?_)) | (refine split_x (fun hb => ?_) (fun hb => ?_)) | (refine And.intro (TraceOK.mk (by kernel_rfl)) ?_) | (refine Side.mk ?_; (repeat' (first | refine And.intro ?_ ?_ | exact inR_i64 (by omega) (by omega) | omega | rfl | exact trivial | exact none_ne rfl | exact some_ne rfl (Nat.ne_of_beq_eq_false rfl) | exact Nat.ne_of_beq_eq_false rfl | (dsimp only [srcSide]; omega) | (simp; done) | (simp; omega))); done) | (refine side_and ?_ ?_) | (refine drawX_of mixed ?_)))
        all_goals (repeat' (first | refine EndV.mk ?_ | exact trivial | exact rfl | refine And.intro ?_ ?_))
  · have c1 := extM2 w k (by omega) (by omega) (by omega) hS
    rw [if_pos (by omega), Int.toNat_natCast] at c1
    have hp := verX_ext w k hlt
    have hpl := extS_short w k hlt
    have hdg := short_of_digests (extS_32 w k)
    have c3 := rootM (w.take k) (by simp; omega) (hS.take k)
    have c2 := verX_meets (rootS (w.take k)) k (rootS w) w.length (by omega) (by omega) (extS w k) (by omega) hdg
    rw [hp] at c2
    clear hp
    generalize extS w k = p at *
    generalize rootS (w.take k) = rk at *
    generalize rootS w = rt at *
    generalize binS w.length = bl at *
    (repeat' ((conv => whnf); first | (exfalso; omega) | (refine callx_pure (c1) rfl rfl ?_) | (refine dcallx_pure (c1) rfl rfl ?_) | (refine callx_pure (cb) rfl rfl ?_) | (refine dcallx_pure (cb) rfl rfl ?_) | (refine callx_pure (c2) rfl rfl ?_) | (refine dcallx_pure (c2) rfl rfl ?_) | (refine callx_pure (c3) rfl rfl ?_) | (refine dcallx_pure (c3) rfl rfl ?_) | (refine hK (k + 1) [] _ _ ?_ ?_ ?_) | (refine Back.mk ?_ ?_ rfl rfl <;> (repeat' (first | refine EndV.mk ?_ | exact trivial | exact rfl | refine And.intro ?_ ?_))) | (refine end_fn [] (.inr rfl) ?_ trivial rfl rfl) | (refine split_nd (fun hb => ?_) (fun hb => ?_)) | (refine split_d (fun hb => ?_) (fun hb => ?_)) | (refine split_n (fun hb => ?_) (fun hb => ?_)) | (refine split_x (fun hb => ?_) (fun hb => ?_)) | (refine And.intro (TraceOK.mk (by kernel_rfl)) ?_) | (refine Side.mk ?_; (repeat' (first | refine And.intro ?_ ?_ | exact inR_i64 (by omega) (by omega) | omega | rfl | exact trivial | exact none_ne rfl | exact some_ne rfl (Nat.ne_of_beq_eq_false rfl) | exact Nat.ne_of_beq_eq_false rfl | (dsimp only [srcSide]; omega) | (simp; done) | (simp; omega))); done) | (refine side_and ?_ ?_) | (refine drawX_of mixed ?_)))
end Go.SX

namespace Go.SX
open Go.Proofs
set_option linter.unusedSimpArgs false
set_option linter.unusedVariables false
set_option maxHeartbeats 4000000
set_option maxRecDepth 100000
theorem cut_eq (s : Bs) : List.drop (Int.toNat 0) (List.take (min ((List.length s : Nat) : Int) 60).toNat s) = s.take 60 := by
  show List.take (min ((List.length s : Nat) : Int) 60).toNat s = _
  rcases Nat.lt_or_ge s.length 60 with h | h
  · rw [show (min ((s.length : Nat) : Int) 60).toNat = s.length by omega, List.take_length, List.take_of_length_le (by omega)]
  · rw [show (min ((s.length : Nat) : Int) 60).toNat = 60 by omega]
theorem verify_walk (old root : Bs) (n i : Int) (s : Bs) (proof : List Bs) (hn : -9223372036854775808 ≤ n) (hn2 : n < 9223372036854775808) (hi : -9223372036854775808 ≤ i) (hi2 : i < 9223372036854775808) (hs : (s.length : Int) ≤ 9223372036854775807) :
    Meets Tryd.prog Dc 4 [.p (.str old), .p (.str root), .p (.int .i64 n), .p (.int .i64 i), .p (.str s), .p (.dsl U.str proof)] [] (.p (.bool true)) [] := by
  have hf := few_meets proof 70 (by omega)
  have hS := fewS_short proof 70
  have hL := fewS_length proof 70
  generalize fewS proof 70 = w at *
  have hsane := sane_meets
  have hsl : (s.take 60).length ≤ 100 := by simp; omega
  have c1 := verify_meets root n i hn2 hi (s.take 60) hsl w (by omega) hS
  have c2 := refVerify_meets root n i hn2 hi (s.take 60) hsl w (by omega) hS
  have c3 := verX_meets old i root n hn2 hi w (by omega) hS
  have c4 := refVerX_meets old i root n hn2 hi w (by omega) hS
  rw [← cut_eq s] at c1 c2
  generalize verB root n i (List.drop (Int.toNat 0) (List.take (min ((List.length s : Nat) : Int) 60).toNat s)) w = b1 at *
  generalize verXB old i root n w = b2 at *
  refine meets_of_gx Ax tab_ok Tryd.func4 (c := _) rfl Tryd.call4 400 ?_
  (repeat' ((conv => whnf); first | (exfalso; omega) | (refine callx_pure (hsane) rfl rfl ?_) | (refine dcallx_pure (hsane) rfl rfl ?_) | (refine callx_pure (hf) rfl rfl ?_) | (refine dcallx_pure (hf) rfl rfl ?_) | (refine callx_pure (c1) rfl rfl ?_) | (refine dcallx_pure (c1) rfl rfl ?_) | (refine callx_pure (c2) rfl rfl ?_) | (refine dcallx_pure (c2) rfl rfl ?_) | (refine callx_pure (c3) rfl rfl ?_) | (refine dcallx_pure (c3) rfl rfl ?_) | (refine callx_pure (c4) rfl rfl ?_) | (refine dcallx_pure (c4) rfl rfl ?_) | (exact absurd rfl hb) | (refine end_fn [] (.inr rfl) ?_ trivial rfl rfl) | (refine split_nd (fun hb => ?_) (fun hb => ?_)) | (refine split_d (fun hb => ?_) (fun hb => ?_)) | (refine split_n (fun hb => ?_) (fun hb => ?_)) | (refine split_x (fun hb => ?_) (fun hb => ?_)) | (refine And.intro (TraceOK.mk (by kernel_rfl)) ?_) | (refine Side.mk ?_; (repeat' (first | refine And.intro ?_ ?_ | exact inR_i64 (by omega) (by omega) | omega | rfl | exact trivial | exact none_ne rfl | exact some_ne rfl (Nat.ne_of_beq_eq_false rfl) | exact Nat.ne_of_beq_eq_false rfl | (dsimp only [srcSide]; omega) | (simp; done) | (simp; omega))); done) | (refine side_and ?_ ?_) | (refine drawX_of mixed ?_)))
  all_goals (repeat' (first | refine EndV.mk ?_ | exact trivial | exact rfl | refine And.intro ?_ ?_))
  all_goals ((conv => whnf); simp)
end Go.SX
