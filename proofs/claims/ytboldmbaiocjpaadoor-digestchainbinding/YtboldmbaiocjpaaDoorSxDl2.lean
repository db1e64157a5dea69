/-
  Walks: Dl2, Dl3, Dl4: what single functions of the program compute.
-/
import Derived.Test.YtboldmbaiocjpaaDoorSxDk9
namespace Go.SX
open Go.Proofs
set_option linter.unusedSimpArgs false
set_option linter.unusedVariables false
set_option maxHeartbeats 4000000
set_option maxRecDepth 100000
def fewS (l : List (List UInt8)) (n : Nat) : List (List UInt8) := (l.take n).map fun s => s.take 60
theorem few_meets (l : List (List UInt8)) (n : Nat) (hn : n ≤ 1000) : Meets Tryd.prog Dc 15 [.p (.dsl U.str l), .p (.int .i64 (n : Int))] [] (.p (.dsl U.str (fewS l n))) [] := by
  have hus : 0 + 1 = Cd.n U.str := rfl
  refine meets_of_gx Ax tab_ok Tryd.func15 (c := _) rfl Tryd.call15 400 ?_
  refine loop_inv (fun i : Nat => [(6, .p (.int .i64 i)), (5, .slice 0 0 1 0 i)]) (fun i => [.rows U.str (fewS l i)]) (fun i => i ≤ l.length ∧ i ≤ n) (fun i => l.length - i) 0 ⟨Nat.zero_le _, Nat.zero_le _⟩ [none] ⟨by (repeat' (first | refine EndV.mk ?_ | exact trivial | exact rfl | refine And.intro ?_ ?_)), by (repeat' (first | refine EndV.mk ?_ | exact trivial | exact rfl | refine And.intro ?_ ?_)); exact ⟨_, rfl⟩, rfl, rfl⟩ ?_
  rintro i ⟨hi, hin⟩ K hK
  have hlen : (fewS l i).length = i := by simp [fewS]; omega
  rcases Nat.lt_or_ge i (min l.length n) with hlt | hge
  · have hl1 : (fewS l (i + 1)).length = i + 1 := by simp [fewS]; omega
    have hsu : fewS l (i + 1) = fewS l i ++ [(l.getD i []).take 60] := by
      unfold fewS
      rw [List.take_add_one, List.map_append, List.getD_eq_getElem?_getD, List.getElem?_eq_getElem (by omega)]
      rfl
    generalize fewS l i = w at hlen hsu ⊢
    have es : List.take i w ++ List.take 1 (List.drop 0 [List.drop (Int.toNat 0) (List.take (min ((List.length (l.getD (i : Int).toNat (Cd.dflt U.str)) : Nat) : Int) 60).toNat (l.getD (i : Int).toNat (Cd.dflt U.str)))]) = fewS l (i + 1) := by
      rw [List.take_of_length_le (by omega), hsu]
      show w ++ [List.take (min (((l.getD i []).length : Nat) : Int) 60).toNat (l.getD i [])] = _
      generalize l.getD i [] = s
      congr 2
      rcases Nat.lt_or_ge s.length 60 with h | h
      · rw [show (min ((s.length : Nat) : Int) 60).toNat = s.length by omega, List.take_length, List.take_of_length_le (by omega)]
      · rw [show (min ((s.length : Nat) : Int) 60).toNat = 60 by omega]
    (repeat' ((conv => whnf); first | (exfalso; omega) | (refine hK (i + 1) [some 2] _ _ ?_ ?_ ?_) | (refine end_fn [] (.inr rfl) ?_ trivial rfl rfl) | (refine split_nd (fun hb => ?_) (fun hb => ?_)) | (refine split_d (fun hb => ?_) (fun hb => ?_)) | (refine split_n (fun hb => ?_) (fun hb => ?_)) | (refine split_x (fun hb => ?_) (fun hb => ?_)) | (refine And.intro (TraceOK.mk (by kernel_rfl)) ?_) | (refine Side.mk ?_; (repeat' (first | refine And.intro ?_ ?_ | exact inR_i64 (by omega) (by omega) | omega | rfl | exact trivial | exact none_ne rfl | exact some_ne rfl (Nat.ne_of_beq_eq_false rfl) | exact Nat.ne_of_beq_eq_false rfl | (dsimp only [srcSide]; omega) | (simp; done) | (simp; omega))); done) | (refine side_and ?_ ?_) | (refine drawX_of mixed ?_)))
    all_goals first | (rw [es, hl1]; dsimp only; generalize fewS l (i + 1) = w1; (refine Back.mk ?_ ?_ rfl rfl <;> (repeat' (first | refine EndV.mk ?_ | exact trivial | exact rfl | refine And.intro ?_ ?_)))) | (refine Side.mk ?_; (repeat' (first | refine And.intro ?_ ?_ | exact inR_i64 (by omega) (by omega) | omega | rfl | exact trivial | exact none_ne rfl | exact some_ne rfl (Nat.ne_of_beq_eq_false rfl) | exact Nat.ne_of_beq_eq_false rfl | (dsimp only [srcSide]; omega) | (simp; done) | (simp; omega))); done)
  · have he : fewS l n = fewS l i := by
      unfold fewS
      congr 1
      rcases Nat.lt_or_ge i l.length with h | h
      · rw [show i = n by omega]
      · rw [List.take_of_length_le (by omega), List.take_of_length_le (by omega)]
    rw [he]
    clear hK
    generalize fewS l i = w at hlen ⊢
    (repeat' ((conv => whnf); first | (exfalso; omega) | (refine end_fn [] (.inr rfl) ?_ trivial rfl rfl) | (refine split_nd (fun hb => ?_) (fun hb => ?_)) | (refine split_d (fun hb => ?_) (fun hb => ?_)) | (refine split_n (fun hb => ?_) (fun hb => ?_)) | (refine split_x (fun hb => ?_) (fun hb => ?_)) | (refine And.intro (TraceOK.mk (by kernel_rfl)) ?_) | (refine Side.mk ?_; (repeat' (first | refine And.intro ?_ ?_ | exact inR_i64 (by omega) (by omega) | omega | rfl | exact trivial | exact none_ne rfl | exact some_ne rfl (Nat.ne_of_beq_eq_false rfl) | exact Nat.ne_of_beq_eq_false rfl | (dsimp only [srcSide]; omega) | (simp; done) | (simp; omega))); done) | (refine side_and ?_ ?_) | (refine drawX_of mixed ?_)))
    all_goals ((repeat' (first | refine EndV.mk ?_ | exact trivial | exact rfl | refine And.intro ?_ ?_)); exact ⟨_, rfl, rfl, rfl, by omega, by rw [List.drop_zero, List.take_of_length_le (by omega)], rfl⟩)
end Go.SX

namespace Go.SX
open Go.Proofs
set_option linter.unusedSimpArgs false
set_option linter.unusedVariables false
set_option maxHeartbeats 4000000
set_option maxRecDepth 100000
/-- the greatest power of two below n (n at least 2) -/
def leftN (n : Nat) : Nat := 2 ^ Nat.log2 (n - 1)
theorem refLeft_meets (n : Nat) (h2 : 2 ≤ n) (hn : n < 9223372036854775808) : Meets Tryd.prog Dc 54 [.p (.int .i64 (n : Int))] [] (.p (.int .i64 (leftN n : Int))) [] := by
  refine meets_of_gx Ax tab_ok Tryd.func54 (c := _) rfl Tryd.call54 200 ?_
  refine loop_inv (fun j : Nat => [(3, .p (.int .i64 ((2 ^ j : Nat) : Int)))]) (fun _ => []) (fun j => 2 ^ j < n) (fun j => n - 2 ^ j) 0 (by omega) [] ⟨by (repeat' (first | refine EndV.mk ?_ | exact trivial | exact rfl | refine And.intro ?_ ?_)), by (repeat' (first | refine EndV.mk ?_ | exact trivial | exact rfl | refine And.intro ?_ ?_)), rfl, rfl⟩ ?_
  intro j hj K hK
  have hp : 2 ^ (j + 1) = 2 * 2 ^ j := by rw [Nat.pow_succ]; omega
  have hpos : 0 < 2 ^ j := Nat.pos_of_ne_zero (by simp)
  rcases Nat.lt_or_ge (2 ^ (j + 1)) n with hlt | hge
  · have e2 : 2 * ((2 ^ j : Nat) : Int) = ((2 ^ (j + 1) : Nat) : Int) := by omega
    (repeat' ((conv => whnf); first | (exfalso; omega) | (rw [e2]) | (refine hK (j + 1) [] _ _ ?_ ?_ ?_) | (refine Back.mk ?_ ?_ rfl rfl <;> (repeat' (first | refine EndV.mk ?_ | exact trivial | exact rfl | refine And.intro ?_ ?_))) | (refine end_fn [] (.inr rfl) ?_ trivial rfl rfl) | (refine split_nd (fun hb => ?_) (fun hb => ?_)) | (refine split_d (fun hb => ?_) (fun hb => ?_)) | (refine split_n (fun hb => ?_) (fun hb => ?_)) | (refine split_x (fun hb => ?_) (fun hb => ?_)) | (refine And.intro (TraceOK.mk (by kernel_rfl)) ?_) | (refine Side.mk ?_; (repeat' (first | refine And.intro ?_ ?_ | exact inR_i64 (by omega) (by omega) | omega | rfl | exact trivial | exact none_ne rfl | exact some_ne rfl (Nat.ne_of_beq_eq_false rfl) | exact Nat.ne_of_beq_eq_false rfl | (dsimp only [srcSide]; omega) | (simp; done) | (simp; omega))); done) | (refine side_and ?_ ?_) | (refine drawX_of mixed ?_)))
  · have hl : leftN n = 2 ^ j := by
      unfold leftN
      congr 1
      exact (Nat.log2_eq_iff (by omega)).2 ⟨by omega, by omega⟩
    rw [hl]
    generalize 2 ^ j = p at *
    (repeat' ((conv => whnf); first | (exfalso; omega) | (refine end_fn [] (.inr rfl) ?_ trivial rfl rfl) | (refine split_nd (fun hb => ?_) (fun hb => ?_)) | (refine split_d (fun hb => ?_) (fun hb => ?_)) | (refine split_n (fun hb => ?_) (fun hb => ?_)) | (refine split_x (fun hb => ?_) (fun hb => ?_)) | (refine And.intro (TraceOK.mk (by kernel_rfl)) ?_) | (refine Side.mk ?_; (repeat' (first | refine And.intro ?_ ?_ | exact inR_i64 (by omega) (by omega) | omega | rfl | exact trivial | exact none_ne rfl | exact some_ne rfl (Nat.ne_of_beq_eq_false rfl) | exact Nat.ne_of_beq_eq_false rfl | (dsimp only [srcSide]; omega) | (simp; done) | (simp; omega))); done) | (refine side_and ?_ ?_) | (refine drawX_of mixed ?_)))
    all_goals (repeat' (first | refine EndV.mk ?_ | exact trivial | exact rfl | refine And.intro ?_ ?_))
end Go.SX

namespace Go.SX
set_option linter.unusedSimpArgs false
set_option linter.unusedVariables false
/-! ### Leaves, nodes, roots -/
abbrev Bs := List UInt8
def leafH (s : Bs) : Bs := sumB (0 :: s)
def nodeH (a b : Bs) : Bs := sumB (1 :: (a ++ b))
theorem sumB_length (l : Bs) : (sumB l).length = 32 := by simp [sumB, digS, digL_length]
theorem leafH_length (s : Bs) : (leafH s).length = 32 := sumB_length _
theorem nodeH_length (a b : Bs) : (nodeH a b).length = 32 := sumB_length _
theorem leftN_eq {n a : Nat} (h1 : 2 ^ a < n) (h2 : n ≤ 2 ^ (a + 1)) : leftN n = 2 ^ a := by
  unfold leftN
  have h0 : 0 < 2 ^ a := Nat.pos_of_ne_zero (by simp)
  congr 1
  exact (Nat.log2_eq_iff (by omega)).2 ⟨by omega, by omega⟩
theorem leftN_spec {n : Nat} (h : 2 ≤ n) : 1 ≤ leftN n ∧ leftN n < n ∧ n ≤ 2 * leftN n := by
  unfold leftN
  have h0 : n - 1 ≠ 0 := by omega
  have h1 := Nat.log2_self_le h0
  have h2 := Nat.lt_log2_self (n := n - 1)
  have h3 : 0 < 2 ^ (n - 1).log2 := Nat.pos_of_ne_zero (by simp)
  rw [Nat.pow_succ] at h2
  omega
/-- the root of a list of strings -/
def rootS (l : List Bs) : Bs :=
  if h0 : l.length = 0 then sumB [] else
  if h1 : l.length = 1 then leafH (l.getD 0 []) else
    nodeH (rootS (l.take (leftN l.length))) (rootS (l.drop (leftN l.length)))
termination_by l.length
decreasing_by
  · have := leftN_spec (n := l.length) (by omega); simp; omega
  · have := leftN_spec (n := l.length) (by omega); simp; omega
theorem rootS_nil : rootS [] = sumB [] := by rw [rootS]; simp
theorem rootS_one (s : Bs) : rootS [s] = leafH s := by rw [rootS]; simp
theorem rootS_two (l : List Bs) (h : 2 ≤ l.length) : rootS l = nodeH (rootS (l.take (leftN l.length))) (rootS (l.drop (leftN l.length))) := by
  rw [rootS, dif_neg (by omega), dif_neg (by omega)]
theorem rootS_length (l : List Bs) : (rootS l).length = 32 := by
  rw [rootS]
  split
  · exact sumB_length _
  · split
    · exact leafH_length _
    · exact nodeH_length _ _
theorem rootS_append (t1 t : List Bs) (a : Nat) (h1 : t1.length = 2 ^ a) (h2 : 1 ≤ t.length) (h3 : t.length ≤ 2 ^ a) : rootS (t1 ++ t) = nodeH (rootS t1) (rootS t) := by
  have h0 : 0 < 2 ^ a := Nat.pos_of_ne_zero (by simp)
  have hl : leftN (t1 ++ t).length = t1.length := by
    rw [h1]; refine leftN_eq ?_ ?_
    · simp; omega
    · rw [Nat.pow_succ]; simp; omega
  rw [rootS_two _ (by simp; omega), hl, List.take_left, List.drop_left]
/-! ### The binary counter -/
def pushC : Nat → Bs → List (Nat × Bs) → List (Nat × Bs)
  | n, x, [] => [(n, x)]
  | n, x, (m, y) :: st => if m = n then pushC (2 * n) (nodeH y x) st else (n, x) :: (m, y) :: st
def stackC (l : List Bs) : List (Nat × Bs) := l.foldl (fun st s => pushC 1 (leafH s) st) []
def foldC (st : List (Nat × Bs)) (x : Bs) : Bs := st.foldl (fun out p => nodeH p.2 out) x
/-- the parts of a list: their sizes, which are powers of two, and their roots, the last one first -/
def Dec : List (Nat × Bs) → List Bs → Prop
  | [], l => l = []
  | (n, x) :: st, l => ∃ l0 t a, l = l0 ++ t ∧ n = 2 ^ a ∧ t.length = n ∧ x = rootS t ∧ Dec st l0 ∧ ∀ p ∈ st, 2 * n ≤ p.1
theorem pow_step {a b : Nat} (h : 2 ^ a ≤ 2 ^ b) (hn : 2 ^ b ≠ 2 ^ a) : 2 * 2 ^ a ≤ 2 ^ b := by
  have h1 : a ≤ b := (Nat.pow_le_pow_iff_right (by decide)).1 h
  have h2 : a ≠ b := fun e => hn (by rw [e])
  have h3 : 2 ^ (a + 1) ≤ 2 ^ b := Nat.pow_le_pow_right (by decide) (by omega)
  rw [Nat.pow_succ] at h3; omega
theorem dec_push : ∀ (st : List (Nat × Bs)) (l0 t : List Bs) (a : Nat), Dec st l0 → t.length = 2 ^ a → (∀ p ∈ st, 2 ^ a ≤ p.1) → Dec (pushC (2 ^ a) (rootS t) st) (l0 ++ t)
  | [], l0, t, a, h, ht, _ => by
    simp only [Dec] at h
    subst h
    exact ⟨[], t, a, rfl, rfl, ht, rfl, rfl, fun p hp => by simp at hp⟩
  | (m, y) :: st, l0, t, a, h, ht, hle => by
    have h0 : 0 < 2 ^ a := Nat.pos_of_ne_zero (by simp)
    have h' := h
    obtain ⟨l1, t1, b, rfl, rfl, ht1, rfl, hd, hst⟩ := h
    unfold pushC
    split
    · rename_i e
      have := dec_push st l1 (t1 ++ t) (a + 1) hd (by rw [Nat.pow_succ]; simp; omega) (fun p hp => by have := hst p hp; rw [Nat.pow_succ]; omega)
      rw [rootS_append t1 t a (by omega) (by omega) (by omega), Nat.pow_succ, Nat.mul_comm] at this
      rw [List.append_assoc]
      exact this
    · rename_i e
      have hb := hle (2 ^ b, rootS t1) (by simp)
      have hs := pow_step hb e
      refine ⟨_, t, a, rfl, rfl, ht, rfl, h', fun p hp => ?_⟩
      simp only [List.mem_cons] at hp
      rcases hp with rfl | hp
      · exact hs
      · have := hst p hp; omega
theorem dec_pos : ∀ (st : List (Nat × Bs)) (l : List Bs), Dec st l → ∀ p ∈ st, 1 ≤ p.1
  | [], l, _ => fun p hp => by simp at hp
  | (n, x) :: st, l, h => fun p hp => by
    obtain ⟨l0, t, a, rfl, rfl, ht, rfl, hd, hst⟩ := h
    simp only [List.mem_cons] at hp
    rcases hp with rfl | hp
    · exact Nat.pos_of_ne_zero (by simp)
    · exact dec_pos st _ hd p hp
theorem stackC_snoc (l : List Bs) (s : Bs) : stackC (l ++ [s]) = pushC 1 (leafH s) (stackC l) := by simp [stackC]
theorem dec_stack (l : List Bs) : Dec (stackC l) l := by
  suffices h : ∀ n (l : List Bs), l.length = n → Dec (stackC l) l from h _ l rfl
  intro n
  induction n with
  | zero => intro l h; obtain rfl := List.eq_nil_of_length_eq_zero h; rfl
  | succ n ih =>
    intro l h
    obtain ⟨m, s, rfl⟩ : ∃ m s, l = m ++ [s] := ⟨l.dropLast, l.getLast (by intro e; simp [e] at h), (List.dropLast_concat_getLast _).symm⟩
    rw [stackC_snoc, ← rootS_one s]
    exact dec_push _ _ [s] 0 (ih m (by simpa using h)) rfl (dec_pos _ _ (ih m (by simpa using h)))
theorem dec_fold : ∀ (st : List (Nat × Bs)) (l0 t : List Bs), Dec st l0 → 1 ≤ t.length → (∀ p ∈ st, t.length ≤ p.1) → foldC st (rootS t) = rootS (l0 ++ t)
  | [], l0, t, h, _, _ => by simp only [Dec] at h; subst h; rfl
  | (m, y) :: st, l0, t, h, h1, h2 => by
    obtain ⟨l1, t1, b, rfl, rfl, ht1, rfl, hd, hst⟩ := h
    have hb := h2 _ (List.mem_cons_self)
    show foldC st (nodeH (rootS t1) (rootS t)) = _
    rw [← rootS_append t1 t b ht1 h1 hb, List.append_assoc]
    exact dec_fold st l1 (t1 ++ t) hd (by simp; omega) fun p hp => by have := hst p hp; simp at hb ⊢; omega
/-- the root, as the program reckons it -/
def rootC (l : List Bs) : Bs := match stackC l with
  | [] => sumB []
  | (_, x) :: st => foldC st x
theorem rootC_eq (l : List Bs) : rootC l = rootS l := by
  have h := dec_stack l
  unfold rootC
  split
  · rename_i e; rw [e] at h; simp only [Dec] at h; rw [h, rootS_nil]
  · rename_i n x st e
    rw [e] at h
    obtain ⟨l0, t, a, rfl, rfl, ht, rfl, hd, hst⟩ := h
    have h0 : 0 < 2 ^ a := Nat.pos_of_ne_zero (by simp)
    exact dec_fold st l0 t hd (by omega) fun p hp => by have := hst p hp; omega
/-- all sizes together -/
theorem dec_sum : ∀ (st : List (Nat × Bs)) (l : List Bs), Dec st l → (st.map Prod.fst).sum = l.length
  | [], l, h => by simp only [Dec] at h; subst h; rfl
  | (n, x) :: st, l, h => by
    obtain ⟨l0, t, a, rfl, rfl, ht, rfl, hd, hst⟩ := h
    simp [dec_sum st l0 hd, ht]; omega
theorem dec_len : ∀ (st : List (Nat × Bs)) (l : List Bs), Dec st l → st.length ≤ l.length
  | [], l, h => by simp
  | (n, x) :: st, l, h => by
    obtain ⟨l0, t, a, rfl, rfl, ht, rfl, hd, hst⟩ := h
    have h0 : 0 < 2 ^ a := Nat.pos_of_ne_zero (by simp)
    have := dec_len st l0 hd
    simp; omega
theorem dec_root : ∀ (st : List (Nat × Bs)) (l : List Bs), Dec st l → ∀ p ∈ st, p.2.length = 32
  | [], l, _ => fun p hp => by simp at hp
  | (n, x) :: st, l, h => fun p hp => by
    obtain ⟨l0, t, a, rfl, rfl, ht, rfl, hd, hst⟩ := h
    simp only [List.mem_cons] at hp
    rcases hp with rfl | hp
    · exact rootS_length _
    · exact dec_root st _ hd p hp
/-! ### Proofs -/
def proofS (l : List Bs) (i : Nat) : List Bs :=
  if h1 : l.length ≤ 1 then [] else
  if i < leftN l.length then proofS (l.take (leftN l.length)) i ++ [rootS (l.drop (leftN l.length))]
  else proofS (l.drop (leftN l.length)) (i - leftN l.length) ++ [rootS (l.take (leftN l.length))]
termination_by l.length
decreasing_by
  · have := leftN_spec (n := l.length) (by omega); simp; omega
  · have := leftN_spec (n := l.length) (by omega); simp; omega
theorem proofS_one (l : List Bs) (i : Nat) (h : l.length ≤ 1) : proofS l i = [] := by rw [proofS, dif_pos h]
theorem proofS_lt (l : List Bs) (i : Nat) (h : 2 ≤ l.length) (hi : i < leftN l.length) : proofS l i = proofS (l.take (leftN l.length)) i ++ [rootS (l.drop (leftN l.length))] := by rw [proofS, dif_neg (by omega), if_pos hi]
theorem proofS_ge (l : List Bs) (i : Nat) (h : 2 ≤ l.length) (hi : leftN l.length ≤ i) : proofS l i = proofS (l.drop (leftN l.length)) (i - leftN l.length) ++ [rootS (l.take (leftN l.length))] := by rw [proofS, dif_neg (by omega), if_neg (by omega)]
/-- part(l, m, whole) -/
def partS (l : List Bs) (m : Nat) (whole : Bool) : List Bs :=
  if h1 : l.length ≤ m ∨ m = 0 then (if whole then [] else [rootS l]) else
  if m ≤ leftN l.length then partS (l.take (leftN l.length)) m whole ++ [rootS (l.drop (leftN l.length))]
  else partS (l.drop (leftN l.length)) (m - leftN l.length) false ++ [rootS (l.take (leftN l.length))]
termination_by l.length
decreasing_by
  · have := leftN_spec (n := l.length) (by omega); simp; omega
  · have := leftN_spec (n := l.length) (by omega); simp; omega
theorem partS_eq (l : List Bs) (m : Nat) (whole : Bool) (h : l.length ≤ m) : partS l m whole = if whole then [] else [rootS l] := by rw [partS, dif_pos (.inl h)]
theorem partS_lt (l : List Bs) (m : Nat) (whole : Bool) (h0 : 1 ≤ m) (h : m < l.length) (hi : m ≤ leftN l.length) : partS l m whole = partS (l.take (leftN l.length)) m whole ++ [rootS (l.drop (leftN l.length))] := by rw [partS, dif_neg (by omega), if_pos hi]
theorem partS_gt (l : List Bs) (m : Nat) (whole : Bool) (h : m < l.length) (hi : leftN l.length < m) : partS l m whole = partS (l.drop (leftN l.length)) (m - leftN l.length) false ++ [rootS (l.take (leftN l.length))] := by rw [partS, dif_neg (by omega), if_neg (by omega)]
/-! ### What a proof proves: the proof is read from its end -/
def valR (s : Bs) : List Bs → Nat → Nat → Bs × Bool
  | [], n, i => if n = 1 then (leafH s, true) else ([], false)
  | x :: q, n, i => if n = 1 then (leafH s, false) else
    if i < leftN n then (nodeH (valR s q (leftN n) i).1 x, (valR s q (leftN n) i).2)
    else (nodeH x (valR s q (n - leftN n) (i - leftN n)).1, (valR s q (n - leftN n) (i - leftN n)).2)
def bothR (old : Bs) : List Bs → Nat → Nat → Bool → Bs × Bs × Bool
  | [], m, n, whole => if m = n then (if whole then (old, old, true) else ([], [], false)) else ([], [], false)
  | x :: q, m, n, whole => if m = n then (if whole then (old, old, false) else match q with
      | [] => (x, x, true)
      | _ :: _ => ([], [], false)) else
    if m ≤ leftN n then ((bothR old q m (leftN n) whole).1, nodeH (bothR old q m (leftN n) whole).2.1 x, (bothR old q m (leftN n) whole).2.2)
    else (nodeH x (bothR old q (m - leftN n) (n - leftN n) false).1, nodeH x (bothR old q (m - leftN n) (n - leftN n) false).2.1, (bothR old q (m - leftN n) (n - leftN n) false).2.2)
def digestsB (l : List Bs) : Bool := l.all fun s => s.length == 32
def verB (root : Bs) (n i : Int) (s : Bs) (proof : List Bs) : Bool :=
  !(decide (i < 0)) && !(decide (i ≥ n)) && digestsB proof && (valR s proof.reverse n.toNat i.toNat).2 && ((valR s proof.reverse n.toNat i.toNat).1 == root)
def verXB (old : Bs) (m : Int) (root : Bs) (n : Int) (proof : List Bs) : Bool :=
  !(decide (m < 0)) && !(decide (m > n)) && digestsB proof && old.length == 32 && root.length == 32 &&
    (if m = 0 then proof.length == 0 && old == sumB [] else if m = n then proof.length == 0 && old == root else
      (bothR old proof.reverse m.toNat n.toNat true).2.2 && (bothR old proof.reverse m.toNat n.toNat true).1 == old && (bothR old proof.reverse m.toNat n.toNat true).2.1 == root)
end Go.SX
