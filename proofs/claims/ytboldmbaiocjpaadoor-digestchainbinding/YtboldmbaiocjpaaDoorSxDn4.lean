/-
  Walks: Dn4, Dn6, Dn7: what single functions of the program compute.
-/
import Derived.Test.YtboldmbaiocjpaaDoorSxDp0
namespace Go.SX
open Go.Proofs
set_option linter.unusedSimpArgs false
set_option linter.unusedVariables false
set_option maxHeartbeats 4000000
set_option maxRecDepth 100000
/-! ### Extensions are accepted, and short -/
theorem leftN_sub {m n : Nat} (h2 : 2 ≤ n) (h1 : leftN n < m) (h3 : m ≤ n) : leftN m = leftN n := by
  have hsp := leftN_spec h2
  have hk : 2 ^ Nat.log2 (n - 1) = leftN n := rfl
  rw [leftN_eq (n := m) (a := Nat.log2 (n - 1)) (by rw [hk]; exact h1) (by rw [Nat.pow_succ, hk]; omega), hk]
theorem rootS_take (l : List Bs) (m : Nat) (h2 : 2 ≤ l.length) (h1 : leftN l.length < m) (h3 : m ≤ l.length) : rootS (l.take m) = nodeH (rootS (l.take (leftN l.length))) (rootS ((l.drop (leftN l.length)).take (m - leftN l.length))) := by
  have hsp := leftN_spec h2
  have hl : (l.take m).length = m := by simp; omega
  rw [rootS_two (l.take m) (by omega), hl, leftN_sub h2 h1 h3, List.take_take, Nat.min_eq_left (by omega), List.drop_take]
theorem both_false (old : Bs) : ∀ (n : Nat) (l : List Bs) (m : Nat), l.length = n → 1 ≤ m → m ≤ n → bothR old (partS l m false).reverse m n false = (rootS (l.take m), rootS l, true) := by
  intro n
  induction n using Nat.strongRecOn with
  | _ n ih =>
    intro l m hl h1 hm
    rcases Nat.lt_or_ge m l.length with h | h
    · have hsp := leftN_spec (n := l.length) (by omega)
      rcases Nat.lt_or_ge (leftN l.length) m with h3 | h3
      · rw [partS_gt l m false h h3, List.reverse_append, List.reverse_singleton, List.singleton_append, bothR_gt old _ _ m n false (by omega) (by rw [← hl]; omega), ← hl]
        rw [ih (l.length - leftN l.length) (by omega) (l.drop (leftN l.length)) (m - leftN l.length) (by simp) (by omega) (by omega)]
        rw [rootS_take l m (by omega) h3 (by omega), rootS_two l (by omega)]
      · rw [partS_lt l m false h1 h h3, List.reverse_append, List.reverse_singleton, List.singleton_append, bothR_lt old _ _ m n false (by omega) (by rw [← hl]; omega), ← hl]
        rw [ih (leftN l.length) (by omega) (l.take (leftN l.length)) m (by simp; omega) h1 h3]
        rw [List.take_take, Nat.min_eq_left h3, rootS_two l (by omega)]
    · obtain rfl : m = n := by omega
      rw [partS_eq l m false h, List.take_of_length_le (by omega)]
      simp [bothR]
theorem both_true : ∀ (n : Nat) (l : List Bs) (m : Nat), l.length = n → 1 ≤ m → m ≤ n → bothR (rootS (l.take m)) (partS l m true).reverse m n true = (rootS (l.take m), rootS l, true) := by
  intro n
  induction n using Nat.strongRecOn with
  | _ n ih =>
    intro l m hl h1 hm
    rcases Nat.lt_or_ge m l.length with h | h
    · have hsp := leftN_spec (n := l.length) (by omega)
      rcases Nat.lt_or_ge (leftN l.length) m with h3 | h3
      · rw [partS_gt l m true h h3, List.reverse_append, List.reverse_singleton, List.singleton_append, bothR_gt _ _ _ m n true (by omega) (by rw [← hl]; omega), ← hl]
        rw [both_false _ (l.length - leftN l.length) (l.drop (leftN l.length)) (m - leftN l.length) (by simp) (by omega) (by omega)]
        rw [rootS_take l m (by omega) h3 (by omega), rootS_two l (by omega)]
      · rw [partS_lt l m true h1 h h3, List.reverse_append, List.reverse_singleton, List.singleton_append, bothR_lt _ _ _ m n true (by omega) (by rw [← hl]; omega), ← hl]
        have := ih (leftN l.length) (by omega) (l.take (leftN l.length)) m (by simp; omega) h1 h3
        rw [List.take_take, Nat.min_eq_left h3] at this
        rw [this, rootS_two l (by omega)]
    · obtain rfl : m = n := by omega
      rw [partS_eq l m true h, List.take_of_length_le (by omega)]
      simp [bothR]
theorem partS_32 : ∀ (n : Nat) (l : List Bs) (m : Nat) (whole : Bool), l.length = n → digestsB (partS l m whole) = true := by
  intro n
  induction n using Nat.strongRecOn with
  | _ n ih =>
    intro l m whole hl
    rcases Nat.lt_or_ge m l.length with h | h
    · rcases Nat.eq_zero_or_pos m with h0 | h0
      · subst h0
        rw [partS, dif_pos (.inr rfl)]
        split <;> simp [digestsB, rootS_length]
      · have hsp := leftN_spec (n := l.length) (by omega)
        rcases Nat.lt_or_ge (leftN l.length) m with h3 | h3
        · rw [partS_gt l m whole h h3]
          have := ih (n - leftN l.length) (by omega) (l.drop (leftN l.length)) (m - leftN l.length) false (by simp; omega)
          unfold digestsB at *
          rw [List.all_append, this]; simp [rootS_length]
        · rw [partS_lt l m whole h0 h h3]
          have := ih (leftN l.length) (by omega) (l.take (leftN l.length)) m whole (by simp; omega)
          unfold digestsB at *
          rw [List.all_append, this]; simp [rootS_length]
    · rw [partS_eq l m whole h]; split <;> simp [digestsB, rootS_length]
theorem partS_short : ∀ (n : Nat) (l : List Bs) (m : Nat) (whole : Bool), l.length = n → 1 ≤ m → m ≤ n → (partS l m whole).length ≤ binS (n - 1) + 1 := by
  intro n
  induction n using Nat.strongRecOn with
  | _ n ih =>
    intro l m whole hl hm1 hmn
    rcases Nat.lt_or_ge m l.length with h | h
    · have hsp := leftN_spec (n := n) (by omega)
      have hb : binS (n - 1) = Nat.log2 (n - 1) + 1 := by unfold binS; rw [if_neg (by omega)]
      have hk : leftN n = 2 ^ Nat.log2 (n - 1) := rfl
      have hlow : ∀ m, 1 ≤ m → m ≤ leftN n → binS (m - 1) ≤ Nat.log2 (n - 1) := by
        intro m h1 h2'
        unfold binS
        split
        · omega
        · rename_i h0
          have := (Nat.log2_lt h0 (k := Nat.log2 (n - 1))).2 (by omega)
          omega
      rcases Nat.lt_or_ge (leftN l.length) m with h3 | h3
      · rw [partS_gt l m whole h h3, hl]
        rw [hl] at h3
        have h1 := ih (n - leftN n) (by omega) (l.drop (leftN n)) (m - leftN n) false (by simp; omega) (by omega) (by omega)
        have := hlow (n - leftN n) (by omega) (by omega)
        simp; omega
      · rw [partS_lt l m whole hm1 h h3, hl]
        rw [hl] at h3
        have h1 := ih (leftN n) (by omega) (l.take (leftN n)) m whole (by simp; omega) (by omega) (by omega)
        have := hlow (leftN n) (by omega) (Nat.le_refl _)
        simp; omega
    · rw [partS_eq l m whole h]; split <;> simp
/-- what Extension returns -/
def extS (l : List Bs) (m : Nat) : List Bs := if m = 0 then [] else partS l m true
theorem extS_32 (l : List Bs) (m : Nat) : digestsB (extS l m) = true := by
  unfold extS
  split
  · rfl
  · exact partS_32 _ l m true rfl
theorem extS_short (l : List Bs) (m : Nat) (h : m ≤ l.length) : (extS l m).length ≤ 2 * binS l.length ∧ (extS l m).length ≤ l.length := by
  unfold extS
  split
  · simp
  · have h1 := partS_short l.length l m true rfl (by omega) h
    have h2 := binS_mono (l.length - 1) l.length (by omega)
    have h3 : 1 ≤ binS l.length := by unfold binS; rw [if_neg (by omega)]; omega
    have h4 := partS_length l.length l m true rfl (by omega)
    omega
theorem verX_ext (l : List Bs) (m : Nat) (h : m ≤ l.length) : verXB (rootS (l.take m)) m (rootS l) l.length (extS l m) = true := by
  unfold verXB
  rw [decide_eq_false (by omega), decide_eq_false (p := (m : Int) > l.length) (by omega), extS_32, rootS_length, rootS_length]
  by_cases h0 : m = 0
  · subst h0
    simp [extS, rootS_nil]
  · rw [if_neg (by omega)]
    by_cases h1 : m = l.length
    · rw [if_pos (by omega)]
      unfold extS
      rw [if_neg h0, partS_eq l m true (by omega), List.take_of_length_le (by omega)]
      simp
    · rw [if_neg (by omega)]
      unfold extS
      rw [if_neg h0, Int.toNat_natCast, Int.toNat_natCast, both_true l.length l m rfl (by omega) h]
      simp
theorem verX_outside (old root : Bs) (m n : Int) (p : List Bs) (h : ¬ (0 ≤ m ∧ m ≤ n)) : verXB old m root n p = false := by
  unfold verXB
  by_cases h0 : m < 0
  · rw [decide_eq_true h0]; simp
  · rw [decide_eq_true (p := m > n) (by omega)]; simp
end Go.SX

namespace Go.SX
open Go.Proofs
set_option linter.unusedSimpArgs false
set_option linter.unusedVariables false
set_option maxHeartbeats 4000000
set_option maxRecDepth 100000
/-! ### Whoever proves two different things has found two strings with the same digest -/
def collideB : List Bs → List Bs → Bool
  | x :: a, y :: b => (decide (x ≠ y) && decide (sumB x = sumB y)) || collideB a b
  | _, _ => false
def wayR (s : Bs) : List Bs → Nat → Nat → List Bs × Bs
  | [], n, i => ([0 :: s], leafH s)
  | x :: q, n, i => if n ≤ 1 then ([0 :: s], leafH s) else
    if i < leftN n then ((1 :: ((wayR s q (leftN n) i).2 ++ x)) :: (wayR s q (leftN n) i).1, nodeH (wayR s q (leftN n) i).2 x)
    else ((1 :: (x ++ (wayR s q (n - leftN n) (i - leftN n)).2)) :: (wayR s q (n - leftN n) (i - leftN n)).1, nodeH x (wayR s q (n - leftN n) (i - leftN n)).2)
theorem wayR_lt (s x : Bs) (q : List Bs) (n i : Nat) (h1 : 2 ≤ n) (h : i < leftN n) : wayR s (x :: q) n i = ((1 :: ((wayR s q (leftN n) i).2 ++ x)) :: (wayR s q (leftN n) i).1, nodeH (wayR s q (leftN n) i).2 x) := by rw [wayR, if_neg (by omega), if_pos h]
theorem wayR_ge (s x : Bs) (q : List Bs) (n i : Nat) (h1 : 2 ≤ n) (h : ¬ i < leftN n) : wayR s (x :: q) n i = ((1 :: (x ++ (wayR s q (n - leftN n) (i - leftN n)).2)) :: (wayR s q (n - leftN n) (i - leftN n)).1, nodeH x (wayR s q (n - leftN n) (i - leftN n)).2) := by rw [wayR, if_neg (by omega), if_neg h]
def Mid (l : List Bs) : Prop := ∀ s ∈ l, s.length ≤ 1000
theorem wayR_length (s : Bs) : ∀ (q : List Bs) (n i : Nat), (wayR s q n i).2.length = 32
  | [], n, i => leafH_length s
  | x :: q, n, i => by
    unfold wayR
    split
    · exact leafH_length s
    · split <;> exact nodeH_length _ _
theorem wayR_mid (s : Bs) (hs : s.length ≤ 100) : ∀ (q : List Bs) (n i : Nat), Short q → Mid (wayR s q n i).1
  | [], n, i, _ => fun z hz => by simp [wayR] at hz; subst hz; simp; omega
  | x :: q, n, i, hq => by
    have hx : x.length ≤ 100 := hq x (by simp)
    have hq' : Short q := fun z hz => hq z (by simp [hz])
    have h1 := wayR_mid s hs q (leftN n) i hq'
    have h2 := wayR_mid s hs q (n - leftN n) (i - leftN n) hq'
    have l1 := wayR_length s q (leftN n) i
    have l2 := wayR_length s q (n - leftN n) (i - leftN n)
    unfold wayR
    split
    · intro z hz; simp at hz; subst hz; simp; omega
    · split
      · intro z hz
        rcases List.mem_cons.1 hz with rfl | hz
        · simp; omega
        · exact h1 z hz
      · intro z hz
        rcases List.mem_cons.1 hz with rfl | hz
        · simp; omega
        · exact h2 z hz
theorem wayR_count (s : Bs) : ∀ (q : List Bs) (n i : Nat), (wayR s q n i).1.length ≤ q.length + 1
  | [], n, i => by simp [wayR]
  | x :: q, n, i => by
    have h1 := wayR_count s q (leftN n) i
    have h2 := wayR_count s q (n - leftN n) (i - leftN n)
    unfold wayR
    split
    · simp
    · split <;> simp <;> omega
/-- at a proof that is accepted, the way's value is the proof's -/
theorem way_val (s : Bs) : ∀ (q : List Bs) (n i : Nat), 1 ≤ n → (valR s q n i).2 = true → (wayR s q n i).2 = (valR s q n i).1
  | [], n, i, _, h => by
    unfold valR at *
    split at h
    · rename_i h1; rw [if_pos h1]; rfl
    · simp at h
  | x :: q, n, i, h0, h => by
    have hn : n ≠ 1 := by rintro rfl; simp [valR] at h
    have hsp := leftN_spec (n := n) (by omega)
    rw [valR, if_neg hn] at h ⊢
    have h1 := way_val s q (leftN n) i (by omega)
    have h2 := way_val s q (n - leftN n) (i - leftN n) (by omega)
    unfold wayR
    rw [if_neg (by omega)]
    by_cases hi : i < leftN n
    · rw [if_pos hi] at h ⊢
      rw [if_pos hi, h1 h]
    · rw [if_neg hi] at h ⊢
      rw [if_neg hi, h2 h]
theorem split32 {v v' x x' : Bs} (hl : v.length = v'.length) (h : v ++ x = v' ++ x') : v = v' ∧ x = x' := List.append_inj h hl
theorem way_collide (s t : Bs) (hst : s ≠ t) : ∀ (p q : List Bs) (n i : Nat), 1 ≤ n → (valR s p n i).2 = true → (valR t q n i).2 = true → (valR s p n i).1 = (valR t q n i).1 →
    (∀ z ∈ p, z.length = 32) → (∀ z ∈ q, z.length = 32) → collideB (wayR s p n i).1 (wayR t q n i).1 = true := by
  intro p
  induction p with
  | nil =>
    intro q n i h0 h1 h2 he hp hq
    have hn : n = 1 := by unfold valR at h1; split at h1 <;> simp_all
    subst hn
    rcases q with _ | ⟨y, q⟩
    · have he' : sumB (0 :: s) = sumB (0 :: t) := he
      simp [wayR, collideB, hst, he']
    · simp [valR] at h2
  | cons x p ih =>
    intro q n i h0 h1 h2 he hp hq
    have hn : n ≠ 1 := by rintro rfl; simp [valR] at h1
    have hsp := leftN_spec (n := n) (by omega)
    rcases q with _ | ⟨y, q⟩
    · unfold valR at h2; rw [if_neg hn] at h2; simp at h2
    · have hx := hp x (by simp)
      have hy := hq y (by simp)
      have hp' : ∀ z ∈ p, z.length = 32 := fun z hz => hp z (by simp [hz])
      have hq' : ∀ z ∈ q, z.length = 32 := fun z hz => hq z (by simp [hz])
      rw [valR, if_neg hn] at h1 h2 he
      rw [valR, if_neg hn] at he
      by_cases hi : i < leftN n
      · rw [if_pos hi] at h1 h2
        rw [if_pos hi, if_pos hi] at he
        rw [wayR_lt s x p n i (by omega) hi, wayR_lt t y q n i (by omega) hi]
        have w1 := way_val s p (leftN n) i (by omega) h1
        have w2 := way_val t q (leftN n) i (by omega) h2
        have l1 := wayR_length s p (leftN n) i
        have l2 := wayR_length t q (leftN n) i
        have ih1 := ih q (leftN n) i (by omega) h1 h2
        rw [← w1, ← w2] at he ih1
        have he' : sumB (1 :: ((wayR s p (leftN n) i).2 ++ x)) = sumB (1 :: ((wayR t q (leftN n) i).2 ++ y)) := he
        simp only [collideB]
        by_cases heq : (1 :: ((wayR s p (leftN n) i).2 ++ x) : Bs) = 1 :: ((wayR t q (leftN n) i).2 ++ y)
        · obtain ⟨e1, _⟩ := split32 (by rw [l1, l2]) (List.cons.inj heq).2
          rw [ih1 e1 hp' hq']
          simp
        · rw [decide_eq_true (p := _ ≠ _) heq, decide_eq_true he']; rfl
      · rw [if_neg hi] at h1 h2
        rw [if_neg hi, if_neg hi] at he
        rw [wayR_ge s x p n i (by omega) hi, wayR_ge t y q n i (by omega) hi]
        have w1 := way_val s p (n - leftN n) (i - leftN n) (by omega) h1
        have w2 := way_val t q (n - leftN n) (i - leftN n) (by omega) h2
        have ih1 := ih q (n - leftN n) (i - leftN n) (by omega) h1 h2
        rw [← w1, ← w2] at he ih1
        have he' : sumB (1 :: (x ++ (wayR s p (n - leftN n) (i - leftN n)).2)) = sumB (1 :: (y ++ (wayR t q (n - leftN n) (i - leftN n)).2)) := he
        simp only [collideB]
        by_cases heq : (1 :: (x ++ (wayR s p (n - leftN n) (i - leftN n)).2) : Bs) = 1 :: (y ++ (wayR t q (n - leftN n) (i - leftN n)).2)
        · obtain ⟨_, e1⟩ := split32 (by rw [hx, hy]) (List.cons.inj heq).2
          rw [ih1 e1 hp' hq']
          simp
        · rw [decide_eq_true (p := _ ≠ _) heq, decide_eq_true he']; rfl
theorem digests_mem {l : List Bs} (h : digestsB l = true) : ∀ z ∈ l, z.length = 32 := by
  intro s hs
  unfold digestsB at h
  have := List.all_eq_true.1 h s hs
  simpa using this
theorem binding (root s t : Bs) (n i : Int) (p q : List Bs) (hst : s ≠ t) (h1 : verB root n i s p = true) (h2 : verB root n i t q = true) :
    0 ≤ i ∧ i < n ∧ collideB (wayR s p.reverse n.toNat i.toNat).1 (wayR t q.reverse n.toNat i.toNat).1 = true := by
  unfold verB at h1 h2
  simp only [Bool.and_eq_true, Bool.not_eq_true', decide_eq_false_iff_not, beq_iff_eq] at h1 h2
  obtain ⟨⟨⟨⟨a1, a2⟩, a3⟩, a4⟩, a5⟩ := h1
  obtain ⟨⟨⟨⟨_, _⟩, b3⟩, b4⟩, b5⟩ := h2
  refine ⟨by omega, by omega, way_collide s t hst _ _ _ _ (by omega) a4 b4 (by rw [a5, b5]) ?_ ?_⟩
  · intro z hz; exact digests_mem a3 z (by simpa using hz)
  · intro z hz; exact digests_mem b3 z (by simpa using hz)
/-! ### Extensions -/
def sidesR (old : Bs) : List Bs → Nat → Nat → Bool → List Bs × Bs
  | [], m, n, whole => ([], old)
  | x :: q, m, n, whole => if n ≤ m then (if whole then ([], old) else ([], (x :: q).getLastD [])) else
    if m ≤ leftN n then ((1 :: ((sidesR old q m (leftN n) whole).2 ++ x)) :: (sidesR old q m (leftN n) whole).1, nodeH (sidesR old q m (leftN n) whole).2 x)
    else ((1 :: (x ++ (sidesR old q (m - leftN n) (n - leftN n) false).2)) :: (sidesR old q (m - leftN n) (n - leftN n) false).1, nodeH x (sidesR old q (m - leftN n) (n - leftN n) false).2)
theorem sidesR_lt (a x : Bs) (q : List Bs) (m n : Nat) (whole : Bool) (h1 : m < n) (h : m ≤ leftN n) : sidesR a (x :: q) m n whole = ((1 :: ((sidesR a q m (leftN n) whole).2 ++ x)) :: (sidesR a q m (leftN n) whole).1, nodeH (sidesR a q m (leftN n) whole).2 x) := by
  conv => lhs; unfold sidesR
  rw [if_neg (by omega), if_pos h]
theorem sidesR_gt (a x : Bs) (q : List Bs) (m n : Nat) (whole : Bool) (h1 : m < n) (h : ¬ m ≤ leftN n) : sidesR a (x :: q) m n whole = ((1 :: (x ++ (sidesR a q (m - leftN n) (n - leftN n) false).2)) :: (sidesR a q (m - leftN n) (n - leftN n) false).1, nodeH x (sidesR a q (m - leftN n) (n - leftN n) false).2) := by
  conv => lhs; unfold sidesR
  rw [if_neg (by omega), if_neg h]
theorem sidesR_length (old : Bs) (ho : old.length ≤ 100) : ∀ (q : List Bs) (m n : Nat) (whole : Bool), Short q → (sidesR old q m n whole).2.length ≤ 100
  | [], m, n, whole, _ => ho
  | x :: q, m, n, whole, hq => by
    have hx : x.length ≤ 100 := hq x (by simp)
    unfold sidesR
    split
    · split
      · exact ho
      · rw [List.getLastD_cons]
        exact hq _ (by cases q with
          | nil => simp
          | cons y q => rw [List.getLastD_cons]; exact List.mem_cons_of_mem _ (by rw [← List.getLast_eq_getLastD (a := y) (l := q)]; exact List.getLast_mem (by simp)))
    · split <;> (rw [nodeH_length]; omega)
theorem sidesR_mid (old : Bs) (ho : old.length ≤ 100) : ∀ (q : List Bs) (m n : Nat) (whole : Bool), Short q → Mid (sidesR old q m n whole).1
  | [], m, n, whole, _ => fun z hz => by simp [sidesR] at hz
  | x :: q, m, n, whole, hq => by
    have hx : x.length ≤ 100 := hq x (by simp)
    have hq' : Short q := fun z hz => hq z (by simp [hz])
    have h1 := sidesR_mid old ho q m (leftN n) whole hq'
    have h2 := sidesR_mid old ho q (m - leftN n) (n - leftN n) false hq'
    have l1 := sidesR_length old ho q m (leftN n) whole hq'
    have l2 := sidesR_length old ho q (m - leftN n) (n - leftN n) false hq'
    unfold sidesR
    split
    · split <;> (intro z hz; simp at hz)
    · split
      · intro z hz
        rcases List.mem_cons.1 hz with rfl | hz
        · simp; omega
        · exact h1 z hz
      · intro z hz
        rcases List.mem_cons.1 hz with rfl | hz
        · simp; omega
        · exact h2 z hz
theorem sidesR_count (old : Bs) : ∀ (q : List Bs) (m n : Nat) (whole : Bool), (sidesR old q m n whole).1.length ≤ q.length
  | [], m, n, whole => by simp [sidesR]
  | x :: q, m, n, whole => by
    have h1 := sidesR_count old q m (leftN n) whole
    have h2 := sidesR_count old q (m - leftN n) (n - leftN n) false
    unfold sidesR
    split
    · split <;> simp
    · split <;> simp <;> omega
theorem sides_val (old : Bs) : ∀ (q : List Bs) (m n : Nat) (whole : Bool), m ≤ n → (bothR old q m n whole).2.2 = true → (sidesR old q m n whole).2 = (bothR old q m n whole).2.1
  | [], m, n, whole, hmn, h => by
    unfold bothR at *
    split at h
    · rename_i h1
      split at h
      · rename_i h2; rw [if_pos h1, if_pos h2]; rfl
      · simp at h
    · simp at h
  | x :: q, m, n, whole, hmn, h => by
    by_cases hm : m = n
    · subst hm
      cases whole with
      | true => simp [bothR] at h
      | false =>
        rcases q with _ | ⟨y, q⟩
        · simp [sidesR, bothR]
        · simp [bothR] at h
    · have h1 := sides_val old q m (leftN n) whole
      have h2 := sides_val old q (m - leftN n) (n - leftN n) false
      unfold sidesR
      rw [if_neg (by omega)]
      by_cases hi : m ≤ leftN n
      · rw [bothR_lt old x q m n whole hm hi] at h ⊢
        rw [if_pos hi, h1 hi h]
      · rw [bothR_gt old x q m n whole hm hi] at h ⊢
        rw [if_neg hi, h2 (by omega) h]
theorem both_len32 (old : Bs) (ho : old.length = 32) : ∀ (q : List Bs) (m n : Nat) (whole : Bool), (∀ z ∈ q, z.length = 32) → (bothR old q m n whole).2.2 = true → (bothR old q m n whole).2.1.length = 32
  | [], m, n, whole, _, h => by
    unfold bothR at *
    split at h
    · split at h
      · rename_i h1 h2; rw [if_pos h1, if_pos h2]; exact ho
      · simp at h
    · simp at h
  | x :: q, m, n, whole, hq, h => by
    by_cases hm : m = n
    · subst hm
      cases whole with
      | true => simp [bothR] at h
      | false =>
        rcases q with _ | ⟨y, q⟩
        · simpa [bothR] using hq x (by simp)
        · simp [bothR] at h
    · by_cases hi : m ≤ leftN n
      · rw [bothR_lt old x q m n whole hm hi]; exact nodeH_length _ _
      · rw [bothR_gt old x q m n whole hm hi]; exact nodeH_length _ _
theorem sides_collide (a b : Bs) (ha : a.length = 32) (hb : b.length = 32) : ∀ (p q : List Bs) (m n : Nat) (whole : Bool), m ≤ n → (bothR a p m n whole).2.2 = true → (bothR b q m n whole).2.2 = true →
    (bothR a p m n whole).2.1 = (bothR b q m n whole).2.1 → (∀ z ∈ p, z.length = 32) → (∀ z ∈ q, z.length = 32) →
    collideB (sidesR a p m n whole).1 (sidesR b q m n whole).1 = true ∨ (bothR a p m n whole).1 = (bothR b q m n whole).1 := by
  intro p
  induction p with
  | nil =>
    intro q m n whole hmn h1 h2 he hp hq
    have hw : m = n ∧ whole = true := by
      unfold bothR at h1
      split at h1
      · split at h1
        · exact ⟨by assumption, by assumption⟩
        · simp at h1
      · simp at h1
    obtain ⟨rfl, rfl⟩ := hw
    rcases q with _ | ⟨y, q⟩
    · right; simpa [bothR] using he
    · simp [bothR] at h2
  | cons x p ih =>
    intro q m n whole hmn h1 h2 he hp hq
    by_cases hm : m = n
    · subst hm
      cases whole with
      | true => simp [bothR] at h1
      | false =>
        rcases p with _ | ⟨x2, p⟩
        · rcases q with _ | ⟨y, _ | ⟨y2, q⟩⟩
          · simp [bothR] at h2
          · right; simpa [bothR] using he
          · simp [bothR] at h2
        · simp [bothR] at h1
    · rcases q with _ | ⟨y, q⟩
      · unfold bothR at h2; rw [if_neg hm] at h2; simp at h2
      · have hx := hp x (by simp)
        have hy := hq y (by simp)
        have hp' : ∀ z ∈ p, z.length = 32 := fun z hz => hp z (by simp [hz])
        have hq' : ∀ z ∈ q, z.length = 32 := fun z hz => hq z (by simp [hz])
        by_cases hi : m ≤ leftN n
        · rw [bothR_lt a x p m n whole hm hi] at h1 he ⊢
          rw [bothR_lt b y q m n whole hm hi] at h2 he ⊢
          rw [sidesR_lt a x p m n whole (by omega) hi, sidesR_lt b y q m n whole (by omega) hi]
          have w1 := sides_val a p m (leftN n) whole hi h1
          have w2 := sides_val b q m (leftN n) whole hi h2
          have l1 := both_len32 a ha p m (leftN n) whole hp' h1
          have l2 := both_len32 b hb q m (leftN n) whole hq' h2
          have ih1 := ih q m (leftN n) whole hi h1 h2
          rw [w1, w2]
          have he' : sumB (1 :: ((bothR a p m (leftN n) whole).2.1 ++ x)) = sumB (1 :: ((bothR b q m (leftN n) whole).2.1 ++ y)) := he
          simp only [collideB]
          by_cases heq : (1 :: ((bothR a p m (leftN n) whole).2.1 ++ x) : Bs) = 1 :: ((bothR b q m (leftN n) whole).2.1 ++ y)
          · obtain ⟨e1, _⟩ := split32 (by rw [l1, l2]) (List.cons.inj heq).2
            rcases ih1 e1 hp' hq' with h | h
            · left; rw [h]; simp
            · right; exact h
          · left; rw [decide_eq_true (p := _ ≠ _) heq, decide_eq_true he']; rfl
        · rw [bothR_gt a x p m n whole hm hi] at h1 he ⊢
          rw [bothR_gt b y q m n whole hm hi] at h2 he ⊢
          rw [sidesR_gt a x p m n whole (by omega) hi, sidesR_gt b y q m n whole (by omega) hi]
          have w1 := sides_val a p (m - leftN n) (n - leftN n) false (by omega) h1
          have w2 := sides_val b q (m - leftN n) (n - leftN n) false (by omega) h2
          have ih1 := ih q (m - leftN n) (n - leftN n) false (by omega) h1 h2
          rw [w1, w2]
          have he' : sumB (1 :: (x ++ (bothR a p (m - leftN n) (n - leftN n) false).2.1)) = sumB (1 :: (y ++ (bothR b q (m - leftN n) (n - leftN n) false).2.1)) := he
          simp only [collideB]
          by_cases heq : (1 :: (x ++ (bothR a p (m - leftN n) (n - leftN n) false).2.1) : Bs) = 1 :: (y ++ (bothR b q (m - leftN n) (n - leftN n) false).2.1)
          · obtain ⟨e0, e1⟩ := split32 (by rw [hx, hy]) (List.cons.inj heq).2
            rcases ih1 e1 hp' hq' with h | h
            · left; rw [h]; simp
            · right
              show nodeH x _ = nodeH y _
              rw [e0, h]
          · left; rw [decide_eq_true (p := _ ≠ _) heq, decide_eq_true he']; rfl
theorem ext_binding (a b root : Bs) (m n : Int) (p q : List Bs) (hab : a ≠ b) (h1 : verXB a m root n p = true) (h2 : verXB b m root n q = true) :
    1 ≤ m ∧ m < n ∧ a.length = 32 ∧ b.length = 32 ∧ collideB (sidesR a p.reverse m.toNat n.toNat true).1 (sidesR b q.reverse m.toNat n.toNat true).1 = true := by
  unfold verXB at h1 h2
  simp only [Bool.and_eq_true, Bool.not_eq_true', decide_eq_false_iff_not, beq_iff_eq] at h1 h2
  obtain ⟨⟨⟨⟨⟨a1, a2⟩, a3⟩, a4⟩, a5⟩, a6⟩ := h1
  obtain ⟨⟨⟨⟨⟨_, _⟩, b3⟩, b4⟩, b5⟩, b6⟩ := h2
  by_cases h0 : m = 0
  · rw [if_pos h0] at a6 b6
    simp only [Bool.and_eq_true, beq_iff_eq] at a6 b6
    exact absurd (a6.2.trans b6.2.symm) hab
  · rw [if_neg h0] at a6 b6
    by_cases h3 : m = n
    · rw [if_pos h3] at a6 b6
      simp only [Bool.and_eq_true, beq_iff_eq] at a6 b6
      exact absurd (a6.2.trans b6.2.symm) hab
    · refine ⟨by omega, by omega, a4, b4, ?_⟩
      rw [if_neg h3] at a6 b6
      simp only [Bool.and_eq_true, beq_iff_eq] at a6 b6
      obtain ⟨⟨c1, c2⟩, c3⟩ := a6
      obtain ⟨⟨d1, d2⟩, d3⟩ := b6
      rcases sides_collide a b a4 b4 p.reverse q.reverse m.toNat n.toNat true (by omega) c1 d1 (by rw [c3, d3]) (fun z hz => digests_mem a3 z (by simpa using hz)) (fun z hz => digests_mem b3 z (by simpa using hz)) with h | h
      · exact h
      · rw [c2, d2] at h; exact absurd h hab
end Go.SX

namespace Go.SX
open Go.Proofs
set_option linter.unusedSimpArgs false
set_option linter.unusedVariables false
set_option maxHeartbeats 4000000
set_option maxRecDepth 100000
theorem lawLeft_meets (n : Nat) (h2 : 2 ≤ n) (hn : n < 9223372036854775808) : Meets Tryd.prog Dc 33 [.p (.int .i64 (n : Int))] [] (.p (.int .i64 (leftN n : Int))) [] := by
  refine meets_of_gx Ax tab_ok Tryd.func33 (c := _) rfl Tryd.call33 200 ?_
  refine loop_inv (fun j : Nat => [(3, .p (.int .i64 ((2 ^ j : Nat) : Int)))]) (fun _ => []) (fun j => 2 ^ j < n) (fun j => n - 2 ^ j) 0 (by omega) [] ⟨by (repeat' (first | refine EndV.mk ?_ | exact trivial | exact rfl | refine And.intro ?_ ?_)), by (repeat' (first | refine EndV.mk ?_ | exact trivial | exact rfl | refine And.intro ?_ ?_)), rfl, rfl⟩ ?_
  intro j hj K hK
  have hp : 2 ^ (j + 1) = 2 * 2 ^ j := by rw [Nat.pow_succ]; omega
  have hpos : 0 < 2 ^ j := Nat.pos_of_ne_zero (by simp)
  rcases Nat.lt_or_ge (2 ^ (j + 1)) n with hlt | hge
  · have e2 : 2 * ((2 ^ j : Nat) : Int) = ((2 ^ (j + 1) : Nat) : Int) := by omega
    (repeat' ((conv => whnf); first | (exfalso; omega) | (rw [e2]) | (refine hK (j + 1) [] _ _ ?_ ?_ ?_) | (refine Back.mk ?_ ?_ rfl rfl <;> (repeat' (first | refine EndV.mk ?_ | exact trivial | exact rfl | refine And.intro ?_ ?_))) | (refine end_fn [] (.inr rfl) ?_ trivial rfl rfl) | (refine split_nd (fun hb => ?_) (fun hb => ?_)) | (refine split_d (fun hb => ?_) (fun hb => ?_)) | (refine split_n (fun hb => ?_) (fun hb => ?_)) | (refine split_x (fun hb => ?_) (fun hb => ?_)) | (refine And.intro (TraceOK.mk (by kernel_rfl)) ?_) | (refine Side.mk ?_; (repeat' (first | refine And.intro ?_ ?_ | exact inR_i64 (by omega) (by omega) | omega | rfl | exact trivial | exact none_ne rfl | exact some_ne rfl (Nat.ne_of_beq_eq_false rfl) | exact Nat.ne_of_beq_eq_false rfl | (dsimp only [srcSide]; omega) | (simp; done) | (simp; omega))); done) | (refine side_and ?_ ?_) | (refine drawX_of mixed ?_)))
  · have hl : leftN n = 2 ^ j := leftN_eq hj hge
    rw [hl]
    generalize 2 ^ j = p at *
    (repeat' ((conv => whnf); first | (exfalso; omega) | (refine end_fn [] (.inr rfl) ?_ trivial rfl rfl) | (refine split_nd (fun hb => ?_) (fun hb => ?_)) | (refine split_d (fun hb => ?_) (fun hb => ?_)) | (refine split_n (fun hb => ?_) (fun hb => ?_)) | (refine split_x (fun hb => ?_) (fun hb => ?_)) | (refine And.intro (TraceOK.mk (by kernel_rfl)) ?_) | (refine Side.mk ?_; (repeat' (first | refine And.intro ?_ ?_ | exact inR_i64 (by omega) (by omega) | omega | rfl | exact trivial | exact none_ne rfl | exact some_ne rfl (Nat.ne_of_beq_eq_false rfl) | exact Nat.ne_of_beq_eq_false rfl | (dsimp only [srcSide]; omega) | (simp; done) | (simp; omega))); done) | (refine side_and ?_ ?_) | (refine drawX_of mixed ?_)))
    all_goals (repeat' (first | refine EndV.mk ?_ | exact trivial | exact rfl | refine And.intro ?_ ?_))
theorem collide_meets (a b : List Bs) (ha : a.length ≤ 1000) (hb : b.length ≤ 1000) (h1 : Mid a) (h2 : Mid b) : Meets Tryd.prog Dc 29 [.p (.dsl U.str a), .p (.dsl U.str b)] [] (.p (.bool (collideB a b))) [] := by
  refine meets_of_gx Ax tab_ok Tryd.func29 (c := _) rfl Tryd.call29 400 ?_
  (repeat' ((conv => whnf); first | (exfalso; omega) | (refine end_fn [] (.inr rfl) ?_ trivial rfl rfl) | (refine split_nd (fun hb => ?_) (fun hb => ?_)) | (refine split_d (fun hb => ?_) (fun hb => ?_)) | (refine split_n (fun hb => ?_) (fun hb => ?_)) | (refine split_x (fun hb => ?_) (fun hb => ?_)) | (refine And.intro (TraceOK.mk (by kernel_rfl)) ?_) | (refine Side.mk ?_; (repeat' (first | refine And.intro ?_ ?_ | exact inR_i64 (by omega) (by omega) | omega | rfl | exact trivial | exact none_ne rfl | exact some_ne rfl (Nat.ne_of_beq_eq_false rfl) | exact Nat.ne_of_beq_eq_false rfl | (dsimp only [srcSide]; omega) | (simp; done) | (simp; omega))); done) | (refine side_and ?_ ?_) | (refine drawX_of mixed ?_)))
  refine loop_up (fun i : Nat => [(5, .p (.int .i64 i))]) (fun _ => []) (fun i => i ≤ a.length ∧ i ≤ b.length ∧ collideB (a.drop i) (b.drop i) = collideB a b) (fun i => a.length - i) 0 ⟨Nat.zero_le _, Nat.zero_le _, rfl⟩ ⟨by (repeat' (first | refine EndV.mk ?_ | exact trivial | exact rfl | refine And.intro ?_ ?_)), by (repeat' (first | refine EndV.mk ?_ | exact trivial | exact rfl | refine And.intro ?_ ?_)), rfl, rfl⟩ ?_
  rintro i ⟨hia, hib, hc⟩ K hK
  rcases Nat.lt_or_ge i (min a.length b.length) with hlt | hge
  · have ea : a.drop i = a.getD i [] :: a.drop (i + 1) := by rw [List.getD_eq_getElem?_getD, List.getElem?_eq_getElem (by omega), List.drop_eq_getElem_cons (by omega)]; rfl
    have eb : b.drop i = b.getD i [] :: b.drop (i + 1) := by rw [List.getD_eq_getElem?_getD, List.getElem?_eq_getElem (by omega), List.drop_eq_getElem_cons (by omega)]; rfl
    have hxl : (a.getD i []).length ≤ 1000 := by rw [List.getD_eq_getElem?_getD, List.getElem?_eq_getElem (by omega)]; exact h1 _ (List.getElem_mem _)
    have hyl : (b.getD i []).length ≤ 1000 := by rw [List.getD_eq_getElem?_getD, List.getElem?_eq_getElem (by omega)]; exact h2 _ (List.getElem_mem _)
    rw [ea, eb] at hc
    rw [show a.getD i [] = a.getD (i : Int).toNat (Cd.dflt U.str) from rfl] at hc hxl
    rw [show b.getD i [] = b.getD (i : Int).toNat (Cd.dflt U.str) from rfl] at hc hyl
    simp only [collideB] at hc
    generalize hx : a.getD (i : Int).toNat (Cd.dflt U.str) = x at *
    generalize hy : b.getD (i : Int).toNat (Cd.dflt U.str) = y at *
    have s1 := sum_meets x (by omega)
    have s2 := sum_meets y (by omega)
    by_cases hxy : x = y
    · have hsd : Side (i + 1 ≤ a.length ∧ i + 1 ≤ b.length ∧ collideB (a.drop (i + 1)) (b.drop (i + 1)) = collideB a b) := ⟨⟨by omega, by omega, by rw [← hc, decide_eq_false (p := x ≠ y) (by simp [hxy])]; simp⟩⟩
      (repeat' ((conv => whnf); first | (exfalso; omega) | (rw [hx]) | (rw [hy]) | (exact absurd hxy hb) | (refine callx_pure (s1) rfl rfl ?_) | (refine dcallx_pure (s1) rfl rfl ?_) | (refine callx_pure (s2) rfl rfl ?_) | (refine dcallx_pure (s2) rfl rfl ?_) | (refine hK (i + 1) [] _ _ hsd ?_ ?_) | (refine Back.mk ?_ ?_ rfl rfl <;> (repeat' (first | refine EndV.mk ?_ | exact trivial | exact rfl | refine And.intro ?_ ?_))) | (refine end_fn [] (.inr rfl) ?_ trivial rfl rfl) | (refine split_nd (fun hb => ?_) (fun hb => ?_)) | (refine split_d (fun hb => ?_) (fun hb => ?_)) | (refine split_n (fun hb => ?_) (fun hb => ?_)) | (refine split_x (fun hb => ?_) (fun hb => ?_)) | (refine And.intro (TraceOK.mk (by kernel_rfl)) ?_) | (refine Side.mk ?_; (repeat' (first | refine And.intro ?_ ?_ | exact inR_i64 (by omega) (by omega) | omega | rfl | exact trivial | exact none_ne rfl | exact some_ne rfl (Nat.ne_of_beq_eq_false rfl) | exact Nat.ne_of_beq_eq_false rfl | (dsimp only [srcSide]; omega) | (simp; done) | (simp; omega))); done) | (refine side_and ?_ ?_) | (refine drawX_of mixed ?_)))
    · by_cases hsum : sumB x = sumB y
      · rw [← hc, decide_eq_true (p := x ≠ y) hxy, decide_eq_true hsum]
        clear hK
        (repeat' ((conv => whnf); first | (exfalso; omega) | (rw [hx]) | (rw [hy]) | (exact absurd hb hxy) | (refine callx_pure (s1) rfl rfl ?_) | (refine dcallx_pure (s1) rfl rfl ?_) | (refine callx_pure (s2) rfl rfl ?_) | (refine dcallx_pure (s2) rfl rfl ?_) | (exact absurd hsum hb) | (refine end_fn [] (.inr rfl) ?_ trivial rfl rfl) | (refine split_nd (fun hb => ?_) (fun hb => ?_)) | (refine split_d (fun hb => ?_) (fun hb => ?_)) | (refine split_n (fun hb => ?_) (fun hb => ?_)) | (refine split_x (fun hb => ?_) (fun hb => ?_)) | (refine And.intro (TraceOK.mk (by kernel_rfl)) ?_) | (refine Side.mk ?_; (repeat' (first | refine And.intro ?_ ?_ | exact inR_i64 (by omega) (by omega) | omega | rfl | exact trivial | exact none_ne rfl | exact some_ne rfl (Nat.ne_of_beq_eq_false rfl) | exact Nat.ne_of_beq_eq_false rfl | (dsimp only [srcSide]; omega) | (simp; done) | (simp; omega))); done) | (refine side_and ?_ ?_) | (refine drawX_of mixed ?_)))
        all_goals (repeat' (first | refine EndV.mk ?_ | exact trivial | exact rfl | refine And.intro ?_ ?_))
      · have hsd : Side (i + 1 ≤ a.length ∧ i + 1 ≤ b.length ∧ collideB (a.drop (i + 1)) (b.drop (i + 1)) = collideB a b) := ⟨⟨by omega, by omega, by rw [← hc, decide_eq_false hsum]; simp⟩⟩
        (repeat' ((conv => whnf); first | (exfalso; omega) | (rw [hx]) | (rw [hy]) | (exact absurd hb hxy) | (refine callx_pure (s1) rfl rfl ?_) | (refine dcallx_pure (s1) rfl rfl ?_) | (refine callx_pure (s2) rfl rfl ?_) | (refine dcallx_pure (s2) rfl rfl ?_) | (exact absurd hb hsum) | (refine hK (i + 1) [] _ _ hsd ?_ ?_) | (refine Back.mk ?_ ?_ rfl rfl <;> (repeat' (first | refine EndV.mk ?_ | exact trivial | exact rfl | refine And.intro ?_ ?_))) | (refine end_fn [] (.inr rfl) ?_ trivial rfl rfl) | (refine split_nd (fun hb => ?_) (fun hb => ?_)) | (refine split_d (fun hb => ?_) (fun hb => ?_)) | (refine split_n (fun hb => ?_) (fun hb => ?_)) | (refine split_x (fun hb => ?_) (fun hb => ?_)) | (refine And.intro (TraceOK.mk (by kernel_rfl)) ?_) | (refine Side.mk ?_; (repeat' (first | refine And.intro ?_ ?_ | exact inR_i64 (by omega) (by omega) | omega | rfl | exact trivial | exact none_ne rfl | exact some_ne rfl (Nat.ne_of_beq_eq_false rfl) | exact Nat.ne_of_beq_eq_false rfl | (dsimp only [srcSide]; omega) | (simp; done) | (simp; omega))); done) | (refine side_and ?_ ?_) | (refine drawX_of mixed ?_)))
  · have hf : collideB a b = false := by
      rw [← hc]
      rcases Nat.lt_or_ge i a.length with h | h
      · rw [show b.drop i = [] from List.drop_eq_nil_of_le (by omega)]
        cases a.drop i <;> rfl
      · rw [show a.drop i = [] from List.drop_eq_nil_of_le (by omega)]
        rfl
    rw [hf]
    clear hK
    (repeat' ((conv => whnf); first | (exfalso; omega) | (refine end_fn [] (.inr rfl) ?_ trivial rfl rfl) | (refine split_nd (fun hb => ?_) (fun hb => ?_)) | (refine split_d (fun hb => ?_) (fun hb => ?_)) | (refine split_n (fun hb => ?_) (fun hb => ?_)) | (refine split_x (fun hb => ?_) (fun hb => ?_)) | (refine And.intro (TraceOK.mk (by kernel_rfl)) ?_) | (refine Side.mk ?_; (repeat' (first | refine And.intro ?_ ?_ | exact inR_i64 (by omega) (by omega) | omega | rfl | exact trivial | exact none_ne rfl | exact some_ne rfl (Nat.ne_of_beq_eq_false rfl) | exact Nat.ne_of_beq_eq_false rfl | (dsimp only [srcSide]; omega) | (simp; done) | (simp; omega))); done) | (refine side_and ?_ ?_) | (refine drawX_of mixed ?_)))
    all_goals (repeat' (first | refine EndV.mk ?_ | exact trivial | exact rfl | refine And.intro ?_ ?_))
theorem way_meets (s : Bs) (hs : s.length ≤ 100) : ∀ (q : List Bs) (n i : Nat), 1 ≤ n → n < 9223372036854775808 → i < n → q.length ≤ 500 → Short q → Meets Tryd.prog Dc 28 [.p (.int .i64 (n : Int)), .p (.int .i64 (i : Int)), .p (.str s), .p (.dsl U.str q.reverse)] [] (.tuple [.p (.dsl U.str (wayR s q n i).1), .p (.str (wayR s q n i).2)]) [] := by
  intro q
  have hle := leafM s (by omega)
  induction q with
  | nil =>
    intro n i h1 hn hi hq hS
    rw [show wayR s [] n i = ([0 :: s], leafH s) from rfl]
    refine meets_of_gx Ax tab_ok Tryd.func28 (c := _) rfl Tryd.call28 400 ?_
    (repeat' ((conv => whnf); first | (exfalso; omega) | (refine callx_pure (hle) rfl rfl ?_) | (refine dcallx_pure (hle) rfl rfl ?_) | (refine end_fn [] (.inr rfl) ?_ trivial rfl rfl) | (refine split_nd (fun hb => ?_) (fun hb => ?_)) | (refine split_d (fun hb => ?_) (fun hb => ?_)) | (refine split_n (fun hb => ?_) (fun hb => ?_)) | (refine split_x (fun hb => ?_) (fun hb => ?_)) | (refine And.intro (TraceOK.mk (by kernel_rfl)) ?_) | (refine Side.mk ?_; (repeat' (first | refine And.intro ?_ ?_ | exact inR_i64 (by omega) (by omega) | omega | rfl | exact trivial | exact none_ne rfl | exact some_ne rfl (Nat.ne_of_beq_eq_false rfl) | exact Nat.ne_of_beq_eq_false rfl | (dsimp only [srcSide]; omega) | (simp; done) | (simp; omega))); done) | (refine side_and ?_ ?_) | (refine drawX_of mixed ?_)))
    all_goals (repeat' (first | refine EndV.mk ?_ | exact trivial | exact rfl | refine And.intro ?_ ?_))
    all_goals exact ⟨_, rfl, rfl, rfl, by simp, by first | rfl | (rw [List.drop_zero, List.take_length]; rfl), rfl⟩
  | cons x q ih =>
    intro n i h1 hn hi hq hS
    have hx100 : x.length ≤ 100 := hS x (by simp)
    have hSq : Short q := fun s hs => hS s (by simp [hs])
    simp only [List.length_cons] at hq
    have hP1 : ((x :: q).reverse.length : Int) = (q.length : Int) + 1 := by simp
    have hP2 : (x :: q).reverse.getD ((x :: q).reverse.length - 1 : Int).toNat (Cd.dflt U.str) = x := by
      rw [hP1, show ((q.length : Int) + 1 - 1).toNat = q.length by omega]; simp [List.getD_eq_getElem?_getD]
    have hP3 : List.drop (Int.toNat 0) (List.take ((x :: q).reverse.length - 1 : Int).toNat (x :: q).reverse) = q.reverse := by
      rw [hP1, show ((q.length : Int) + 1 - 1).toNat = q.length by omega]; simp
    by_cases h1' : n = 1
    · subst h1'
      rw [show wayR s (x :: q) 1 i = ([0 :: s], leafH s) from by rw [wayR, if_pos (by omega)]]
      generalize (x :: q).reverse = P at hP1 hP2 hP3 ⊢
      refine meets_of_gx Ax tab_ok Tryd.func28 (c := _) rfl Tryd.call28 400 ?_
      (repeat' ((conv => whnf); first | (exfalso; omega) | (refine callx_pure (hle) rfl rfl ?_) | (refine dcallx_pure (hle) rfl rfl ?_) | (refine end_fn [] (.inr rfl) ?_ trivial rfl rfl) | (refine split_nd (fun hb => ?_) (fun hb => ?_)) | (refine split_d (fun hb => ?_) (fun hb => ?_)) | (refine split_n (fun hb => ?_) (fun hb => ?_)) | (refine split_x (fun hb => ?_) (fun hb => ?_)) | (refine And.intro (TraceOK.mk (by kernel_rfl)) ?_) | (refine Side.mk ?_; (repeat' (first | refine And.intro ?_ ?_ | exact inR_i64 (by omega) (by omega) | omega | rfl | exact trivial | exact none_ne rfl | exact some_ne rfl (Nat.ne_of_beq_eq_false rfl) | exact Nat.ne_of_beq_eq_false rfl | (dsimp only [srcSide]; omega) | (simp; done) | (simp; omega))); done) | (refine side_and ?_ ?_) | (refine drawX_of mixed ?_)))
      all_goals (repeat' (first | refine EndV.mk ?_ | exact trivial | exact rfl | refine And.intro ?_ ?_))
      all_goals exact ⟨_, rfl, rfl, rfl, by simp, by first | rfl | (rw [List.drop_zero, List.take_length]; rfl), rfl⟩
    · have hsp := leftN_spec (n := n) (by omega)
      have hleft := lawLeft_meets n (by omega) (by omega)
      obtain ⟨k, hk⟩ : ∃ k, leftN n = k := ⟨_, rfl⟩
      by_cases hik : i < leftN n
      · rw [wayR_lt s x q n i (by omega) hik]
        generalize (x :: q).reverse = P at hP1 hP2 hP3 ⊢
        rw [hk] at hsp hleft hik ⊢
        have ih1 := ih k i hsp.1 (by omega) hik (by omega) hSq
        rw [← hP3] at ih1
        have hv1 := wayR_length s q k i
        have hc1 := wayR_count s q k i
        generalize wayR s q k i = r at *
        obtain ⟨wl, wv⟩ := r
        dsimp only at *
        have hno := nodeM wv x (by omega) (by omega)
        refine meets_of_gx Ax tab_ok Tryd.func28 (c := _) rfl Tryd.call28 400 ?_
        (repeat' ((conv => whnf); first | (exfalso; omega) | (rw [hP2]) | (refine callx_pure (hle) rfl rfl ?_) | (refine dcallx_pure (hle) rfl rfl ?_) | (refine callx_pure (hleft) rfl rfl ?_) | (refine dcallx_pure (hleft) rfl rfl ?_) | (refine callx_pure (ih1) rfl rfl ?_) | (refine dcallx_pure (ih1) rfl rfl ?_) | (refine callx_pure (hno) rfl rfl ?_) | (refine dcallx_pure (hno) rfl rfl ?_) | (refine end_fn [] (.inr rfl) ?_ trivial rfl rfl) | (refine split_nd (fun hb => ?_) (fun hb => ?_)) | (refine split_d (fun hb => ?_) (fun hb => ?_)) | (refine split_n (fun hb => ?_) (fun hb => ?_)) | (refine split_x (fun hb => ?_) (fun hb => ?_)) | (refine And.intro (TraceOK.mk (by kernel_rfl)) ?_) | (refine Side.mk ?_; (repeat' (first | refine And.intro ?_ ?_ | exact inR_i64 (by omega) (by omega) | omega | rfl | exact trivial | exact none_ne rfl | exact some_ne rfl (Nat.ne_of_beq_eq_false rfl) | exact Nat.ne_of_beq_eq_false rfl | (dsimp only [srcSide]; omega) | (simp; done) | (simp; omega))); done) | (refine side_and ?_ ?_) | (refine drawX_of mixed ?_)))
        all_goals (repeat' (first | refine EndV.mk ?_ | exact trivial | exact rfl | refine And.intro ?_ ?_))
        all_goals exact ⟨_, rfl, rfl, rfl, by simp, by first | rfl | (rw [List.drop_zero, List.take_length]; rfl), rfl⟩
      · rw [wayR_ge s x q n i (by omega) hik]
        generalize (x :: q).reverse = P at hP1 hP2 hP3 ⊢
        rw [hk] at hsp hleft hik ⊢
        have ih1 := ih (n - k) (i - k) (by omega) (by omega) (by omega) (by omega) hSq
        rw [← hP3] at ih1
        have hv1 := wayR_length s q (n - k) (i - k)
        have hc1 := wayR_count s q (n - k) (i - k)
        generalize wayR s q (n - k) (i - k) = r at *
        obtain ⟨wl, wv⟩ := r
        dsimp only at *
        have hno := nodeM x wv (by omega) (by omega)
        have en : ((n - k : Nat) : Int) = (n : Int) - k := by omega
        have ei : ((i - k : Nat) : Int) = (i : Int) - k := by omega
        rw [en, ei] at ih1
        refine meets_of_gx Ax tab_ok Tryd.func28 (c := _) rfl Tryd.call28 400 ?_
        (repeat' ((conv => whnf); first | (exfalso; omega) | (rw [hP2]) | (refine callx_pure (hle) rfl rfl ?_) | (refine dcallx_pure (hle) rfl rfl ?_) | (refine callx_pure (hleft) rfl rfl ?_) | (refine dcallx_pure (hleft) rfl rfl ?_) | (refine callx_pure (ih1) rfl rfl ?_) | (refine dcallx_pure (ih1) rfl rfl ?_) | (refine callx_pure (hno) rfl rfl ?_) | (refine dcallx_pure (hno) rfl rfl ?_) | (refine end_fn [] (.inr rfl) ?_ trivial rfl rfl) | (refine split_nd (fun hb => ?_) (fun hb => ?_)) | (refine split_d (fun hb => ?_) (fun hb => ?_)) | (refine split_n (fun hb => ?_) (fun hb => ?_)) | (refine split_x (fun hb => ?_) (fun hb => ?_)) | (refine And.intro (TraceOK.mk (by kernel_rfl)) ?_) | (refine Side.mk ?_; (repeat' (first | refine And.intro ?_ ?_ | exact inR_i64 (by omega) (by omega) | omega | rfl | exact trivial | exact none_ne rfl | exact some_ne rfl (Nat.ne_of_beq_eq_false rfl) | exact Nat.ne_of_beq_eq_false rfl | (dsimp only [srcSide]; omega) | (simp; done) | (simp; omega))); done) | (refine side_and ?_ ?_) | (refine drawX_of mixed ?_)))
        all_goals (repeat' (first | refine EndV.mk ?_ | exact trivial | exact rfl | refine And.intro ?_ ?_))
        all_goals exact ⟨_, rfl, rfl, rfl, by simp, by first | rfl | (rw [List.drop_zero, List.take_length]; rfl), rfl⟩
theorem sides_meets (old : Bs) (ho : old.length ≤ 100) : ∀ (q : List Bs) (m n : Nat) (whole : Bool), 1 ≤ m → m ≤ n → n < 9223372036854775808 → q.length ≤ 500 → Short q → Meets Tryd.prog Dc 30 [.p (.str old), .p (.int .i64 (m : Int)), .p (.int .i64 (n : Int)), .p (.dsl U.str q.reverse), .p (.bool whole)] [] (.tuple [.p (.dsl U.str (sidesR old q m n whole).1), .p (.str (sidesR old q m n whole).2)]) [] := by
  intro q
  induction q with
  | nil =>
    intro m n whole h1 hmn hn hq hS
    rw [show sidesR old [] m n whole = ([], old) from rfl]
    cases whole with
    | true =>
      refine meets_of_gx Ax tab_ok Tryd.func30 (c := _) rfl Tryd.call30 400 ?_
      (repeat' ((conv => whnf); first | (exfalso; omega) | (refine end_fn [] (.inr rfl) ?_ trivial rfl rfl) | (refine split_nd (fun hb => ?_) (fun hb => ?_)) | (refine split_d (fun hb => ?_) (fun hb => ?_)) | (refine split_n (fun hb => ?_) (fun hb => ?_)) | (refine split_x (fun hb => ?_) (fun hb => ?_)) | (refine And.intro (TraceOK.mk (by kernel_rfl)) ?_) | (refine Side.mk ?_; (repeat' (first | refine And.intro ?_ ?_ | exact inR_i64 (by omega) (by omega) | omega | rfl | exact trivial | exact none_ne rfl | exact some_ne rfl (Nat.ne_of_beq_eq_false rfl) | exact Nat.ne_of_beq_eq_false rfl | (dsimp only [srcSide]; omega) | (simp; done) | (simp; omega))); done) | (refine side_and ?_ ?_) | (refine drawX_of mixed ?_)))
      all_goals (repeat' (first | refine EndV.mk ?_ | exact trivial | exact rfl | refine And.intro ?_ ?_))
    | false =>
      refine meets_of_gx Ax tab_ok Tryd.func30 (c := _) rfl Tryd.call30 400 ?_
      (repeat' ((conv => whnf); first | (exfalso; omega) | (refine end_fn [] (.inr rfl) ?_ trivial rfl rfl) | (refine split_nd (fun hb => ?_) (fun hb => ?_)) | (refine split_d (fun hb => ?_) (fun hb => ?_)) | (refine split_n (fun hb => ?_) (fun hb => ?_)) | (refine split_x (fun hb => ?_) (fun hb => ?_)) | (refine And.intro (TraceOK.mk (by kernel_rfl)) ?_) | (refine Side.mk ?_; (repeat' (first | refine And.intro ?_ ?_ | exact inR_i64 (by omega) (by omega) | omega | rfl | exact trivial | exact none_ne rfl | exact some_ne rfl (Nat.ne_of_beq_eq_false rfl) | exact Nat.ne_of_beq_eq_false rfl | (dsimp only [srcSide]; omega) | (simp; done) | (simp; omega))); done) | (refine side_and ?_ ?_) | (refine drawX_of mixed ?_)))
      all_goals (repeat' (first | refine EndV.mk ?_ | exact trivial | exact rfl | refine And.intro ?_ ?_))
  | cons x q ih =>
    intro m n whole h1 hmn hn hq hS
    have hx100 : x.length ≤ 100 := hS x (by simp)
    have hSq : Short q := fun s hs => hS s (by simp [hs])
    simp only [List.length_cons] at hq
    have hP1 : ((x :: q).reverse.length : Int) = (q.length : Int) + 1 := by simp
    have hP2 : (x :: q).reverse.getD ((x :: q).reverse.length - 1 : Int).toNat (Cd.dflt U.str) = x := by
      rw [hP1, show ((q.length : Int) + 1 - 1).toNat = q.length by omega]; simp [List.getD_eq_getElem?_getD]
    have hP3 : List.drop (Int.toNat 0) (List.take ((x :: q).reverse.length - 1 : Int).toNat (x :: q).reverse) = q.reverse := by
      rw [hP1, show ((q.length : Int) + 1 - 1).toNat = q.length by omega]; simp
    have hP0 : (x :: q).reverse.getD (0 : Int).toNat (Cd.dflt U.str) = (x :: q).getLastD [] := by
      rw [List.getD_eq_getElem?_getD, show (0 : Int).toNat = 0 from rfl, List.getElem?_reverse (by simp), List.getLastD_eq_getLast?, List.getLast?_eq_getElem?]
      simp
    by_cases h1' : n ≤ m
    · cases whole with
      | true =>
        rw [show sidesR old (x :: q) m n true = ([], old) by unfold sidesR; rw [if_pos h1', if_pos rfl]]
        generalize (x :: q).reverse = P at hP0 hP1 hP2 hP3 ⊢
        refine meets_of_gx Ax tab_ok Tryd.func30 (c := _) rfl Tryd.call30 400 ?_
        (repeat' ((conv => whnf); first | (exfalso; omega) | (refine end_fn [] (.inr rfl) ?_ trivial rfl rfl) | (refine split_nd (fun hb => ?_) (fun hb => ?_)) | (refine split_d (fun hb => ?_) (fun hb => ?_)) | (refine split_n (fun hb => ?_) (fun hb => ?_)) | (refine split_x (fun hb => ?_) (fun hb => ?_)) | (refine And.intro (TraceOK.mk (by kernel_rfl)) ?_) | (refine Side.mk ?_; (repeat' (first | refine And.intro ?_ ?_ | exact inR_i64 (by omega) (by omega) | omega | rfl | exact trivial | exact none_ne rfl | exact some_ne rfl (Nat.ne_of_beq_eq_false rfl) | exact Nat.ne_of_beq_eq_false rfl | (dsimp only [srcSide]; omega) | (simp; done) | (simp; omega))); done) | (refine side_and ?_ ?_) | (refine drawX_of mixed ?_)))
        all_goals (repeat' (first | refine EndV.mk ?_ | exact trivial | exact rfl | refine And.intro ?_ ?_))
      | false =>
        rw [show sidesR old (x :: q) m n false = ([], (x :: q).getLastD []) by unfold sidesR; rw [if_pos h1', if_neg (by simp)]]
        rw [← hP0]
        generalize (x :: q).reverse = P at hP0 hP1 hP2 hP3 ⊢
        refine meets_of_gx Ax tab_ok Tryd.func30 (c := _) rfl Tryd.call30 400 ?_
        (repeat' ((conv => whnf); first | (exfalso; omega) | (refine end_fn [] (.inr rfl) ?_ trivial rfl rfl) | (refine split_nd (fun hb => ?_) (fun hb => ?_)) | (refine split_d (fun hb => ?_) (fun hb => ?_)) | (refine split_n (fun hb => ?_) (fun hb => ?_)) | (refine split_x (fun hb => ?_) (fun hb => ?_)) | (refine And.intro (TraceOK.mk (by kernel_rfl)) ?_) | (refine Side.mk ?_; (repeat' (first | refine And.intro ?_ ?_ | exact inR_i64 (by omega) (by omega) | omega | rfl | exact trivial | exact none_ne rfl | exact some_ne rfl (Nat.ne_of_beq_eq_false rfl) | exact Nat.ne_of_beq_eq_false rfl | (dsimp only [srcSide]; omega) | (simp; done) | (simp; omega))); done) | (refine side_and ?_ ?_) | (refine drawX_of mixed ?_)))
        all_goals (repeat' (first | refine EndV.mk ?_ | exact trivial | exact rfl | refine And.intro ?_ ?_))
    · have hsp := leftN_spec (n := n) (by omega)
      have hleft := lawLeft_meets n (by omega) (by omega)
      obtain ⟨k, hk⟩ : ∃ k, leftN n = k := ⟨_, rfl⟩
      by_cases hik : m ≤ leftN n
      · rw [sidesR_lt old x q m n whole (by omega) hik]
        generalize (x :: q).reverse = P at hP0 hP1 hP2 hP3 ⊢
        rw [hk] at hsp hleft hik ⊢
        have ih1 := ih m k whole h1 hik (by omega) (by omega) hSq
        rw [← hP3] at ih1
        have hv1 := sidesR_length old ho q m k whole hSq
        have hc1 := sidesR_count old q m k whole
        generalize sidesR old q m k whole = r at *
        obtain ⟨wl, wv⟩ := r
        dsimp only at *
        have hno := nodeM wv x (by omega) (by omega)
        refine meets_of_gx Ax tab_ok Tryd.func30 (c := _) rfl Tryd.call30 400 ?_
        (repeat' ((conv => whnf); first | (exfalso; omega) | (rw [hP2]) | (refine callx_pure (hleft) rfl rfl ?_) | (refine dcallx_pure (hleft) rfl rfl ?_) | (refine callx_pure (ih1) rfl rfl ?_) | (refine dcallx_pure (ih1) rfl rfl ?_) | (refine callx_pure (hno) rfl rfl ?_) | (refine dcallx_pure (hno) rfl rfl ?_) | (refine end_fn [] (.inr rfl) ?_ trivial rfl rfl) | (refine split_nd (fun hb => ?_) (fun hb => ?_)) | (refine split_d (fun hb => ?_) (fun hb => ?_)) | (refine split_n (fun hb => ?_) (fun hb => ?_)) | (refine split_x (fun hb => ?_) (fun hb => ?_)) | (refine And.intro (TraceOK.mk (by kernel_rfl)) ?_) | (refine Side.mk ?_; (repeat' (first | refine And.intro ?_ ?_ | exact inR_i64 (by omega) (by omega) | omega | rfl | exact trivial | exact none_ne rfl | exact some_ne rfl (Nat.ne_of_beq_eq_false rfl) | exact Nat.ne_of_beq_eq_false rfl | (dsimp only [srcSide]; omega) | (simp; done) | (simp; omega))); done) | (refine side_and ?_ ?_) | (refine drawX_of mixed ?_)))
        all_goals (repeat' (first | refine EndV.mk ?_ | exact trivial | exact rfl | refine And.intro ?_ ?_))
        all_goals exact ⟨_, rfl, rfl, rfl, by simp, by first | rfl | (rw [List.drop_zero, List.take_length]; rfl), rfl⟩
      · rw [sidesR_gt old x q m n whole (by omega) hik]
        generalize (x :: q).reverse = P at hP0 hP1 hP2 hP3 ⊢
        rw [hk] at hsp hleft hik ⊢
        have ih1 := ih (m - k) (n - k) false (by omega) (by omega) (by omega) (by omega) hSq
        rw [← hP3] at ih1
        have hv1 := sidesR_length old ho q (m - k) (n - k) false hSq
        have hc1 := sidesR_count old q (m - k) (n - k) false
        generalize sidesR old q (m - k) (n - k) false = r at *
        obtain ⟨wl, wv⟩ := r
        dsimp only at *
        have hno := nodeM x wv (by omega) (by omega)
        have en : ((n - k : Nat) : Int) = (n : Int) - k := by omega
        have ei : ((m - k : Nat) : Int) = (m : Int) - k := by omega
        rw [en, ei] at ih1
        refine meets_of_gx Ax tab_ok Tryd.func30 (c := _) rfl Tryd.call30 400 ?_
        (repeat' ((conv => whnf); first | (exfalso; omega) | (rw [hP2]) | (refine callx_pure (hleft) rfl rfl ?_) | (refine dcallx_pure (hleft) rfl rfl ?_) | (refine callx_pure (ih1) rfl rfl ?_) | (refine dcallx_pure (ih1) rfl rfl ?_) | (refine callx_pure (hno) rfl rfl ?_) | (refine dcallx_pure (hno) rfl rfl ?_) | (refine end_fn [] (.inr rfl) ?_ trivial rfl rfl) | (refine split_nd (fun hb => ?_) (fun hb => ?_)) | (refine split_d (fun hb => ?_) (fun hb => ?_)) | (refine split_n (fun hb => ?_) (fun hb => ?_)) | (refine split_x (fun hb => ?_) (fun hb => ?_)) | (refine And.intro (TraceOK.mk (by kernel_rfl)) ?_) | (refine Side.mk ?_; (repeat' (first | refine And.intro ?_ ?_ | exact inR_i64 (by omega) (by omega) | omega | rfl | exact trivial | exact none_ne rfl | exact some_ne rfl (Nat.ne_of_beq_eq_false rfl) | exact Nat.ne_of_beq_eq_false rfl | (dsimp only [srcSide]; omega) | (simp; done) | (simp; omega))); done) | (refine side_and ?_ ?_) | (refine drawX_of mixed ?_)))
        all_goals (repeat' (first | refine EndV.mk ?_ | exact trivial | exact rfl | refine And.intro ?_ ?_))
        all_goals exact ⟨_, rfl, rfl, rfl, by simp, by first | rfl | (rw [List.drop_zero, List.take_length]; rfl), rfl⟩
end Go.SX
