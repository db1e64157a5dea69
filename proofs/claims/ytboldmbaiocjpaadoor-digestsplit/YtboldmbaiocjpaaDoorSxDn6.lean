/-
  Walks: Dn6, Dn7, Dn9: what single functions of the program compute.
-/
import Derived.Test.YtboldmbaiocjpaaDoorSxDn4
namespace Go.SX
open Go.Proofs
set_option linter.unusedSimpArgs false
set_option linter.unusedVariables false
set_option maxHeartbeats 4000000
set_option maxRecDepth 100000
/-! ### Whoever proves two different things has found two strings with the same digest -/
def collideB : List Bs → List Bs → Bool
  | x :: a, y :: b => (decide (x ≠ y) && decide (sumB x = sumB y)) || collideB a b
  | _, _ => false
def wayR (s : Bs) : List Bs → Nat → Nat → List Bs × Bs
  | [], n, i => ([0 :: s], leafH s)
  | x :: q, n, i => if n ≤ 1 then ([0 :: s], leafH s) else
    if i < leftN n then ((1 :: ((wayR s q (leftN n) i).2 ++ x)) :: (wayR s q (leftN n) i).1, nodeH (wayR s q (leftN n) i).2 x)
    else ((1 :: (x ++ (wayR s q (n - leftN n) (i - leftN n)).2)) :: (wayR s q (n - leftN n) (i - leftN n)).1, nodeH x (wayR s q (n - leftN n) (i - leftN n)).2)
theorem wayR_lt (s x : Bs) (q : List Bs) (n i : Nat) (h1 : 2 ≤ n) (h : i < leftN n) : wayR s (x :: q) n i = ((1 :: ((wayR s q (leftN n) i).2 ++ x)) :: (wayR s q (leftN n) i).1, nodeH (wayR s q (leftN n) i).2 x) := by rw [wayR, if_neg (by omega), if_pos h]
theorem wayR_ge (s x : Bs) (q : List Bs) (n i : Nat) (h1 : 2 ≤ n) (h : ¬ i < leftN n) : wayR s (x :: q) n i = ((1 :: (x ++ (wayR s q (n - leftN n) (i - leftN n)).2)) :: (wayR s q (n - leftN n) (i - leftN n)).1, nodeH x (wayR s q (n - leftN n) (i - leftN n)).2) := by rw [wayR, if_neg (by omega), if_neg h]
def Mid (l : List Bs) : Prop := ∀ s ∈ l, s.length ≤ 1000
theorem wayR_length (s : Bs) : ∀ (q : List Bs) (n i : Nat), (wayR s q n i).2.length = 32
  | [], n, i => leafH_length s
  | x :: q, n, i => by
    unfold wayR
    split
    · exact leafH_length s
    · split <;> exact nodeH_length _ _
theorem wayR_mid (s : Bs) (hs : s.length ≤ 100) : ∀ (q : List Bs) (n i : Nat), Short q → Mid (wayR s q n i).1
  | [], n, i, _ => fun z hz => by simp [wayR] at hz; subst hz; simp; omega
  | x :: q, n, i, hq => by
    have hx : x.length ≤ 100 := hq x (by simp)
    have hq' : Short q := fun z hz => hq z (by simp [hz])
    have h1 := wayR_mid s hs q (leftN n) i hq'
    have h2 := wayR_mid s hs q (n - leftN n) (i - leftN n) hq'
    have l1 := wayR_length s q (leftN n) i
    have l2 := wayR_length s q (n - leftN n) (i - leftN n)
    unfold wayR
    split
    · intro z hz; simp at hz; subst hz; simp; omega
    · split
      · intro z hz
        rcases List.mem_cons.1 hz with rfl | hz
        · simp; omega
        · exact h1 z hz
      · intro z hz
        rcases List.mem_cons.1 hz with rfl | hz
        · simp; omega
        · exact h2 z hz
theorem wayR_count (s : Bs) : ∀ (q : List Bs) (n i : Nat), (wayR s q n i).1.length ≤ q.length + 1
  | [], n, i => by simp [wayR]
  | x :: q, n, i => by
    have h1 := wayR_count s q (leftN n) i
    have h2 := wayR_count s q (n - leftN n) (i - leftN n)
    unfold wayR
    split
    · simp
    · split <;> simp <;> omega
/-- at a proof that is accepted, the way's value is the proof's -/
theorem way_val (s : Bs) : ∀ (q : List Bs) (n i : Nat), 1 ≤ n → (valR s q n i).2 = true → (wayR s q n i).2 = (valR s q n i).1
  | [], n, i, _, h => by
    unfold valR at *
    split at h
    · rename_i h1; rw [if_pos h1]; rfl
    · simp at h
  | x :: q, n, i, h0, h => by
    have hn : n ≠ 1 := by rintro rfl; simp [valR] at h
    have hsp := leftN_spec (n := n) (by omega)
    rw [valR, if_neg hn] at h ⊢
    have h1 := way_val s q (leftN n) i (by omega)
    have h2 := way_val s q (n - leftN n) (i - leftN n) (by omega)
    unfold wayR
    rw [if_neg (by omega)]
    by_cases hi : i < leftN n
    · rw [if_pos hi] at h ⊢
      rw [if_pos hi, h1 h]
    · rw [if_neg hi] at h ⊢
      rw [if_neg hi, h2 h]
theorem split32 {v v' x x' : Bs} (hl : v.length = v'.length) (h : v ++ x = v' ++ x') : v = v' ∧ x = x' := List.append_inj h hl
theorem way_collide (s t : Bs) (hst : s ≠ t) : ∀ (p q : List Bs) (n i : Nat), 1 ≤ n → (valR s p n i).2 = true → (valR t q n i).2 = true → (valR s p n i).1 = (valR t q n i).1 →
    (∀ z ∈ p, z.length = 32) → (∀ z ∈ q, z.length = 32) → collideB (wayR s p n i).1 (wayR t q n i).1 = true := by
  intro p
  induction p with
  | nil =>
    intro q n i h0 h1 h2 he hp hq
    have hn : n = 1 := by unfold valR at h1; split at h1 <;> simp_all
    subst hn
    rcases q with _ | ⟨y, q⟩
    · have he' : sumB (0 :: s) = sumB (0 :: t) := he
      simp [wayR, collideB, hst, he']
    · simp [valR] at h2
  | cons x p ih =>
    intro q n i h0 h1 h2 he hp hq
    have hn : n ≠ 1 := by rintro rfl; simp [valR] at h1
    have hsp := leftN_spec (n := n) (by omega)
    rcases q with _ | ⟨y, q⟩
    · unfold valR at h2; rw [if_neg hn] at h2; simp at h2
    · have hx := hp x (by simp)
      have hy := hq y (by simp)
      have hp' : ∀ z ∈ p, z.length = 32 := fun z hz => hp z (by simp [hz])
      have hq' : ∀ z ∈ q, z.length = 32 := fun z hz => hq z (by simp [hz])
      rw [valR, if_neg hn] at h1 h2 he
      rw [valR, if_neg hn] at he
      by_cases hi : i < leftN n
      · rw [if_pos hi] at h1 h2
        rw [if_pos hi, if_pos hi] at he
        rw [wayR_lt s x p n i (by omega) hi, wayR_lt t y q n i (by omega) hi]
        have w1 := way_val s p (leftN n) i (by omega) h1
        have w2 := way_val t q (leftN n) i (by omega) h2
        have l1 := wayR_length s p (leftN n) i
        have l2 := wayR_length t q (leftN n) i
        have ih1 := ih q (leftN n) i (by omega) h1 h2
        rw [← w1, ← w2] at he ih1
        have he' : sumB (1 :: ((wayR s p (leftN n) i).2 ++ x)) = sumB (1 :: ((wayR t q (leftN n) i).2 ++ y)) := he
        simp only [collideB]
        by_cases heq : (1 :: ((wayR s p (leftN n) i).2 ++ x) : Bs) = 1 :: ((wayR t q (leftN n) i).2 ++ y)
        · obtain ⟨e1, _⟩ := split32 (by rw [l1, l2]) (List.cons.inj heq).2
          rw [ih1 e1 hp' hq']
          simp
        · rw [decide_eq_true (p := _ ≠ _) heq, decide_eq_true he']; rfl
      · rw [if_neg hi] at h1 h2
        rw [if_neg hi, if_neg hi] at he
        rw [wayR_ge s x p n i (by omega) hi, wayR_ge t y q n i (by omega) hi]
        have w1 := way_val s p (n - leftN n) (i - leftN n) (by omega) h1
        have w2 := way_val t q (n - leftN n) (i - leftN n) (by omega) h2
        have ih1 := ih q (n - leftN n) (i - leftN n) (by omega) h1 h2
        rw [← w1, ← w2] at he ih1
        have he' : sumB (1 :: (x ++ (wayR s p (n - leftN n) (i - leftN n)).2)) = sumB (1 :: (y ++ (wayR t q (n - leftN n) (i - leftN n)).2)) := he
        simp only [collideB]
        by_cases heq : (1 :: (x ++ (wayR s p (n - leftN n) (i - leftN n)).2) : Bs) = 1 :: (y ++ (wayR t q (n - leftN n) (i - leftN n)).2)
        · obtain ⟨_, e1⟩ := split32 (by rw [hx, hy]) (List.cons.inj heq).2
          rw [ih1 e1 hp' hq']
          simp
        · rw [decide_eq_true (p := _ ≠ _) heq, decide_eq_true he']; rfl
theorem digests_mem {l : List Bs} (h : digestsB l = true) : ∀ z ∈ l, z.length = 32 := by
  intro s hs
  unfold digestsB at h
  have := List.all_eq_true.1 h s hs
  simpa using this
theorem binding (root s t : Bs) (n i : Int) (p q : List Bs) (hst : s ≠ t) (h1 : verB root n i s p = true) (h2 : verB root n i t q = true) :
    0 ≤ i ∧ i < n ∧ collideB (wayR s p.reverse n.toNat i.toNat).1 (wayR t q.reverse n.toNat i.toNat).1 = true := by
  unfold verB at h1 h2
  simp only [Bool.and_eq_true, Bool.not_eq_true', decide_eq_false_iff_not, beq_iff_eq] at h1 h2
  obtain ⟨⟨⟨⟨a1, a2⟩, a3⟩, a4⟩, a5⟩ := h1
  obtain ⟨⟨⟨⟨_, _⟩, b3⟩, b4⟩, b5⟩ := h2
  refine ⟨by omega, by omega, way_collide s t hst _ _ _ _ (by omega) a4 b4 (by rw [a5, b5]) ?_ ?_⟩
  · intro z hz; exact digests_mem a3 z (by simpa using hz)
  · intro z hz; exact digests_mem b3 z (by simpa using hz)
/-! ### Extensions -/
def sidesR (old : Bs) : List Bs → Nat → Nat → Bool → List Bs × Bs
  | [], m, n, whole => ([], old)
  | x :: q, m, n, whole => if n ≤ m then (if whole then ([], old) else ([], (x :: q).getLastD [])) else
    if m ≤ leftN n then ((1 :: ((sidesR old q m (leftN n) whole).2 ++ x)) :: (sidesR old q m (leftN n) whole).1, nodeH (sidesR old q m (leftN n) whole).2 x)
    else ((1 :: (x ++ (sidesR old q (m - leftN n) (n - leftN n) false).2)) :: (sidesR old q (m - leftN n) (n - leftN n) false).1, nodeH x (sidesR old q (m - leftN n) (n - leftN n) false).2)
theorem sidesR_lt (a x : Bs) (q : List Bs) (m n : Nat) (whole : Bool) (h1 : m < n) (h : m ≤ leftN n) : sidesR a (x :: q) m n whole = ((1 :: ((sidesR a q m (leftN n) whole).2 ++ x)) :: (sidesR a q m (leftN n) whole).1, nodeH (sidesR a q m (leftN n) whole).2 x) := by
  conv => lhs; unfold sidesR
  rw [if_neg (by omega), if_pos h]
theorem sidesR_gt (a x : Bs) (q : List Bs) (m n : Nat) (whole : Bool) (h1 : m < n) (h : ¬ m ≤ leftN n) : sidesR a (x :: q) m n whole = ((1 :: (x ++ (sidesR a q (m - leftN n) (n - leftN n) false).2)) :: (sidesR a q (m - leftN n) (n - leftN n) false).1, nodeH x (sidesR a q (m - leftN n) (n - leftN n) false).2) := by
  conv => lhs; unfold sidesR
  rw [if_neg (by omega), if_neg h]
theorem sidesR_length (old : Bs) (ho : old.length ≤ 100) : ∀ (q : List Bs) (m n : Nat) (whole : Bool), Short q → (sidesR old q m n whole).2.length ≤ 100
  | [], m, n, whole, _ => ho
  | x :: q, m, n, whole, hq => by
    have hx : x.length ≤ 100 := hq x (by simp)
    unfold sidesR
    split
    · split
      · exact ho
      · rw [List.getLastD_cons]
        exact hq _ (by cases q with
          | nil => simp
          | cons y q => rw [List.getLastD_cons]; exact List.mem_cons_of_mem _ (by rw [← List.getLast_eq_getLastD (a := y) (l := q)]; exact List.getLast_mem (by simp)))
    · split <;> (rw [nodeH_length]; omega)
theorem sidesR_mid (old : Bs) (ho : old.length ≤ 100) : ∀ (q : List Bs) (m n : Nat) (whole : Bool), Short q → Mid (sidesR old q m n whole).1
  | [], m, n, whole, _ => fun z hz => by simp [sidesR] at hz
  | x :: q, m, n, whole, hq => by
    have hx : x.length ≤ 100 := hq x (by simp)
    have hq' : Short q := fun z hz => hq z (by simp [hz])
    have h1 := sidesR_mid old ho q m (leftN n) whole hq'
    have h2 := sidesR_mid old ho q (m - leftN n) (n - leftN n) false hq'
    have l1 := sidesR_length old ho q m (leftN n) whole hq'
    have l2 := sidesR_length old ho q (m - leftN n) (n - leftN n) false hq'
    unfold sidesR
    split
    · split <;> (intro z hz; simp at hz)
    · split
      · intro z hz
        rcases List.mem_cons.1 hz with rfl | hz
        · simp; omega
        · exact h1 z hz
      · intro z hz
        rcases List.mem_cons.1 hz with rfl | hz
        · simp; omega
        · exact h2 z hz
theorem sidesR_count (old : Bs) : ∀ (q : List Bs) (m n : Nat) (whole : Bool), (sidesR old q m n whole).1.length ≤ q.length
  | [], m, n, whole => by simp [sidesR]
  | x :: q, m, n, whole => by
    have h1 := sidesR_count old q m (leftN n) whole
    have h2 := sidesR_count old q (m - leftN n) (n - leftN n) false
    unfold sidesR
    split
    · split <;> simp
    · split <;> simp <;> omega
theorem sides_val (old : Bs) : ∀ (q : List Bs) (m n : Nat) (whole : Bool), m ≤ n → (bothR old q m n whole).2.2 = true → (sidesR old q m n whole).2 = (bothR old q m n whole).2.1
  | [], m, n, whole, hmn, h => by
    unfold bothR at *
    split at h
    · rename_i h1
      split at h
      · rename_i h2; rw [if_pos h1, if_pos h2]; rfl
      · simp at h
    · simp at h
  | x :: q, m, n, whole, hmn, h => by
    by_cases hm : m = n
    · subst hm
      cases whole with
      | true => simp [bothR] at h
      | false =>
        rcases q with _ | ⟨y, q⟩
        · simp [sidesR, bothR]
        · simp [bothR] at h
    · have h1 := sides_val old q m (leftN n) whole
      have h2 := sides_val old q (m - leftN n) (n - leftN n) false
      unfold sidesR
      rw [if_neg (by omega)]
      by_cases hi : m ≤ leftN n
      · rw [bothR_lt old x q m n whole hm hi] at h ⊢
        rw [if_pos hi, h1 hi h]
      · rw [bothR_gt old x q m n whole hm hi] at h ⊢
        rw [if_neg hi, h2 (by omega) h]
theorem both_len32 (old : Bs) (ho : old.length = 32) : ∀ (q : List Bs) (m n : Nat) (whole : Bool), (∀ z ∈ q, z.length = 32) → (bothR old q m n whole).2.2 = true → (bothR old q m n whole).2.1.length = 32
  | [], m, n, whole, _, h => by
    unfold bothR at *
    split at h
    · split at h
      · rename_i h1 h2; rw [if_pos h1, if_pos h2]; exact ho
      · simp at h
    · simp at h
  | x :: q, m, n, whole, hq, h => by
    by_cases hm : m = n
    · subst hm
      cases whole with
      | true => simp [bothR] at h
      | false =>
        rcases q with _ | ⟨y, q⟩
        · simpa [bothR] using hq x (by simp)
        · simp [bothR] at h
    · by_cases hi : m ≤ leftN n
      · rw [bothR_lt old x q m n whole hm hi]; exact nodeH_length _ _
      · rw [bothR_gt old x q m n whole hm hi]; exact nodeH_length _ _
theorem sides_collide (a b : Bs) (ha : a.length = 32) (hb : b.length = 32) : ∀ (p q : List Bs) (m n : Nat) (whole : Bool), m ≤ n → (bothR a p m n whole).2.2 = true → (bothR b q m n whole).2.2 = true →
    (bothR a p m n whole).2.1 = (bothR b q m n whole).2.1 → (∀ z ∈ p, z.length = 32) → (∀ z ∈ q, z.length = 32) →
    collideB (sidesR a p m n whole).1 (sidesR b q m n whole).1 = true ∨ (bothR a p m n whole).1 = (bothR b q m n whole).1 := by
  intro p
  induction p with
  | nil =>
    intro q m n whole hmn h1 h2 he hp hq
    have hw : m = n ∧ whole = true := by
      unfold bothR at h1
      split at h1
      · split at h1
        · exact ⟨by assumption, by assumption⟩
        · simp at h1
      · simp at h1
    obtain ⟨rfl, rfl⟩ := hw
    rcases q with _ | ⟨y, q⟩
    · right; simpa [bothR] using he
    · simp [bothR] at h2
  | cons x p ih =>
    intro q m n whole hmn h1 h2 he hp hq
    by_cases hm : m = n
    · subst hm
      cases whole with
      | true => simp [bothR] at h1
      | false =>
        rcases p with _ | ⟨x2, p⟩
        · rcases q with _ | ⟨y, _ | ⟨y2, q⟩⟩
          · simp [bothR] at h2
          · right; simpa [bothR] using he
          · simp [bothR] at h2
        · simp [bothR] at h1
    · rcases q with _ | ⟨y, q⟩
      · unfold bothR at h2; rw [if_neg hm] at h2; simp at h2
      · have hx := hp x (by simp)
        have hy := hq y (by simp)
        have hp' : ∀ z ∈ p, z.length = 32 := fun z hz => hp z (by simp [hz])
        have hq' : ∀ z ∈ q, z.length = 32 := fun z hz => hq z (by simp [hz])
        by_cases hi : m ≤ leftN n
        · rw [bothR_lt a x p m n whole hm hi] at h1 he ⊢
          rw [bothR_lt b y q m n whole hm hi] at h2 he ⊢
          rw [sidesR_lt a x p m n whole (by omega) hi, sidesR_lt b y q m n whole (by omega) hi]
          have w1 := sides_val a p m (leftN n) whole hi h1
          have w2 := sides_val b q m (leftN n) whole hi h2
          have l1 := both_len32 a ha p m (leftN n) whole hp' h1
          have l2 := both_len32 b hb q m (leftN n) whole hq' h2
          have ih1 := ih q m (leftN n) whole hi h1 h2
          rw [w1, w2]
          have he' : sumB (1 :: ((bothR a p m (leftN n) whole).2.1 ++ x)) = sumB (1 :: ((bothR b q m (leftN n) whole).2.1 ++ y)) := he
          simp only [collideB]
          by_cases heq : (1 :: ((bothR a p m (leftN n) whole).2.1 ++ x) : Bs) = 1 :: ((bothR b q m (leftN n) whole).2.1 ++ y)
          · obtain ⟨e1, _⟩ := split32 (by rw [l1, l2]) (List.cons.inj heq).2
            rcases ih1 e1 hp' hq' with h | h
            · left; rw [h]; simp
            · right; exact h
          · left; rw [decide_eq_true (p := _ ≠ _) heq, decide_eq_true he']; rfl
        · rw [bothR_gt a x p m n whole hm hi] at h1 he ⊢
          rw [bothR_gt b y q m n whole hm hi] at h2 he ⊢
          rw [sidesR_gt a x p m n whole (by omega) hi, sidesR_gt b y q m n whole (by omega) hi]
          have w1 := sides_val a p (m - leftN n) (n - leftN n) false (by omega) h1
          have w2 := sides_val b q (m - leftN n) (n - leftN n) false (by omega) h2
          have ih1 := ih q (m - leftN n) (n - leftN n) false (by omega) h1 h2
          rw [w1, w2]
          have he' : sumB (1 :: (x ++ (bothR a p (m - leftN n) (n - leftN n) false).2.1)) = sumB (1 :: (y ++ (bothR b q (m - leftN n) (n - leftN n) false).2.1)) := he
          simp only [collideB]
          by_cases heq : (1 :: (x ++ (bothR a p (m - leftN n) (n - leftN n) false).2.1) : Bs) = 1 :: (y ++ (bothR b q (m - leftN n) (n - leftN n) false).2.1)
          · obtain ⟨e0, e1⟩ := split32 (by rw [hx, hy]) (List.cons.inj heq).2
            rcases ih1 e1 hp' hq' with h | h
            · left; rw [h]; simp
            · right
              show nodeH x _ = nodeH y _
              rw [e0, h]
          · left; rw [decide_eq_true (p := _ ≠ _) heq, decide_eq_true he']; rfl
theorem ext_binding (a b root : Bs) (m n : Int) (p q : List Bs) (hab : a ≠ b) (h1 : verXB a m root n p = true) (h2 : verXB b m root n q = true) :
    1 ≤ m ∧ m < n ∧ a.length = 32 ∧ b.length = 32 ∧ collideB (sidesR a p.reverse m.toNat n.toNat true).1 (sidesR b q.reverse m.toNat n.toNat true).1 = true := by
  unfold verXB at h1 h2
  simp only [Bool.and_eq_true, Bool.not_eq_true', decide_eq_false_iff_not, beq_iff_eq] at h1 h2
  obtain ⟨⟨⟨⟨⟨a1, a2⟩, a3⟩, a4⟩, a5⟩, a6⟩ := h1
  obtain ⟨⟨⟨⟨⟨_, _⟩, b3⟩, b4⟩, b5⟩, b6⟩ := h2
  by_cases h0 : m = 0
  · rw [if_pos h0] at a6 b6
    simp only [Bool.and_eq_true, beq_iff_eq] at a6 b6
    exact absurd (a6.2.trans b6.2.symm) hab
  · rw [if_neg h0] at a6 b6
    by_cases h3 : m = n
    · rw [if_pos h3] at a6 b6
      simp only [Bool.and_eq_true, beq_iff_eq] at a6 b6
      exact absurd (a6.2.trans b6.2.symm) hab
    · refine ⟨by omega, by omega, a4, b4, ?_⟩
      rw [if_neg h3] at a6 b6
      simp only [Bool.and_eq_true, beq_iff_eq] at a6 b6
      obtain ⟨⟨c1, c2⟩, c3⟩ := a6
      obtain ⟨⟨d1, d2⟩, d3⟩ := b6
      rcases sides_collide a b a4 b4 p.reverse q.reverse m.toNat n.toNat true (by omega) c1 d1 (by rw [c3, d3]) (fun z hz => digests_mem a3 z (by simpa using hz)) (fun z hz => digests_mem b3 z (by simpa using hz)) with h | h
      · exact h
      · rw [c2, d2] at h; exact absurd h hab
end Go.SX

namespace Go.SX
open Go.Proofs
set_option linter.unusedSimpArgs false
set_option linter.unusedVariables false
set_option maxHeartbeats 4000000
set_option maxRecDepth 100000
theorem lawLeft_meets (n : Nat) (h2 : 2 ≤ n) (hn : n < 9223372036854775808) : Meets Tryd.prog Dc 33 [.p (.int .i64 (n : Int))] [] (.p (.int .i64 (leftN n : Int))) [] := by
  refine meets_of_gx Ax tab_ok Tryd.func33 (c := _) rfl Tryd.call33 200 ?_
  refine loop_inv (fun j : Nat => [(3, .p (.int .i64 ((2 ^ j : Nat) : Int)))]) (fun _ => []) (fun j => 2 ^ j < n) (fun j => n - 2 ^ j) 0 (by omega) [] ⟨by (repeat' (first | refine EndV.mk ?_ | exact trivial | exact rfl | refine And.intro ?_ ?_)), by (repeat' (first | refine EndV.mk ?_ | exact trivial | exact rfl | refine And.intro ?_ ?_)), rfl, rfl⟩ ?_
  intro j hj K hK
  have hp : 2 ^ (j + 1) = 2 * 2 ^ j := by rw [Nat.pow_succ]; omega
  have hpos : 0 < 2 ^ j := Nat.pos_of_ne_zero (by simp)
  rcases Nat.lt_or_ge (2 ^ (j + 1)) n with hlt | hge
  · have e2 : 2 * ((2 ^ j : Nat) : Int) = ((2 ^ (j + 1) : Nat) : Int) := by omega
    (repeat' ((conv => whnf); first | (exfalso; omega) | (rw [e2]) | (refine hK (j + 1) [] _ _ ?_ ?_ ?_) | (refine Back.mk ?_ ?_ rfl rfl <;> (repeat' (first | refine EndV.mk ?_ | exact trivial | exact rfl | refine And.intro ?_ ?_))) | (refine end_fn [] (.inr rfl) ?_ trivial rfl rfl) | (refine split_nd (fun hb => ?_) (fun hb => ?_)) | (refine split_d (fun hb => ?_) (fun hb => ?_)) | (refine split_n (fun hb => ?_) (fun hb => ?_)) | (refine split_x (fun hb => ?_) (fun hb => ?_)) | (refine And.intro (TraceOK.mk (by kernel_rfl)) ?_) | (refine Side.mk ?_; (repeat' (first | refine And.intro ?_ ?_ | exact inR_i64 (by omega) (by omega) | omega | rfl | exact trivial | exact none_ne rfl | exact some_ne rfl (Nat.ne_of_beq_eq_false rfl) | exact Nat.ne_of_beq_eq_false rfl | (dsimp only [srcSide]; omega) | (simp; done) | (simp; omega))); done) | (refine side_and ?_ ?_) | (refine drawX_of mixed ?_)))
  · have hl : leftN n = 2 ^ j := leftN_eq hj hge
    rw [hl]
    generalize 2 ^ j = p at *
    (repeat' ((conv => whnf); first | (exfalso; omega) | (refine end_fn [] (.inr rfl) ?_ trivial rfl rfl) | (refine split_nd (fun hb => ?_) (fun hb => ?_)) | (refine split_d (fun hb => ?_) (fun hb => ?_)) | (refine split_n (fun hb => ?_) (fun hb => ?_)) | (refine split_x (fun hb => ?_) (fun hb => ?_)) | (refine And.intro (TraceOK.mk (by kernel_rfl)) ?_) | (refine Side.mk ?_; (repeat' (first | refine And.intro ?_ ?_ | exact inR_i64 (by omega) (by omega) | omega | rfl | exact trivial | exact none_ne rfl | exact some_ne rfl (Nat.ne_of_beq_eq_false rfl) | exact Nat.ne_of_beq_eq_false rfl | (dsimp only [srcSide]; omega) | (simp; done) | (simp; omega))); done) | (refine side_and ?_ ?_) | (refine drawX_of mixed ?_)))
    all_goals (repeat' (first | refine EndV.mk ?_ | exact trivial | exact rfl | refine And.intro ?_ ?_))
theorem collide_meets (a b : List Bs) (ha : a.length ≤ 1000) (hb : b.length ≤ 1000) (h1 : Mid a) (h2 : Mid b) : Meets Tryd.prog Dc 29 [.p (.dsl U.str a), .p (.dsl U.str b)] [] (.p (.bool (collideB a b))) [] := by
  refine meets_of_gx Ax tab_ok Tryd.func29 (c := _) rfl Tryd.call29 400 ?_
  (repeat' ((conv => whnf); first | (exfalso; omega) | (refine end_fn [] (.inr rfl) ?_ trivial rfl rfl) | (refine split_nd (fun hb => ?_) (fun hb => ?_)) | (refine split_d (fun hb => ?_) (fun hb => ?_)) | (refine split_n (fun hb => ?_) (fun hb => ?_)) | (refine split_x (fun hb => ?_) (fun hb => ?_)) | (refine And.intro (TraceOK.mk (by kernel_rfl)) ?_) | (refine Side.mk ?_; (repeat' (first | refine And.intro ?_ ?_ | exact inR_i64 (by omega) (by omega) | omega | rfl | exact trivial | exact none_ne rfl | exact some_ne rfl (Nat.ne_of_beq_eq_false rfl) | exact Nat.ne_of_beq_eq_false rfl | (dsimp only [srcSide]; omega) | (simp; done) | (simp; omega))); done) | (refine side_and ?_ ?_) | (refine drawX_of mixed ?_)))
  refine loop_up (fun i : Nat => [(5, .p (.int .i64 i))]) (fun _ => []) (fun i => i ≤ a.length ∧ i ≤ b.length ∧ collideB (a.drop i) (b.drop i) = collideB a b) (fun i => a.length - i) 0 ⟨Nat.zero_le _, Nat.zero_le _, rfl⟩ ⟨by (repeat' (first | refine EndV.mk ?_ | exact trivial | exact rfl | refine And.intro ?_ ?_)), by (repeat' (first | refine EndV.mk ?_ | exact trivial | exact rfl | refine And.intro ?_ ?_)), rfl, rfl⟩ ?_
  rintro i ⟨hia, hib, hc⟩ K hK
  rcases Nat.lt_or_ge i (min a.length b.length) with hlt | hge
  · have ea : a.drop i = a.getD i [] :: a.drop (i + 1) := by rw [List.getD_eq_getElem?_getD, List.getElem?_eq_getElem (by omega), List.drop_eq_getElem_cons (by omega)]; rfl
    have eb : b.drop i = b.getD i [] :: b.drop (i + 1) := by rw [List.getD_eq_getElem?_getD, List.getElem?_eq_getElem (by omega), List.drop_eq_getElem_cons (by omega)]; rfl
    have hxl : (a.getD i []).length ≤ 1000 := by rw [List.getD_eq_getElem?_getD, List.getElem?_eq_getElem (by omega)]; exact h1 _ (List.getElem_mem _)
    have hyl : (b.getD i []).length ≤ 1000 := by rw [List.getD_eq_getElem?_getD, List.getElem?_eq_getElem (by omega)]; exact h2 _ (List.getElem_mem _)
    rw [ea, eb] at hc
    rw [show a.getD i [] = a.getD (i : Int).toNat (Cd.dflt U.str) from rfl] at hc hxl
    rw [show b.getD i [] = b.getD (i : Int).toNat (Cd.dflt U.str) from rfl] at hc hyl
    simp only [collideB] at hc
    generalize hx : a.getD (i : Int).toNat (Cd.dflt U.str) = x at *
    generalize hy : b.getD (i : Int).toNat (Cd.dflt U.str) = y at *
    have s1 := sum_meets x (by omega)
    have s2 := sum_meets y (by omega)
    by_cases hxy : x = y
    · have hsd : Side (i + 1 ≤ a.length ∧ i + 1 ≤ b.length ∧ collideB (a.drop (i + 1)) (b.drop (i + 1)) = collideB a b) := ⟨⟨by omega, by omega, by rw [← hc, decide_eq_false (p := x ≠ y) (by simp [hxy])]; simp⟩⟩
      (repeat' ((conv => whnf); first | (exfalso; omega) | (rw [hx]) | (rw [hy]) | (exact absurd hxy hb) | (refine callx_pure (s1) rfl rfl ?_) | (refine dcallx_pure (s1) rfl rfl ?_) | (refine callx_pure (s2) rfl rfl ?_) | (refine dcallx_pure (s2) rfl rfl ?_) | (refine hK (i + 1) [] _ _ hsd ?_ ?_) | (refine Back.mk ?_ ?_ rfl rfl <;> (repeat' (first | refine EndV.mk ?_ | exact trivial | exact rfl | refine And.intro ?_ ?_))) | (refine end_fn [] (.inr rfl) ?_ trivial rfl rfl) | (refine split_nd (fun hb => ?_) (fun hb => ?_)) | (refine split_d (fun hb => ?_) (fun hb => ?_)) | (refine split_n (fun hb => ?_) (fun hb => ?_)) | (refine split_x (fun hb => ?_) (fun hb => ?_)) | (refine And.intro (TraceOK.mk (by kernel_rfl)) ?_) | (refine Side.mk ?_; (repeat' (first | refine And.intro ?_ ?_ | exact inR_i64 (by omega) (by omega) | omega | rfl | exact trivial | exact none_ne rfl | exact some_ne rfl (Nat.ne_of_beq_eq_false rfl) | exact Nat.ne_of_beq_eq_false rfl | (dsimp only [srcSide]; omega) | (simp; done) | (simp; omega))); done) | (refine side_and ?_ ?_) | (refine drawX_of mixed ?_)))
    · by_cases hsum : sumB x = sumB y
      · rw [← hc, decide_eq_true (p := x ≠ y) hxy, decide_eq_true hsum]
        clear hK
        (repeat' ((conv => whnf); first | (exfalso; omega) | (rw [hx]) | (rw [hy]) | (exact absurd hb hxy) | (refine callx_pure (s1) rfl rfl ?_) | (refine dcallx_pure (s1) rfl rfl ?_) | (refine callx_pure (s2) rfl rfl ?_) | (refine dcallx_pure (s2) rfl rfl ?_) | (exact absurd hsum hb) | (refine end_fn [] (.inr rfl) ?_ trivial rfl rfl) | (refine split_nd (fun hb => ?_) (fun hb => ?_)) | (refine split_d (fun hb => ?_) (fun hb => ?_)) | (refine split_n (fun hb => ?_) (fun hb => ?_)) | (refine split_x (fun hb => ?_) (fun hb => ?_)) | (refine And.intro (TraceOK.mk (by kernel_rfl)) ?_) | (refine Side.mk ?_; (repeat' (first | refine And.intro ?_ ?_ | exact inR_i64 (by omega) (by omega) | omega | rfl | exact trivial | exact none_ne rfl | exact some_ne rfl (Nat.ne_of_beq_eq_false rfl) | exact Nat.ne_of_beq_eq_false rfl | (dsimp only [srcSide]; omega) | (simp; done) | (simp; omega))); done) | (refine side_and ?_ ?_) | (refine drawX_of mixed ?_)))
        all_goals (repeat' (first | refine EndV.mk ?_ | exact trivial | exact rfl | refine And.intro ?_ ?_))
      · have hsd : Side (i + 1 ≤ a.length ∧ i + 1 ≤ b.length ∧ collideB (a.drop (i + 1)) (b.drop (i + 1)) = collideB a b) := ⟨⟨by omega, by omega, by rw [← hc, decide_eq_false hsum]; simp⟩⟩
        (repeat' ((conv => whnf); first | (exfalso; omega) | (rw [hx]) | (rw [hy]) | (exact absurd hb hxy) | (refine callx_pure (s1) rfl rfl ?_) | (refine dcallx_pure (s1) rfl rfl ?_) | (refine callx_pure (s2) rfl rfl ?_) | (refine dcallx_pure (s2) rfl rfl ?_) | (exact absurd hb hsum) | (refine hK (i + 1) [] _ _ hsd ?_ ?_) | (refine Back.mk ?_ ?_ rfl rfl <;> (repeat' (first | refine EndV.mk ?_ | exact trivial | exact rfl | refine And.intro ?_ ?_))) | (refine end_fn [] (.inr rfl) ?_ trivial rfl rfl) | (refine split_nd (fun hb => ?_) (fun hb => ?_)) | (refine split_d (fun hb => ?_) (fun hb => ?_)) | (refine split_n (fun hb => ?_) (fun hb => ?_)) | (refine split_x (fun hb => ?_) (fun hb => ?_)) | (refine And.intro (TraceOK.mk (by kernel_rfl)) ?_) | (refine Side.mk ?_; (repeat' (first | refine And.intro ?_ ?_ | exact inR_i64 (by omega) (by omega) | omega | rfl | exact trivial | exact none_ne rfl | exact some_ne rfl (Nat.ne_of_beq_eq_false rfl) | exact Nat.ne_of_beq_eq_false rfl | (dsimp only [srcSide]; omega) | (simp; done) | (simp; omega))); done) | (refine side_and ?_ ?_) | (refine drawX_of mixed ?_)))
  · have hf : collideB a b = false := by
      rw [← hc]
      rcases Nat.lt_or_ge i a.length with h | h
      · rw [show b.drop i = [] from List.drop_eq_nil_of_le (by omega)]
        cases a.drop i <;> rfl
      · rw [show a.drop i = [] from List.drop_eq_nil_of_le (by omega)]
        rfl
    rw [hf]
    clear hK
    (repeat' ((conv => whnf); first | (exfalso; omega) | (refine end_fn [] (.inr rfl) ?_ trivial rfl rfl) | (refine split_nd (fun hb => ?_) (fun hb => ?_)) | (refine split_d (fun hb => ?_) (fun hb => ?_)) | (refine split_n (fun hb => ?_) (fun hb => ?_)) | (refine split_x (fun hb => ?_) (fun hb => ?_)) | (refine And.intro (TraceOK.mk (by kernel_rfl)) ?_) | (refine Side.mk ?_; (repeat' (first | refine And.intro ?_ ?_ | exact inR_i64 (by omega) (by omega) | omega | rfl | exact trivial | exact none_ne rfl | exact some_ne rfl (Nat.ne_of_beq_eq_false rfl) | exact Nat.ne_of_beq_eq_false rfl | (dsimp only [srcSide]; omega) | (simp; done) | (simp; omega))); done) | (refine side_and ?_ ?_) | (refine drawX_of mixed ?_)))
    all_goals (repeat' (first | refine EndV.mk ?_ | exact trivial | exact rfl | refine And.intro ?_ ?_))
theorem way_meets (s : Bs) (hs : s.length ≤ 100) : ∀ (q : List Bs) (n i : Nat), 1 ≤ n → n < 9223372036854775808 → i < n → q.length ≤ 500 → Short q → Meets Tryd.prog Dc 28 [.p (.int .i64 (n : Int)), .p (.int .i64 (i : Int)), .p (.str s), .p (.dsl U.str q.reverse)] [] (.tuple [.p (.dsl U.str (wayR s q n i).1), .p (.str (wayR s q n i).2)]) [] := by
  intro q
  have hle := leafM s (by omega)
  induction q with
  | nil =>
    intro n i h1 hn hi hq hS
    rw [show wayR s [] n i = ([0 :: s], leafH s) from rfl]
    refine meets_of_gx Ax tab_ok Tryd.func28 (c := _) rfl Tryd.call28 400 ?_
    (repeat' ((conv => whnf); first | (exfalso; omega) | (refine callx_pure (hle) rfl rfl ?_) | (refine dcallx_pure (hle) rfl rfl ?_) | (refine end_fn [] (.inr rfl) ?_ trivial rfl rfl) | (refine split_nd (fun hb => ?_) (fun hb => ?_)) | (refine split_d (fun hb => ?_) (fun hb => ?_)) | (refine split_n (fun hb => ?_) (fun hb => ?_)) | (refine split_x (fun hb => ?_) (fun hb => ?_)) | (refine And.intro (TraceOK.mk (by kernel_rfl)) ?_) | (refine Side.mk ?_; (repeat' (first | refine And.intro ?_ ?_ | exact inR_i64 (by omega) (by omega) | omega | rfl | exact trivial | exact none_ne rfl | exact some_ne rfl (Nat.ne_of_beq_eq_false rfl) | exact Nat.ne_of_beq_eq_false rfl | (dsimp only [srcSide]; omega) | (simp; done) | (simp; omega))); done) | (refine side_and ?_ ?_) | (refine drawX_of mixed ?_)))
    all_goals (repeat' (first | refine EndV.mk ?_ | exact trivial | exact rfl | refine And.intro ?_ ?_))
    all_goals exact ⟨_, rfl, rfl, rfl, by simp, by first | rfl | (rw [List.drop_zero, List.take_length]; rfl), rfl⟩
  | cons x q ih =>
    intro n i h1 hn hi hq hS
    have hx100 : x.length ≤ 100 := hS x (by simp)
    have hSq : Short q := fun s hs => hS s (by simp [hs])
    simp only [List.length_cons] at hq
    have hP1 : ((x :: q).reverse.length : Int) = (q.length : Int) + 1 := by simp
    have hP2 : (x :: q).reverse.getD ((x :: q).reverse.length - 1 : Int).toNat (Cd.dflt U.str) = x := by
      rw [hP1, show ((q.length : Int) + 1 - 1).toNat = q.length by omega]; simp [List.getD_eq_getElem?_getD]
    have hP3 : List.drop (Int.toNat 0) (List.take ((x :: q).reverse.length - 1 : Int).toNat (x :: q).reverse) = q.reverse := by
      rw [hP1, show ((q.length : Int) + 1 - 1).toNat = q.length by omega]; simp
    by_cases h1' : n = 1
    · subst h1'
      rw [show wayR s (x :: q) 1 i = ([0 :: s], leafH s) from by rw [wayR, if_pos (by omega)]]
      generalize (x :: q).reverse = P at hP1 hP2 hP3 ⊢
      refine meets_of_gx Ax tab_ok Tryd.func28 (c := _) rfl Tryd.call28 400 ?_
      (repeat' ((conv => whnf); first | (exfalso; omega) | (refine callx_pure (hle) rfl rfl ?_) | (refine dcallx_pure (hle) rfl rfl ?_) | (refine end_fn [] (.inr rfl) ?_ trivial rfl rfl) | (refine split_nd (fun hb => ?_) (fun hb => ?_)) | (refine split_d (fun hb => ?_) (fun hb => ?_)) | (refine split_n (fun hb => ?_) (fun hb => ?_)) | (refine split_x (fun hb => ?_) (fun hb => ?_)) | (refine And.intro (TraceOK.mk (by kernel_rfl)) ?_) | (refine Side.mk ?_; (repeat' (first | refine And.intro ?_ ?_ | exact inR_i64 (by omega) (by omega) | omega | rfl | exact trivial | exact none_ne rfl | exact some_ne rfl (Nat.ne_of_beq_eq_false rfl) | exact Nat.ne_of_beq_eq_false rfl | (dsimp only [srcSide]; omega) | (simp; done) | (simp; omega))); done) | (refine side_and ?_ ?_) | (refine drawX_of mixed ?_)))
      all_goals (repeat' (first | refine EndV.mk ?_ | exact trivial | exact rfl | refine And.intro ?_ ?_))
      all_goals exact ⟨_, rfl, rfl, rfl, by simp, by first | rfl | (rw [List.drop_zero, List.take_length]; rfl), rfl⟩
    · have hsp := leftN_spec (n := n) (by omega)
      have hleft := lawLeft_meets n (by omega) (by omega)
      obtain ⟨k, hk⟩ : ∃ k, leftN n = k := ⟨_, rfl⟩
      by_cases hik : i < leftN n
      · rw [wayR_lt s x q n i (by omega) hik]
        generalize (x :: q).reverse = P at hP1 hP2 hP3 ⊢
        rw [hk] at hsp hleft hik ⊢
        have ih1 := ih k i hsp.1 (by omega) hik (by omega) hSq
        rw [← hP3] at ih1
        have hv1 := wayR_length s q k i
        have hc1 := wayR_count s q k i
        generalize wayR s q k i = r at *
        obtain ⟨wl, wv⟩ := r
        dsimp only at *
        have hno := nodeM wv x (by omega) (by omega)
        refine meets_of_gx Ax tab_ok Tryd.func28 (c := _) rfl Tryd.call28 400 ?_
        (repeat' ((conv => whnf); first | (exfalso; omega) | (rw [hP2]) | (refine callx_pure (hle) rfl rfl ?_) | (refine dcallx_pure (hle) rfl rfl ?_) | (refine callx_pure (hleft) rfl rfl ?_) | (refine dcallx_pure (hleft) rfl rfl ?_) | (refine callx_pure (ih1) rfl rfl ?_) | (refine dcallx_pure (ih1) rfl rfl ?_) | (refine callx_pure (hno) rfl rfl ?_) | (refine dcallx_pure (hno) rfl rfl ?_) | (refine end_fn [] (.inr rfl) ?_ trivial rfl rfl) | (refine split_nd (fun hb => ?_) (fun hb => ?_)) | (refine split_d (fun hb => ?_) (fun hb => ?_)) | (refine split_n (fun hb => ?_) (fun hb => ?_)) | (refine split_x (fun hb => ?_) (fun hb => ?_)) | (refine And.intro (TraceOK.mk (by kernel_rfl)) ?_) | (refine Side.mk ?_; (repeat' (first | refine And.intro ?_ ?_ | exact inR_i64 (by omega) (by omega) | omega | rfl | exact trivial | exact none_ne rfl | exact some_ne rfl (Nat.ne_of_beq_eq_false rfl) | exact Nat.ne_of_beq_eq_false rfl | (dsimp only [srcSide]; omega) | (simp; done) | (simp; omega))); done) | (refine side_and ?_ ?_) | (refine drawX_of mixed ?_)))
        all_goals (repeat' (first | refine EndV.mk ?_ | exact trivial | exact rfl | refine And.intro ?_ ?_))
        all_goals exact ⟨_, rfl, rfl, rfl, by simp, by first | rfl | (rw [List.drop_zero, List.take_length]; rfl), rfl⟩
      · rw [wayR_ge s x q n i (by omega) hik]
        generalize (x :: q).reverse = P at hP1 hP2 hP3 ⊢
        rw [hk] at hsp hleft hik ⊢
        have ih1 := ih (n - k) (i - k) (by omega) (by omega) (by omega) (by omega) hSq
        rw [← hP3] at ih1
        have hv1 := wayR_length s q (n - k) (i - k)
        have hc1 := wayR_count s q (n - k) (i - k)
        generalize wayR s q (n - k) (i - k) = r at *
        obtain ⟨wl, wv⟩ := r
        dsimp only at *
        have hno := nodeM x wv (by omega) (by omega)
        have en : ((n - k : Nat) : Int) = (n : Int) - k := by omega
        have ei : ((i - k : Nat) : Int) = (i : Int) - k := by omega
        rw [en, ei] at ih1
        refine meets_of_gx Ax tab_ok Tryd.func28 (c := _) rfl Tryd.call28 400 ?_
        (repeat' ((conv => whnf); first | (exfalso; omega) | (rw [hP2]) | (refine callx_pure (hle) rfl rfl ?_) | (refine dcallx_pure (hle) rfl rfl ?_) | (refine callx_pure (hleft) rfl rfl ?_) | (refine dcallx_pure (hleft) rfl rfl ?_) | (refine callx_pure (ih1) rfl rfl ?_) | (refine dcallx_pure (ih1) rfl rfl ?_) | (refine callx_pure (hno) rfl rfl ?_) | (refine dcallx_pure (hno) rfl rfl ?_) | (refine end_fn [] (.inr rfl) ?_ trivial rfl rfl) | (refine split_nd (fun hb => ?_) (fun hb => ?_)) | (refine split_d (fun hb => ?_) (fun hb => ?_)) | (refine split_n (fun hb => ?_) (fun hb => ?_)) | (refine split_x (fun hb => ?_) (fun hb => ?_)) | (refine And.intro (TraceOK.mk (by kernel_rfl)) ?_) | (refine Side.mk ?_; (repeat' (first | refine And.intro ?_ ?_ | exact inR_i64 (by omega) (by omega) | omega | rfl | exact trivial | exact none_ne rfl | exact some_ne rfl (Nat.ne_of_beq_eq_false rfl) | exact Nat.ne_of_beq_eq_false rfl | (dsimp only [srcSide]; omega) | (simp; done) | (simp; omega))); done) | (refine side_and ?_ ?_) | (refine drawX_of mixed ?_)))
        all_goals (repeat' (first | refine EndV.mk ?_ | exact trivial | exact rfl | refine And.intro ?_ ?_))
        all_goals exact ⟨_, rfl, rfl, rfl, by simp, by first | rfl | (rw [List.drop_zero, List.take_length]; rfl), rfl⟩
theorem sides_meets (old : Bs) (ho : old.length ≤ 100) : ∀ (q : List Bs) (m n : Nat) (whole : Bool), 1 ≤ m → m ≤ n → n < 9223372036854775808 → q.length ≤ 500 → Short q → Meets Tryd.prog Dc 30 [.p (.str old), .p (.int .i64 (m : Int)), .p (.int .i64 (n : Int)), .p (.dsl U.str q.reverse), .p (.bool whole)] [] (.tuple [.p (.dsl U.str (sidesR old q m n whole).1), .p (.str (sidesR old q m n whole).2)]) [] := by
  intro q
  induction q with
  | nil =>
    intro m n whole h1 hmn hn hq hS
    rw [show sidesR old [] m n whole = ([], old) from rfl]
    cases whole with
    | true =>
      refine meets_of_gx Ax tab_ok Tryd.func30 (c := _) rfl Tryd.call30 400 ?_
      (repeat' ((conv => whnf); first | (exfalso; omega) | (refine end_fn [] (.inr rfl) ?_ trivial rfl rfl) | (refine split_nd (fun hb => ?_) (fun hb => ?_)) | (refine split_d (fun hb => ?_) (fun hb => ?_)) | (refine split_n (fun hb => ?_) (fun hb => ?_)) | (refine split_x (fun hb => ?_) (fun hb => ?_)) | (refine And.intro (TraceOK.mk (by kernel_rfl)) ?_) | (refine Side.mk ?_; (repeat' (first | refine And.intro ?_ ?_ | exact inR_i64 (by omega) (by omega) | omega | rfl | exact trivial | exact none_ne rfl | exact some_ne rfl (Nat.ne_of_beq_eq_false rfl) | exact Nat.ne_of_beq_eq_false rfl | (dsimp only [srcSide]; omega) | (simp; done) | (simp; omega))); done) | (refine side_and ?_ ?_) | (refine drawX_of mixed ?_)))
      all_goals (repeat' (first | refine EndV.mk ?_ | exact trivial | exact rfl | refine And.intro ?_ ?_))
    | false =>
      refine meets_of_gx Ax tab_ok Tryd.func30 (c := _) rfl Tryd.call30 400 ?_
      (repeat' ((conv => whnf); first | (exfalso; omega) | (refine end_fn [] (.inr rfl) ?_ trivial rfl rfl) | (refine split_nd (fun hb => ?_) (fun hb => ?_)) | (refine split_d (fun hb => ?_) (fun hb => ?_)) | (refine split_n (fun hb => ?_) (fun hb => ?_)) | (refine split_x (fun hb => ?_) (fun hb => ?_)) | (refine And.intro (TraceOK.mk (by kernel_rfl)) ?_) | (refine Side.mk ?_; (repeat' (first | refine And.intro ?_ ?_ | exact inR_i64 (by omega) (by omega) | omega | rfl | exact trivial | exact none_ne rfl | exact some_ne rfl (Nat.ne_of_beq_eq_false rfl) | exact Nat.ne_of_beq_eq_false rfl | (dsimp only [srcSide]; omega) | (simp; done) | (simp; omega))); done) | (refine side_and ?_ ?_) | (refine drawX_of mixed ?_)))
      all_goals (repeat' (first | refine EndV.mk ?_ | exact trivial | exact rfl | refine And.intro ?_ ?_))
  | cons x q ih =>
    intro m n whole h1 hmn hn hq hS
    have hx100 : x.length ≤ 100 := hS x (by simp)
    have hSq : Short q := fun s hs => hS s (by simp [hs])
    simp only [List.length_cons] at hq
    have hP1 : ((x :: q).reverse.length : Int) = (q.length : Int) + 1 := by simp
    have hP2 : (x :: q).reverse.getD ((x :: q).reverse.length - 1 : Int).toNat (Cd.dflt U.str) = x := by
      rw [hP1, show ((q.length : Int) + 1 - 1).toNat = q.length by omega]; simp [List.getD_eq_getElem?_getD]
    have hP3 : List.drop (Int.toNat 0) (List.take ((x :: q).reverse.length - 1 : Int).toNat (x :: q).reverse) = q.reverse := by
      rw [hP1, show ((q.length : Int) + 1 - 1).toNat = q.length by omega]; simp
    have hP0 : (x :: q).reverse.getD (0 : Int).toNat (Cd.dflt U.str) = (x :: q).getLastD [] := by
      rw [List.getD_eq_getElem?_getD, show (0 : Int).toNat = 0 from rfl, List.getElem?_reverse (by simp), List.getLastD_eq_getLast?, List.getLast?_eq_getElem?]
      simp
    by_cases h1' : n ≤ m
    · cases whole with
      | true =>
        rw [show sidesR old (x :: q) m n true = ([], old) by unfold sidesR; rw [if_pos h1', if_pos rfl]]
        generalize (x :: q).reverse = P at hP0 hP1 hP2 hP3 ⊢
        refine meets_of_gx Ax tab_ok Tryd.func30 (c := _) rfl Tryd.call30 400 ?_
        (repeat' ((conv => whnf); first | (exfalso; omega) | (refine end_fn [] (.inr rfl) ?_ trivial rfl rfl) | (refine split_nd (fun hb => ?_) (fun hb => ?_)) | (refine split_d (fun hb => ?_) (fun hb => ?_)) | (refine split_n (fun hb => ?_) (fun hb => ?_)) | (refine split_x (fun hb => ?_) (fun hb => ?_)) | (refine And.intro (TraceOK.mk (by kernel_rfl)) ?_) | (refine Side.mk ?_; (repeat' (first | refine And.intro ?_ ?_ | exact inR_i64 (by omega) (by omega) | omega | rfl | exact trivial | exact none_ne rfl | exact some_ne rfl (Nat.ne_of_beq_eq_false rfl) | exact Nat.ne_of_beq_eq_false rfl | (dsimp only [srcSide]; omega) | (simp; done) | (simp; omega))); done) | (refine side_and ?_ ?_) | (refine drawX_of mixed ?_)))
        all_goals (repeat' (first | refine EndV.mk ?_ | exact trivial | exact rfl | refine And.intro ?_ ?_))
      | false =>
        rw [show sidesR old (x :: q) m n false = ([], (x :: q).getLastD []) by unfold sidesR; rw [if_pos h1', if_neg (by simp)]]
        rw [← hP0]
        generalize (x :: q).reverse = P at hP0 hP1 hP2 hP3 ⊢
        refine meets_of_gx Ax tab_ok Tryd.func30 (c := _) rfl Tryd.call30 400 ?_
        (repeat' ((conv => whnf); first | (exfalso; omega) | (refine end_fn [] (.inr rfl) ?_ trivial rfl rfl) | (refine split_nd (fun hb => ?_) (fun hb => ?_)) | (refine split_d (fun hb => ?_) (fun hb => ?_)) | (refine split_n (fun hb => ?_) (fun hb => ?_)) | (refine split_x (fun hb => ?_) (fun hb => ?_)) | (refine And.intro (TraceOK.mk (by kernel_rfl)) ?_) | (refine Side.mk ?_; (repeat' (first | refine And.intro ?_ ?_ | exact inR_i64 (by omega) (by omega) | omega | rfl | exact trivial | exact none_ne rfl | exact some_ne rfl (Nat.ne_of_beq_eq_false rfl) | exact Nat.ne_of_beq_eq_false rfl | (dsimp only [srcSide]; omega) | (simp; done) | (simp; omega))); done) | (refine side_and ?_ ?_) | (refine drawX_of mixed ?_)))
        all_goals (repeat' (first | refine EndV.mk ?_ | exact trivial | exact rfl | refine And.intro ?_ ?_))
    · have hsp := leftN_spec (n := n) (by omega)
      have hleft := lawLeft_meets n (by omega) (by omega)
      obtain ⟨k, hk⟩ : ∃ k, leftN n = k := ⟨_, rfl⟩
      by_cases hik : m ≤ leftN n
      · rw [sidesR_lt old x q m n whole (by omega) hik]
        generalize (x :: q).reverse = P at hP0 hP1 hP2 hP3 ⊢
        rw [hk] at hsp hleft hik ⊢
        have ih1 := ih m k whole h1 hik (by omega) (by omega) hSq
        rw [← hP3] at ih1
        have hv1 := sidesR_length old ho q m k whole hSq
        have hc1 := sidesR_count old q m k whole
        generalize sidesR old q m k whole = r at *
        obtain ⟨wl, wv⟩ := r
        dsimp only at *
        have hno := nodeM wv x (by omega) (by omega)
        refine meets_of_gx Ax tab_ok Tryd.func30 (c := _) rfl Tryd.call30 400 ?_
        (repeat' ((conv => whnf); first | (exfalso; omega) | (rw [hP2]) | (refine callx_pure (hleft) rfl rfl ?_) | (refine dcallx_pure (hleft) rfl rfl ?_) | (refine callx_pure (ih1) rfl rfl ?_) | (refine dcallx_pure (ih1) rfl rfl ?_) | (refine callx_pure (hno) rfl rfl ?_) | (refine dcallx_pure (hno) rfl rfl ?_) | (refine end_fn [] (.inr rfl) ?_ trivial rfl rfl) | (refine split_nd (fun hb => ?_) (fun hb => ?_)) | (refine split_d (fun hb => ?_) (fun hb => ?_)) | (refine split_n (fun hb => ?_) (fun hb => ?_)) | (refine split_x (fun hb => ?_) (fun hb => ?_)) | (refine And.intro (TraceOK.mk (by kernel_rfl)) ?_) | (refine Side.mk ?_; (repeat' (first | refine And.intro ?_ ?_ | exact inR_i64 (by omega) (by omega) | omega | rfl | exact trivial | exact none_ne rfl | exact some_ne rfl (Nat.ne_of_beq_eq_false rfl) | exact Nat.ne_of_beq_eq_false rfl | (dsimp only [srcSide]; omega) | (simp; done) | (simp; omega))); done) | (refine side_and ?_ ?_) | (refine drawX_of mixed ?_)))
        all_goals (repeat' (first | refine EndV.mk ?_ | exact trivial | exact rfl | refine And.intro ?_ ?_))
        all_goals exact ⟨_, rfl, rfl, rfl, by simp, by first | rfl | (rw [List.drop_zero, List.take_length]; rfl), rfl⟩
      · rw [sidesR_gt old x q m n whole (by omega) hik]
        generalize (x :: q).reverse = P at hP0 hP1 hP2 hP3 ⊢
        rw [hk] at hsp hleft hik ⊢
        have ih1 := ih (m - k) (n - k) false (by omega) (by omega) (by omega) (by omega) hSq
        rw [← hP3] at ih1
        have hv1 := sidesR_length old ho q (m - k) (n - k) false hSq
        have hc1 := sidesR_count old q (m - k) (n - k) false
        generalize sidesR old q (m - k) (n - k) false = r at *
        obtain ⟨wl, wv⟩ := r
        dsimp only at *
        have hno := nodeM x wv (by omega) (by omega)
        have en : ((n - k : Nat) : Int) = (n : Int) - k := by omega
        have ei : ((m - k : Nat) : Int) = (m : Int) - k := by omega
        rw [en, ei] at ih1
        refine meets_of_gx Ax tab_ok Tryd.func30 (c := _) rfl Tryd.call30 400 ?_
        (repeat' ((conv => whnf); first | (exfalso; omega) | (rw [hP2]) | (refine callx_pure (hleft) rfl rfl ?_) | (refine dcallx_pure (hleft) rfl rfl ?_) | (refine callx_pure (ih1) rfl rfl ?_) | (refine dcallx_pure (ih1) rfl rfl ?_) | (refine callx_pure (hno) rfl rfl ?_) | (refine dcallx_pure (hno) rfl rfl ?_) | (refine end_fn [] (.inr rfl) ?_ trivial rfl rfl) | (refine split_nd (fun hb => ?_) (fun hb => ?_)) | (refine split_d (fun hb => ?_) (fun hb => ?_)) | (refine split_n (fun hb => ?_) (fun hb => ?_)) | (refine split_x (fun hb => ?_) (fun hb => ?_)) | (refine And.intro (TraceOK.mk (by kernel_rfl)) ?_) | (refine Side.mk ?_; (repeat' (first | refine And.intro ?_ ?_ | exact inR_i64 (by omega) (by omega) | omega | rfl | exact trivial | exact none_ne rfl | exact some_ne rfl (Nat.ne_of_beq_eq_false rfl) | exact Nat.ne_of_beq_eq_false rfl | (dsimp only [srcSide]; omega) | (simp; done) | (simp; omega))); done) | (refine side_and ?_ ?_) | (refine drawX_of mixed ?_)))
        all_goals (repeat' (first | refine EndV.mk ?_ | exact trivial | exact rfl | refine And.intro ?_ ?_))
        all_goals exact ⟨_, rfl, rfl, rfl, by simp, by first | rfl | (rw [List.drop_zero, List.take_length]; rfl), rfl⟩
end Go.SX

namespace Go.SX
open Go.Proofs
set_option linter.unusedSimpArgs false
set_option linter.unusedVariables false
set_option maxHeartbeats 4000000
set_option maxRecDepth 100000
theorem split_walk (l : List Bs) (s : Bs) (hs : (s.length : Int) ≤ 9223372036854775807) : Meets Tryd.prog Dc 9 [.p (.dsl U.str l), .p (.str s)] [] (.p (.bool true)) [] := by
  have hf := few_meets l 40 (by omega)
  have hS := fewS_short l 40
  have hL := fewS_length l 40
  generalize fewS l 40 = w at *
  have hsane := sane_meets
  have hsl : (s.take 60).length ≤ 100 := by simp; omega
  have es := cut_eq s
  generalize s.take 60 = s' at *
  have e2 : List.take (List.take 0 [] ++ w).length (List.take 0 [] ++ w) ++ List.take 1 (List.drop 0 [s']) = w ++ [s'] := by simp
  have hml : (w ++ [s']).length = w.length + 1 := by simp
  have hS2 : Short (w ++ [s']) := fun z hz => by
    rcases List.mem_append.1 hz with h | h
    · exact hS z h
    · rw [List.mem_singleton.1 h]; exact hsl
  have c1 := extM2 (w ++ [s']) w.length (by omega) (by omega) (by omega) hS2
  rw [if_pos (by omega), Int.toNat_natCast] at c1
  have hx := verX_ext (w ++ [s']) w.length (by omega)
  rw [List.take_left] at hx
  have hxs := extS_short (w ++ [s']) w.length (by omega)
  have c2 := verX_meets (rootS w) w.length (rootS (w ++ [s'])) (w ++ [s']).length (by omega) (by omega) (extS (w ++ [s']) w.length) (by omega) (short_of_digests (extS_32 _ _))
  rw [hx] at c2
  have c3 := rootM w (by omega) hS
  have c4 := rootM (w ++ [s']) (by omega) hS2
  have hmore : ∃ mm, w ++ [s'] = mm := ⟨_, rfl⟩
  by_cases h0 : w.length = 0
  · obtain rfl := List.eq_nil_of_length_eq_zero h0
    have c5 := leafM s' (by omega)
    have c6 := sum_meets [] (by simp)
    rw [List.nil_append] at *
    rw [rootS_nil] at c3 c2
    rw [rootS_one] at c4 c2
    generalize extS [s'] [].length = x at *
    generalize leafH s' = lf at *
    generalize sumB [] = z0 at *
    refine meets_of_gx Ax tab_ok Tryd.func9 (c := _) rfl Tryd.call9 800 ?_
    (repeat' ((conv => whnf); first | (exfalso; omega) | (refine callx_pure (hsane) rfl rfl ?_) | (refine dcallx_pure (hsane) rfl rfl ?_) | (refine callx_pure (hf) rfl rfl ?_) | (refine dcallx_pure (hf) rfl rfl ?_) | (rw [es]) | (refine end_fn [] (.inr rfl) ?_ trivial rfl rfl) | (refine split_nd (fun hb => ?_) (fun hb => ?_)) | (refine split_d (fun hb => ?_) (fun hb => ?_)) | (refine split_n (fun hb => ?_) (fun hb => ?_)) | (refine split_x (fun hb => ?_) (fun hb => ?_)) | (refine And.intro (TraceOK.mk (by kernel_rfl)) ?_) | (refine Side.mk ?_; (repeat' (first | refine And.intro ?_ ?_ | exact inR_i64 (by omega) (by omega) | omega | rfl | exact trivial | exact none_ne rfl | exact some_ne rfl (Nat.ne_of_beq_eq_false rfl) | exact Nat.ne_of_beq_eq_false rfl | (dsimp only [srcSide]; omega) | (simp; done) | (simp; omega))); done) | (refine side_and ?_ ?_) | (refine drawX_of mixed ?_)))
    rw [e2]
    refine callx_frzT [some 0, some 1, some 2, none] [(6, .p (.dsl U.str [s'])), (23, .p (.dsl U.str [s'])), (25, .p (.dsl U.str [s']))] [(3, .rows U.str [])] [.p (.dsl U.str [s']), .p (.int .i64 0)] ⟨by (repeat' (first | refine EndV.mk ?_ | exact trivial | exact rfl | refine And.intro ?_ ?_)) <;> (exact ⟨_, rfl, rfl, rfl, by simp, by (first | (simp; done) | (simp [List.take_of_length_le]; done) | (simp [List.take_of_length_le]; rfl)), rfl⟩), by (repeat' (first | refine EndV.mk ?_ | exact trivial | exact rfl | refine And.intro ?_ ?_)) <;> exact ⟨_, rfl⟩, rfl, rfl⟩ ⟨by (repeat' (first | refine EndV.mk ?_ | exact trivial | exact rfl | refine And.intro ?_ ?_)) <;> (exact ⟨_, rfl, rfl, rfl, by simp, by (first | (simp; done) | (simp [List.take_of_length_le]; done) | (simp [List.take_of_length_le]; rfl)), rfl⟩)⟩ ?_
    (repeat' ((conv => whnf); first | (exfalso; omega) | (refine callx_pure (c1) rfl rfl ?_) | (refine dcallx_pure (c1) rfl rfl ?_) | (refine callx_pure (c2) rfl rfl ?_) | (refine dcallx_pure (c2) rfl rfl ?_) | (refine callx_pure (c3) rfl rfl ?_) | (refine dcallx_pure (c3) rfl rfl ?_) | (refine callx_pure (c4) rfl rfl ?_) | (refine dcallx_pure (c4) rfl rfl ?_) | (refine callx_pure (c5) rfl rfl ?_) | (refine dcallx_pure (c5) rfl rfl ?_) | (refine callx_pure (c6) rfl rfl ?_) | (refine dcallx_pure (c6) rfl rfl ?_) | (exact absurd rfl hb) | (refine end_fn [] (.inr rfl) ?_ trivial rfl rfl) | (refine split_nd (fun hb => ?_) (fun hb => ?_)) | (refine split_d (fun hb => ?_) (fun hb => ?_)) | (refine split_n (fun hb => ?_) (fun hb => ?_)) | (refine split_x (fun hb => ?_) (fun hb => ?_)) | (refine And.intro (TraceOK.mk (by kernel_rfl)) ?_) | (refine Side.mk ?_; (repeat' (first | refine And.intro ?_ ?_ | exact inR_i64 (by omega) (by omega) | omega | rfl | exact trivial | exact none_ne rfl | exact some_ne rfl (Nat.ne_of_beq_eq_false rfl) | exact Nat.ne_of_beq_eq_false rfl | (dsimp only [srcSide]; omega) | (simp; done) | (simp; omega))); done) | (refine side_and ?_ ?_) | (refine drawX_of mixed ?_)))
    all_goals (repeat' (first | refine EndV.mk ?_ | exact trivial | exact rfl | refine And.intro ?_ ?_))
    all_goals ((conv => whnf); simp)
  · have hsp := leftN_spec (n := (w ++ [s']).length) (by omega)
    have hleft := lawLeft_meets (w ++ [s']).length (by omega) (by omega)
    have hr2 := rootS_two (w ++ [s']) (by omega)
    obtain ⟨k, hk⟩ : ∃ k, leftN (w ++ [s']).length = k := ⟨_, rfl⟩
    rw [hk] at hsp hleft hr2
    have c5 := rootM ((w ++ [s']).take k) (by simp; omega) (hS2.take k)
    have c6 := rootM ((w ++ [s']).drop k) (by simp; omega) (hS2.drop k)
    have r5 := rootS_length ((w ++ [s']).take k)
    have r6 := rootS_length ((w ++ [s']).drop k)
    have c7 := nodeM (rootS ((w ++ [s']).take k)) (rootS ((w ++ [s']).drop k)) (by omega) (by omega)
    rw [← hr2] at c7
    have e3 : List.drop (k : Int).toNat (List.take ((w ++ [s']).length : Int).toNat (w ++ [s'])) = (w ++ [s']).drop k := by rw [Int.toNat_natCast, Int.toNat_natCast, List.take_length]
    clear hr2
    generalize rootS ((w ++ [s']).take k) = y1 at *
    generalize rootS ((w ++ [s']).drop k) = y2 at *
    rw [← e3] at c6
    generalize extS (w ++ [s']) w.length = x at *
    generalize rootS (w ++ [s']) = rm at *
    generalize rootS w = rw0 at *
    generalize w ++ [s'] = mm at *
    refine meets_of_gx Ax tab_ok Tryd.func9 (c := _) rfl Tryd.call9 800 ?_
    (repeat' ((conv => whnf); first | (exfalso; omega) | (refine callx_pure (hsane) rfl rfl ?_) | (refine dcallx_pure (hsane) rfl rfl ?_) | (refine callx_pure (hf) rfl rfl ?_) | (refine dcallx_pure (hf) rfl rfl ?_) | (rw [es]) | (refine end_fn [] (.inr rfl) ?_ trivial rfl rfl) | (refine split_nd (fun hb => ?_) (fun hb => ?_)) | (refine split_d (fun hb => ?_) (fun hb => ?_)) | (refine split_n (fun hb => ?_) (fun hb => ?_)) | (refine split_x (fun hb => ?_) (fun hb => ?_)) | (refine And.intro (TraceOK.mk (by kernel_rfl)) ?_) | (refine Side.mk ?_; (repeat' (first | refine And.intro ?_ ?_ | exact inR_i64 (by omega) (by omega) | omega | rfl | exact trivial | exact none_ne rfl | exact some_ne rfl (Nat.ne_of_beq_eq_false rfl) | exact Nat.ne_of_beq_eq_false rfl | (dsimp only [srcSide]; omega) | (simp; done) | (simp; omega))); done) | (refine side_and ?_ ?_) | (refine drawX_of mixed ?_)))
    rw [e2]
    refine callx_frzT [some 0, some 1, some 2, none] [(6, .p (.dsl U.str mm)), (23, .p (.dsl U.str mm)), (25, .p (.dsl U.str mm))] [(3, .rows U.str [])] [.p (.dsl U.str mm), .p (.int .i64 w.length)] ⟨by (repeat' (first | refine EndV.mk ?_ | exact trivial | exact rfl | refine And.intro ?_ ?_)) <;> (exact ⟨_, rfl, rfl, rfl, by simp, by (first | (simp; done) | (simp [List.take_of_length_le]; done) | (simp [List.take_of_length_le]; rfl)), rfl⟩), by (repeat' (first | refine EndV.mk ?_ | exact trivial | exact rfl | refine And.intro ?_ ?_)) <;> exact ⟨_, rfl⟩, rfl, rfl⟩ ⟨by (repeat' (first | refine EndV.mk ?_ | exact trivial | exact rfl | refine And.intro ?_ ?_)) <;> (exact ⟨_, rfl, rfl, rfl, by simp, by (first | (simp; done) | (simp [List.take_of_length_le]; done) | (simp [List.take_of_length_le]; rfl)), rfl⟩)⟩ ?_
    (repeat' ((conv => whnf); first | (exfalso; omega) | (refine callx_pure (c1) rfl rfl ?_) | (refine dcallx_pure (c1) rfl rfl ?_) | (refine callx_pure (c2) rfl rfl ?_) | (refine dcallx_pure (c2) rfl rfl ?_) | (refine callx_pure (c3) rfl rfl ?_) | (refine dcallx_pure (c3) rfl rfl ?_) | (refine callx_pure (c4) rfl rfl ?_) | (refine dcallx_pure (c4) rfl rfl ?_) | (refine callx_pure (hleft) rfl rfl ?_) | (refine dcallx_pure (hleft) rfl rfl ?_) | (refine callx_pure (c5) rfl rfl ?_) | (refine dcallx_pure (c5) rfl rfl ?_) | (refine callx_pure (c6) rfl rfl ?_) | (refine dcallx_pure (c6) rfl rfl ?_) | (refine callx_pure (c7) rfl rfl ?_) | (refine dcallx_pure (c7) rfl rfl ?_) | (exact absurd rfl hb) | (refine end_fn [] (.inr rfl) ?_ trivial rfl rfl) | (refine split_nd (fun hb => ?_) (fun hb => ?_)) | (refine split_d (fun hb => ?_) (fun hb => ?_)) | (refine split_n (fun hb => ?_) (fun hb => ?_)) | (refine split_x (fun hb => ?_) (fun hb => ?_)) | (refine And.intro (TraceOK.mk (by kernel_rfl)) ?_) | (refine Side.mk ?_; (repeat' (first | refine And.intro ?_ ?_ | exact inR_i64 (by omega) (by omega) | omega | rfl | exact trivial | exact none_ne rfl | exact some_ne rfl (Nat.ne_of_beq_eq_false rfl) | exact Nat.ne_of_beq_eq_false rfl | (dsimp only [srcSide]; omega) | (simp; done) | (simp; omega))); done) | (refine side_and ?_ ?_) | (refine drawX_of mixed ?_)))
    all_goals (repeat' (first | refine EndV.mk ?_ | exact trivial | exact rfl | refine And.intro ?_ ?_))
    all_goals ((conv => whnf); simp)
end Go.SX
