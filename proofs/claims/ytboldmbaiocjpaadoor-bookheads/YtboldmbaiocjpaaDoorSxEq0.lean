/-
  Walks: Eq0: what single functions of the program compute.
-/
import Derived.Test.YtboldmbaiocjpaaDoorSxDk9
import Derived.Test.YtboldmbaiocjpaaDoorSxDk7
namespace Go.SX
open Go.Proofs
set_option linter.unusedSimpArgs false
set_option linter.unusedVariables false
set_option maxHeartbeats 4000000
set_option maxRecDepth 100000
/-! what the heads of books need of the Digest's laws (as in Dl4, Dl5, Dl9, Dn6, Do1) -/
abbrev Bs := List UInt8
theorem sumB_length (l : Bs) : (sumB l).length = 32 := by simp [sumB, digS, digL_length]
def Short (l : List Bs) : Prop := ∀ s ∈ l, s.length ≤ 100
theorem Short.take {l : List Bs} (h : Short l) (k : Nat) : Short (l.take k) := fun s hs => h s (List.mem_of_mem_take hs)
theorem Short.drop {l : List Bs} (h : Short l) (k : Nat) : Short (l.drop k) := fun s hs => h s (List.mem_of_mem_drop hs)
theorem Short.getD {l : List Bs} (h : Short l) (i : Nat) : (l.getD i []).length ≤ 100 := by
  rcases Nat.lt_or_ge i l.length with hi | hi
  · rw [List.getD_eq_getElem?_getD, List.getElem?_eq_getElem hi]; exact h _ (List.getElem_mem hi)
  · rw [List.getD_eq_getElem?_getD, List.getElem?_eq_none hi]; simp
theorem shr64 (y k : Nat) (hk : k < 64) : shrop .u64 (y : Int) (k : Int) = ((y / 2 ^ k : Nat) : Int) := by
  unfold shrop
  rw [Int.toNat_natCast, Nat.min_eq_left (by simp [IntKind.bits]; omega), Int.fdiv_eq_ediv_of_nonneg _ (Int.le_of_lt (Int.pow_pos (by decide)))]
  norm_cast
theorem wrap8 (y : Nat) (h : y < 256) : IntKind.u8.wrap (y : Int) = (y : Int) := by unfold IntKind.wrap; simp [IntKind.bits, IntKind.signed]; omega
def collideB : List Bs → List Bs → Bool
  | x :: a, y :: b => (decide (x ≠ y) && decide (sumB x = sumB y)) || collideB a b
  | _, _ => false
def Mid (l : List Bs) : Prop := ∀ s ∈ l, s.length ≤ 1000
theorem split32 {v v' x x' : Bs} (hl : v.length = v'.length) (h : v ++ x = v' ++ x') : v = v' ∧ x = x' := List.append_inj h hl
def z32 : Bs := List.replicate 32 0
def hdR : List Bs → Bs
  | [] => z32
  | s :: r => sumB (2 :: (hdR r ++ s))
def hxR : List Bs → List Bs
  | [] => []
  | s :: r => (2 :: (hdR r ++ s)) :: hxR r
theorem hdR_length : ∀ r, (hdR r).length = 32
  | [] => by simp [hdR, z32]
  | s :: r => sumB_length _
theorem hxR_length : ∀ r, (hxR r).length = r.length
  | [] => rfl
  | s :: r => by simp [hxR, hxR_length r]
theorem hxR_mid : ∀ r, Short r → Mid (hxR r)
  | [], _ => fun z hz => by simp [hxR] at hz
  | s :: r, hS => by
    have hs : s.length ≤ 100 := hS s (by simp)
    have h1 := hxR_mid r (fun z hz => hS z (by simp [hz]))
    have hl := hdR_length r
    intro z hz
    rcases List.mem_cons.1 hz with rfl | hz
    · simp; omega
    · exact h1 z hz
def longL (x y : List Bs) : List Bs := if x.length < y.length then y else x
theorem chain_binding : ∀ (r u : List Bs), r ≠ u → hdR r = hdR u → collideB (hxR r) (hxR u) = true ∨ ((hxR r).length ≠ (hxR u).length ∧ sumB ((longL (hxR r) (hxR u)).getD (min (hxR r).length (hxR u).length) []) = z32)
  | [], [], h, _ => absurd rfl h
  | [], t :: u, _, h => by
    right
    refine ⟨by simp [hxR], ?_⟩
    have h' : z32 = sumB (2 :: (hdR u ++ t)) := h
    rw [h']
    simp [hxR, longL]
  | s :: r, [], _, h => by
    right
    refine ⟨by simp [hxR], ?_⟩
    have h' : sumB (2 :: (hdR r ++ s)) = z32 := h
    rw [← h']
    simp [hxR, longL]
  | s :: r, t :: u, hne, h => by
    have h' : sumB (2 :: (hdR r ++ s)) = sumB (2 :: (hdR u ++ t)) := h
    simp only [hxR, collideB]
    by_cases heq : (2 :: (hdR r ++ s) : Bs) = 2 :: (hdR u ++ t)
    · obtain ⟨e1, e2⟩ := split32 (by rw [hdR_length, hdR_length]) (List.cons.inj heq).2
      have hru : r ≠ u := fun e => hne (by rw [e, e2])
      rcases chain_binding r u hru e1 with ih | ⟨ih1, ih2⟩
      · left; rw [ih]; simp
      · right
        refine ⟨by simpa using ih1, ?_⟩
        rw [← ih2]
        have em : min ((2 :: (hdR r ++ s)) :: hxR r).length ((2 :: (hdR u ++ t)) :: hxR u).length = min (hxR r).length (hxR u).length + 1 := by simp only [List.length_cons]; omega
        rw [em]
        unfold longL
        by_cases hl : (hxR r).length < (hxR u).length
        · rw [if_pos hl, if_pos (by simp only [List.length_cons]; omega)]; rfl
        · rw [if_neg hl, if_neg (by simp only [List.length_cons]; omega)]; rfl
    · left
      rw [decide_eq_true (p := _ ≠ _) heq, decide_eq_true h']; rfl
end Go.SX
