/-
  Walks: Th6: what single functions of the program compute.
-/
import Derived.Test.YtdaghncicimipaaGreatDoorSxTh0
import Derived.Test.YtdaghncicimipaaGreatDoorSxTe3
set_option linter.unusedVariables false
set_option linter.unusedSimpArgs false
namespace Go.SX
open Go.Proofs
set_option maxHeartbeats 4000000
set_option maxRecDepth 100000
theorem str_at {l : List Event} (h : StrE l) {i j : Nat} (hij : i < j) (hj : j < l.length) : (l.getD i dE).at_ ≤ (l.getD j dE).at_ := by
  rw [List.getD_eq_getElem?_getD, List.getD_eq_getElem?_getD, List.getElem?_eq_getElem hj, List.getElem?_eq_getElem (by omega)]
  have := List.pairwise_iff_getElem.1 h i j (by omega) hj hij
  rw [befB_iff] at this
  show l[i].at_ ≤ l[j].at_
  omega
theorem str_take {l : List Event} (h : StrE l) {k : Nat} (hk : k < l.length) : ∀ e ∈ l.take (k + 1), e.at_ ≤ (l.getD k dE).at_ := by
  intro e he
  obtain ⟨i, hi, rfl⟩ := List.getElem_of_mem he
  rw [List.length_take] at hi
  rw [List.getElem_take]
  rcases Nat.lt_or_ge i k with h' | h'
  · have := str_at h h' hk
    rwa [List.getD_eq_getElem?_getD, List.getElem?_eq_getElem (by omega)] at this
  · have e : i = k := by omega
    subst e
    rw [List.getD_eq_getElem?_getD, List.getElem?_eq_getElem hk]
    exact Int.le_refl _
end Go.SX
