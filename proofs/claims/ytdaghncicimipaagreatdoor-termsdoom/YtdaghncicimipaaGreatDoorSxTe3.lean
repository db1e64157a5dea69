/-
  Walks: Te3: what single functions of the program compute.
-/
import Derived.Test.YtdaghncicimipaaGreatDoorSxTd7
import Derived.Test.YtdaghncicimipaaGreatDoorSxTd9
import Derived.Test.YtdaghncicimipaaGreatDoorSxTd4
import Derived.Test.YtdaghncicimipaaGreatDoorSxTc1
namespace Go.SX
open Go.Proofs
set_option linter.unusedSimpArgs false
set_option linter.unusedVariables false
set_option maxHeartbeats 4000000
set_option maxRecDepth 100000
mutual
theorem size_gall : ∀ (g : Goal) (d n : Int), sizeG g d = some n → GAll g
  | ⟨kind, rows, from_, to_, low, high, clear, days, times, within, cents, kids⟩, d, n, hs => by
    have hL := sizeL_gall kids
    obtain ⟨hok, hd, m, hm, rfl⟩ := size_ok hs
    rw [GAll_iff]
    refine ⟨?_, hL _ _ hm⟩
    unfold okB at hok
    simp only [Bool.and_eq_true] at hok
    obtain ⟨⟨⟨h1, h2⟩, h3⟩, h4⟩ := hok
    unfold partsB at h4
    simp only [Bool.and_eq_true, Bool.or_eq_true, decide_eq_true_eq] at h4
    obtain ⟨⟨⟨h5, h6⟩, h7⟩, h8⟩ := h4
    have hk : (kids.length : Int) ≤ 4 := by
      unfold manyB at h5
      split at h5
      · simp only [decide_eq_true_eq] at h5; (try dsimp only at h5); omega
      · split at h5
        · rw [inB_iff] at h5; exact h5.2
        · simp only [decide_eq_true_eq] at h5; (try dsimp only at h5); omega
    have hc : (cents.length : Int) ≤ 4 := by
      unfold centsB at h6
      split at h6
      · simp only [Bool.and_eq_true, decide_eq_true_eq] at h6; (try dsimp only at h6); omega
      · simp only [decide_eq_true_eq] at h6; (try dsimp only at h6); omega
    have hr : (rows.length : Int) ≤ 24 := by
      rcases h7 with h7 | h7
      · unfold limB at h3
        rw [if_pos h7] at h3
        simp only [Bool.and_eq_true] at h3
        have ha := h3.1.1.1.1.1
        unfold areaB at ha
        simp only [Bool.and_eq_true, decide_eq_true_eq] at ha
        try dsimp only at ha
        omega
      · (try dsimp only at h7); omega
    exact ⟨by dsimp only; omega, by dsimp only; omega, by dsimp only; omega⟩
theorem sizeL_gall : ∀ (l : List Goal) (d n : Int), sizeL l d = some n → GAllL l
  | [], d, n, hs => by rw [GAllL]; trivial
  | k :: l, d, n, hs => by
    rw [sizeL] at hs
    rw [GAllL]
    split at hs
    · cases hs
    · rename_i m hm
      split at hs
      · cases hs
      · rename_i q hq
        exact ⟨size_gall k d m hm, sizeL_gall l d q hq⟩
end
theorem valid_gall {g : Goal} (h : validG g = true) : GAll g := by
  unfold validG at h
  split at h
  · cases h
  · rename_i n hn
    exact size_gall g 1 n hn
theorem lmade (xs : List A5) (ys : List A4) (hx : ∀ y ∈ xs, A5OK y) (hxl : (xs.length : Int) ≤ 9223372036854775807) (hy : ∀ y ∈ ys, A4OK y) (hyl : (ys.length : Int) ≤ 9223372036854775807) : Meets Tryz.prog Dc 10 [.agg [a5S xs, a4S ys]] [] (.tuple [goalA (goalS xs), eS (eventsS (goalS xs) ys)]) [] := by
  have h1 := rGoal xs hx hxl
  have h2 := revents (goalS xs) (valid_gall (goal_valid xs)) ys hy hyl
  generalize eventsS (goalS xs) ys = l at *
  generalize goalS xs = g at *
  refine meets_of_gx Ax tab_ok Tryz.func10 (c := _) rfl Tryz.call10 100 ?_
  (repeat' ((conv => whnf); first | (exfalso; omega) | refine cpC (h1) ?_ | refine dpC (h1) ?_ | refine cpC (h2) ?_ | refine dpC (h2) ?_ | refine x0C ?_ | refine spC (fun hb => ?_) fun hb => ?_ | refine nilC (fun hb => ?_) ?_ | refine taC ?_ | refine saC ?_ | exact sdV | refine side_and ?_ ?_ | refine drawX_of mixed ?_))
  all_goals exact vwV
/-- what is asked of valid things -/
theorem ask_valid {g : Goal} {l : List Event} (hg : validG g = true) (hl : validE l = true) : askS g l = match meanG g l with | some (p, im) => (p, im, true, 0) | none => (0, [], false, 0) := by
  unfold askS
  rw [hg, hl]; rfl
end Go.SX
