/-
  Walks: Ud3, Ud4: what single functions of the program compute.
-/
import Derived.Test.YtijedffphgckmaaGreatDoorSxTa7
set_option linter.unusedVariables false
set_option linter.unusedSimpArgs false
namespace Go.SX
open Go.Proofs
set_option maxHeartbeats 4000000
set_option maxRecDepth 100000
theorem gall_see : GAll seeEx := by
  rw [GAll_iff]; exact ⟨⟨by decide, by decide, by decide⟩, by simp [seeEx, GAllL]⟩
theorem gall_zero : GAll zeroO.goal := by
  rw [GAll_iff]; exact ⟨⟨by decide, by decide, by decide⟩, by show GAllL []; simp [GAllL]⟩
theorem oshotsEx : Meets Tryz.prog Dc 22 [goalA seeEx] [] (gsS [seeEx]) [] :=
  oshots _ _ _ _ _ _ _ _ _ _ (by decide) (by have := valid_meets seeEx gall_see; rw [ex_valid] at this; exact this)
theorem lsane : Meets Tryz.prog Dc 10 [] [] (bS true) [] := by
  have h1 : Meets Tryz.prog Dc 14 [ordA oEx] [] (.tuple [wS wantW, iS 0]) [] := by have := oprint oEx gall_see; rw [ex_print] at this; exact this
  have h2 : Meets Tryz.prog Dc 25 [wS wantW] [] (.tuple [ordA oEx, iS 29, iS 0]) [] := by have := oparse wantW (by decide); unfold retP at this; rw [ex_parse] at this; exact this
  have h3 : Meets Tryz.prog Dc 25 [wS bad1] [] (.tuple [ordA zeroO, iS 3, iS 130]) [] := by have := oparse bad1 (by decide); unfold retP at this; rw [ex_bad1] at this; exact this
  have h4 : Meets Tryz.prog Dc 25 [wS bad2] [] (.tuple [ordA zeroO, iS 12, iS 130]) [] := by have := oparse bad2 (by decide); unfold retP at this; rw [ex_bad2] at this; exact this
  have h5 : Meets Tryz.prog Dc 25 [wS bad3] [] (.tuple [ordA zeroO, iS 4, iS 130]) [] := by have := oparse bad3 (by decide); unfold retP at this; rw [ex_bad3] at this; exact this
  have h6 : Meets Tryz.prog Dc 21 [ordA oEx, ordA oEx] [] (bS true) [] := by have := rsameO oEx oEx gall_see gall_see; rw [ex_same] at this; exact this
  have h7 := ktok wantW (by decide)
  have h7l := ex_tok
  have h8 : Meets Tryz.prog Dc 22 [goalA seeEx] [] (gsS [seeEx]) [] := oshotsEx
  have h9 : Meets Tryz.prog Dc 16 [ordA oEx] [] (bS true) [] := by have := ovalid oEx gall_see; rw [ex_ord] at this; exact this
  have h10 : Meets Tryz.prog Dc 16 [ordA zeroO] [] (bS false) [] := by have := ovalid zeroO gall_zero; rw [ex_ord0] at this; exact this
  have h11 : Meets Tryz.prog Dc 18 [goalA seeEx] [] (bS true) [] := by have := valid_meets seeEx gall_see; rw [ex_valid] at this; exact this
  have h12 : Meets Tryz.prog Dc 18 [goalA zeroO.goal] [] (bS false) [] := by have := valid_meets zeroO.goal gall_zero; rw [show validG zeroO.goal = false from ex_goal0] at this; exact this
  have h13 : Meets Tryz.prog Dc 20 [ordA oEx, ordA oEx] [] (bS true) [] := by have := osame oEx oEx gall_see; rw [ex_same] at this; exact this
  have h14 : Meets Tryz.prog Dc 20 [ordA oEx, ordA zeroO] [] (bS false) [] := by have := osame oEx zeroO gall_see; rw [ex_same0] at this; exact this
  have z10 : Meets Tryz.prog Dc 16 [.agg ordZ] [] (bS false) [] := mviewC h10 (by exact snV)
  have z12 : Meets Tryz.prog Dc 18 [kindA 0] [] (bS false) [] := mviewC h12 (by exact snV)
  have z14 : Meets Tryz.prog Dc 20 [ordA oEx, .agg ordZ] [] (bS false) [] := mviewC h14 (by exact snV)
  generalize tokensW wantW = tk at *
  refine meets_of_gx Ax tab_ok Tryz.func10 (c := _) rfl Tryz.call10 900 ?_
  (repeat' ((conv => whnf); first | refine cpC (lsee) ?_ | refine dpC (lsee) ?_ | refine cpC (h1) ?_ | refine dpC (h1) ?_ | refine cpC (h2) ?_ | refine dpC (h2) ?_ | refine cpC (h3) ?_ | refine dpC (h3) ?_ | refine cpC (h4) ?_ | refine dpC (h4) ?_ | refine cpC (h5) ?_ | refine dpC (h5) ?_ | refine cpC (h6) ?_ | refine dpC (h6) ?_ | refine cpC (h7) ?_ | refine dpC (h7) ?_ | refine cpC (h8) ?_ | refine dpC (h8) ?_ | refine cpC (h9) ?_ | refine dpC (h9) ?_ | refine cpC (z10) ?_ | refine dpC (z10) ?_ | refine cpC (h11) ?_ | refine dpC (h11) ?_ | refine cpC (z12) ?_ | refine dpC (z12) ?_ | refine cpC (h13) ?_ | refine dpC (h13) ?_ | refine cpC (z14) ?_ | refine dpC (z14) ?_ | (exfalso; omega) | (refine end_fn [] (.inr rfl) ?_ ?_ rfl rfl; (focus exact vwV); exact hsV) | refine x0C ?_ | refine spC (fun hb => ?_) fun hb => ?_ | refine nilC (fun hb => ?_) ?_ | refine taC ?_ | refine saC ?_ | exact sdV | refine side_and ?_ ?_ | refine drawX_of mixed ?_))
mutual
theorem size_gall : ∀ (g : Goal) (d n : Int), sizeG g d = some n → GAll g
  | ⟨kind, rows, from_, to_, low, high, clear, days, times, within, cents, kids⟩, d, n, hs => by
    have hL := sizeL_gall kids
    obtain ⟨hok, hd, m, hm, rfl⟩ := size_ok hs
    rw [GAll_iff]
    refine ⟨?_, hL _ _ hm⟩
    unfold okB at hok
    simp only [Bool.and_eq_true] at hok
    obtain ⟨⟨⟨h1, h2⟩, h3⟩, h4⟩ := hok
    unfold partsB at h4
    simp only [Bool.and_eq_true, Bool.or_eq_true, decide_eq_true_eq] at h4
    obtain ⟨⟨⟨h5, h6⟩, h7⟩, h8⟩ := h4
    have hk : (kids.length : Int) ≤ 4 := by
      unfold manyB at h5
      split at h5
      · simp only [decide_eq_true_eq] at h5; (try dsimp only at h5); omega
      · split at h5
        · rw [inB_iff] at h5; exact h5.2
        · simp only [decide_eq_true_eq] at h5; (try dsimp only at h5); omega
    have hc : (cents.length : Int) ≤ 4 := by
      unfold centsB at h6
      split at h6
      · simp only [Bool.and_eq_true, decide_eq_true_eq] at h6; (try dsimp only at h6); omega
      · simp only [decide_eq_true_eq] at h6; (try dsimp only at h6); omega
    have hr : (rows.length : Int) ≤ 24 := by
      rcases h7 with h7 | h7
      · unfold limB at h3
        rw [if_pos h7] at h3
        simp only [Bool.and_eq_true] at h3
        have ha := h3.1.1.1.1.1
        unfold areaB at ha
        simp only [Bool.and_eq_true, decide_eq_true_eq] at ha
        try dsimp only at ha
        omega
      · (try dsimp only at h7); omega
    exact ⟨by dsimp only; omega, by dsimp only; omega, by dsimp only; omega⟩
theorem sizeL_gall : ∀ (l : List Goal) (d n : Int), sizeL l d = some n → GAllL l
  | [], d, n, hs => by rw [GAllL]; trivial
  | k :: l, d, n, hs => by
    rw [sizeL] at hs
    rw [GAllL]
    split at hs
    · cases hs
    · rename_i m hm
      split at hs
      · cases hs
      · rename_i q hq
        exact ⟨size_gall k d m hm, sizeL_gall l d q hq⟩
end
theorem valid_gall {g : Goal} (h : validG g = true) : GAll g := by
  unfold validG at h
  split at h
  · cases h
  · rename_i n hn
    exact size_gall g 1 n hn
theorem lroom (x y : List A5) (hx : ∀ z ∈ x, A5OK z) (hxl : (x.length : Int) ≤ 9223372036854775807) (hy : ∀ z ∈ y, A5OK z) (hyl : (y.length : Int) ≤ 9223372036854775807) : Meets Tryz.prog Dc 9 [a5S x, a5S y] [] (bS true) [] := by
  have ga := rGoal x hx hxl
  have gb := rGoal y hy hyl
  have va := goal_valid x
  have vb := goal_valid y
  generalize goalS x = a at *
  generalize goalS y = b at *
  obtain ⟨r1, r2⟩ := room_law a b va vb
  have ha := valid_gall va
  have hb := valid_gall vb
  obtain ⟨_, da1, ma1⟩ := (valid_law a).1 va
  obtain ⟨_, db1, mb1⟩ := (valid_law b).1 vb
  have pa := deepG_one a
  have pb := deepG_one b
  have na := manyG_pos a
  have nb := manyG_pos b
  have k1 := lmany _ a (Nat.le_refl _) (by omega)
  have k2 := lmany _ b (Nat.le_refl _) (by omega)
  have k3 := ldeep _ a (Nat.le_refl _) (by omega) ha
  have k4 := ldeep _ b (Nat.le_refl _) (by omega) hb
  have c1 := valid_meets a ha
  have c2 := valid_meets b hb
  rw [va] at c1
  rw [vb] at c2
  have gl : GAllL [a, b] := by simp [GAllL, ha, hb]
  have gl2 : GAllL [b, a] := by simp [GAllL, ha, hb]
  have c3 := valid_meets (allOf a b) (by rw [GAll_iff]; exact ⟨⟨by show (0 : Int) ≤ _; decide, by show (0 : Int) ≤ _; decide, by show (2 : Int) ≤ _; decide⟩, gl⟩)
  have c4 := valid_meets (anyOf a b) (by rw [GAll_iff]; exact ⟨⟨by show (0 : Int) ≤ _; decide, by show (2 : Int) ≤ _; decide, by show (2 : Int) ≤ _; decide⟩, gl2⟩)
  rw [r1] at c3
  rw [r2] at c4
  clear r1 r2 va vb ha hb gl gl2
  have hs := lsane
  have hmx : max (deepG a) (deepG b) ≤ 4 := by omega
  generalize manyG a = ma at *
  generalize manyG b = mb at *
  generalize deepG a = da at *
  generalize deepG b = db at *
  by_cases h1 : ma + mb ≤ 11 <;> by_cases h2 : max da db ≤ 3 <;> simp only [h1, h2, decide_true, decide_false, Bool.and_true, Bool.true_and, Bool.and_false, Bool.false_and] at c3 c4
  all_goals refine meets_of_gx Ax tab_ok Tryz.func9 (c := _) rfl Tryz.call9 400 ?_
  all_goals (repeat' ((conv => whnf); first | refine cpC (hs) ?_ | refine dpC (hs) ?_ | refine cpC (ga) ?_ | refine dpC (ga) ?_ | refine cpC (gb) ?_ | refine dpC (gb) ?_ | refine cpC (k1) ?_ | refine dpC (k1) ?_ | refine cpC (k2) ?_ | refine dpC (k2) ?_ | refine cpC (k3) ?_ | refine dpC (k3) ?_ | refine cpC (k4) ?_ | refine dpC (k4) ?_ | refine cpC (c1) ?_ | refine dpC (c1) ?_ | refine cpC (c2) ?_ | refine dpC (c2) ?_ | (refine rdC c3 ?_ (by first | ((refine ⟨?_⟩; (repeat' (first | exact trivial | exact rfl | refine And.intro ?_ ?_ | exact fzV | exact fzV rfl rfl rfl (by simp) (by simp [eta_goal, allOf, anyOf]; done) rfl)); done)) | fail) rfl) | (refine rdC c4 ?_ (by first | ((refine ⟨?_⟩; (repeat' (first | exact trivial | exact rfl | refine And.intro ?_ ?_ | exact fzV | exact fzV rfl rfl rfl (by simp) (by simp [eta_goal, allOf, anyOf]; done) rfl)); done)) | fail) rfl) | (exfalso; omega) | (refine end_fn [] (.inr rfl) ?_ ?_ rfl rfl; (focus exact vwV); exact hsV) | refine x0C ?_ | refine spC (fun hb => ?_) fun hb => ?_ | refine nilC (fun hb => ?_) ?_ | refine taC ?_ | refine saC ?_ | exact sdV | refine side_and ?_ ?_ | refine drawX_of mixed ?_))
  all_goals first | (rw [decide_eq_true h2] at hb; exact absurd hb (by decide)) | (rw [decide_eq_false h2] at hb; exact absurd hb (by decide)) | (rw [decide_eq_true h2]; exact vwV) | (rw [decide_eq_false h2]; exact vwV)
end Go.SX
