/-
  Walks: Uh3, Uh4, Uh5, Uh6, Uh7: what single functions of the program compute.
-/
import Derived.Test.YtijedffphgckmaaGreatDoorSxOt3
set_option linter.unusedVariables false
set_option linter.unusedSimpArgs false
namespace Go.SX
open Go.Proofs
set_option maxHeartbeats 400000000
set_option maxRecDepth 100000
theorem xbind_mk {α β : Type} (v : α) (a : Int) (w : Bool) (m : Int) (k : α → XP β) : Xr.bind (v, a, w, m) k = k v a w m := rfl
def MG (ws : List Wd) (most d a m : Int) (w : Bool) (S : Xr Goal) : Prop := Meets Tryz.prog Dc 56 [.ptr 0 0, iS most, iS d] (rdX ws a w m) (goalA S.1) (rdX ws S.2.1 S.2.2.1 S.2.2.2)
/-- the reference's reader of goals, so deep -/
def XG (ws : List Wd) (f : Nat) : Prop := ∀ (most d a m : Int) (w : Bool), InW ws a m → (f : Int) + d = 6 → (f = 1 → w = true) → MG ws most d a m w (xGoal ws f most d a w m)
@[reducible] def etaX (g : Goal) : Goal := ⟨g.kind, g.rows, g.from_, g.to_, g.low, g.high, g.clear, g.days, g.times, g.within, g.cents, g.kids⟩
theorem etaX_eq (g : Goal) : etaX g = g := by cases g; rfl
theorem peek_other {ws : List Wd} {s t : Wd} {a : Int} (h : xNext ws s a false = true) (hst : s ≠ t) : xNext ws t a false = false := by
 unfold xNext at h ⊢
 simp only [Bool.and_eq_true, decide_eq_true_eq, Bool.not_false, Bool.true_and] at h
 rw [h.2, decide_eq_false hst]; simp
theorem need_false {ws : List Wd} {s : Wd} {a : Int} {w : Bool} (h : xNext ws s a w = false) (g d m : Int) : xNeed ws s g d a w m = (false, a, w, m) := by unfold xNeed; rw [h]; rfl
theorem need_first {ws : List Wd} {s : Wd} {a : Int} {w : Bool} (h : xNext ws s a w = true) (g d m : Int) : (xNeed ws s g d a w m).1 = true := by unfold xNeed; rw [h, if_pos rfl]; split <;> rfl
theorem xg_wrong {ws : List Wd} (hn : WsOK ws) {a m : Int} (hi : InW ws a m) (most d : Int) : MG ws most d a m true (zeroG, a, true, m) := by
 unfold MG
 have nw_see := xneed hi hn true w_see 0 d (by omega)
 rw [need_wrong] at nw_see
 have nw_pair := xneed hi hn true w_pair 1 d (by omega)
 rw [need_wrong] at nw_pair
 have nw_every := xneed hi hn true w_every 1 d (by omega)
 rw [need_wrong] at nw_every
 have nw_deliver := xneed hi hn true w_deliver 1 d (by omega)
 rw [need_wrong] at nw_deliver
 have nw_all := xneed hi hn true w_all 2 d (by omega)
 rw [need_wrong] at nw_all
 have nw_any := xneed hi hn true w_any 2 d (by omega)
 rw [need_wrong] at nw_any
 refine meets_of_gx Ax tab_ok Tryz.func56 (c := _) rfl Tryz.call56 900 ?_
 (repeat' ((conv => whnf); first | (exfalso; omega) | (refine callh [some 0] nw_see rfl rfl ⟨rfl, trivial⟩ ?_) | (refine callh [some 0] nw_pair rfl rfl ⟨rfl, trivial⟩ ?_) | (refine callh [some 0] nw_every rfl rfl ⟨rfl, trivial⟩ ?_) | (refine callh [some 0] nw_deliver rfl rfl ⟨rfl, trivial⟩ ?_) | (refine callh [some 0] nw_all rfl rfl ⟨rfl, trivial⟩ ?_) | (refine callh [some 0] nw_any rfl rfl ⟨rfl, trivial⟩ ?_) | (refine end_fn [some 0] (.inr rfl) ?_ ?_ rfl rfl; (focus exact vwV); exact hsV) | refine spC (fun hb => ?_) fun hb => ?_))
theorem xg_see {ws : List Wd} (hn : WsOK ws) {a m : Int} (hi : InW ws a m) (most d : Int) (hd : 1 ≤ d ∧ d ≤ 5) (hx : xNext ws w_see a false = true) (S : Xr Goal) (hS : (xNeed ws w_see 0 d a false m).bind (fun _ => xSee ws) = S) : MG ws most d a m false S := by
 unfold MG
 have n0 := xneed hi hn false w_see 0 d (by omega)
 have k0 := kp_need ws w_see (show (0 : Int) ≤ 0 by omega) d a false m hi
 have f0 := need_first hx 0 d m
 generalize xNeed ws w_see 0 d a false m = x0 at *
 obtain ⟨v0, a0, w0, m0⟩ := x0
 dsimp only at n0 k0 f0
 subst f0
 have hi0 := k0
 simp only [xbind_mk] at hS
 unfold xSee at hS
 have q1 := xruns hi0 hn w0
 have hi1 := kp_runs ws 1200 0 (-2) (List.replicate 24 0) a0 w0 m0 hi0
 replace hi1 : InW ws (xRuns ws a0 w0 m0).2.1 (xRuns ws a0 w0 m0).2.2.2 := hi1
 generalize xRuns ws a0 w0 m0 = x1 at *
 obtain ⟨v1, a1, w1, m1⟩ := x1
 simp only [xbind_mk] at hS
 dsimp only at q1 hi1
 have q2 := xmust hi1 hn w1 [w_from] (by simp)
 have hi2 := kp_must ws [w_from] a1 w1 m1 hi1
 generalize xMust ws [w_from] a1 w1 m1 = x2 at *
 obtain ⟨v2, a2, w2, m2⟩ := x2
 simp only [xbind_mk] at hS
 dsimp only at q2 hi2
 have q3 := xnumber hi2 hn w2 0 999999
 have hi3 := kp_num ws 0 999999 a2 w2 m2 hi2
 have b3 := num_lo (ws := ws) (lo := 0) (h := 999999) (a := a2) (m := m2) (w := w2) (by omega) (by omega)
 generalize xNum ws 0 999999 a2 w2 m2 = x3 at *
 obtain ⟨v3, a3, w3, m3⟩ := x3
 simp only [xbind_mk] at hS
 dsimp only at q3 hi3 b3
 have q4 := xmust hi3 hn w3 [w_to] (by simp)
 have hi4 := kp_must ws [w_to] a3 w3 m3 hi3
 generalize xMust ws [w_to] a3 w3 m3 = x4 at *
 obtain ⟨v4, a4, w4, m4⟩ := x4
 simp only [xbind_mk] at hS
 dsimp only at q4 hi4
 have q5 := xnumber hi4 hn w4 (v3 + 1) 1000000
 have hi5 := kp_num ws (v3 + 1) 1000000 a4 w4 m4 hi4
 have b5 := num_lo (ws := ws) (lo := (v3 + 1)) (h := 1000000) (a := a4) (m := m4) (w := w4) (by omega) (by omega)
 generalize xNum ws (v3 + 1) 1000000 a4 w4 m4 = x5 at *
 obtain ⟨v5, a5, w5, m5⟩ := x5
 simp only [xbind_mk] at hS
 dsimp only at q5 hi5 b5
 have q6 := xmust hi5 hn w5 [w_sun] (by simp)
 have hi6 := kp_must ws [w_sun] a5 w5 m5 hi5
 generalize xMust ws [w_sun] a5 w5 m5 = x6 at *
 obtain ⟨v6, a6, w6, m6⟩ := x6
 simp only [xbind_mk] at hS
 dsimp only at q6 hi6
 have q7 := xnumber hi6 hn w6 0 90
 have hi7 := kp_num ws 0 90 a6 w6 m6 hi6
 have b7 := num_lo (ws := ws) (lo := 0) (h := 90) (a := a6) (m := m6) (w := w6) (by omega) (by omega)
 generalize xNum ws 0 90 a6 w6 m6 = x7 at *
 obtain ⟨v7, a7, w7, m7⟩ := x7
 simp only [xbind_mk] at hS
 dsimp only at q7 hi7 b7
 have q8 := xmust hi7 hn w7 [w_to] (by simp)
 have hi8 := kp_must ws [w_to] a7 w7 m7 hi7
 generalize xMust ws [w_to] a7 w7 m7 = x8 at *
 obtain ⟨v8, a8, w8, m8⟩ := x8
 simp only [xbind_mk] at hS
 dsimp only at q8 hi8
 have q9 := xnumber hi8 hn w8 v7 90
 have hi9 := kp_num ws v7 90 a8 w8 m8 hi8
 have b9 := num_lo (ws := ws) (lo := v7) (h := 90) (a := a8) (m := m8) (w := w8) (by omega) (by omega)
 generalize xNum ws v7 90 a8 w8 m8 = x9 at *
 obtain ⟨v9, a9, w9, m9⟩ := x9
 simp only [xbind_mk] at hS
 dsimp only at q9 hi9 b9
 replace hS : (xWord ws w_clear w_any a9 w9 m9).bind (fun c a w m => ((⟨1, v1, v3, v5, v7, v9, c, 0, 0, 0, [], []⟩ : Goal), a, w, m)) = S := hS
 unfold xWord at hS
 have q10 := xis hi9 hn w9 w_clear
 have hi10 := kp_is ws w_clear a9 w9 m9 hi9
 generalize xIs ws w_clear a9 w9 m9 = x10 at *
 obtain ⟨v10, a10, w10, m10⟩ := x10
 simp only [xbind_mk] at hS
 dsimp only at q10 hi10
 cases v10 with
 | true =>
  have hS : ((⟨1, v1, v3, v5, v7, v9, true, 0, 0, 0, [], []⟩ : Goal), a10, w10, m10) = S := hS
  rw [← hS]
  clear hS
  refine meets_of_gx Ax tab_ok Tryz.func56 (c := _) rfl Tryz.call56 900 ?_
  (repeat' ((conv => whnf); first | (refine callh [some 0] n0 rfl rfl ⟨rfl, trivial⟩ ?_) | (refine callh [some 0] q1 rfl rfl ⟨rfl, trivial⟩ ?_) | (refine callh [some 0, some _] q2 rfl rfl ⟨rfl, rfl, trivial⟩ ?_) | (refine callh [some 0] q3 rfl rfl ⟨rfl, trivial⟩ ?_) | (refine callh [some 0, some _] q4 rfl rfl ⟨rfl, rfl, trivial⟩ ?_) | (refine callh [some 0] q5 rfl rfl ⟨rfl, trivial⟩ ?_) | (refine callh [some 0, some _] q6 rfl rfl ⟨rfl, rfl, trivial⟩ ?_) | (refine callh [some 0] q7 rfl rfl ⟨rfl, trivial⟩ ?_) | (refine callh [some 0, some _] q8 rfl rfl ⟨rfl, rfl, trivial⟩ ?_) | (refine callh [some 0] q9 rfl rfl ⟨rfl, trivial⟩ ?_) | (refine callh [some 0] q10 rfl rfl ⟨rfl, trivial⟩ ?_) | (refine end_fn [some 0] (.inr rfl) ?_ ?_ rfl rfl; (focus exact vwV); exact hsV) | refine saC ?_))
 | false =>
  replace hS : (xMust ws [w_any] a10 w10 m10).bind (fun _ a w m => ((⟨1, v1, v3, v5, v7, v9, false, 0, 0, 0, [], []⟩ : Goal), a, w, m)) = S := hS
  have q11 := xmust hi10 hn w10 [w_any] (by simp)
  have hi11 := kp_must ws [w_any] a10 w10 m10 hi10
  generalize xMust ws [w_any] a10 w10 m10 = x11 at *
  obtain ⟨v11, a11, w11, m11⟩ := x11
  simp only [xbind_mk] at hS
  dsimp only at q11 hi11
  rw [← hS]
  clear hS
  refine meets_of_gx Ax tab_ok Tryz.func56 (c := _) rfl Tryz.call56 900 ?_
  (repeat' ((conv => whnf); first | (refine callh [some 0] n0 rfl rfl ⟨rfl, trivial⟩ ?_) | (refine callh [some 0] q1 rfl rfl ⟨rfl, trivial⟩ ?_) | (refine callh [some 0, some _] q2 rfl rfl ⟨rfl, rfl, trivial⟩ ?_) | (refine callh [some 0] q3 rfl rfl ⟨rfl, trivial⟩ ?_) | (refine callh [some 0, some _] q4 rfl rfl ⟨rfl, rfl, trivial⟩ ?_) | (refine callh [some 0] q5 rfl rfl ⟨rfl, trivial⟩ ?_) | (refine callh [some 0, some _] q6 rfl rfl ⟨rfl, rfl, trivial⟩ ?_) | (refine callh [some 0] q7 rfl rfl ⟨rfl, trivial⟩ ?_) | (refine callh [some 0, some _] q8 rfl rfl ⟨rfl, rfl, trivial⟩ ?_) | (refine callh [some 0] q9 rfl rfl ⟨rfl, trivial⟩ ?_) | (refine callh [some 0] q10 rfl rfl ⟨rfl, trivial⟩ ?_) | (refine callh [some 0, some _] q11 rfl rfl ⟨rfl, rfl, trivial⟩ ?_) | (refine end_fn [some 0] (.inr rfl) ?_ ?_ rfl rfl; (focus exact vwV); exact hsV) | refine saC ?_))
theorem xg_pair {ws : List Wd} (hn : WsOK ws) {sub : XP Goal} (hkp : KP ws sub) {a m : Int} (hi : InW ws a m) (most d : Int) (hd : 1 ≤ d ∧ d ≤ 5) (hmost : 2 ≤ most) (hx : xNext ws w_pair a false = true) (hsub : ∀ a m w, InW ws a m → (4 ≤ d → w = true) → MG ws 1 (d + 1) a m w (sub a w m)) (S : Xr Goal) (hS : (xNeed ws w_pair 1 d a false m).bind (fun _ => xPair ws sub) = S) : MG ws most d a m false S := by
 unfold MG
 have n0 := xneed hi hn false w_see 0 d (by omega)
 rw [need_false (peek_other hx (by decide))] at n0
 have n1 := xneed hi hn false w_pair 1 d (by omega)
 have k1 := kp_need ws w_pair (show (0 : Int) ≤ 1 by omega) d a false m hi
 have f1 := need_first hx 1 d m
 have hw0 : 4 ≤ d → (xNeed ws w_pair 1 d a false m).2.2.1 = true := fun h => by unfold xNeed; rw [hx, if_pos rfl, if_pos (.inr ⟨by omega, h⟩)]
 generalize xNeed ws w_pair 1 d a false m = x0 at *
 obtain ⟨v0, a0, w0, m0⟩ := x0
 dsimp only at n1 k1 f1 hw0
 subst f1
 have hi0 := k1
 simp only [xbind_mk] at hS
 unfold xPair at hS
 have q1 := xmust hi0 hn w0 [w_looks] (by simp)
 have hi1 := kp_must ws [w_looks] a0 w0 m0 hi0
 have hw1 : 4 ≤ d → (xMust ws [w_looks] a0 w0 m0).2.2.1 = true := fun h => by rw [hw0 h]; exact (stay_must ws [w_looks] a0 m0).2
 generalize xMust ws [w_looks] a0 w0 m0 = x1 at *
 obtain ⟨v1, a1, w1, m1⟩ := x1
 simp only [xbind_mk] at hS
 dsimp only at q1 hi1
 dsimp only at hw1
 have q2 := xnumber hi1 hn w1 1 8
 have hi2 := kp_num ws 1 8 a1 w1 m1 hi1
 have b2 := num_lo (ws := ws) (lo := 1) (h := 8) (a := a1) (m := m1) (w := w1) (by omega) (by omega)
 have hw2 : 4 ≤ d → (xNum ws 1 8 a1 w1 m1).2.2.1 = true := fun h => by rw [hw1 h]; exact (stay_num ws 1 8 a1 m1).2
 generalize xNum ws 1 8 a1 w1 m1 = x2 at *
 obtain ⟨v2, a2, w2, m2⟩ := x2
 simp only [xbind_mk] at hS
 dsimp only at q2 hi2 b2
 dsimp only at hw2
 have q3 := xmust hi2 hn w2 [w_within] (by simp)
 have hi3 := kp_must ws [w_within] a2 w2 m2 hi2
 have hw3 : 4 ≤ d → (xMust ws [w_within] a2 w2 m2).2.2.1 = true := fun h => by rw [hw2 h]; exact (stay_must ws [w_within] a2 m2).2
 generalize xMust ws [w_within] a2 w2 m2 = x3 at *
 obtain ⟨v3, a3, w3, m3⟩ := x3
 simp only [xbind_mk] at hS
 dsimp only at q3 hi3
 dsimp only at hw3
 have q4 := xnumber hi3 hn w3 1 1000000
 have hi4 := kp_num ws 1 1000000 a3 w3 m3 hi3
 have b4 := num_lo (ws := ws) (lo := 1) (h := 1000000) (a := a3) (m := m3) (w := w3) (by omega) (by omega)
 have hw4 : 4 ≤ d → (xNum ws 1 1000000 a3 w3 m3).2.2.1 = true := fun h => by rw [hw3 h]; exact (stay_num ws 1 1000000 a3 m3).2
 generalize xNum ws 1 1000000 a3 w3 m3 = x4 at *
 obtain ⟨v4, a4, w4, m4⟩ := x4
 simp only [xbind_mk] at hS
 dsimp only at q4 hi4 b4
 dsimp only at hw4
 have q5 := xmust hi4 hn w4 [w_of] (by simp)
 have hi5 := kp_must ws [w_of] a4 w4 m4 hi4
 have hw5 : 4 ≤ d → (xMust ws [w_of] a4 w4 m4).2.2.1 = true := fun h => by rw [hw4 h]; exact (stay_must ws [w_of] a4 m4).2
 generalize xMust ws [w_of] a4 w4 m4 = x5 at *
 obtain ⟨v5, a5, w5, m5⟩ := x5
 simp only [xbind_mk] at hS
 dsimp only at q5 hi5
 dsimp only at hw5
 have q6 := hsub a5 m5 w5 hi5 hw5
 have hi6 := hkp a5 w5 m5 hi5
 unfold MG at q6
 replace hi6 : InW ws (sub a5 w5 m5).2.1 (sub a5 w5 m5).2.2.2 := hi6
 generalize sub a5 w5 m5 = x6 at *
 obtain ⟨v6, a6, w6, m6⟩ := x6
 simp only [xbind_mk] at hS
 dsimp only at q6 hi6
 have hS : ((⟨2, [], 0, 0, v2, 0, false, 0, 0, v4, [], [etaX v6]⟩ : Goal), a6, w6, m6) = S := by rw [etaX_eq]; exact hS
 rw [← hS]
 clear hS hsub
 refine meets_of_gx Ax tab_ok Tryz.func56 (c := _) rfl Tryz.call56 900 ?_
 (repeat' ((conv => whnf); first | (exfalso; omega) | (refine callh [some 0] n0 rfl rfl ⟨rfl, trivial⟩ ?_) | (refine callh [some 0] n1 rfl rfl ⟨rfl, trivial⟩ ?_) | (refine callh [some 0, some _] q1 rfl rfl ⟨rfl, rfl, trivial⟩ ?_) | (refine callh [some 0] q2 rfl rfl ⟨rfl, trivial⟩ ?_) | (refine callh [some 0, some _] q3 rfl rfl ⟨rfl, rfl, trivial⟩ ?_) | (refine callh [some 0] q4 rfl rfl ⟨rfl, trivial⟩ ?_) | (refine callh [some 0, some _] q5 rfl rfl ⟨rfl, rfl, trivial⟩ ?_) | (refine callh [some 0] q6 rfl rfl ⟨rfl, trivial⟩ ?_) | (refine end_fn [some 0] (.inr rfl) ?_ ?_ rfl rfl; (focus exact vwV); exact hsV) | refine spC (fun hb => ?_) fun hb => ?_ | refine saC ?_))
theorem xg_every {ws : List Wd} (hn : WsOK ws) {sub : XP Goal} (hkp : KP ws sub) {a m : Int} (hi : InW ws a m) (most d : Int) (hd : 1 ≤ d ∧ d ≤ 5) (hmost : 3 ≤ most) (hx : xNext ws w_every a false = true) (hsub : ∀ a m w, InW ws a m → (4 ≤ d → w = true) → MG ws 1 (d + 1) a m w (sub a w m)) (S : Xr Goal) (hS : (xNeed ws w_every 1 d a false m).bind (fun _ => xEvery ws sub) = S) : MG ws most d a m false S := by
 unfold MG
 have n0 := xneed hi hn false w_see 0 d (by omega)
 rw [need_false (peek_other hx (by decide))] at n0
 have n1 := xneed hi hn false w_pair 1 d (by omega)
 rw [need_false (peek_other hx (by decide))] at n1
 have n2 := xneed hi hn false w_every 1 d (by omega)
 have k2 := kp_need ws w_every (show (0 : Int) ≤ 1 by omega) d a false m hi
 have f2 := need_first hx 1 d m
 have hw0 : 4 ≤ d → (xNeed ws w_every 1 d a false m).2.2.1 = true := fun h => by unfold xNeed; rw [hx, if_pos rfl, if_pos (.inr ⟨by omega, h⟩)]
 generalize xNeed ws w_every 1 d a false m = x0 at *
 obtain ⟨v0, a0, w0, m0⟩ := x0
 dsimp only at n2 k2 f2 hw0
 subst f2
 have hi0 := k2
 simp only [xbind_mk] at hS
 unfold xEvery at hS
 have q1 := xnumber hi0 hn w0 1 60
 have hi1 := kp_num ws 1 60 a0 w0 m0 hi0
 have b1 := num_lo (ws := ws) (lo := 1) (h := 60) (a := a0) (m := m0) (w := w0) (by omega) (by omega)
 have hw1 : 4 ≤ d → (xNum ws 1 60 a0 w0 m0).2.2.1 = true := fun h => by rw [hw0 h]; exact (stay_num ws 1 60 a0 m0).2
 generalize xNum ws 1 60 a0 w0 m0 = x1 at *
 obtain ⟨v1, a1, w1, m1⟩ := x1
 simp only [xbind_mk] at hS
 dsimp only at q1 hi1 b1
 dsimp only at hw1
 have q2 := xmust hi1 hn w1 [w_days] (by simp)
 have hi2 := kp_must ws [w_days] a1 w1 m1 hi1
 have hw2 : 4 ≤ d → (xMust ws [w_days] a1 w1 m1).2.2.1 = true := fun h => by rw [hw1 h]; exact (stay_must ws [w_days] a1 m1).2
 generalize xMust ws [w_days] a1 w1 m1 = x2 at *
 obtain ⟨v2, a2, w2, m2⟩ := x2
 simp only [xbind_mk] at hS
 dsimp only at q2 hi2
 dsimp only at hw2
 have q3 := xnumber hi2 hn w2 1 6
 have hi3 := kp_num ws 1 6 a2 w2 m2 hi2
 have b3 := num_lo (ws := ws) (lo := 1) (h := 6) (a := a2) (m := m2) (w := w2) (by omega) (by omega)
 have hw3 : 4 ≤ d → (xNum ws 1 6 a2 w2 m2).2.2.1 = true := fun h => by rw [hw2 h]; exact (stay_num ws 1 6 a2 m2).2
 generalize xNum ws 1 6 a2 w2 m2 = x3 at *
 obtain ⟨v3, a3, w3, m3⟩ := x3
 simp only [xbind_mk] at hS
 dsimp only at q3 hi3 b3
 dsimp only at hw3
 have q4 := xmust hi3 hn w3 [w_times, w_apart] (by simp)
 have hi4 := kp_must ws [w_times, w_apart] a3 w3 m3 hi3
 have hw4 : 4 ≤ d → (xMust ws [w_times, w_apart] a3 w3 m3).2.2.1 = true := fun h => by rw [hw3 h]; exact (stay_must ws [w_times, w_apart] a3 m3).2
 generalize xMust ws [w_times, w_apart] a3 w3 m3 = x4 at *
 obtain ⟨v4, a4, w4, m4⟩ := x4
 simp only [xbind_mk] at hS
 dsimp only at q4 hi4
 dsimp only at hw4
 have q5 := xnumber hi4 hn w4 0 (1440 * v1)
 have hi5 := kp_num ws 0 (1440 * v1) a4 w4 m4 hi4
 have b5 := num_lo (ws := ws) (lo := 0) (h := (1440 * v1)) (a := a4) (m := m4) (w := w4) (by omega) (by omega)
 have hw5 : 4 ≤ d → (xNum ws 0 (1440 * v1) a4 w4 m4).2.2.1 = true := fun h => by rw [hw4 h]; exact (stay_num ws 0 (1440 * v1) a4 m4).2
 generalize xNum ws 0 (1440 * v1) a4 w4 m4 = x5 at *
 obtain ⟨v5, a5, w5, m5⟩ := x5
 simp only [xbind_mk] at hS
 dsimp only at q5 hi5 b5
 dsimp only at hw5
 have q6 := xmust hi5 hn w5 [w_from] (by simp)
 have hi6 := kp_must ws [w_from] a5 w5 m5 hi5
 have hw6 : 4 ≤ d → (xMust ws [w_from] a5 w5 m5).2.2.1 = true := fun h => by rw [hw5 h]; exact (stay_must ws [w_from] a5 m5).2
 generalize xMust ws [w_from] a5 w5 m5 = x6 at *
 obtain ⟨v6, a6, w6, m6⟩ := x6
 simp only [xbind_mk] at hS
 dsimp only at q6 hi6
 dsimp only at hw6
 have q7 := xnumber hi6 hn w6 0 1000000
 have hi7 := kp_num ws 0 1000000 a6 w6 m6 hi6
 have b7 := num_lo (ws := ws) (lo := 0) (h := 1000000) (a := a6) (m := m6) (w := w6) (by omega) (by omega)
 have hw7 : 4 ≤ d → (xNum ws 0 1000000 a6 w6 m6).2.2.1 = true := fun h => by rw [hw6 h]; exact (stay_num ws 0 1000000 a6 m6).2
 generalize xNum ws 0 1000000 a6 w6 m6 = x7 at *
 obtain ⟨v7, a7, w7, m7⟩ := x7
 simp only [xbind_mk] at hS
 dsimp only at q7 hi7 b7
 dsimp only at hw7
 have q8 := xmust hi7 hn w7 [w_of] (by simp)
 have hi8 := kp_must ws [w_of] a7 w7 m7 hi7
 have hw8 : 4 ≤ d → (xMust ws [w_of] a7 w7 m7).2.2.1 = true := fun h => by rw [hw7 h]; exact (stay_must ws [w_of] a7 m7).2
 generalize xMust ws [w_of] a7 w7 m7 = x8 at *
 obtain ⟨v8, a8, w8, m8⟩ := x8
 simp only [xbind_mk] at hS
 dsimp only at q8 hi8
 dsimp only at hw8
 have q9 := hsub a8 m8 w8 hi8 hw8
 have hi9 := hkp a8 w8 m8 hi8
 unfold MG at q9
 replace hi9 : InW ws (sub a8 w8 m8).2.1 (sub a8 w8 m8).2.2.2 := hi9
 generalize sub a8 w8 m8 = x9 at *
 obtain ⟨v9, a9, w9, m9⟩ := x9
 simp only [xbind_mk] at hS
 dsimp only at q9 hi9
 have hS : ((⟨3, [], v7, 0, 0, 0, false, v1, v3, v5, [], [etaX v9]⟩ : Goal), a9, w9, m9) = S := by rw [etaX_eq]; exact hS
 rw [← hS]
 clear hS hsub
 refine meets_of_gx Ax tab_ok Tryz.func56 (c := _) rfl Tryz.call56 900 ?_
 (repeat' ((conv => whnf); first | (exfalso; omega) | (refine callh [some 0] n0 rfl rfl ⟨rfl, trivial⟩ ?_) | (refine callh [some 0] n1 rfl rfl ⟨rfl, trivial⟩ ?_) | (refine callh [some 0] n2 rfl rfl ⟨rfl, trivial⟩ ?_) | (refine callh [some 0] q1 rfl rfl ⟨rfl, trivial⟩ ?_) | (refine callh [some 0, some _] q2 rfl rfl ⟨rfl, rfl, trivial⟩ ?_) | (refine callh [some 0] q3 rfl rfl ⟨rfl, trivial⟩ ?_) | (refine callh [some 0, some _] q4 rfl rfl ⟨rfl, rfl, trivial⟩ ?_) | (refine callh [some 0] q5 rfl rfl ⟨rfl, trivial⟩ ?_) | (refine callh [some 0, some _] q6 rfl rfl ⟨rfl, rfl, trivial⟩ ?_) | (refine callh [some 0] q7 rfl rfl ⟨rfl, trivial⟩ ?_) | (refine callh [some 0, some _] q8 rfl rfl ⟨rfl, rfl, trivial⟩ ?_) | (refine callh [some 0] q9 rfl rfl ⟨rfl, trivial⟩ ?_) | (refine end_fn [some 0] (.inr rfl) ?_ ?_ rfl rfl; (focus exact vwV); exact hsV) | refine spC (fun hb => ?_) fun hb => ?_ | refine saC ?_))
theorem xg_del {ws : List Wd} (hn : WsOK ws) {sub : XP Goal} (hkp : KP ws sub) {a m : Int} (hi : InW ws a m) (most d : Int) (hd : 1 ≤ d ∧ d ≤ 5) (hmost : 4 ≤ most) (hx : xNext ws w_deliver a false = true) (hsub : ∀ a m w, InW ws a m → (4 ≤ d → w = true) → MG ws 3 (d + 1) a m w (sub a w m)) (S : Xr Goal) (hS : (xNeed ws w_deliver 1 d a false m).bind (fun _ => xDel ws sub) = S) : MG ws most d a m false S := by
 unfold MG
 have n0 := xneed hi hn false w_see 0 d (by omega)
 rw [need_false (peek_other hx (by decide))] at n0
 have n1 := xneed hi hn false w_pair 1 d (by omega)
 rw [need_false (peek_other hx (by decide))] at n1
 have n2 := xneed hi hn false w_every 1 d (by omega)
 rw [need_false (peek_other hx (by decide))] at n2
 have n3 := xneed hi hn false w_deliver 1 d (by omega)
 have k3 := kp_need ws w_deliver (show (0 : Int) ≤ 1 by omega) d a false m hi
 have f3 := need_first hx 1 d m
 have hw0 : 4 ≤ d → (xNeed ws w_deliver 1 d a false m).2.2.1 = true := fun h => by unfold xNeed; rw [hx, if_pos rfl, if_pos (.inr ⟨by omega, h⟩)]
 generalize xNeed ws w_deliver 1 d a false m = x0 at *
 obtain ⟨v0, a0, w0, m0⟩ := x0
 dsimp only at n3 k3 f3 hw0
 subst f3
 have hi0 := k3
 simp only [xbind_mk] at hS
 unfold xDel at hS
 have q1 := xmust hi0 hn w0 [w_within] (by simp)
 have hi1 := kp_must ws [w_within] a0 w0 m0 hi0
 have hw1 : 4 ≤ d → (xMust ws [w_within] a0 w0 m0).2.2.1 = true := fun h => by rw [hw0 h]; exact (stay_must ws [w_within] a0 m0).2
 generalize xMust ws [w_within] a0 w0 m0 = x1 at *
 obtain ⟨v1, a1, w1, m1⟩ := x1
 simp only [xbind_mk] at hS
 dsimp only at q1 hi1
 dsimp only at hw1
 have q2 := xnumber hi1 hn w1 0 1000000
 have hi2 := kp_num ws 0 1000000 a1 w1 m1 hi1
 have b2 := num_lo (ws := ws) (lo := 0) (h := 1000000) (a := a1) (m := m1) (w := w1) (by omega) (by omega)
 have hw2 : 4 ≤ d → (xNum ws 0 1000000 a1 w1 m1).2.2.1 = true := fun h => by rw [hw1 h]; exact (stay_num ws 0 1000000 a1 m1).2
 generalize xNum ws 0 1000000 a1 w1 m1 = x2 at *
 obtain ⟨v2, a2, w2, m2⟩ := x2
 simp only [xbind_mk] at hS
 dsimp only at q2 hi2 b2
 dsimp only at hw2
 have q3 := xmust hi2 hn w2 [w_of] (by simp)
 have hi3 := kp_must ws [w_of] a2 w2 m2 hi2
 have hw3 : 4 ≤ d → (xMust ws [w_of] a2 w2 m2).2.2.1 = true := fun h => by rw [hw2 h]; exact (stay_must ws [w_of] a2 m2).2
 generalize xMust ws [w_of] a2 w2 m2 = x3 at *
 obtain ⟨v3, a3, w3, m3⟩ := x3
 simp only [xbind_mk] at hS
 dsimp only at q3 hi3
 dsimp only at hw3
 have q4 := hsub a3 m3 w3 hi3 hw3
 have hi4 := hkp a3 w3 m3 hi3
 unfold MG at q4
 replace hi4 : InW ws (sub a3 w3 m3).2.1 (sub a3 w3 m3).2.2.2 := hi4
 generalize sub a3 w3 m3 = x4 at *
 obtain ⟨v4, a4, w4, m4⟩ := x4
 simp only [xbind_mk] at hS
 dsimp only at q4 hi4
 have hS : ((⟨4, [], 0, 0, 0, 0, false, 0, 0, v2, [], [etaX v4]⟩ : Goal), a4, w4, m4) = S := by rw [etaX_eq]; exact hS
 rw [← hS]
 clear hS hsub
 refine meets_of_gx Ax tab_ok Tryz.func56 (c := _) rfl Tryz.call56 900 ?_
 (repeat' ((conv => whnf); first | (exfalso; omega) | (refine callh [some 0] n0 rfl rfl ⟨rfl, trivial⟩ ?_) | (refine callh [some 0] n1 rfl rfl ⟨rfl, trivial⟩ ?_) | (refine callh [some 0] n2 rfl rfl ⟨rfl, trivial⟩ ?_) | (refine callh [some 0] n3 rfl rfl ⟨rfl, trivial⟩ ?_) | (refine callh [some 0, some _] q1 rfl rfl ⟨rfl, rfl, trivial⟩ ?_) | (refine callh [some 0] q2 rfl rfl ⟨rfl, trivial⟩ ?_) | (refine callh [some 0, some _] q3 rfl rfl ⟨rfl, rfl, trivial⟩ ?_) | (refine callh [some 0] q4 rfl rfl ⟨rfl, trivial⟩ ?_) | (refine end_fn [some 0] (.inr rfl) ?_ ?_ rfl rfl; (focus exact vwV); exact hsV) | refine spC (fun hb => ?_) fun hb => ?_ | refine saC ?_))
end Go.SX

namespace Go.SX
open Go.Proofs
set_option maxHeartbeats 4000000
set_option maxRecDepth 100000
@[reducible] def nlS : SV Cd := .p (.lit (.slice none 0 0))
@[reducible] def gF (k : Int) (cs ks : SV Cd) : List (SV Cd) := [iS k, nlS, iS 0, iS 0, iS 0, iS 0, bS false, iS 0, iS 0, iS 0, cs, ks]
theorem parts_wrong (ws : List Wd) (X : XP Goal) (k : Int) (n : Nat) (cents : List Int) (kids : List Goal) (a m : Int) : xPartsL ws X k n cents kids a true m = ((cents, kids), a, true, m) := by
 cases n with
 | zero => rfl
 | succ n => rw [xPartsL]; simp
theorem xparts5 {ws : List Wd} (hn : WsOK ws) {sub : XP Goal} (hkp : KP ws sub) {a m : Int} {w : Bool} (hi : InW ws a m) (d : Int) (hd : 1 ≤ d ∧ d ≤ 5) (hw : 4 ≤ d → w = true) (hsub : ∀ a m w, InW ws a m → (4 ≤ d → w = true) → MG ws 6 (d + 1) a m w (sub a w m)) (S : Xr (List Int × List Goal)) (hS : (xMust ws [w_open] a w m).bind (fun _ => xPartsL ws sub 5 5 [] []) = S) :
  Meets Tryz.prog Dc 82 [.ptr 0 0, .ptr 1 0, iS d] (rdX ws a w m ++ [.vart none (gF 5 nlS nlS)]) (.tuple []) (rdX ws S.2.1 S.2.2.1 S.2.2.2 ++ [.vart none (gF 5 nlS (.slice 2 0 12 0 S.1.2.length)), .rows U.goal S.1.2]) := by
 have qm := xmust hi hn w [w_open] (by simp)
 have im := kp_must ws [w_open] a w m hi
 have hw1 : 4 ≤ d → (xMust ws [w_open] a w m).2.2.1 = true := fun h => by rw [hw h]; exact must_wrong
 generalize xMust ws [w_open] a w m = x0 at *
 obtain ⟨u, a0, w0, m0⟩ := x0
 simp only [xbind_mk] at hS
 dsimp only at qm im hw1
 refine meets_of_gx Ax tab_ok Tryz.func82 (c := _) rfl Tryz.call82 600 ?_
 (repeat' ((conv => whnf); first | (exfalso; omega) | (refine callh [some 0, some _] qm rfl rfl ⟨rfl, rfl, trivial⟩ ?_) | refine x0C ?_ | refine spC (fun hb => ?_) fun hb => ?_ | refine nilC (fun hb => ?_) ?_ | refine taC ?_ | refine saC ?_ | exact sdV | refine side_and ?_ ?_ | refine drawX_of mixed ?_))
 refine loop_upT [some 0, some 1, none] (fun _ : Nat × List Goal × Int × Bool × Int => [(7, .any)]) (fun q => [(0, .vart none [wsS ws, iS q.2.2.1, bS q.2.2.2.1, iS q.2.2.2.2]), (1, .vart none (gF 5 nlS (.slice 2 0 12 0 q.2.1.length))), (2, .rows U.goal q.2.1)]) (fun q => xPartsL ws sub 5 q.1 [] q.2.1 q.2.2.1 q.2.2.2.1 q.2.2.2.2 = S ∧ InW ws q.2.2.1 q.2.2.2.2 ∧ (4 ≤ d → q.2.2.2.1 = true) ∧ q.2.1.length + q.1 = 5 ∧ (q.2.2.2.1 = false → q.2.1.length ≤ 3)) (fun q => q.1) (5, [], a0, w0, m0) ⟨hS, im, hw1, rfl, fun _ => by simp⟩ (by exact bkI) ?_
 clear hS im hw1 qm
 rintro ⟨n, kids, a, w, m⟩ ⟨hS, hi, hw, hn5, hk3⟩ K hK
 dsimp only at hS hi hw hn5 hk3 hK ⊢
 cases w with
 | true =>
  rw [parts_wrong] at hS
  rw [← hS]
  clear hsub hS
  (repeat' ((conv => whnf); first | (exfalso; omega) | (refine end_fn [some 0, some 1, some 2] (.inl rfl) ?_ ?_ rfl rfl; (focus exact vwV); exact hsW) | refine x0C ?_ | refine spC (fun hb => ?_) fun hb => ?_ | refine nilC (fun hb => ?_) ?_ | refine taC ?_ | refine saC ?_ | exact sdV | refine side_and ?_ ?_ | refine drawX_of mixed ?_))
 | false =>
  have hd4 : d < 4 := by
   by_cases h : d < 4
   ·exact h
   ·have := hw (by omega); cases this
  have hk3 := hk3 rfl
  obtain ⟨n, rfl⟩ : ∃ k, n = k + 1 := ⟨n - 1, by omega⟩
  replace hS : (sub a false m).bind (fun g a w m =>
   if kids.length + 1 = 1 then (xMust ws [w_comma] a w m).bind fun _ a w m => xPartsL ws sub 5 n [] (kids ++ [g]) a w m
   else (xIs ws w_close a w m).bind fun b a w m =>
    if b then (([], kids ++ [g]), a, w, m)
    else if kids.length + 1 = 4 ∨ m = 0 then (([], kids ++ [g]), a, true, m)
    else (xMust ws [w_comma] a w (m - 1)).bind fun _ a w m => xPartsL ws sub 5 n [] (kids ++ [g]) a w m) = S := hS
  have q1 := hsub a m false hi (fun h => by omega)
  have i1 := hkp a false m hi
  unfold MG at q1
  generalize sub a false m = x1 at *
  obtain ⟨g, a1, w1, m1⟩ := x1
  simp only [xbind_mk] at hS
  dsimp only at q1 i1
  have hZl : (List.take kids.length kids ++ List.take 1 (List.drop 0 [(⟨0, [], 0, 0, 0, 0, false, 0, 0, 0, [], []⟩ : Goal)])).length = kids.length + 1 := by rw [List.take_length]; simp
  have hV : (List.take kids.length kids ++ List.take 1 (List.drop 0 [(⟨0, [], 0, 0, 0, 0, false, 0, 0, 0, [], []⟩ : Goal)])).set (0 + (kids.length : Int).toNat) (etaX g) = kids ++ [g] := by
   rw [List.take_length, show 0 + (kids.length : Int).toNat = kids.length by omega, List.set_append_right _ _ (Nat.le_refl _), Nat.sub_self, etaX_eq]; rfl
  have hVl : ((List.take kids.length kids ++ List.take 1 (List.drop 0 [(⟨0, [], 0, 0, 0, 0, false, 0, 0, 0, [], []⟩ : Goal)])).set (0 + (kids.length : Int).toNat) (etaX g)).length = kids.length + 1 := by rw [hV]; simp
  rw [← hV] at hS
  clear hsub hkp hV
  by_cases h1 : kids.length + 1 = 1
  ·rw [if_pos h1] at hS
   have q2 := xmust i1 hn w1 [w_comma] (by simp)
   have i2 := kp_must ws [w_comma] a1 w1 m1 i1
   generalize xMust ws [w_comma] a1 w1 m1 = x2 at *
   obtain ⟨u2, a2, w2, m2⟩ := x2
   simp only [xbind_mk] at hS
   dsimp only at q2 i2
   (repeat' ((conv => whnf); first | (exfalso; omega) | (refine callh [some 0] q1 rfl rfl ⟨rfl, trivial⟩ ?_) | (refine dcallh [some 0] q1 rfl rfl ⟨rfl, trivial⟩ ?_) | (refine callh [some 0, some _] q2 rfl rfl ⟨rfl, rfl, trivial⟩ ?_) | refine hK (n, _, a2, w2, m2) [some 0, some 1, some 4] _ _ ⟨⟨hS, i2, (fun h => by omega), (by dsimp only; omega), (fun _ => by dsimp only; omega)⟩⟩ ⟨by dsimp only; omega⟩ (by exact bkW) | refine x0C ?_ | refine spC (fun hb => ?_) fun hb => ?_ | refine nilC (fun hb => ?_) ?_ | refine taC ?_ | refine saC ?_ | exact sdV | refine side_and ?_ ?_ | refine drawX_of mixed ?_))
  ·rw [if_neg h1] at hS
   have q2 := xis i1 hn w1 w_close
   have i2 := kp_is ws w_close a1 w1 m1 i1
   generalize xIs ws w_close a1 w1 m1 = x2 at *
   obtain ⟨b2, a2, w2, m2⟩ := x2
   simp only [xbind_mk] at hS
   dsimp only at q2 i2
   cases b2 with
   | true =>
    rw [if_pos rfl] at hS
    rw [← hS]
    clear hS
    (repeat' ((conv => whnf); first | (exfalso; omega) | (refine callh [some 0] q1 rfl rfl ⟨rfl, trivial⟩ ?_) | (refine dcallh [some 0] q1 rfl rfl ⟨rfl, trivial⟩ ?_) | (refine callh [some 0] q2 rfl rfl ⟨rfl, trivial⟩ ?_) | (refine end_fn [some 0, some 1, some 4] (.inr rfl) ?_ ?_ rfl rfl; (focus exact vwV); exact hsW) | refine x0C ?_ | refine spC (fun hb => ?_) fun hb => ?_ | refine nilC (fun hb => ?_) ?_ | refine taC ?_ | refine saC ?_ | exact sdV | refine side_and ?_ ?_ | refine drawX_of mixed ?_))
   | false =>
    rw [if_neg (by decide)] at hS
    by_cases hc : kids.length + 1 = 4 ∨ m2 = 0
    ·rw [if_pos hc] at hS
     rw [← hS]
     clear hS
     by_cases hc4 : kids.length + 1 = 4
     ·(repeat' ((conv => whnf); first | (exfalso; omega) | (refine callh [some 0] q1 rfl rfl ⟨rfl, trivial⟩ ?_) | (refine dcallh [some 0] q1 rfl rfl ⟨rfl, trivial⟩ ?_) | (refine callh [some 0] q2 rfl rfl ⟨rfl, trivial⟩ ?_) | (refine end_fn [some 0, some 1, some 4] (.inr rfl) ?_ ?_ rfl rfl; (focus exact vwV); exact hsW) | refine x0C ?_ | refine spC (fun hb => ?_) fun hb => ?_ | refine nilC (fun hb => ?_) ?_ | refine taC ?_ | refine saC ?_ | exact sdV | refine side_and ?_ ?_ | refine drawX_of mixed ?_))
     ·(repeat' ((conv => whnf); first | (exfalso; omega) | (refine callh [some 0] q1 rfl rfl ⟨rfl, trivial⟩ ?_) | (refine dcallh [some 0] q1 rfl rfl ⟨rfl, trivial⟩ ?_) | (refine callh [some 0] q2 rfl rfl ⟨rfl, trivial⟩ ?_) | (refine end_fn [some 0, some 1, some 4] (.inr rfl) ?_ ?_ rfl rfl; (focus exact vwV); exact hsW) | refine x0C ?_ | refine spC (fun hb => ?_) fun hb => ?_ | refine nilC (fun hb => ?_) ?_ | refine taC ?_ | refine saC ?_ | exact sdV | refine side_and ?_ ?_ | refine drawX_of mixed ?_))
    ·rw [if_neg hc] at hS
     have hm2 := i2.m0
     have hm3 := i2.m1
     have i2' : InW ws a2 (m2 - 1) := ⟨i2.a0, i2.a1, by omega, by omega⟩
     have q3 := xmust i2' hn w2 [w_comma] (by simp)
     have i3 := kp_must ws [w_comma] a2 w2 (m2 - 1) i2'
     generalize xMust ws [w_comma] a2 w2 (m2 - 1) = x3 at *
     obtain ⟨u3, a3, w3, m3⟩ := x3
     simp only [xbind_mk] at hS
     dsimp only at q3 i3
     (repeat' ((conv => whnf); first | (exfalso; omega) | (refine callh [some 0] q1 rfl rfl ⟨rfl, trivial⟩ ?_) | (refine dcallh [some 0] q1 rfl rfl ⟨rfl, trivial⟩ ?_) | (refine callh [some 0] q2 rfl rfl ⟨rfl, trivial⟩ ?_) | (refine callh [some 0, some _] q3 rfl rfl ⟨rfl, rfl, trivial⟩ ?_) | refine hK (n, _, a3, w3, m3) [some 0, some 1, some 4] _ _ ⟨⟨hS, i3, (fun h => by omega), (by dsimp only; omega), (fun _ => by dsimp only; omega)⟩⟩ ⟨by dsimp only; omega⟩ (by exact bkW) | refine x0C ?_ | refine spC (fun hb => ?_) fun hb => ?_ | refine nilC (fun hb => ?_) ?_ | refine taC ?_ | refine saC ?_ | exact sdV | refine side_and ?_ ?_ | refine drawX_of mixed ?_))
theorem xparts6 {ws : List Wd} (hn : WsOK ws) {sub : XP Goal} (hkp : KP ws sub) {a m : Int} {w : Bool} (hi : InW ws a m) (d : Int) (hd : 1 ≤ d ∧ d ≤ 5) (hw : 4 ≤ d → w = true) (hsub : ∀ a m w, InW ws a m → (4 ≤ d → w = true) → MG ws 6 (d + 1) a m w (sub a w m)) (S : Xr (List Int × List Goal)) (hS : (xMust ws [w_open] a w m).bind (fun _ => xPartsL ws sub 6 5 [] []) = S) :
  Meets Tryz.prog Dc 82 [.ptr 0 0, .ptr 1 0, iS d] (rdX ws a w m ++ [.vart none (gF 6 nlS nlS)]) (.tuple []) (rdX ws S.2.1 S.2.2.1 S.2.2.2 ++ [.vart none (gF 6 (.slice 2 0 1 0 S.1.1.length) (.slice 3 0 12 0 S.1.2.length)), .rows U.int S.1.1, .rows U.goal S.1.2]) := by
 have qm := xmust hi hn w [w_open] (by simp)
 have im := kp_must ws [w_open] a w m hi
 have hw1 : 4 ≤ d → (xMust ws [w_open] a w m).2.2.1 = true := fun h => by rw [hw h]; exact must_wrong
 generalize xMust ws [w_open] a w m = x0 at *
 obtain ⟨u, a0, w0, m0⟩ := x0
 simp only [xbind_mk] at hS
 dsimp only at qm im hw1
 refine meets_of_gx Ax tab_ok Tryz.func82 (c := _) rfl Tryz.call82 600 ?_
 (repeat' ((conv => whnf); first | (exfalso; omega) | (refine callh [some 0, some _] qm rfl rfl ⟨rfl, rfl, trivial⟩ ?_) | refine x0C ?_ | refine spC (fun hb => ?_) fun hb => ?_ | refine nilC (fun hb => ?_) ?_ | refine taC ?_ | refine saC ?_ | exact sdV | refine side_and ?_ ?_ | refine drawX_of mixed ?_))
 refine loop_upT [some 0, some 1, none, none] (fun _ : Nat × List Int × List Goal × Int × Bool × Int => [(7, .any)]) (fun q => [(0, .vart none [wsS ws, iS q.2.2.2.1, bS q.2.2.2.2.1, iS q.2.2.2.2.2]), (1, .vart none (gF 6 (.slice 2 0 1 0 q.2.1.length) (.slice 3 0 12 0 q.2.2.1.length))), (2, .rows U.int q.2.1), (3, .rows U.goal q.2.2.1)]) (fun q => xPartsL ws sub 6 q.1 q.2.1 q.2.2.1 q.2.2.2.1 q.2.2.2.2.1 q.2.2.2.2.2 = S ∧ InW ws q.2.2.2.1 q.2.2.2.2.2 ∧ (4 ≤ d → q.2.2.2.2.1 = true) ∧ q.2.2.1.length + q.1 = 5 ∧ (q.2.2.2.2.1 = false → q.2.2.1.length ≤ 3) ∧ q.2.1.length = q.2.2.1.length) (fun q => q.1) (5, [], [], a0, w0, m0) ⟨hS, im, hw1, rfl, (fun _ => by simp), rfl⟩ (by exact bkI) ?_
 clear hS im hw1 qm
 rintro ⟨n, cents, kids, a, w, m⟩ ⟨hS, hi, hw, hn5, hk3, hck⟩ K hK
 dsimp only at hS hi hw hn5 hk3 hck hK ⊢
 cases w with
 | true =>
  rw [parts_wrong] at hS
  rw [← hS]
  clear hsub hS
  (repeat' ((conv => whnf); first | (exfalso; omega) | (refine end_fn [some 0, some 1, some 2, some 3] (.inl rfl) ?_ ?_ rfl rfl; (focus exact vwV); exact hsW) | refine x0C ?_ | refine spC (fun hb => ?_) fun hb => ?_ | refine nilC (fun hb => ?_) ?_ | refine taC ?_ | refine saC ?_ | exact sdV | refine side_and ?_ ?_ | refine drawX_of mixed ?_))
 | false =>
  have hd4 : d < 4 := by
   by_cases h : d < 4
   ·exact h
   ·have := hw (by omega); cases this
  have hk3 := hk3 rfl
  obtain ⟨n, rfl⟩ : ∃ k, n = k + 1 := ⟨n - 1, by omega⟩
  replace hS : (xNum ws 0 1000000000 a false m).bind (fun c a w m => (sub a w m).bind (fun g a w m =>
   if kids.length + 1 = 1 then (xMust ws [w_comma] a w m).bind fun _ a w m => xPartsL ws sub 6 n (cents ++ [c]) (kids ++ [g]) a w m
   else (xIs ws w_close a w m).bind fun b a w m =>
    if b then ((cents ++ [c], kids ++ [g]), a, w, m)
    else if kids.length + 1 = 4 ∨ m = 0 then ((cents ++ [c], kids ++ [g]), a, true, m)
    else (xMust ws [w_comma] a w (m - 1)).bind fun _ a w m => xPartsL ws sub 6 n (cents ++ [c]) (kids ++ [g]) a w m)) = S := hS
  have q0 := xnumber hi hn false 0 1000000000
  have i0 := kp_num ws 0 1000000000 a false m hi
  generalize xNum ws 0 1000000000 a false m = x0 at *
  obtain ⟨c, a0, w0, m0⟩ := x0
  simp only [xbind_mk] at hS
  dsimp only at q0 i0
  have q1 := hsub a0 m0 w0 i0 (fun h => by omega)
  have i1 := hkp a0 w0 m0 i0
  unfold MG at q1
  generalize sub a0 w0 m0 = x1 at *
  obtain ⟨g, a1, w1, m1⟩ := x1
  simp only [xbind_mk] at hS
  dsimp only at q1 i1
  have hZl : (List.take kids.length kids ++ List.take 1 (List.drop 0 [(⟨0, [], 0, 0, 0, 0, false, 0, 0, 0, [], []⟩ : Goal)])).length = kids.length + 1 := by rw [List.take_length]; simp
  have hV : (List.take kids.length kids ++ List.take 1 (List.drop 0 [(⟨0, [], 0, 0, 0, 0, false, 0, 0, 0, [], []⟩ : Goal)])).set (0 + (kids.length : Int).toNat) (etaX g) = kids ++ [g] := by
   rw [List.take_length, show 0 + (kids.length : Int).toNat = kids.length by omega, List.set_append_right _ _ (Nat.le_refl _), Nat.sub_self, etaX_eq]; rfl
  have hVl : ((List.take kids.length kids ++ List.take 1 (List.drop 0 [(⟨0, [], 0, 0, 0, 0, false, 0, 0, 0, [], []⟩ : Goal)])).set (0 + (kids.length : Int).toNat) (etaX g)).length = kids.length + 1 := by rw [hV]; simp
  have hC : List.take cents.length cents ++ List.take 1 (List.drop 0 [c]) = cents ++ [c] := by rw [List.take_length]; rfl
  have hCl : (List.take cents.length cents ++ List.take 1 (List.drop 0 [c])).length = cents.length + 1 := by rw [hC]; simp
  rw [← hV, ← hC] at hS
  clear hsub hkp hV hC
  by_cases h1 : kids.length + 1 = 1
  ·rw [if_pos h1] at hS
   have q2 := xmust i1 hn w1 [w_comma] (by simp)
   have i2 := kp_must ws [w_comma] a1 w1 m1 i1
   generalize xMust ws [w_comma] a1 w1 m1 = x2 at *
   obtain ⟨u2, a2, w2, m2⟩ := x2
   simp only [xbind_mk] at hS
   dsimp only at q2 i2
   (repeat' ((conv => whnf); first | (exfalso; omega) | (refine callh [some 0] q0 rfl rfl ⟨rfl, trivial⟩ ?_) | (refine dcallh [some 0] q0 rfl rfl ⟨rfl, trivial⟩ ?_) | (refine callh [some 0] q1 rfl rfl ⟨rfl, trivial⟩ ?_) | (refine dcallh [some 0] q1 rfl rfl ⟨rfl, trivial⟩ ?_) | (refine callh [some 0, some _] q2 rfl rfl ⟨rfl, rfl, trivial⟩ ?_) | refine hK (n, _, _, a2, w2, m2) [some 0, some 1, some 5, some 7] _ _ ⟨⟨hS, i2, (fun h => by omega), (by dsimp only; omega), (fun _ => by dsimp only; omega), (by dsimp only; omega)⟩⟩ ⟨by dsimp only; omega⟩ (by exact bkW) | refine x0C ?_ | refine spC (fun hb => ?_) fun hb => ?_ | refine nilC (fun hb => ?_) ?_ | refine taC ?_ | refine saC ?_ | exact sdV | refine side_and ?_ ?_ | refine drawX_of mixed ?_))
  ·rw [if_neg h1] at hS
   have q2 := xis i1 hn w1 w_close
   have i2 := kp_is ws w_close a1 w1 m1 i1
   generalize xIs ws w_close a1 w1 m1 = x2 at *
   obtain ⟨b2, a2, w2, m2⟩ := x2
   simp only [xbind_mk] at hS
   dsimp only at q2 i2
   cases b2 with
   | true =>
    rw [if_pos rfl] at hS
    rw [← hS]
    clear hS
    (repeat' ((conv => whnf); first | (exfalso; omega) | (refine callh [some 0] q0 rfl rfl ⟨rfl, trivial⟩ ?_) | (refine dcallh [some 0] q0 rfl rfl ⟨rfl, trivial⟩ ?_) | (refine callh [some 0] q1 rfl rfl ⟨rfl, trivial⟩ ?_) | (refine dcallh [some 0] q1 rfl rfl ⟨rfl, trivial⟩ ?_) | (refine callh [some 0] q2 rfl rfl ⟨rfl, trivial⟩ ?_) | (refine end_fn [some 0, some 1, some 5, some 7] (.inr rfl) ?_ ?_ rfl rfl; (focus exact vwV); exact hsW) | refine x0C ?_ | refine spC (fun hb => ?_) fun hb => ?_ | refine nilC (fun hb => ?_) ?_ | refine taC ?_ | refine saC ?_ | exact sdV | refine side_and ?_ ?_ | refine drawX_of mixed ?_))
   | false =>
    rw [if_neg (by decide)] at hS
    by_cases hc : kids.length + 1 = 4 ∨ m2 = 0
    ·rw [if_pos hc] at hS
     rw [← hS]
     clear hS
     by_cases hc4 : kids.length + 1 = 4
     ·(repeat' ((conv => whnf); first | (exfalso; omega) | (refine callh [some 0] q0 rfl rfl ⟨rfl, trivial⟩ ?_) | (refine dcallh [some 0] q0 rfl rfl ⟨rfl, trivial⟩ ?_) | (refine callh [some 0] q1 rfl rfl ⟨rfl, trivial⟩ ?_) | (refine dcallh [some 0] q1 rfl rfl ⟨rfl, trivial⟩ ?_) | (refine callh [some 0] q2 rfl rfl ⟨rfl, trivial⟩ ?_) | (refine end_fn [some 0, some 1, some 5, some 7] (.inr rfl) ?_ ?_ rfl rfl; (focus exact vwV); exact hsW) | refine x0C ?_ | refine spC (fun hb => ?_) fun hb => ?_ | refine nilC (fun hb => ?_) ?_ | refine taC ?_ | refine saC ?_ | exact sdV | refine side_and ?_ ?_ | refine drawX_of mixed ?_))
     ·(repeat' ((conv => whnf); first | (exfalso; omega) | (refine callh [some 0] q0 rfl rfl ⟨rfl, trivial⟩ ?_) | (refine dcallh [some 0] q0 rfl rfl ⟨rfl, trivial⟩ ?_) | (refine callh [some 0] q1 rfl rfl ⟨rfl, trivial⟩ ?_) | (refine dcallh [some 0] q1 rfl rfl ⟨rfl, trivial⟩ ?_) | (refine callh [some 0] q2 rfl rfl ⟨rfl, trivial⟩ ?_) | (refine end_fn [some 0, some 1, some 5, some 7] (.inr rfl) ?_ ?_ rfl rfl; (focus exact vwV); exact hsW) | refine x0C ?_ | refine spC (fun hb => ?_) fun hb => ?_ | refine nilC (fun hb => ?_) ?_ | refine taC ?_ | refine saC ?_ | exact sdV | refine side_and ?_ ?_ | refine drawX_of mixed ?_))
    ·rw [if_neg hc] at hS
     have hm2 := i2.m0
     have hm3 := i2.m1
     have i2' : InW ws a2 (m2 - 1) := ⟨i2.a0, i2.a1, by omega, by omega⟩
     have q3 := xmust i2' hn w2 [w_comma] (by simp)
     have i3 := kp_must ws [w_comma] a2 w2 (m2 - 1) i2'
     generalize xMust ws [w_comma] a2 w2 (m2 - 1) = x3 at *
     obtain ⟨u3, a3, w3, m3⟩ := x3
     simp only [xbind_mk] at hS
     dsimp only at q3 i3
     (repeat' ((conv => whnf); first | (exfalso; omega) | (refine callh [some 0] q0 rfl rfl ⟨rfl, trivial⟩ ?_) | (refine dcallh [some 0] q0 rfl rfl ⟨rfl, trivial⟩ ?_) | (refine callh [some 0] q1 rfl rfl ⟨rfl, trivial⟩ ?_) | (refine dcallh [some 0] q1 rfl rfl ⟨rfl, trivial⟩ ?_) | (refine callh [some 0] q2 rfl rfl ⟨rfl, trivial⟩ ?_) | (refine callh [some 0, some _] q3 rfl rfl ⟨rfl, rfl, trivial⟩ ?_) | refine hK (n, _, _, a3, w3, m3) [some 0, some 1, some 5, some 7] _ _ ⟨⟨hS, i3, (fun h => by omega), (by dsimp only; omega), (fun _ => by dsimp only; omega), (by dsimp only; omega)⟩⟩ ⟨by dsimp only; omega⟩ (by exact bkW) | refine x0C ?_ | refine spC (fun hb => ?_) fun hb => ?_ | refine nilC (fun hb => ?_) ?_ | refine taC ?_ | refine saC ?_ | exact sdV | refine side_and ?_ ?_ | refine drawX_of mixed ?_))
end Go.SX

namespace Go.SX
open Go.Proofs
set_option maxHeartbeats 400000000
set_option maxRecDepth 100000
theorem parts5_cents (ws : List Wd) (X : XP Goal) : ∀ (n : Nat) (kids : List Goal) (a m : Int) (w : Bool), (xPartsL ws X 5 n [] kids a w m).1.1 = []
 | 0, kids, a, m, w => rfl
 | n + 1, kids, a, m, w => by
  cases w with
  | true => rw [parts_wrong]
  | false =>
   show ((X a false m).bind (fun g a w m =>
    if kids.length + 1 = 1 then (xMust ws [w_comma] a w m).bind fun _ a w m => xPartsL ws X 5 n [] (kids ++ [g]) a w m
    else (xIs ws w_close a w m).bind fun b a w m =>
     if b then (([], kids ++ [g]), a, w, m)
     else if kids.length + 1 = 4 ∨ m = 0 then (([], kids ++ [g]), a, true, m)
     else (xMust ws [w_comma] a w (m - 1)).bind fun _ a w m => xPartsL ws X 5 n [] (kids ++ [g]) a w m)).1.1 = []
   generalize X a false m = x1
   obtain ⟨g, a1, w1, m1⟩ := x1
   rw [xbind_mk]
   split
   ·generalize xMust ws [w_comma] a1 w1 m1 = x2
    obtain ⟨u, a2, w2, m2⟩ := x2
    rw [xbind_mk]
    exact parts5_cents ws X n _ _ _ _
   ·generalize xIs ws w_close a1 w1 m1 = x2
    obtain ⟨b, a2, w2, m2⟩ := x2
    rw [xbind_mk]
    split
    ·rfl
    ·split
     ·rfl
     ·generalize xMust ws [w_comma] a2 w2 (m2 - 1) = x3
      obtain ⟨u, a3, w3, m3⟩ := x3
      rw [xbind_mk]
      exact parts5_cents ws X n _ _ _ _
theorem xg_all {ws : List Wd} (hn : WsOK ws) {sub : XP Goal} (hkp : KP ws sub) {a m : Int} (hi : InW ws a m) (most d : Int) (hd : 1 ≤ d ∧ d ≤ 5) (hmost : 5 ≤ most) (hx : xNext ws w_all a false = true) (hsub : ∀ a m w, InW ws a m → (4 ≤ d → w = true) → MG ws 6 (d + 1) a m w (sub a w m)) (S : Xr Goal) (hS : (xNeed ws w_all 2 d a false m).bind (fun _ => xList ws sub 5) = S) : MG ws most d a m false S := by
 unfold MG
 have n0 := xneed hi hn false w_see 0 d (by omega)
 rw [need_false (peek_other hx (by decide))] at n0
 have n1 := xneed hi hn false w_pair 1 d (by omega)
 rw [need_false (peek_other hx (by decide))] at n1
 have n2 := xneed hi hn false w_every 1 d (by omega)
 rw [need_false (peek_other hx (by decide))] at n2
 have n3 := xneed hi hn false w_deliver 1 d (by omega)
 rw [need_false (peek_other hx (by decide))] at n3
 have n4 := xneed hi hn false w_all 2 d (by omega)
 have k4 := kp_need ws w_all (show (0 : Int) ≤ 2 by omega) d a false m hi
 have f4 := need_first hx 2 d m
 have hw0 : 4 ≤ d → (xNeed ws w_all 2 d a false m).2.2.1 = true := fun h => by unfold xNeed; rw [hx, if_pos rfl, if_pos (.inr ⟨by omega, h⟩)]
 generalize xNeed ws w_all 2 d a false m = x0 at *
 obtain ⟨v0, a0, w0, m0⟩ := x0
 dsimp only at n4 k4 f4 hw0
 subst f4
 have hi0 := k4
 simp only [xbind_mk] at hS
 unfold xList at hS
 have hS : ((xMust ws [w_open] a0 w0 m0).bind (fun _ => xPartsL ws sub 5 5 [] [])).bind (fun r a w m => ((⟨5, [], 0, 0, 0, 0, false, 0, 0, 0, r.1, r.2⟩ : Goal), a, w, m)) = S := hS
 obtain ⟨P, hP⟩ : ∃ P, (xMust ws [w_open] a0 w0 m0).bind (fun _ => xPartsL ws sub 5 5 [] []) = P := ⟨_, rfl⟩
 have qp := xparts5 hn hkp hi0 d hd hw0 hsub P hP
 have hc : P.1.1 = [] := by rw [← hP]; exact parts5_cents ws sub 5 [] _ _ _
 rw [hP] at hS
 obtain ⟨⟨cs, ks⟩, a1, w1, m1⟩ := P
 dsimp only at qp hc
 subst hc
 have hS : ((⟨5, [], 0, 0, 0, 0, false, 0, 0, 0, [], ks⟩ : Goal), a1, w1, m1) = S := hS
 rw [← hS]
 clear hS hsub hP hkp
 refine meets_of_gx Ax tab_ok Tryz.func56 (c := _) rfl Tryz.call56 900 ?_
 (repeat' ((conv => whnf); first | (exfalso; omega) | (refine callh [some 0] n0 rfl rfl ⟨rfl, trivial⟩ ?_) | (refine callh [some 0] n1 rfl rfl ⟨rfl, trivial⟩ ?_) | (refine callh [some 0] n2 rfl rfl ⟨rfl, trivial⟩ ?_) | (refine callh [some 0] n3 rfl rfl ⟨rfl, trivial⟩ ?_) | (refine callh [some 0] n4 rfl rfl ⟨rfl, trivial⟩ ?_) | (refine callh [some 0, some 2] qp rfl rfl ⟨rfl, rfl, trivial⟩ ?_) | (refine end_fn [some 0] (.inr rfl) ?_ ?_ rfl rfl; (focus exact vwV); exact hsV) | refine spC (fun hb => ?_) fun hb => ?_))
theorem xg_any {ws : List Wd} (hn : WsOK ws) {sub : XP Goal} (hkp : KP ws sub) {a m : Int} (hi : InW ws a m) (most d : Int) (hd : 1 ≤ d ∧ d ≤ 5) (hmost : 6 ≤ most) (hx : xNext ws w_any a false = true) (hsub : ∀ a m w, InW ws a m → (4 ≤ d → w = true) → MG ws 6 (d + 1) a m w (sub a w m)) (S : Xr Goal) (hS : (xNeed ws w_any 2 d a false m).bind (fun _ => xList ws sub 6) = S) : MG ws most d a m false S := by
 unfold MG
 have n0 := xneed hi hn false w_see 0 d (by omega)
 rw [need_false (peek_other hx (by decide))] at n0
 have n1 := xneed hi hn false w_pair 1 d (by omega)
 rw [need_false (peek_other hx (by decide))] at n1
 have n2 := xneed hi hn false w_every 1 d (by omega)
 rw [need_false (peek_other hx (by decide))] at n2
 have n3 := xneed hi hn false w_deliver 1 d (by omega)
 rw [need_false (peek_other hx (by decide))] at n3
 have n4 := xneed hi hn false w_all 2 d (by omega)
 rw [need_false (peek_other hx (by decide))] at n4
 have n5 := xneed hi hn false w_any 2 d (by omega)
 have k5 := kp_need ws w_any (show (0 : Int) ≤ 2 by omega) d a false m hi
 have f5 := need_first hx 2 d m
 have hw0 : 4 ≤ d → (xNeed ws w_any 2 d a false m).2.2.1 = true := fun h => by unfold xNeed; rw [hx, if_pos rfl, if_pos (.inr ⟨by omega, h⟩)]
 generalize xNeed ws w_any 2 d a false m = x0 at *
 obtain ⟨v0, a0, w0, m0⟩ := x0
 dsimp only at n5 k5 f5 hw0
 subst f5
 have hi0 := k5
 simp only [xbind_mk] at hS
 unfold xList at hS
 have hS : ((xMust ws [w_open] a0 w0 m0).bind (fun _ => xPartsL ws sub 6 5 [] [])).bind (fun r a w m => ((⟨6, [], 0, 0, 0, 0, false, 0, 0, 0, r.1, r.2⟩ : Goal), a, w, m)) = S := hS
 obtain ⟨P, hP⟩ : ∃ P, (xMust ws [w_open] a0 w0 m0).bind (fun _ => xPartsL ws sub 6 5 [] []) = P := ⟨_, rfl⟩
 have qp := xparts6 hn hkp hi0 d hd hw0 hsub P hP
 rw [hP] at hS
 obtain ⟨⟨cs, ks⟩, a1, w1, m1⟩ := P
 dsimp only at qp
 have hS : ((⟨6, [], 0, 0, 0, 0, false, 0, 0, 0, cs, ks⟩ : Goal), a1, w1, m1) = S := hS
 rw [← hS]
 clear hS hsub hP hkp
 refine meets_of_gx Ax tab_ok Tryz.func56 (c := _) rfl Tryz.call56 900 ?_
 (repeat' ((conv => whnf); first | (exfalso; omega) | (refine callh [some 0] n0 rfl rfl ⟨rfl, trivial⟩ ?_) | (refine callh [some 0] n1 rfl rfl ⟨rfl, trivial⟩ ?_) | (refine callh [some 0] n2 rfl rfl ⟨rfl, trivial⟩ ?_) | (refine callh [some 0] n3 rfl rfl ⟨rfl, trivial⟩ ?_) | (refine callh [some 0] n4 rfl rfl ⟨rfl, trivial⟩ ?_) | (refine callh [some 0] n5 rfl rfl ⟨rfl, trivial⟩ ?_) | (refine callh [some 0, some 2] qp rfl rfl ⟨rfl, rfl, trivial⟩ ?_) | (refine end_fn [some 0] (.inr rfl) ?_ ?_ rfl rfl; (focus exact vwV); exact hsV) | refine spC (fun hb => ?_) fun hb => ?_))
theorem xg_none {ws : List Wd} (hn : WsOK ws) {a m : Int} (hi : InW ws a m) (most d : Int) (h0 : xNext ws w_see a false = false) (h1 : 2 ≤ most → xNext ws w_pair a false = false) (h2 : 3 ≤ most → xNext ws w_every a false = false) (h3 : 4 ≤ most → xNext ws w_deliver a false = false) (h4 : 5 ≤ most → xNext ws w_all a false = false) (h5 : 6 ≤ most → xNext ws w_any a false = false) : MG ws most d a m false (zeroG, a, true, m) := by
 unfold MG
 have n0 := xneed hi hn false w_see 0 d (by omega)
 rw [need_false h0] at n0
 have n1 : 2 ≤ most → _ := fun h => by
  have n := xneed hi hn false w_pair 1 d (by omega)
  rw [need_false (h1 h)] at n
  exact n
 have n2 : 3 ≤ most → _ := fun h => by
  have n := xneed hi hn false w_every 1 d (by omega)
  rw [need_false (h2 h)] at n
  exact n
 have n3 : 4 ≤ most → _ := fun h => by
  have n := xneed hi hn false w_deliver 1 d (by omega)
  rw [need_false (h3 h)] at n
  exact n
 have n4 : 5 ≤ most → _ := fun h => by
  have n := xneed hi hn false w_all 2 d (by omega)
  rw [need_false (h4 h)] at n
  exact n
 have n5 : 6 ≤ most → _ := fun h => by
  have n := xneed hi hn false w_any 2 d (by omega)
  rw [need_false (h5 h)] at n
  exact n
 refine meets_of_gx Ax tab_ok Tryz.func56 (c := _) rfl Tryz.call56 900 ?_
 (repeat' ((conv => whnf); first | (exfalso; omega) | (refine callh [some 0] n0 rfl rfl ⟨rfl, trivial⟩ ?_) | (refine callh [some 0] (n1 (by omega)) rfl rfl ⟨rfl, trivial⟩ ?_) | (refine callh [some 0] (n2 (by omega)) rfl rfl ⟨rfl, trivial⟩ ?_) | (refine callh [some 0] (n3 (by omega)) rfl rfl ⟨rfl, trivial⟩ ?_) | (refine callh [some 0] (n4 (by omega)) rfl rfl ⟨rfl, trivial⟩ ?_) | (refine callh [some 0] (n5 (by omega)) rfl rfl ⟨rfl, trivial⟩ ?_) | (refine end_fn [some 0] (.inr rfl) ?_ ?_ rfl rfl; (focus exact vwV); exact hsV) | refine spC (fun hb => ?_) fun hb => ?_))
theorem goal_wrong (ws : List Wd) (f : Nat) (most d a m : Int) : xGoal ws f most d a true m = (zeroG, a, true, m) := by
 cases f with
 | zero => rfl
 | succ f => rw [xGoal]; simp only [need_wrong]; simp
theorem xgoal {ws : List Wd} (hn : WsOK ws) : ∀ f : Nat, 1 ≤ f → f ≤ 5 → XG ws f
 | 0, h, _ => by omega
 | f + 1, _, h5 => fun most d a m w hi hfd hw => by
  cases w with
  | true => rw [goal_wrong]; exact xg_wrong hn hi most d
  | false =>
   have hf1 : 1 ≤ f := by
    by_cases h : f = 0
    ·have := hw (by omega); cases this
    ·omega
   have ih := xgoal hn f hf1 (by omega)
   have hd : 1 ≤ d ∧ d ≤ 5 := by omega
   have hsub : ∀ k : Int, ∀ a m w, InW ws a m → (4 ≤ d → w = true) → MG ws k (d + 1) a m w (xGoal ws f k (d + 1) a w m) := fun k a m w hi h4 => ih k (d + 1) a m w hi (by omega) (fun h => h4 (by omega))
   have hkp : ∀ k : Int, KP ws (xGoal ws f k (d + 1)) := fun k => kp_goal ws f k (d + 1)
   rw [xGoal]
   dsimp only
   by_cases h0 : xNext ws w_see a false = true
   ·rw [if_pos (need_first h0 0 d m)]
    exact xg_see hn hi most d hd h0 _ rfl
   have h0 : xNext ws w_see a false = false := by simpa using h0
   rw [need_false h0, if_neg (fun h => by cases h)]
   by_cases h1 : xNext ws w_pair a false = true
   ·by_cases hm : 2 ≤ most
    ·rw [if_pos ⟨hm, need_first h1 1 d m⟩]
     exact xg_pair hn (hkp 1) hi most d hd hm h1 (hsub 1) _ rfl
    ·rw [if_neg (fun h => hm h.1), if_neg (fun h => by omega), if_neg (fun h => by omega), if_neg (fun h => by omega), if_neg (fun h => by omega)]
     exact xg_none hn hi most d h0 (fun h => by omega) (fun h => by omega) (fun h => by omega) (fun h => by omega) (fun h => by omega)
   have h1 : xNext ws w_pair a false = false := by simpa using h1
   rw [need_false h1, if_neg (fun h => by cases h.2)]
   by_cases h2 : xNext ws w_every a false = true
   ·by_cases hm : 3 ≤ most
    ·rw [if_pos ⟨hm, need_first h2 1 d m⟩]
     exact xg_every hn (hkp 1) hi most d hd hm h2 (hsub 1) _ rfl
    ·rw [if_neg (fun h => hm h.1), if_neg (fun h => by omega), if_neg (fun h => by omega), if_neg (fun h => by omega)]
     exact xg_none hn hi most d h0 (fun _ => h1) (fun h => by omega) (fun h => by omega) (fun h => by omega) (fun h => by omega)
   have h2 : xNext ws w_every a false = false := by simpa using h2
   rw [need_false h2, if_neg (fun h => by cases h.2)]
   by_cases h3 : xNext ws w_deliver a false = true
   ·by_cases hm : 4 ≤ most
    ·rw [if_pos ⟨hm, need_first h3 1 d m⟩]
     exact xg_del hn (hkp 3) hi most d hd hm h3 (hsub 3) _ rfl
    ·rw [if_neg (fun h => hm h.1), if_neg (fun h => by omega), if_neg (fun h => by omega)]
     exact xg_none hn hi most d h0 (fun _ => h1) (fun _ => h2) (fun h => by omega) (fun h => by omega) (fun h => by omega)
   have h3 : xNext ws w_deliver a false = false := by simpa using h3
   rw [need_false h3, if_neg (fun h => by cases h.2)]
   by_cases h4 : xNext ws w_all a false = true
   ·by_cases hm : 5 ≤ most
    ·rw [if_pos ⟨hm, need_first h4 2 d m⟩]
     exact xg_all hn (hkp 6) hi most d hd hm h4 (hsub 6) _ rfl
    ·rw [if_neg (fun h => hm h.1), if_neg (fun h => by omega)]
     exact xg_none hn hi most d h0 (fun _ => h1) (fun _ => h2) (fun _ => h3) (fun h => by omega) (fun h => by omega)
   have h4 : xNext ws w_all a false = false := by simpa using h4
   rw [need_false h4, if_neg (fun h => by cases h.2)]
   by_cases h5' : xNext ws w_any a false = true
   ·by_cases hm : 6 ≤ most
    ·rw [if_pos ⟨hm, need_first h5' 2 d m⟩]
     exact xg_any hn (hkp 6) hi most d hd hm h5' (hsub 6) _ rfl
    ·rw [if_neg (fun h => hm h.1)]
     exact xg_none hn hi most d h0 (fun _ => h1) (fun _ => h2) (fun _ => h3) (fun _ => h4) (fun h => by omega)
   have h5' : xNext ws w_any a false = false := by simpa using h5'
   rw [need_false h5', if_neg (fun h => by cases h.2)]
   exact xg_none hn hi most d h0 (fun _ => h1) (fun _ => h2) (fun _ => h3) (fun _ => h4) (fun _ => h5')
/-- the reference's words of a text -/
theorem xtokens (s : Wd) (hs : s.length ≤ 1000000) : Meets Tryz.prog Dc 29 [wS s] [] (wsS (tokensW s)) [] := by
 unfold tokensW
 by_cases h0 : s = []
 ·rw [if_pos h0]
  refine meets_of_gx Ax tab_ok Tryz.func29 (c := _) rfl Tryz.call29 100 ?_
  (repeat' ((conv => whnf); first | (exfalso; omega) | (refine end_fn [] (.inr rfl) ?_ ?_ rfl rfl; (focus exact vwV); exact hsV) | refine x0C ?_ | refine spC (fun hb => ?_) fun hb => ?_ | refine nilC (fun hb => ?_) ?_ | refine taC ?_ | refine saC ?_ | exact sdV | refine side_and ?_ ?_ | refine drawX_of mixed ?_))
  all_goals exact absurd h0 (by assumption)
 ·rw [if_neg h0]
  refine meets_of_gx Ax tab_ok Tryz.func29 (c := _) rfl Tryz.call29 200 ?_
  (repeat' ((conv => whnf); first | (exfalso; omega) | (exact absurd (by assumption) h0) | refine x0C ?_ | refine spC (fun hb => ?_) fun hb => ?_ | refine nilC (fun hb => ?_) ?_ | refine taC ?_ | refine saC ?_ | exact sdV | refine side_and ?_ ?_ | refine drawX_of mixed ?_))
  refine loop_upT [none] (fun q : Nat × Nat × List Wd => [(3, .slice 0 0 1 0 q.2.2.length), (4, iS q.2.1), (5, iS q.1)]) (fun q => [(0, .rows U.str q.2.2)]) (fun q => q.1 ≤ s.length ∧ q.2.1 ≤ q.1 ∧ splitW s = q.2.2 ++ splitW (s.drop q.2.1) ∧ (32 : UInt8) ∉ (s.drop q.2.1).take (q.1 - q.2.1) ∧ q.2.2.length ≤ q.1) (fun q => s.length - q.1) (0, 0, []) ⟨Nat.zero_le _, Nat.le_refl _, rfl, by simp, by simp⟩ (by exact bkI) ?_
  rintro ⟨i, b, J⟩ ⟨hi, hb1, hJ, hno, hJl⟩ K hK
  dsimp only at hi hb1 hJ hno hJl hK ⊢
  rcases Nat.lt_or_ge i s.length with hlt | hge
  ·have hdr := drop_getD (d := (0 : UInt8)) hlt
   have hD : s.drop b = (s.drop b).take (i - b) ++ s.getD i 0 :: s.drop (i + 1) := by
    have h1 : (s.drop b).drop (i - b) = s.drop i := by rw [List.drop_drop]; congr 1; omega
    have h2 := List.take_append_drop (i - b) (s.drop b)
    rw [h1, hdr] at h2
    exact h2.symm
   by_cases hc : s.getD i 0 = 32
   ·have hcn : ((s.getD (i : Int).toNat 0).toNat : Int) = 32 := by
     show ((s.getD i 0).toNat : Int) = 32
     rw [hc]; rfl
    have hs1 : splitW (s.drop b) = (s.drop b).take (i - b) :: splitW (s.drop (i + 1)) := by
     rw [hD, hc]
     have := splitW_app ((s.drop b).take (i - b)) (s.drop (i + 1)) hno
     rw [this]
     rw [← hc, ← hD]
    have hT : List.drop (b : Int).toNat (List.take (i : Int).toNat s) = (s.drop b).take (i - b) := by
     show List.drop b (List.take i s) = _
     rw [List.drop_take]
    have hJ2 : splitW s = (List.take J.length J ++ List.take 1 (List.drop 0 [List.drop (b : Int).toNat (List.take (i : Int).toNat s)])) ++ splitW (s.drop (i + 1)) := by
     rw [List.take_length, hT, hJ, hs1, List.append_assoc]; rfl
    have hJ2l : (List.take J.length J ++ List.take 1 (List.drop 0 [List.drop (b : Int).toNat (List.take (i : Int).toNat s)])).length = J.length + 1 := by rw [List.take_length]; simp
    have hno2 : (32 : UInt8) ∉ (s.drop (i + 1)).take (i + 1 - (i + 1)) := by simp
    clear hJ hs1 hT hD
    (repeat' ((conv => whnf); first | (exfalso; omega) | refine hK (i + 1, i + 1, _) [some 2] _ _ ⟨⟨by dsimp only; omega, by dsimp only; omega, hJ2, hno2, by dsimp only; omega⟩⟩ ⟨by dsimp only; omega⟩ (by exact bkW) | refine x0C ?_ | refine spC (fun hb => ?_) fun hb => ?_ | refine nilC (fun hb => ?_) ?_ | refine taC ?_ | refine saC ?_ | exact sdV | refine side_and ?_ ?_ | refine drawX_of mixed ?_))
   ·have hcn : ¬ ((s.getD (i : Int).toNat 0).toNat : Int) = 32 := by
     show ¬ ((s.getD i 0).toNat : Int) = 32
     intro h
     refine hc (UInt8.toNat_inj.1 ?_)
     have : (32 : UInt8).toNat = 32 := rfl
     omega
    have hno2 : (32 : UInt8) ∉ (s.drop b).take (i + 1 - b) := by
     rw [show i + 1 - b = (i - b) + 1 by omega, List.take_add_one]
     have h1 : (s.drop b)[i - b]? = some (s.getD i 0) := by
      rw [List.getElem?_drop, show b + (i - b) = i by omega, List.getElem?_eq_getElem hlt, List.getD_eq_getElem?_getD, List.getElem?_eq_getElem hlt]; rfl
     rw [h1]
     simp only [List.mem_append, not_or]
     exact ⟨hno, by simp; exact fun e => hc e.symm⟩
    clear hD
    (repeat' ((conv => whnf); first | (exfalso; omega) | refine hK (i + 1, b, J) [some 0] _ _ ⟨⟨by dsimp only; omega, by dsimp only; omega, hJ, hno2, by dsimp only; omega⟩⟩ ⟨by dsimp only; omega⟩ (by exact bkW) | refine x0C ?_ | refine spC (fun hb => ?_) fun hb => ?_ | refine nilC (fun hb => ?_) ?_ | refine taC ?_ | refine saC ?_ | exact sdV | refine side_and ?_ ?_ | refine drawX_of mixed ?_))
  ·have hns : (32 : UInt8) ∉ s.drop b := by
    have : (s.drop b).take (i - b) = s.drop b := List.take_of_length_le (by rw [List.length_drop]; omega)
    rw [this] at hno; exact hno
   rw [splitW_self _ hns] at hJ
   have hV : splitW s = List.take J.length J ++ List.take 1 (List.drop 0 [List.drop (b : Int).toNat (List.take (s.length : Int).toNat s)]) := by
    rw [List.take_length, hJ]
    show J ++ [List.drop b s] = J ++ [List.drop b (List.take s.length s)]
    rw [List.take_length]
   rw [hV]
   clear hJ hno hns hV
   (repeat' ((conv => whnf); first | (exfalso; omega) | (refine end_fn [] (.inr rfl) ?_ ?_ rfl rfl; (focus exact vwV); exact hsV) | refine x0C ?_ | refine spC (fun hb => ?_) fun hb => ?_ | refine nilC (fun hb => ?_) ?_ | refine taC ?_ | refine saC ?_ | exact sdV | refine side_and ?_ ?_ | refine drawX_of mixed ?_))
end Go.SX
