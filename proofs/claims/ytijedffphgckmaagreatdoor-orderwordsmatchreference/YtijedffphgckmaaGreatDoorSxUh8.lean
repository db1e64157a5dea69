/-
  Walks: Uh8, Ud4, Ue1, Ug0, Ug1, Ug2, Ug3, Ug4, Or9: what single functions of the program compute.
-/
import Derived.Test.YtijedffphgckmaaGreatDoorSxUh3
import Derived.Test.YtijedffphgckmaaGreatDoorSxUb9
import Derived.Test.YtijedffphgckmaaGreatDoorSxUd3
import Derived.Test.YtijedffphgckmaaGreatDoorSxTa7
import Derived.Test.YtijedffphgckmaaGreatDoorSxOr4
set_option linter.unusedVariables false
set_option linter.unusedSimpArgs false
namespace Go.SX
open Go.Proofs
set_option maxHeartbeats 400000000
set_option maxRecDepth 100000
theorem xparse (s : Wd) (hs : s.length ≤ 1000000) : Meets Tryz.prog Dc 26 [wS s] [] (.tuple [ordA (xParse s).1, iS (xParse s).2.1, iS (xParse s).2.2]) [] := by
 unfold xParse
 by_cases hl : 20000 < s.length
 ·rw [if_pos hl]
  refine meets_of_gx Ax tab_ok Tryz.func26 (c := _) rfl Tryz.call26 100 ?_
  (repeat' ((conv => whnf); first | (exfalso; omega) | (refine end_fn [] (.inr rfl) ?_ ?_ rfl rfl; (focus exact vwV); exact hsV) | refine x0C ?_ | refine spC (fun hb => ?_) fun hb => ?_ | refine nilC (fun hb => ?_) ?_ | refine taC ?_ | refine saC ?_ | exact sdV | refine side_and ?_ ?_ | refine drawX_of mixed ?_))
 rw [if_neg hl]
 have qt := xtokens s hs
 have hn : WsOK (tokensW s) := tokensW_ok (by omega)
 have hi0 : InW (tokensW s) 0 11 := ⟨by omega, by omega, by omega, by omega⟩
 obtain ⟨S, hS⟩ : ∃ S, xOrder (tokensW s) 0 false 11 = S := ⟨_, rfl⟩
 rw [hS]
 generalize tokensW s = ws at *
 obtain ⟨a0, ha0⟩ : ∃ a0 : Int, a0 = 0 := ⟨_, rfl⟩
 obtain ⟨w0, hw0⟩ : ∃ w0 : Bool, w0 = false := ⟨_, rfl⟩
 obtain ⟨m0, hm0⟩ : ∃ m0 : Int, m0 = 11 := ⟨_, rfl⟩
 replace hS : xOrder ws a0 w0 m0 = S := by rw [ha0, hw0, hm0]; exact hS
 replace hi0 : InW ws a0 m0 := by rw [ha0, hm0]; exact hi0
 unfold xOrder at hS
 have q1 := xmust hi0 hn w0 [w_order] (by simp)
 have hi1 := kp_must ws [w_order] a0 w0 m0 hi0
 generalize xMust ws [w_order] a0 w0 m0 = x1 at *
 obtain ⟨v1, a1, w1, m1⟩ := x1
 simp only [xbind_mk] at hS
 dsimp only at q1 hi1
 have q2 := xnumber hi1 hn w1 0 63
 have hi2 := kp_num ws 0 63 a1 w1 m1 hi1
 have b2 := num_lo (ws := ws) (lo := 0) (h := 63) (a := a1) (m := m1) (w := w1) (by omega) (by omega)
 generalize xNum ws 0 63 a1 w1 m1 = x2 at *
 obtain ⟨v2, a2, w2, m2⟩ := x2
 simp only [xbind_mk] at hS
 dsimp only at q2 hi2 b2
 have q3 := xmust hi2 hn w2 [w_by] (by simp)
 have hi3 := kp_must ws [w_by] a2 w2 m2 hi2
 generalize xMust ws [w_by] a2 w2 m2 = x3 at *
 obtain ⟨v3, a3, w3, m3⟩ := x3
 simp only [xbind_mk] at hS
 dsimp only at q3 hi3
 have q4 := xnumber hi3 hn w3 0 15
 have hi4 := kp_num ws 0 15 a3 w3 m3 hi3
 have b4 := num_lo (ws := ws) (lo := 0) (h := 15) (a := a3) (m := m3) (w := w3) (by omega) (by omega)
 generalize xNum ws 0 15 a3 w3 m3 = x4 at *
 obtain ⟨v4, a4, w4, m4⟩ := x4
 simp only [xbind_mk] at hS
 dsimp only at q4 hi4 b4
 have q5 := xmust hi4 hn w4 [w_for] (by simp)
 have hi5 := kp_must ws [w_for] a4 w4 m4 hi4
 generalize xMust ws [w_for] a4 w4 m4 = x5 at *
 obtain ⟨v5, a5, w5, m5⟩ := x5
 simp only [xbind_mk] at hS
 dsimp only at q5 hi5
 have q6 := xnumber hi5 hn w5 0 1000000000
 have hi6 := kp_num ws 0 1000000000 a5 w5 m5 hi5
 have b6 := num_lo (ws := ws) (lo := 0) (h := 1000000000) (a := a5) (m := m5) (w := w5) (by omega) (by omega)
 generalize xNum ws 0 1000000000 a5 w5 m5 = x6 at *
 obtain ⟨v6, a6, w6, m6⟩ := x6
 simp only [xbind_mk] at hS
 dsimp only at q6 hi6 b6
 have q7 := xmust hi6 hn w6 [w_group] (by simp)
 have hi7 := kp_must ws [w_group] a6 w6 m6 hi6
 generalize xMust ws [w_group] a6 w6 m6 = x7 at *
 obtain ⟨v7, a7, w7, m7⟩ := x7
 simp only [xbind_mk] at hS
 dsimp only at q7 hi7
 unfold xGroup at hS
 have q8 := xis hi7 hn w7 w_none
 have hi8 := kp_is ws w_none a7 w7 m7 hi7
 generalize xIs ws w_none a7 w7 m7 = x8 at *
 obtain ⟨v8, a8, w8, m8⟩ := x8
 simp only [xbind_mk] at hS
 dsimp only at q8 hi8
 cases v8 with
 | true =>
  rw [if_pos rfl] at hS
  simp only [xbind_mk] at hS
  unfold xWord at hS
  have q9 := xis hi8 hn w8 w_urgent
  have hi9 := kp_is ws w_urgent a8 w8 m8 hi8
  generalize xIs ws w_urgent a8 w8 m8 = x9 at *
  obtain ⟨v9, a9, w9, m9⟩ := x9
  simp only [xbind_mk] at hS
  dsimp only at q9 hi9
  cases v9 with
  | true =>
   rw [if_pos rfl] at hS
   simp only [xbind_mk] at hS
   have q10 := xmust hi9 hn w9 [w_known] (by simp)
   have hi10 := kp_must ws [w_known] a9 w9 m9 hi9
   generalize xMust ws [w_known] a9 w9 m9 = x10 at *
   obtain ⟨v10, a10, w10, m10⟩ := x10
   simp only [xbind_mk] at hS
   dsimp only at q10 hi10
   have q11 := xnumber hi10 hn w10 0 999999
   have hi11 := kp_num ws 0 999999 a10 w10 m10 hi10
   have b11 := num_lo (ws := ws) (lo := 0) (h := 999999) (a := a10) (m := m10) (w := w10) (by omega) (by omega)
   generalize xNum ws 0 999999 a10 w10 m10 = x11 at *
   obtain ⟨v11, a11, w11, m11⟩ := x11
   simp only [xbind_mk] at hS
   dsimp only at q11 hi11 b11
   have q12 := xmust hi11 hn w11 [w_due] (by simp)
   have hi12 := kp_must ws [w_due] a11 w11 m11 hi11
   generalize xMust ws [w_due] a11 w11 m11 = x12 at *
   obtain ⟨v12, a12, w12, m12⟩ := x12
   simp only [xbind_mk] at hS
   dsimp only at q12 hi12
   have q13 := xnumber hi12 hn w12 (v11 + 1) 1000000
   have hi13 := kp_num ws (v11 + 1) 1000000 a12 w12 m12 hi12
   have b13 := num_lo (ws := ws) (lo := (v11 + 1)) (h := 1000000) (a := a12) (m := m12) (w := w12) (by omega) (by omega)
   generalize xNum ws (v11 + 1) 1000000 a12 w12 m12 = x13 at *
   obtain ⟨v13, a13, w13, m13⟩ := x13
   simp only [xbind_mk] at hS
   dsimp only at q13 hi13 b13
   have q14 := xmust hi13 hn w13 [w_colon] (by simp)
   have hi14 := kp_must ws [w_colon] a13 w13 m13 hi13
   generalize xMust ws [w_colon] a13 w13 m13 = x14 at *
   obtain ⟨v14, a14, w14, m14⟩ := x14
   simp only [xbind_mk] at hS
   dsimp only at q14 hi14
   have q15 := xgoal hn 5 (by omega) (by omega) 6 1 a14 m14 w14 hi14 (by omega) (fun h => by omega)
   have hi15 := kp_goal ws 5 6 1 a14 w14 m14 hi14
   unfold MG at q15
   generalize xGoal ws 5 6 1 a14 w14 m14 = x15 at *
   obtain ⟨v15, a15, w15, m15⟩ := x15
   simp only [xbind_mk] at hS
   dsimp only at q15 hi15
   have q16 := xmust hi15 hn w15 [w_dot] (by simp)
   have hi16 := kp_must ws [w_dot] a15 w15 m15 hi15
   generalize xMust ws [w_dot] a15 w15 m15 = x16 at *
   obtain ⟨v16, a16, w16, m16⟩ := x16
   simp only [xbind_mk] at hS
   dsimp only at q16 hi16
   obtain ⟨SO, sa, sw, sm⟩ := S
   dsimp only
   by_cases hfin : sw = true ∨ sa < ws.length
   ·rw [if_pos hfin]
    dsimp only
    injection hS with e1 e2
    injection e2 with e2 e3
    injection e3 with e3 e4
    subst e2 e3
    subst ha0 hw0 hm0
    by_cases hsw : w16 = true
    ·rw [hsw] at q16
     refine meets_of_gx Ax tab_ok Tryz.func26 (c := _) rfl Tryz.call26 900 ?_
     (repeat' ((conv => whnf); first | (exfalso; omega) | refine cpC (qt) ?_ | refine dpC (qt) ?_ | (refine callh [some 1, some _] q1 rfl rfl ⟨rfl, rfl, trivial⟩ ?_) | (refine callh [some 1] q2 rfl rfl ⟨rfl, trivial⟩ ?_) | (refine callh [some 1, some _] q3 rfl rfl ⟨rfl, rfl, trivial⟩ ?_) | (refine callh [some 1] q4 rfl rfl ⟨rfl, trivial⟩ ?_) | (refine callh [some 1, some _] q5 rfl rfl ⟨rfl, rfl, trivial⟩ ?_) | (refine callh [some 1] q6 rfl rfl ⟨rfl, trivial⟩ ?_) | (refine callh [some 1, some _] q7 rfl rfl ⟨rfl, rfl, trivial⟩ ?_) | (refine callh [some 1] q8 rfl rfl ⟨rfl, trivial⟩ ?_) | (refine callh [some 1] q9 rfl rfl ⟨rfl, trivial⟩ ?_) | (refine callh [some 1, some _] q10 rfl rfl ⟨rfl, rfl, trivial⟩ ?_) | (refine callh [some 1] q11 rfl rfl ⟨rfl, trivial⟩ ?_) | (refine callh [some 1, some _] q12 rfl rfl ⟨rfl, rfl, trivial⟩ ?_) | (refine callh [some 1] q13 rfl rfl ⟨rfl, trivial⟩ ?_) | (refine callh [some 1, some _] q14 rfl rfl ⟨rfl, rfl, trivial⟩ ?_) | (refine callh [some 1] q15 rfl rfl ⟨rfl, trivial⟩ ?_) | (refine callh [some 1, some _] q16 rfl rfl ⟨rfl, rfl, trivial⟩ ?_) | (refine end_fn [] (.inr rfl) ?_ ?_ rfl rfl; (focus exact vwV); exact hsV) | refine x0C ?_ | refine spC (fun hb => ?_) fun hb => ?_ | refine nilC (fun hb => ?_) ?_ | refine taC ?_ | refine saC ?_ | exact sdV | refine side_and ?_ ?_ | refine drawX_of mixed ?_))
    ·have hsw : w16 = false := by simpa using hsw
     rw [hsw] at q16
     have hlt : a16 < ws.length := by rcases hfin with h | h; rw [hsw] at h; cases h; exact h
     refine meets_of_gx Ax tab_ok Tryz.func26 (c := _) rfl Tryz.call26 900 ?_
     (repeat' ((conv => whnf); first | (exfalso; omega) | refine cpC (qt) ?_ | refine dpC (qt) ?_ | (refine callh [some 1, some _] q1 rfl rfl ⟨rfl, rfl, trivial⟩ ?_) | (refine callh [some 1] q2 rfl rfl ⟨rfl, trivial⟩ ?_) | (refine callh [some 1, some _] q3 rfl rfl ⟨rfl, rfl, trivial⟩ ?_) | (refine callh [some 1] q4 rfl rfl ⟨rfl, trivial⟩ ?_) | (refine callh [some 1, some _] q5 rfl rfl ⟨rfl, rfl, trivial⟩ ?_) | (refine callh [some 1] q6 rfl rfl ⟨rfl, trivial⟩ ?_) | (refine callh [some 1, some _] q7 rfl rfl ⟨rfl, rfl, trivial⟩ ?_) | (refine callh [some 1] q8 rfl rfl ⟨rfl, trivial⟩ ?_) | (refine callh [some 1] q9 rfl rfl ⟨rfl, trivial⟩ ?_) | (refine callh [some 1, some _] q10 rfl rfl ⟨rfl, rfl, trivial⟩ ?_) | (refine callh [some 1] q11 rfl rfl ⟨rfl, trivial⟩ ?_) | (refine callh [some 1, some _] q12 rfl rfl ⟨rfl, rfl, trivial⟩ ?_) | (refine callh [some 1] q13 rfl rfl ⟨rfl, trivial⟩ ?_) | (refine callh [some 1, some _] q14 rfl rfl ⟨rfl, rfl, trivial⟩ ?_) | (refine callh [some 1] q15 rfl rfl ⟨rfl, trivial⟩ ?_) | (refine callh [some 1, some _] q16 rfl rfl ⟨rfl, rfl, trivial⟩ ?_) | (refine end_fn [] (.inr rfl) ?_ ?_ rfl rfl; (focus exact vwV); exact hsV) | refine x0C ?_ | refine spC (fun hb => ?_) fun hb => ?_ | refine nilC (fun hb => ?_) ?_ | refine taC ?_ | refine saC ?_ | exact sdV | refine side_and ?_ ?_ | refine drawX_of mixed ?_))
   ·rw [if_neg hfin]
    dsimp only
    simp only [not_or] at hfin
    rw [← etaX_eq v15] at hS
    injection hS with e1 e2
    injection e2 with e2 e3
    injection e3 with e3 e4
    subst e1 e2 e3
    subst ha0 hw0 hm0
    have hsw : w16 = false := by simpa using hfin.1
    have hge := hfin.2
    rw [hsw] at q16
    refine meets_of_gx Ax tab_ok Tryz.func26 (c := _) rfl Tryz.call26 900 ?_
    (repeat' ((conv => whnf); first | (exfalso; omega) | refine cpC (qt) ?_ | refine dpC (qt) ?_ | (refine callh [some 1, some _] q1 rfl rfl ⟨rfl, rfl, trivial⟩ ?_) | (refine callh [some 1] q2 rfl rfl ⟨rfl, trivial⟩ ?_) | (refine callh [some 1, some _] q3 rfl rfl ⟨rfl, rfl, trivial⟩ ?_) | (refine callh [some 1] q4 rfl rfl ⟨rfl, trivial⟩ ?_) | (refine callh [some 1, some _] q5 rfl rfl ⟨rfl, rfl, trivial⟩ ?_) | (refine callh [some 1] q6 rfl rfl ⟨rfl, trivial⟩ ?_) | (refine callh [some 1, some _] q7 rfl rfl ⟨rfl, rfl, trivial⟩ ?_) | (refine callh [some 1] q8 rfl rfl ⟨rfl, trivial⟩ ?_) | (refine callh [some 1] q9 rfl rfl ⟨rfl, trivial⟩ ?_) | (refine callh [some 1, some _] q10 rfl rfl ⟨rfl, rfl, trivial⟩ ?_) | (refine callh [some 1] q11 rfl rfl ⟨rfl, trivial⟩ ?_) | (refine callh [some 1, some _] q12 rfl rfl ⟨rfl, rfl, trivial⟩ ?_) | (refine callh [some 1] q13 rfl rfl ⟨rfl, trivial⟩ ?_) | (refine callh [some 1, some _] q14 rfl rfl ⟨rfl, rfl, trivial⟩ ?_) | (refine callh [some 1] q15 rfl rfl ⟨rfl, trivial⟩ ?_) | (refine callh [some 1, some _] q16 rfl rfl ⟨rfl, rfl, trivial⟩ ?_) | (refine end_fn [] (.inr rfl) ?_ ?_ rfl rfl; (focus exact vwV); exact hsV) | refine x0C ?_ | refine spC (fun hb => ?_) fun hb => ?_ | refine nilC (fun hb => ?_) ?_ | refine taC ?_ | refine saC ?_ | exact sdV | refine side_and ?_ ?_ | refine drawX_of mixed ?_))
  | false =>
   rw [if_neg (by decide)] at hS
   have q10 := xmust hi9 hn w9 [w_plain] (by simp)
   have hi10 := kp_must ws [w_plain] a9 w9 m9 hi9
   generalize xMust ws [w_plain] a9 w9 m9 = x10 at *
   obtain ⟨v10, a10, w10, m10⟩ := x10
   simp only [xbind_mk] at hS
   dsimp only at q10 hi10
   have q11 := xmust hi10 hn w10 [w_known] (by simp)
   have hi11 := kp_must ws [w_known] a10 w10 m10 hi10
   generalize xMust ws [w_known] a10 w10 m10 = x11 at *
   obtain ⟨v11, a11, w11, m11⟩ := x11
   simp only [xbind_mk] at hS
   dsimp only at q11 hi11
   have q12 := xnumber hi11 hn w11 0 999999
   have hi12 := kp_num ws 0 999999 a11 w11 m11 hi11
   have b12 := num_lo (ws := ws) (lo := 0) (h := 999999) (a := a11) (m := m11) (w := w11) (by omega) (by omega)
   generalize xNum ws 0 999999 a11 w11 m11 = x12 at *
   obtain ⟨v12, a12, w12, m12⟩ := x12
   simp only [xbind_mk] at hS
   dsimp only at q12 hi12 b12
   have q13 := xmust hi12 hn w12 [w_due] (by simp)
   have hi13 := kp_must ws [w_due] a12 w12 m12 hi12
   generalize xMust ws [w_due] a12 w12 m12 = x13 at *
   obtain ⟨v13, a13, w13, m13⟩ := x13
   simp only [xbind_mk] at hS
   dsimp only at q13 hi13
   have q14 := xnumber hi13 hn w13 (v12 + 1) 1000000
   have hi14 := kp_num ws (v12 + 1) 1000000 a13 w13 m13 hi13
   have b14 := num_lo (ws := ws) (lo := (v12 + 1)) (h := 1000000) (a := a13) (m := m13) (w := w13) (by omega) (by omega)
   generalize xNum ws (v12 + 1) 1000000 a13 w13 m13 = x14 at *
   obtain ⟨v14, a14, w14, m14⟩ := x14
   simp only [xbind_mk] at hS
   dsimp only at q14 hi14 b14
   have q15 := xmust hi14 hn w14 [w_colon] (by simp)
   have hi15 := kp_must ws [w_colon] a14 w14 m14 hi14
   generalize xMust ws [w_colon] a14 w14 m14 = x15 at *
   obtain ⟨v15, a15, w15, m15⟩ := x15
   simp only [xbind_mk] at hS
   dsimp only at q15 hi15
   have q16 := xgoal hn 5 (by omega) (by omega) 6 1 a15 m15 w15 hi15 (by omega) (fun h => by omega)
   have hi16 := kp_goal ws 5 6 1 a15 w15 m15 hi15
   unfold MG at q16
   generalize xGoal ws 5 6 1 a15 w15 m15 = x16 at *
   obtain ⟨v16, a16, w16, m16⟩ := x16
   simp only [xbind_mk] at hS
   dsimp only at q16 hi16
   have q17 := xmust hi16 hn w16 [w_dot] (by simp)
   have hi17 := kp_must ws [w_dot] a16 w16 m16 hi16
   generalize xMust ws [w_dot] a16 w16 m16 = x17 at *
   obtain ⟨v17, a17, w17, m17⟩ := x17
   simp only [xbind_mk] at hS
   dsimp only at q17 hi17
   obtain ⟨SO, sa, sw, sm⟩ := S
   dsimp only
   by_cases hfin : sw = true ∨ sa < ws.length
   ·rw [if_pos hfin]
    dsimp only
    injection hS with e1 e2
    injection e2 with e2 e3
    injection e3 with e3 e4
    subst e2 e3
    subst ha0 hw0 hm0
    by_cases hsw : w17 = true
    ·rw [hsw] at q17
     refine meets_of_gx Ax tab_ok Tryz.func26 (c := _) rfl Tryz.call26 900 ?_
     (repeat' ((conv => whnf); first | (exfalso; omega) | refine cpC (qt) ?_ | refine dpC (qt) ?_ | (refine callh [some 1, some _] q1 rfl rfl ⟨rfl, rfl, trivial⟩ ?_) | (refine callh [some 1] q2 rfl rfl ⟨rfl, trivial⟩ ?_) | (refine callh [some 1, some _] q3 rfl rfl ⟨rfl, rfl, trivial⟩ ?_) | (refine callh [some 1] q4 rfl rfl ⟨rfl, trivial⟩ ?_) | (refine callh [some 1, some _] q5 rfl rfl ⟨rfl, rfl, trivial⟩ ?_) | (refine callh [some 1] q6 rfl rfl ⟨rfl, trivial⟩ ?_) | (refine callh [some 1, some _] q7 rfl rfl ⟨rfl, rfl, trivial⟩ ?_) | (refine callh [some 1] q8 rfl rfl ⟨rfl, trivial⟩ ?_) | (refine callh [some 1] q9 rfl rfl ⟨rfl, trivial⟩ ?_) | (refine callh [some 1, some _] q10 rfl rfl ⟨rfl, rfl, trivial⟩ ?_) | (refine callh [some 1, some _] q11 rfl rfl ⟨rfl, rfl, trivial⟩ ?_) | (refine callh [some 1] q12 rfl rfl ⟨rfl, trivial⟩ ?_) | (refine callh [some 1, some _] q13 rfl rfl ⟨rfl, rfl, trivial⟩ ?_) | (refine callh [some 1] q14 rfl rfl ⟨rfl, trivial⟩ ?_) | (refine callh [some 1, some _] q15 rfl rfl ⟨rfl, rfl, trivial⟩ ?_) | (refine callh [some 1] q16 rfl rfl ⟨rfl, trivial⟩ ?_) | (refine callh [some 1, some _] q17 rfl rfl ⟨rfl, rfl, trivial⟩ ?_) | (refine end_fn [] (.inr rfl) ?_ ?_ rfl rfl; (focus exact vwV); exact hsV) | refine x0C ?_ | refine spC (fun hb => ?_) fun hb => ?_ | refine nilC (fun hb => ?_) ?_ | refine taC ?_ | refine saC ?_ | exact sdV | refine side_and ?_ ?_ | refine drawX_of mixed ?_))
    ·have hsw : w17 = false := by simpa using hsw
     rw [hsw] at q17
     have hlt : a17 < ws.length := by rcases hfin with h | h; rw [hsw] at h; cases h; exact h
     refine meets_of_gx Ax tab_ok Tryz.func26 (c := _) rfl Tryz.call26 900 ?_
     (repeat' ((conv => whnf); first | (exfalso; omega) | refine cpC (qt) ?_ | refine dpC (qt) ?_ | (refine callh [some 1, some _] q1 rfl rfl ⟨rfl, rfl, trivial⟩ ?_) | (refine callh [some 1] q2 rfl rfl ⟨rfl, trivial⟩ ?_) | (refine callh [some 1, some _] q3 rfl rfl ⟨rfl, rfl, trivial⟩ ?_) | (refine callh [some 1] q4 rfl rfl ⟨rfl, trivial⟩ ?_) | (refine callh [some 1, some _] q5 rfl rfl ⟨rfl, rfl, trivial⟩ ?_) | (refine callh [some 1] q6 rfl rfl ⟨rfl, trivial⟩ ?_) | (refine callh [some 1, some _] q7 rfl rfl ⟨rfl, rfl, trivial⟩ ?_) | (refine callh [some 1] q8 rfl rfl ⟨rfl, trivial⟩ ?_) | (refine callh [some 1] q9 rfl rfl ⟨rfl, trivial⟩ ?_) | (refine callh [some 1, some _] q10 rfl rfl ⟨rfl, rfl, trivial⟩ ?_) | (refine callh [some 1, some _] q11 rfl rfl ⟨rfl, rfl, trivial⟩ ?_) | (refine callh [some 1] q12 rfl rfl ⟨rfl, trivial⟩ ?_) | (refine callh [some 1, some _] q13 rfl rfl ⟨rfl, rfl, trivial⟩ ?_) | (refine callh [some 1] q14 rfl rfl ⟨rfl, trivial⟩ ?_) | (refine callh [some 1, some _] q15 rfl rfl ⟨rfl, rfl, trivial⟩ ?_) | (refine callh [some 1] q16 rfl rfl ⟨rfl, trivial⟩ ?_) | (refine callh [some 1, some _] q17 rfl rfl ⟨rfl, rfl, trivial⟩ ?_) | (refine end_fn [] (.inr rfl) ?_ ?_ rfl rfl; (focus exact vwV); exact hsV) | refine x0C ?_ | refine spC (fun hb => ?_) fun hb => ?_ | refine nilC (fun hb => ?_) ?_ | refine taC ?_ | refine saC ?_ | exact sdV | refine side_and ?_ ?_ | refine drawX_of mixed ?_))
   ·rw [if_neg hfin]
    dsimp only
    simp only [not_or] at hfin
    rw [← etaX_eq v16] at hS
    injection hS with e1 e2
    injection e2 with e2 e3
    injection e3 with e3 e4
    subst e1 e2 e3
    subst ha0 hw0 hm0
    have hsw : w17 = false := by simpa using hfin.1
    have hge := hfin.2
    rw [hsw] at q17
    refine meets_of_gx Ax tab_ok Tryz.func26 (c := _) rfl Tryz.call26 900 ?_
    (repeat' ((conv => whnf); first | (exfalso; omega) | refine cpC (qt) ?_ | refine dpC (qt) ?_ | (refine callh [some 1, some _] q1 rfl rfl ⟨rfl, rfl, trivial⟩ ?_) | (refine callh [some 1] q2 rfl rfl ⟨rfl, trivial⟩ ?_) | (refine callh [some 1, some _] q3 rfl rfl ⟨rfl, rfl, trivial⟩ ?_) | (refine callh [some 1] q4 rfl rfl ⟨rfl, trivial⟩ ?_) | (refine callh [some 1, some _] q5 rfl rfl ⟨rfl, rfl, trivial⟩ ?_) | (refine callh [some 1] q6 rfl rfl ⟨rfl, trivial⟩ ?_) | (refine callh [some 1, some _] q7 rfl rfl ⟨rfl, rfl, trivial⟩ ?_) | (refine callh [some 1] q8 rfl rfl ⟨rfl, trivial⟩ ?_) | (refine callh [some 1] q9 rfl rfl ⟨rfl, trivial⟩ ?_) | (refine callh [some 1, some _] q10 rfl rfl ⟨rfl, rfl, trivial⟩ ?_) | (refine callh [some 1, some _] q11 rfl rfl ⟨rfl, rfl, trivial⟩ ?_) | (refine callh [some 1] q12 rfl rfl ⟨rfl, trivial⟩ ?_) | (refine callh [some 1, some _] q13 rfl rfl ⟨rfl, rfl, trivial⟩ ?_) | (refine callh [some 1] q14 rfl rfl ⟨rfl, trivial⟩ ?_) | (refine callh [some 1, some _] q15 rfl rfl ⟨rfl, rfl, trivial⟩ ?_) | (refine callh [some 1] q16 rfl rfl ⟨rfl, trivial⟩ ?_) | (refine callh [some 1, some _] q17 rfl rfl ⟨rfl, rfl, trivial⟩ ?_) | (refine end_fn [] (.inr rfl) ?_ ?_ rfl rfl; (focus exact vwV); exact hsV) | refine x0C ?_ | refine spC (fun hb => ?_) fun hb => ?_ | refine nilC (fun hb => ?_) ?_ | refine taC ?_ | refine saC ?_ | exact sdV | refine side_and ?_ ?_ | refine drawX_of mixed ?_))
 | false =>
  rw [if_neg (by decide)] at hS
  have q9 := xnumber hi8 hn w8 0 15
  have hi9 := kp_num ws 0 15 a8 w8 m8 hi8
  have b9 := num_lo (ws := ws) (lo := 0) (h := 15) (a := a8) (m := m8) (w := w8) (by omega) (by omega)
  generalize xNum ws 0 15 a8 w8 m8 = x9 at *
  obtain ⟨v9, a9, w9, m9⟩ := x9
  simp only [xbind_mk] at hS
  dsimp only at q9 hi9 b9
  unfold xWord at hS
  have q10 := xis hi9 hn w9 w_urgent
  have hi10 := kp_is ws w_urgent a9 w9 m9 hi9
  generalize xIs ws w_urgent a9 w9 m9 = x10 at *
  obtain ⟨v10, a10, w10, m10⟩ := x10
  simp only [xbind_mk] at hS
  dsimp only at q10 hi10
  cases v10 with
  | true =>
   rw [if_pos rfl] at hS
   simp only [xbind_mk] at hS
   have q11 := xmust hi10 hn w10 [w_known] (by simp)
   have hi11 := kp_must ws [w_known] a10 w10 m10 hi10
   generalize xMust ws [w_known] a10 w10 m10 = x11 at *
   obtain ⟨v11, a11, w11, m11⟩ := x11
   simp only [xbind_mk] at hS
   dsimp only at q11 hi11
   have q12 := xnumber hi11 hn w11 0 999999
   have hi12 := kp_num ws 0 999999 a11 w11 m11 hi11
   have b12 := num_lo (ws := ws) (lo := 0) (h := 999999) (a := a11) (m := m11) (w := w11) (by omega) (by omega)
   generalize xNum ws 0 999999 a11 w11 m11 = x12 at *
   obtain ⟨v12, a12, w12, m12⟩ := x12
   simp only [xbind_mk] at hS
   dsimp only at q12 hi12 b12
   have q13 := xmust hi12 hn w12 [w_due] (by simp)
   have hi13 := kp_must ws [w_due] a12 w12 m12 hi12
   generalize xMust ws [w_due] a12 w12 m12 = x13 at *
   obtain ⟨v13, a13, w13, m13⟩ := x13
   simp only [xbind_mk] at hS
   dsimp only at q13 hi13
   have q14 := xnumber hi13 hn w13 (v12 + 1) 1000000
   have hi14 := kp_num ws (v12 + 1) 1000000 a13 w13 m13 hi13
   have b14 := num_lo (ws := ws) (lo := (v12 + 1)) (h := 1000000) (a := a13) (m := m13) (w := w13) (by omega) (by omega)
   generalize xNum ws (v12 + 1) 1000000 a13 w13 m13 = x14 at *
   obtain ⟨v14, a14, w14, m14⟩ := x14
   simp only [xbind_mk] at hS
   dsimp only at q14 hi14 b14
   have q15 := xmust hi14 hn w14 [w_colon] (by simp)
   have hi15 := kp_must ws [w_colon] a14 w14 m14 hi14
   generalize xMust ws [w_colon] a14 w14 m14 = x15 at *
   obtain ⟨v15, a15, w15, m15⟩ := x15
   simp only [xbind_mk] at hS
   dsimp only at q15 hi15
   have q16 := xgoal hn 5 (by omega) (by omega) 6 1 a15 m15 w15 hi15 (by omega) (fun h => by omega)
   have hi16 := kp_goal ws 5 6 1 a15 w15 m15 hi15
   unfold MG at q16
   generalize xGoal ws 5 6 1 a15 w15 m15 = x16 at *
   obtain ⟨v16, a16, w16, m16⟩ := x16
   simp only [xbind_mk] at hS
   dsimp only at q16 hi16
   have q17 := xmust hi16 hn w16 [w_dot] (by simp)
   have hi17 := kp_must ws [w_dot] a16 w16 m16 hi16
   generalize xMust ws [w_dot] a16 w16 m16 = x17 at *
   obtain ⟨v17, a17, w17, m17⟩ := x17
   simp only [xbind_mk] at hS
   dsimp only at q17 hi17
   obtain ⟨SO, sa, sw, sm⟩ := S
   dsimp only
   by_cases hfin : sw = true ∨ sa < ws.length
   ·rw [if_pos hfin]
    dsimp only
    injection hS with e1 e2
    injection e2 with e2 e3
    injection e3 with e3 e4
    subst e2 e3
    subst ha0 hw0 hm0
    by_cases hsw : w17 = true
    ·rw [hsw] at q17
     refine meets_of_gx Ax tab_ok Tryz.func26 (c := _) rfl Tryz.call26 900 ?_
     (repeat' ((conv => whnf); first | (exfalso; omega) | refine cpC (qt) ?_ | refine dpC (qt) ?_ | (refine callh [some 1, some _] q1 rfl rfl ⟨rfl, rfl, trivial⟩ ?_) | (refine callh [some 1] q2 rfl rfl ⟨rfl, trivial⟩ ?_) | (refine callh [some 1, some _] q3 rfl rfl ⟨rfl, rfl, trivial⟩ ?_) | (refine callh [some 1] q4 rfl rfl ⟨rfl, trivial⟩ ?_) | (refine callh [some 1, some _] q5 rfl rfl ⟨rfl, rfl, trivial⟩ ?_) | (refine callh [some 1] q6 rfl rfl ⟨rfl, trivial⟩ ?_) | (refine callh [some 1, some _] q7 rfl rfl ⟨rfl, rfl, trivial⟩ ?_) | (refine callh [some 1] q8 rfl rfl ⟨rfl, trivial⟩ ?_) | (refine callh [some 1] q9 rfl rfl ⟨rfl, trivial⟩ ?_) | (refine callh [some 1] q10 rfl rfl ⟨rfl, trivial⟩ ?_) | (refine callh [some 1, some _] q11 rfl rfl ⟨rfl, rfl, trivial⟩ ?_) | (refine callh [some 1] q12 rfl rfl ⟨rfl, trivial⟩ ?_) | (refine callh [some 1, some _] q13 rfl rfl ⟨rfl, rfl, trivial⟩ ?_) | (refine callh [some 1] q14 rfl rfl ⟨rfl, trivial⟩ ?_) | (refine callh [some 1, some _] q15 rfl rfl ⟨rfl, rfl, trivial⟩ ?_) | (refine callh [some 1] q16 rfl rfl ⟨rfl, trivial⟩ ?_) | (refine callh [some 1, some _] q17 rfl rfl ⟨rfl, rfl, trivial⟩ ?_) | (refine end_fn [] (.inr rfl) ?_ ?_ rfl rfl; (focus exact vwV); exact hsV) | refine x0C ?_ | refine spC (fun hb => ?_) fun hb => ?_ | refine nilC (fun hb => ?_) ?_ | refine taC ?_ | refine saC ?_ | exact sdV | refine side_and ?_ ?_ | refine drawX_of mixed ?_))
    ·have hsw : w17 = false := by simpa using hsw
     rw [hsw] at q17
     have hlt : a17 < ws.length := by rcases hfin with h | h; rw [hsw] at h; cases h; exact h
     refine meets_of_gx Ax tab_ok Tryz.func26 (c := _) rfl Tryz.call26 900 ?_
     (repeat' ((conv => whnf); first | (exfalso; omega) | refine cpC (qt) ?_ | refine dpC (qt) ?_ | (refine callh [some 1, some _] q1 rfl rfl ⟨rfl, rfl, trivial⟩ ?_) | (refine callh [some 1] q2 rfl rfl ⟨rfl, trivial⟩ ?_) | (refine callh [some 1, some _] q3 rfl rfl ⟨rfl, rfl, trivial⟩ ?_) | (refine callh [some 1] q4 rfl rfl ⟨rfl, trivial⟩ ?_) | (refine callh [some 1, some _] q5 rfl rfl ⟨rfl, rfl, trivial⟩ ?_) | (refine callh [some 1] q6 rfl rfl ⟨rfl, trivial⟩ ?_) | (refine callh [some 1, some _] q7 rfl rfl ⟨rfl, rfl, trivial⟩ ?_) | (refine callh [some 1] q8 rfl rfl ⟨rfl, trivial⟩ ?_) | (refine callh [some 1] q9 rfl rfl ⟨rfl, trivial⟩ ?_) | (refine callh [some 1] q10 rfl rfl ⟨rfl, trivial⟩ ?_) | (refine callh [some 1, some _] q11 rfl rfl ⟨rfl, rfl, trivial⟩ ?_) | (refine callh [some 1] q12 rfl rfl ⟨rfl, trivial⟩ ?_) | (refine callh [some 1, some _] q13 rfl rfl ⟨rfl, rfl, trivial⟩ ?_) | (refine callh [some 1] q14 rfl rfl ⟨rfl, trivial⟩ ?_) | (refine callh [some 1, some _] q15 rfl rfl ⟨rfl, rfl, trivial⟩ ?_) | (refine callh [some 1] q16 rfl rfl ⟨rfl, trivial⟩ ?_) | (refine callh [some 1, some _] q17 rfl rfl ⟨rfl, rfl, trivial⟩ ?_) | (refine end_fn [] (.inr rfl) ?_ ?_ rfl rfl; (focus exact vwV); exact hsV) | refine x0C ?_ | refine spC (fun hb => ?_) fun hb => ?_ | refine nilC (fun hb => ?_) ?_ | refine taC ?_ | refine saC ?_ | exact sdV | refine side_and ?_ ?_ | refine drawX_of mixed ?_))
   ·rw [if_neg hfin]
    dsimp only
    simp only [not_or] at hfin
    rw [← etaX_eq v16] at hS
    injection hS with e1 e2
    injection e2 with e2 e3
    injection e3 with e3 e4
    subst e1 e2 e3
    subst ha0 hw0 hm0
    have hsw : w17 = false := by simpa using hfin.1
    have hge := hfin.2
    rw [hsw] at q17
    refine meets_of_gx Ax tab_ok Tryz.func26 (c := _) rfl Tryz.call26 900 ?_
    (repeat' ((conv => whnf); first | (exfalso; omega) | refine cpC (qt) ?_ | refine dpC (qt) ?_ | (refine callh [some 1, some _] q1 rfl rfl ⟨rfl, rfl, trivial⟩ ?_) | (refine callh [some 1] q2 rfl rfl ⟨rfl, trivial⟩ ?_) | (refine callh [some 1, some _] q3 rfl rfl ⟨rfl, rfl, trivial⟩ ?_) | (refine callh [some 1] q4 rfl rfl ⟨rfl, trivial⟩ ?_) | (refine callh [some 1, some _] q5 rfl rfl ⟨rfl, rfl, trivial⟩ ?_) | (refine callh [some 1] q6 rfl rfl ⟨rfl, trivial⟩ ?_) | (refine callh [some 1, some _] q7 rfl rfl ⟨rfl, rfl, trivial⟩ ?_) | (refine callh [some 1] q8 rfl rfl ⟨rfl, trivial⟩ ?_) | (refine callh [some 1] q9 rfl rfl ⟨rfl, trivial⟩ ?_) | (refine callh [some 1] q10 rfl rfl ⟨rfl, trivial⟩ ?_) | (refine callh [some 1, some _] q11 rfl rfl ⟨rfl, rfl, trivial⟩ ?_) | (refine callh [some 1] q12 rfl rfl ⟨rfl, trivial⟩ ?_) | (refine callh [some 1, some _] q13 rfl rfl ⟨rfl, rfl, trivial⟩ ?_) | (refine callh [some 1] q14 rfl rfl ⟨rfl, trivial⟩ ?_) | (refine callh [some 1, some _] q15 rfl rfl ⟨rfl, rfl, trivial⟩ ?_) | (refine callh [some 1] q16 rfl rfl ⟨rfl, trivial⟩ ?_) | (refine callh [some 1, some _] q17 rfl rfl ⟨rfl, rfl, trivial⟩ ?_) | (refine end_fn [] (.inr rfl) ?_ ?_ rfl rfl; (focus exact vwV); exact hsV) | refine x0C ?_ | refine spC (fun hb => ?_) fun hb => ?_ | refine nilC (fun hb => ?_) ?_ | refine taC ?_ | refine saC ?_ | exact sdV | refine side_and ?_ ?_ | refine drawX_of mixed ?_))
  | false =>
   rw [if_neg (by decide)] at hS
   have q11 := xmust hi10 hn w10 [w_plain] (by simp)
   have hi11 := kp_must ws [w_plain] a10 w10 m10 hi10
   generalize xMust ws [w_plain] a10 w10 m10 = x11 at *
   obtain ⟨v11, a11, w11, m11⟩ := x11
   simp only [xbind_mk] at hS
   dsimp only at q11 hi11
   have q12 := xmust hi11 hn w11 [w_known] (by simp)
   have hi12 := kp_must ws [w_known] a11 w11 m11 hi11
   generalize xMust ws [w_known] a11 w11 m11 = x12 at *
   obtain ⟨v12, a12, w12, m12⟩ := x12
   simp only [xbind_mk] at hS
   dsimp only at q12 hi12
   have q13 := xnumber hi12 hn w12 0 999999
   have hi13 := kp_num ws 0 999999 a12 w12 m12 hi12
   have b13 := num_lo (ws := ws) (lo := 0) (h := 999999) (a := a12) (m := m12) (w := w12) (by omega) (by omega)
   generalize xNum ws 0 999999 a12 w12 m12 = x13 at *
   obtain ⟨v13, a13, w13, m13⟩ := x13
   simp only [xbind_mk] at hS
   dsimp only at q13 hi13 b13
   have q14 := xmust hi13 hn w13 [w_due] (by simp)
   have hi14 := kp_must ws [w_due] a13 w13 m13 hi13
   generalize xMust ws [w_due] a13 w13 m13 = x14 at *
   obtain ⟨v14, a14, w14, m14⟩ := x14
   simp only [xbind_mk] at hS
   dsimp only at q14 hi14
   have q15 := xnumber hi14 hn w14 (v13 + 1) 1000000
   have hi15 := kp_num ws (v13 + 1) 1000000 a14 w14 m14 hi14
   have b15 := num_lo (ws := ws) (lo := (v13 + 1)) (h := 1000000) (a := a14) (m := m14) (w := w14) (by omega) (by omega)
   generalize xNum ws (v13 + 1) 1000000 a14 w14 m14 = x15 at *
   obtain ⟨v15, a15, w15, m15⟩ := x15
   simp only [xbind_mk] at hS
   dsimp only at q15 hi15 b15
   have q16 := xmust hi15 hn w15 [w_colon] (by simp)
   have hi16 := kp_must ws [w_colon] a15 w15 m15 hi15
   generalize xMust ws [w_colon] a15 w15 m15 = x16 at *
   obtain ⟨v16, a16, w16, m16⟩ := x16
   simp only [xbind_mk] at hS
   dsimp only at q16 hi16
   have q17 := xgoal hn 5 (by omega) (by omega) 6 1 a16 m16 w16 hi16 (by omega) (fun h => by omega)
   have hi17 := kp_goal ws 5 6 1 a16 w16 m16 hi16
   unfold MG at q17
   generalize xGoal ws 5 6 1 a16 w16 m16 = x17 at *
   obtain ⟨v17, a17, w17, m17⟩ := x17
   simp only [xbind_mk] at hS
   dsimp only at q17 hi17
   have q18 := xmust hi17 hn w17 [w_dot] (by simp)
   have hi18 := kp_must ws [w_dot] a17 w17 m17 hi17
   generalize xMust ws [w_dot] a17 w17 m17 = x18 at *
   obtain ⟨v18, a18, w18, m18⟩ := x18
   simp only [xbind_mk] at hS
   dsimp only at q18 hi18
   obtain ⟨SO, sa, sw, sm⟩ := S
   dsimp only
   by_cases hfin : sw = true ∨ sa < ws.length
   ·rw [if_pos hfin]
    dsimp only
    injection hS with e1 e2
    injection e2 with e2 e3
    injection e3 with e3 e4
    subst e2 e3
    subst ha0 hw0 hm0
    by_cases hsw : w18 = true
    ·rw [hsw] at q18
     refine meets_of_gx Ax tab_ok Tryz.func26 (c := _) rfl Tryz.call26 900 ?_
     (repeat' ((conv => whnf); first | (exfalso; omega) | refine cpC (qt) ?_ | refine dpC (qt) ?_ | (refine callh [some 1, some _] q1 rfl rfl ⟨rfl, rfl, trivial⟩ ?_) | (refine callh [some 1] q2 rfl rfl ⟨rfl, trivial⟩ ?_) | (refine callh [some 1, some _] q3 rfl rfl ⟨rfl, rfl, trivial⟩ ?_) | (refine callh [some 1] q4 rfl rfl ⟨rfl, trivial⟩ ?_) | (refine callh [some 1, some _] q5 rfl rfl ⟨rfl, rfl, trivial⟩ ?_) | (refine callh [some 1] q6 rfl rfl ⟨rfl, trivial⟩ ?_) | (refine callh [some 1, some _] q7 rfl rfl ⟨rfl, rfl, trivial⟩ ?_) | (refine callh [some 1] q8 rfl rfl ⟨rfl, trivial⟩ ?_) | (refine callh [some 1] q9 rfl rfl ⟨rfl, trivial⟩ ?_) | (refine callh [some 1] q10 rfl rfl ⟨rfl, trivial⟩ ?_) | (refine callh [some 1, some _] q11 rfl rfl ⟨rfl, rfl, trivial⟩ ?_) | (refine callh [some 1, some _] q12 rfl rfl ⟨rfl, rfl, trivial⟩ ?_) | (refine callh [some 1] q13 rfl rfl ⟨rfl, trivial⟩ ?_) | (refine callh [some 1, some _] q14 rfl rfl ⟨rfl, rfl, trivial⟩ ?_) | (refine callh [some 1] q15 rfl rfl ⟨rfl, trivial⟩ ?_) | (refine callh [some 1, some _] q16 rfl rfl ⟨rfl, rfl, trivial⟩ ?_) | (refine callh [some 1] q17 rfl rfl ⟨rfl, trivial⟩ ?_) | (refine callh [some 1, some _] q18 rfl rfl ⟨rfl, rfl, trivial⟩ ?_) | (refine end_fn [] (.inr rfl) ?_ ?_ rfl rfl; (focus exact vwV); exact hsV) | refine x0C ?_ | refine spC (fun hb => ?_) fun hb => ?_ | refine nilC (fun hb => ?_) ?_ | refine taC ?_ | refine saC ?_ | exact sdV | refine side_and ?_ ?_ | refine drawX_of mixed ?_))
    ·have hsw : w18 = false := by simpa using hsw
     rw [hsw] at q18
     have hlt : a18 < ws.length := by rcases hfin with h | h; rw [hsw] at h; cases h; exact h
     refine meets_of_gx Ax tab_ok Tryz.func26 (c := _) rfl Tryz.call26 900 ?_
     (repeat' ((conv => whnf); first | (exfalso; omega) | refine cpC (qt) ?_ | refine dpC (qt) ?_ | (refine callh [some 1, some _] q1 rfl rfl ⟨rfl, rfl, trivial⟩ ?_) | (refine callh [some 1] q2 rfl rfl ⟨rfl, trivial⟩ ?_) | (refine callh [some 1, some _] q3 rfl rfl ⟨rfl, rfl, trivial⟩ ?_) | (refine callh [some 1] q4 rfl rfl ⟨rfl, trivial⟩ ?_) | (refine callh [some 1, some _] q5 rfl rfl ⟨rfl, rfl, trivial⟩ ?_) | (refine callh [some 1] q6 rfl rfl ⟨rfl, trivial⟩ ?_) | (refine callh [some 1, some _] q7 rfl rfl ⟨rfl, rfl, trivial⟩ ?_) | (refine callh [some 1] q8 rfl rfl ⟨rfl, trivial⟩ ?_) | (refine callh [some 1] q9 rfl rfl ⟨rfl, trivial⟩ ?_) | (refine callh [some 1] q10 rfl rfl ⟨rfl, trivial⟩ ?_) | (refine callh [some 1, some _] q11 rfl rfl ⟨rfl, rfl, trivial⟩ ?_) | (refine callh [some 1, some _] q12 rfl rfl ⟨rfl, rfl, trivial⟩ ?_) | (refine callh [some 1] q13 rfl rfl ⟨rfl, trivial⟩ ?_) | (refine callh [some 1, some _] q14 rfl rfl ⟨rfl, rfl, trivial⟩ ?_) | (refine callh [some 1] q15 rfl rfl ⟨rfl, trivial⟩ ?_) | (refine callh [some 1, some _] q16 rfl rfl ⟨rfl, rfl, trivial⟩ ?_) | (refine callh [some 1] q17 rfl rfl ⟨rfl, trivial⟩ ?_) | (refine callh [some 1, some _] q18 rfl rfl ⟨rfl, rfl, trivial⟩ ?_) | (refine end_fn [] (.inr rfl) ?_ ?_ rfl rfl; (focus exact vwV); exact hsV) | refine x0C ?_ | refine spC (fun hb => ?_) fun hb => ?_ | refine nilC (fun hb => ?_) ?_ | refine taC ?_ | refine saC ?_ | exact sdV | refine side_and ?_ ?_ | refine drawX_of mixed ?_))
   ·rw [if_neg hfin]
    dsimp only
    simp only [not_or] at hfin
    rw [← etaX_eq v17] at hS
    injection hS with e1 e2
    injection e2 with e2 e3
    injection e3 with e3 e4
    subst e1 e2 e3
    subst ha0 hw0 hm0
    have hsw : w18 = false := by simpa using hfin.1
    have hge := hfin.2
    rw [hsw] at q18
    refine meets_of_gx Ax tab_ok Tryz.func26 (c := _) rfl Tryz.call26 900 ?_
    (repeat' ((conv => whnf); first | (exfalso; omega) | refine cpC (qt) ?_ | refine dpC (qt) ?_ | (refine callh [some 1, some _] q1 rfl rfl ⟨rfl, rfl, trivial⟩ ?_) | (refine callh [some 1] q2 rfl rfl ⟨rfl, trivial⟩ ?_) | (refine callh [some 1, some _] q3 rfl rfl ⟨rfl, rfl, trivial⟩ ?_) | (refine callh [some 1] q4 rfl rfl ⟨rfl, trivial⟩ ?_) | (refine callh [some 1, some _] q5 rfl rfl ⟨rfl, rfl, trivial⟩ ?_) | (refine callh [some 1] q6 rfl rfl ⟨rfl, trivial⟩ ?_) | (refine callh [some 1, some _] q7 rfl rfl ⟨rfl, rfl, trivial⟩ ?_) | (refine callh [some 1] q8 rfl rfl ⟨rfl, trivial⟩ ?_) | (refine callh [some 1] q9 rfl rfl ⟨rfl, trivial⟩ ?_) | (refine callh [some 1] q10 rfl rfl ⟨rfl, trivial⟩ ?_) | (refine callh [some 1, some _] q11 rfl rfl ⟨rfl, rfl, trivial⟩ ?_) | (refine callh [some 1, some _] q12 rfl rfl ⟨rfl, rfl, trivial⟩ ?_) | (refine callh [some 1] q13 rfl rfl ⟨rfl, trivial⟩ ?_) | (refine callh [some 1, some _] q14 rfl rfl ⟨rfl, rfl, trivial⟩ ?_) | (refine callh [some 1] q15 rfl rfl ⟨rfl, trivial⟩ ?_) | (refine callh [some 1, some _] q16 rfl rfl ⟨rfl, rfl, trivial⟩ ?_) | (refine callh [some 1] q17 rfl rfl ⟨rfl, trivial⟩ ?_) | (refine callh [some 1, some _] q18 rfl rfl ⟨rfl, rfl, trivial⟩ ?_) | (refine end_fn [] (.inr rfl) ?_ ?_ rfl rfl; (focus exact vwV); exact hsV) | refine x0C ?_ | refine spC (fun hb => ?_) fun hb => ?_ | refine nilC (fun hb => ?_) ?_ | refine taC ?_ | refine saC ?_ | exact sdV | refine side_and ?_ ?_ | refine drawX_of mixed ?_))
end Go.SX

namespace Go.SX
open Go.Proofs
set_option maxHeartbeats 4000000
set_option maxRecDepth 100000
mutual
theorem size_gall : ∀ (g : Goal) (d n : Int), sizeG g d = some n → GAll g
 | ⟨kind, rows, from_, to_, low, high, clear, days, times, within, cents, kids⟩, d, n, hs => by
  have hL := sizeL_gall kids
  obtain ⟨hok, hd, m, hm, rfl⟩ := size_ok hs
  rw [GAll_iff]
  refine ⟨?_, hL _ _ hm⟩
  unfold okB at hok
  simp only [Bool.and_eq_true] at hok
  obtain ⟨⟨⟨h1, h2⟩, h3⟩, h4⟩ := hok
  unfold partsB at h4
  simp only [Bool.and_eq_true, Bool.or_eq_true, decide_eq_true_eq] at h4
  obtain ⟨⟨⟨h5, h6⟩, h7⟩, h8⟩ := h4
  have hk : (kids.length : Int) ≤ 4 := by
   unfold manyB at h5
   split at h5
   ·simp only [decide_eq_true_eq] at h5; (try dsimp only at h5); omega
   ·split at h5
    ·rw [inB_iff] at h5; exact h5.2
    ·simp only [decide_eq_true_eq] at h5; (try dsimp only at h5); omega
  have hc : (cents.length : Int) ≤ 4 := by
   unfold centsB at h6
   split at h6
   ·simp only [Bool.and_eq_true, decide_eq_true_eq] at h6; (try dsimp only at h6); omega
   ·simp only [decide_eq_true_eq] at h6; (try dsimp only at h6); omega
  have hr : (rows.length : Int) ≤ 24 := by
   rcases h7 with h7 | h7
   ·unfold limB at h3
    rw [if_pos h7] at h3
    simp only [Bool.and_eq_true] at h3
    have ha := h3.1.1.1.1.1
    unfold areaB at ha
    simp only [Bool.and_eq_true, decide_eq_true_eq] at ha
    try dsimp only at ha
    omega
   ·(try dsimp only at h7); omega
  exact ⟨by dsimp only; omega, by dsimp only; omega, by dsimp only; omega⟩
theorem sizeL_gall : ∀ (l : List Goal) (d n : Int), sizeL l d = some n → GAllL l
 | [], d, n, hs => by rw [GAllL]; trivial
 | k :: l, d, n, hs => by
  rw [sizeL] at hs
  rw [GAllL]
  split at hs
  ·cases hs
  ·rename_i m hm
   split at hs
   ·cases hs
   ·rename_i q hq
    exact ⟨size_gall k d m hm, sizeL_gall l d q hq⟩
end
theorem valid_gall {g : Goal} (h : validG g = true) : GAll g := by
 unfold validG at h
 split at h
 ·cases h
 ·rename_i n hn
  exact size_gall g 1 n hn
theorem allOKL_mem : ∀ {l : List Goal} {k : Goal}, allOKL l = true → k ∈ l → allOK k = true
 | [], k, _, h => by simp at h
 | x :: l, k, ha, h => by
  rw [allOKL, Bool.and_eq_true] at ha
  rcases List.mem_cons.1 h with rfl | h
  ·exact ha.1
  ·exact allOKL_mem ha.2 h
theorem kid_valid {g k : Goal} (h : validG g = true) (hk : k ∈ g.kids) : validG k = true := by
 rw [valid_law] at h ⊢
 obtain ⟨h1, h2, h3⟩ := h
 rw [allOK_eq, Bool.and_eq_true] at h1
 rw [deepG_eq] at h2
 rw [manyG_eq] at h3
 have := manyL_mem hk
 have := deepL_mem hk
 exact ⟨allOKL_mem h1.2 hk, by omega, by omega⟩
/-- the reference's numbers -/
theorem rfnum : ∀ (f : Nat) (n : Int), 0 ≤ n → n < 10 ^ (f + 1) → n < 1000000000000 → Meets Tryz.prog Dc 58 [iS n] [] (wS (itoaW n)) [] := by
 intro f
 induction f with
 | zero =>
  intro n h0 h1 h2
  have h1 : n < 10 := by simpa using h1
  rw [itoaW_dig h0 h1]
  have key : ∀ k : Nat, k < 10 → List.drop (k : Int).toNat (List.take ((k : Int) + 1).toNat [48, 49, 50, 51, 52, 53, 54, 55, 56, 57]) = [UInt8.ofNat (48 + k)] := by decide
  have hk := key n.toNat (by omega)
  rw [show ((n.toNat : Nat) : Int) = n by omega] at hk
  refine meets_of_gx Ax tab_ok Tryz.func58 (c := _) rfl Tryz.call58 60 ?_
  (repeat' ((conv => whnf); first | (exfalso; omega) | refine x0C ?_ | refine spC (fun hb => ?_) fun hb => ?_ | refine nilC (fun hb => ?_) ?_ | refine taC ?_ | refine saC ?_ | exact sdV | refine side_and ?_ ?_ | refine drawX_of mixed ?_))
  all_goals (rw [← hk]; exact vwV)
 | succ f ih =>
  intro n h0 h1 h2
  by_cases h10 : n < 10
  ·exact ih n h0 (by
    have : (10 : Int) ≤ 10 ^ (f + 1) := by
     have := Nat.one_le_two_pow (n := f)
     have h := Nat.pow_le_pow_right (n := 10) (by omega) (show 1 ≤ f + 1 by omega)
     exact_mod_cast h
    omega) h2
  ·have e1 : n.tdiv 10 = n / 10 := Int.tdiv_eq_ediv_of_nonneg (by omega)
   have e2 : n.tmod 10 = n % 10 := Int.tmod_eq_emod_of_nonneg (by omega)
   have q1 := ih (n.tdiv 10) (by omega) (by rw [e1]; rw [Int.pow_succ] at h1; omega) (by omega)
   have hp : (10 : Int) ≤ 10 ^ (f + 1) := by
    have h := Nat.pow_le_pow_right (n := 10) (by omega) (show 1 ≤ f + 1 by omega)
    exact_mod_cast h
   have q2 := ih (n.tmod 10) (by omega) (by omega) (by omega)
   rw [itoaW_step (by omega) (by omega)]
   have l1 := itoaW_len (n.tdiv 10)
   have l2 := itoaW_len (n.tmod 10)
   refine meets_of_gx Ax tab_ok Tryz.func58 (c := _) rfl Tryz.call58 60 ?_
   (repeat' ((conv => whnf); first | (exfalso; omega) | refine cpC (q1) ?_ | refine dpC (q1) ?_ | refine cpC (q2) ?_ | refine dpC (q2) ?_ | refine x0C ?_ | refine spC (fun hb => ?_) fun hb => ?_ | refine nilC (fun hb => ?_) ?_ | refine taC ?_ | refine saC ?_ | exact sdV | refine side_and ?_ ?_ | refine drawX_of mixed ?_))
   all_goals exact vwV
theorem bit_tmod {r : Int} {x : Nat} (h0 : 0 ≤ r) (hx : x < 48) : (shrop .i64 r x).tmod 2 = if r.toNat.testBit x then 1 else 0 := by
 have h := shr_bit h0 hx
 cases hb : r.toNat.testBit x with
 | true => rw [hb] at h; simpa using h
 | false =>
  rw [hb] at h
  have h := of_decide_eq_false h
  have h2 : (0 : Int) ≤ (shrop .i64 r x).tmod 2 ∧ (shrop .i64 r x).tmod 2 ≤ 1 := by
   obtain ⟨m, rfl⟩ : ∃ m : Nat, r = m := ⟨r.toNat, by omega⟩
   unfold shrop
   have hp : (0 : Int) ≤ ((2 ^ x : Nat) : Int) := Int.natCast_nonneg _
   rw [pow_min hx, Int.fdiv_eq_ediv_of_nonneg _ hp]
   rw [show ((m : Int) / ((2 ^ x : Nat) : Int)) = ((m / 2 ^ x : Nat) : Int) from (Int.natCast_ediv _ _).symm]
   rw [show (((m / 2 ^ x : Nat) : Int).tmod 2) = (((m / 2 ^ x) % 2 : Nat) : Int) from rfl]
   omega
  simp only [Bool.false_eq_true, if_false]
  omega
theorem rfarea (rows : List Int) (hr : areaB rows = true) : Meets Tryz.prog Dc 84 [areaA rows] [] (wsS (rowsW 0 rows)) [] := by
 simp only [areaB, Bool.and_eq_true, decide_eq_true_eq, List.all_eq_true] at hr
 obtain ⟨hl, hro⟩ := hr
 have hl : rows.length = 24 := by omega
 have hR : ∀ y : Nat, y < 24 → 0 ≤ rows.getD (y : Int).toNat (Cd.dflt U.int) ∧ rows.getD (y : Int).toNat (Cd.dflt U.int) ≤ 281474976710655 := fun y hy => (inB_iff _ _ _).1 (hro _ (List.mem_of_getElem? (getD_some (d := Cd.dflt U.int) (show y < rows.length by omega))))
 clear hro
 refine meets_of_gx Ax tab_ok Tryz.func84 (c := _) rfl Tryz.call84 200 ?_
 (repeat' ((conv => whnf); first | fail))
 refine loop_upT [some 0, none] (fun q : Nat × List Wd => [(3, .slice 1 0 1 0 q.2.length), (4, iS q.1)]) (fun q => [(1, .rows U.str q.2)]) (fun q => q.1 ≤ 24 ∧ q.2 = rowsW 0 (rows.take q.1) ∧ q.2.length ≤ 192 * q.1) (fun q => 24 - q.1) (0, []) ⟨Nat.zero_le _, by simp [rowsW], by simp⟩ (by exact bkI) ?_
 rintro ⟨y, J⟩ ⟨hy, hJ, hJl⟩ K hK
 dsimp only at hy hJ hJl hK ⊢
 rcases Nat.lt_or_ge y 24 with hlt | hge
 ·have hRy := hR y hlt
  (repeat' ((conv => whnf); first | (exfalso; omega) | refine spC (fun hb => ?_) fun hb => ?_))
  have hr : rows.getD (y : Int).toNat (Cd.dflt U.int) = rows.getD y 0 := rfl
  obtain ⟨n, hn⟩ : ∃ n, n = (rows.getD (y : Int).toNat (Cd.dflt U.int)).toNat := ⟨_, rfl⟩
  have hn48 : n < 2 ^ 48 := by omega
  obtain ⟨hrc, hval⟩ := runsN_rc hn48
  have hbit := fun x (hx : x < 48) => bit_tmod (r := rows.getD (y : Int).toNat (Cd.dflt U.int)) (x := x) hRy.1 hx
  rw [← hn] at hbit
  have hlen := runsN_le hn48
  have hnext : rowsW 0 (rows.take (y + 1)) = rowsW 0 (rows.take y) ++ (runsN n).flatMap (runW y) := by
   rw [take_getD (d := Cd.dflt U.int) (show y < rows.length by omega), rowsW_snoc, List.length_take, Nat.min_eq_left (by omega), Nat.zero_add, hn]; rfl
  refine loop_upT [some 0, some 1] (fun q : Nat × List Wd => [(3, .slice 1 0 1 0 q.2.length), (5, iS q.1)]) (fun q => [(1, .rows U.str q.2)]) (fun q => q.1 ≤ 48 ∧ q.2 = J ++ (ahead q.1 (runsN n)).flatMap (runW y)) (fun q => 48 - q.1) (0, J) ⟨Nat.zero_le _, by simp [ahead_zero]⟩ (by exact bkI) ?_
  rintro ⟨x, J2⟩ ⟨hx, hJ2⟩ K2 hK2
  dsimp only at hx hJ2 hK2 ⊢
  have hJ2l : J2.length ≤ 192 * y + 192 := by
   rw [hJ2, List.length_append, flat_run_len]
   have : (ahead x (runsN n)).length ≤ (runsN n).length := List.length_filter_le _ _
   omega
  rcases Nat.lt_or_ge x 48 with hxl | hxg
  ·have hb0 := hbit x hxl
   have hb1 : 0 < x → (shrop .i64 (rows.getD (y : Int).toNat (Cd.dflt U.int)) ((x : Int) - 1)).tmod 2 = if n.testBit (x - 1) then 1 else 0 := fun h => by
    have := hbit (x - 1) (by omega)
    rw [show ((x - 1 : Nat) : Int) = (x : Int) - 1 by omega] at this
    exact this
   cases hbeg : begB n x with
   | true =>
    obtain ⟨p, hp, p1, p2, p3, p4, p5⟩ := beg_true hn48 hbeg
    have hnew := ahead_here hrc p hp p1
    have hbx := p4 x (Nat.le_refl _) p2
    rw [hbx] at hb0
    have hb2 : 0 < x → n.testBit (x - 1) = false := fun h => by
     unfold begB at hbeg
     simp only [Bool.and_eq_true, Bool.or_eq_true, decide_eq_true_eq, Bool.not_eq_true'] at hbeg
     rcases hbeg.2 with h1 | h1
     ·omega
     ·exact h1
    have hb3 : 0 < x → (shrop .i64 (rows.getD (y : Int).toNat (Cd.dflt U.int)) ((x : Int) - 1)).tmod 2 = 0 := fun h => by rw [hb1 h, hb2 h]; rfl
    rw [if_pos rfl] at hb0
    clear hb1 hb2 hbx
    rcases Nat.eq_zero_or_pos x with hx0 | hx0
    ·clear hb3
     (repeat' ((conv => whnf); first | (exfalso; omega) | refine spC (fun hb => ?_) fun hb => ?_ | refine saC ?_))
     conv => whnf
     refine loop_up (fun t : Nat => [(6, iS t)]) (fun _ => []) (fun t => x ≤ t ∧ t ≤ p.2) (fun t => p.2 - t) x ⟨Nat.le_refl _, p2⟩ (by exact bkI) ?_
     rintro t ⟨ht1, ht2⟩ K3 hK3
     rcases Nat.lt_or_eq_of_le ht2 with ht | ht
     ·have hb4 := hbit (t + 1) (by omega)
      rw [p4 (t + 1) (by omega) (by omega), if_pos rfl, show ((t + 1 : Nat) : Int) = (t : Int) + 1 from rfl] at hb4
      (repeat' ((conv => whnf); first | (exfalso; omega) | refine hK3 (t + 1) [some 0, some 1] _ _ ⟨⟨by omega, by omega⟩⟩ ⟨by omega⟩ (by exact bkI) | refine spC (fun hb => ?_) fun hb => ?_ | refine saC ?_))
     ·have hb4 : p.2 + 1 < 48 → (shrop .i64 (rows.getD (y : Int).toNat (Cd.dflt U.int)) ((t : Int) + 1)).tmod 2 = 0 := fun h => by
       have := hbit (p.2 + 1) h
       rw [p5, ← ht] at this
       exact this
      have q1 := rfnum 3 y (by omega) (by omega) (by omega)
      have q2 := rfnum 3 x (by omega) (by omega) (by omega)
      have q3 := rfnum 3 t (by omega) (by omega) (by omega)
      have hRun : runW y p = [w_at, itoaW y, itoaW x, itoaW t] := by rw [ht]; unfold runW; rw [p1]
      have hJ3 : List.take J2.length J2 ++ List.take 4 (List.drop 0 [w_at, itoaW y, itoaW x, itoaW t]) = J ++ (ahead (x + 1) (runsN n)).flatMap (runW y) := by
       rw [List.take_length, show List.take 4 (List.drop 0 [w_at, itoaW y, itoaW x, itoaW t]) = [w_at, itoaW y, itoaW x, itoaW t] from rfl]
       rw [hnew, List.flatMap_append, ← List.append_assoc, ← hJ2, List.flatMap_cons, hRun]; rfl
      by_cases h48 : p.2 + 1 < 48
      ·have hb4 := hb4 h48
       (repeat' ((conv => whnf); first | (exfalso; omega) | refine cpC (q1) ?_ | refine cpC (q2) ?_ | refine cpC (q3) ?_ | refine hK2 (x + 1, List.take J2.length J2 ++ List.take 4 (List.drop 0 [w_at, itoaW y, itoaW x, itoaW t])) [some 0, some 3] _ _ ⟨⟨by dsimp only; omega, hJ3⟩⟩ ⟨by dsimp only; omega⟩ (by exact bkI) | refine spC (fun hb => ?_) fun hb => ?_ | refine saC ?_))
      ·clear hb4
       (repeat' ((conv => whnf); first | (exfalso; omega) | refine cpC (q1) ?_ | refine cpC (q2) ?_ | refine cpC (q3) ?_ | refine hK2 (x + 1, List.take J2.length J2 ++ List.take 4 (List.drop 0 [w_at, itoaW y, itoaW x, itoaW t])) [some 0, some 3] _ _ ⟨⟨by dsimp only; omega, hJ3⟩⟩ ⟨by dsimp only; omega⟩ (by exact bkI) | refine spC (fun hb => ?_) fun hb => ?_ | refine saC ?_))
    ·have hb3 := hb3 hx0
     (repeat' ((conv => whnf); first | (exfalso; omega) | refine spC (fun hb => ?_) fun hb => ?_ | refine saC ?_))
     conv => whnf
     refine loop_up (fun t : Nat => [(6, iS t)]) (fun _ => []) (fun t => x ≤ t ∧ t ≤ p.2) (fun t => p.2 - t) x ⟨Nat.le_refl _, p2⟩ (by exact bkI) ?_
     rintro t ⟨ht1, ht2⟩ K3 hK3
     rcases Nat.lt_or_eq_of_le ht2 with ht | ht
     ·have hb4 := hbit (t + 1) (by omega)
      rw [p4 (t + 1) (by omega) (by omega), if_pos rfl, show ((t + 1 : Nat) : Int) = (t : Int) + 1 from rfl] at hb4
      (repeat' ((conv => whnf); first | (exfalso; omega) | refine hK3 (t + 1) [some 0, some 1] _ _ ⟨⟨by omega, by omega⟩⟩ ⟨by omega⟩ (by exact bkI) | refine spC (fun hb => ?_) fun hb => ?_ | refine saC ?_))
     ·have hb4 : p.2 + 1 < 48 → (shrop .i64 (rows.getD (y : Int).toNat (Cd.dflt U.int)) ((t : Int) + 1)).tmod 2 = 0 := fun h => by
       have := hbit (p.2 + 1) h
       rw [p5, ← ht] at this
       exact this
      have q1 := rfnum 3 y (by omega) (by omega) (by omega)
      have q2 := rfnum 3 x (by omega) (by omega) (by omega)
      have q3 := rfnum 3 t (by omega) (by omega) (by omega)
      have hRun : runW y p = [w_at, itoaW y, itoaW x, itoaW t] := by rw [ht]; unfold runW; rw [p1]
      have hJ3 : List.take J2.length J2 ++ List.take 4 (List.drop 0 [w_at, itoaW y, itoaW x, itoaW t]) = J ++ (ahead (x + 1) (runsN n)).flatMap (runW y) := by
       rw [List.take_length, show List.take 4 (List.drop 0 [w_at, itoaW y, itoaW x, itoaW t]) = [w_at, itoaW y, itoaW x, itoaW t] from rfl]
       rw [hnew, List.flatMap_append, ← List.append_assoc, ← hJ2, List.flatMap_cons, hRun]; rfl
      by_cases h48 : p.2 + 1 < 48
      ·have hb4 := hb4 h48
       (repeat' ((conv => whnf); first | (exfalso; omega) | refine cpC (q1) ?_ | refine cpC (q2) ?_ | refine cpC (q3) ?_ | refine hK2 (x + 1, List.take J2.length J2 ++ List.take 4 (List.drop 0 [w_at, itoaW y, itoaW x, itoaW t])) [some 0, some 3] _ _ ⟨⟨by dsimp only; omega, hJ3⟩⟩ ⟨by dsimp only; omega⟩ (by exact bkI) | refine spC (fun hb => ?_) fun hb => ?_ | refine saC ?_))
      ·clear hb4
       (repeat' ((conv => whnf); first | (exfalso; omega) | refine cpC (q1) ?_ | refine cpC (q2) ?_ | refine cpC (q3) ?_ | refine hK2 (x + 1, List.take J2.length J2 ++ List.take 4 (List.drop 0 [w_at, itoaW y, itoaW x, itoaW t])) [some 0, some 3] _ _ ⟨⟨by dsimp only; omega, hJ3⟩⟩ ⟨by dsimp only; omega⟩ (by exact bkI) | refine spC (fun hb => ?_) fun hb => ?_ | refine saC ?_))
   | false =>
    have hnone := ahead_none (beg_false hn48 hbeg)
    have hJ3 : J2 = J ++ (ahead (x + 1) (runsN n)).flatMap (runW y) := by rw [hnone]; exact hJ2
    unfold begB at hbeg
    by_cases hbx : n.testBit x = true
    ·rw [hbx, Bool.true_and] at hbeg
     simp only [Bool.or_eq_false_iff, decide_eq_false_iff_not, Bool.not_eq_false'] at hbeg
     have hx0 : 0 < x := by omega
     have hb3 := hb1 hx0
     rw [hbeg.2, if_pos rfl] at hb3
     rw [hbx, if_pos rfl] at hb0
     clear hb1
     (repeat' ((conv => whnf); first | (exfalso; omega) | refine hK2 (x + 1, J2) [some 0, some 1] _ _ ⟨⟨by dsimp only; omega, hJ3⟩⟩ ⟨by dsimp only; omega⟩ (by exact bkI) | refine spC (fun hb => ?_) fun hb => ?_ | refine saC ?_))
    ·rw [if_neg hbx] at hb0
     clear hb1
     (repeat' ((conv => whnf); first | (exfalso; omega) | refine hK2 (x + 1, J2) [some 0, some 1] _ _ ⟨⟨by dsimp only; omega, hJ3⟩⟩ ⟨by dsimp only; omega⟩ (by exact bkI) | refine spC (fun hb => ?_) fun hb => ?_ | refine saC ?_))
  ·have hx48 : x = 48 := by omega
   have hJ3 : J2 = rowsW 0 (rows.take (y + 1)) := by rw [hJ2, hx48, ahead_all hrc, hnext, hJ]
   have hJ4 : J2.length ≤ 192 * (y + 1) := by omega
   (repeat' ((conv => whnf); first | (exfalso; omega) | refine hK (y + 1, J2) [some 0, some 1] _ _ ⟨⟨by dsimp only; omega, hJ3, hJ4⟩⟩ ⟨by dsimp only; omega⟩ (by exact bkI) | refine spC (fun hb => ?_) fun hb => ?_ | refine saC ?_))
 ·rw [List.take_of_length_le (by omega)] at hJ
  rw [← hJ]
  (repeat' ((conv => whnf); first | (exfalso; omega) | refine x0C ?_ | refine spC (fun hb => ?_) fun hb => ?_))
  all_goals exact vwV
theorem rfsee (g : Goal) (h : OkG g) (hk : g.kind = 1) : Meets Tryz.prog Dc 59 [goalA g] [] (wsS (goalW g)) [] := by
 obtain ⟨b1, b2, b3, b4, b5, _, _⟩ := h.see hk
 have q0 := rfarea g.rows b1
 have q1 := rfnum 11 g.from_ (by omega) (by omega) (by omega)
 have q2 := rfnum 11 g.to_ (by omega) (by omega) (by omega)
 have q3 := rfnum 11 g.low (by omega) (by omega) (by omega)
 have q4 := rfnum 11 g.high (by omega) (by omega) (by omega)
 have hlen := seeW_len b1
 have eW : goalW g = seeW g := by rw [goalW_eq, if_pos hk]
 rw [eW]
 have hrl : (rowsW 0 g.rows).length ≤ 4700 := by simp only [seeW, List.length_append, List.length_cons] at hlen; omega
 have eS : ∀ w : Wd, (if g.clear = true then w_clear else w_any) = w → seeW g = w_see :: (rowsW 0 g.rows ++ [w_from, itoaW g.from_, w_to, itoaW g.to_, w_sun, itoaW g.low, w_to, itoaW g.high, w]) := fun w h => by
  unfold seeW; rw [h]; rfl
 generalize rowsW 0 g.rows = R at *
 cases hc : g.clear with
 | true =>
  rw [eS w_clear (by rw [hc]; rfl)]
  refine meets_of_gx Ax tab_ok Tryz.func59 (c := _) rfl Tryz.call59 300 ?_
  (repeat' ((conv => whnf); first | (exfalso; omega) | refine cpC (q0) ?_ | refine dpC (q0) ?_ | refine cpC (q1) ?_ | refine dpC (q1) ?_ | refine cpC (q2) ?_ | refine dpC (q2) ?_ | refine cpC (q3) ?_ | refine dpC (q3) ?_ | refine cpC (q4) ?_ | refine dpC (q4) ?_ | refine x0C ?_ | refine spC (fun hb => ?_) fun hb => ?_ | refine nilC (fun hb => ?_) ?_ | refine taC ?_ | refine saC ?_ | exact sdV | refine side_and ?_ ?_ | refine drawX_of mixed ?_))
  all_goals first | exact vwV | (rw [hc] at hb; exact absurd hb (by decide))
 | false =>
  rw [eS w_any (by rw [hc]; rfl)]
  refine meets_of_gx Ax tab_ok Tryz.func59 (c := _) rfl Tryz.call59 300 ?_
  (repeat' ((conv => whnf); first | (exfalso; omega) | refine cpC (q0) ?_ | refine dpC (q0) ?_ | refine cpC (q1) ?_ | refine dpC (q1) ?_ | refine cpC (q2) ?_ | refine dpC (q2) ?_ | refine cpC (q3) ?_ | refine dpC (q3) ?_ | refine cpC (q4) ?_ | refine dpC (q4) ?_ | refine x0C ?_ | refine spC (fun hb => ?_) fun hb => ?_ | refine nilC (fun hb => ?_) ?_ | refine taC ?_ | refine saC ?_ | exact sdV | refine side_and ?_ ?_ | refine drawX_of mixed ?_))
  all_goals first | exact vwV | (rw [hc] at hb; exact absurd hb (by decide))
theorem rfone (g k : Goal) (h : OkG g) (hk : g.kind = 2 ∨ g.kind = 3 ∨ g.kind = 4) (hkid : g.kids = [k]) (hn : (goalW k).length ≤ 100000) (ih : Meets Tryz.prog Dc 59 [goalA k] [] (wsS (goalW k)) []) : Meets Tryz.prog Dc 59 [goalA g] [] (wsS (goalW g)) [] := by
 have hl : (g.kids.length : Int) = 1 := by rw [hkid]; rfl
 have hgk : g.kids.getD (Int.toNat 0) (Cd.dflt U.goal) = k := by rw [hkid]; rfl
 replace ih : Meets Tryz.prog Dc 59 [goalA (g.kids.getD (Int.toNat 0) (Cd.dflt U.goal))] [] (wsS (goalW k)) [] := by rw [hgk]; exact ih
 clear hgk
 rcases hk with hk | hk | hk
 ·obtain ⟨b1, b2⟩ := h.lim2 hk
  have eW : goalW g = [w_pair, w_looks, itoaW g.low, w_within, itoaW g.within, w_of] ++ goalW k := by rw [goalW_eq, if_neg (by omega), if_pos (.inl hk), hkid, firstW, headW, if_pos hk]
  rw [eW]
  have q1 := rfnum 11 g.low (by omega) (by omega) (by omega)
  have q2 := rfnum 11 g.within (by omega) (by omega) (by omega)
  generalize goalW k = R at *
  refine meets_of_gx Ax tab_ok Tryz.func59 (c := _) rfl Tryz.call59 300 ?_
  (repeat' ((conv => whnf); first | (exfalso; omega) | refine dpC (q1) ?_ | refine dpC (q2) ?_ | refine dpC (ih) ?_ | refine x0C ?_ | refine spC (fun hb => ?_) fun hb => ?_ | refine taC ?_ | refine saC ?_ | refine drawX_of mixed ?_))
  all_goals exact vwV
 ·obtain ⟨b1, b2, b3, b4⟩ := h.lim3 hk
  have eW : goalW g = [w_every, itoaW g.days, w_days, itoaW g.times, w_times, w_apart, itoaW g.within, w_from, itoaW g.from_, w_of] ++ goalW k := by rw [goalW_eq, if_neg (by omega), if_pos (.inr (.inl hk)), hkid, firstW, headW, if_neg (by omega), if_pos hk]
  rw [eW]
  have q1 := rfnum 11 g.days (by omega) (by omega) (by omega)
  have q2 := rfnum 11 g.times (by omega) (by omega) (by omega)
  have q3 := rfnum 11 g.within (by omega) (by omega) (by omega)
  have q4 := rfnum 11 g.from_ (by omega) (by omega) (by omega)
  generalize goalW k = R at *
  refine meets_of_gx Ax tab_ok Tryz.func59 (c := _) rfl Tryz.call59 300 ?_
  (repeat' ((conv => whnf); first | (exfalso; omega) | refine dpC (q1) ?_ | refine dpC (q2) ?_ | refine dpC (q3) ?_ | refine dpC (q4) ?_ | refine dpC (ih) ?_ | refine x0C ?_ | refine spC (fun hb => ?_) fun hb => ?_ | refine taC ?_ | refine saC ?_ | refine drawX_of mixed ?_))
  all_goals exact vwV
 ·have b1 := h.lim4 hk
  have eW : goalW g = [w_deliver, w_within, itoaW g.within, w_of] ++ goalW k := by rw [goalW_eq, if_neg (by omega), if_pos (.inr (.inr hk)), hkid, firstW, headW, if_neg (by omega), if_neg (by omega)]
  rw [eW]
  have q1 := rfnum 11 g.within (by omega) (by omega) (by omega)
  generalize goalW k = R at *
  refine meets_of_gx Ax tab_ok Tryz.func59 (c := _) rfl Tryz.call59 300 ?_
  (repeat' ((conv => whnf); first | (exfalso; omega) | refine dpC (q1) ?_ | refine dpC (ih) ?_ | refine x0C ?_ | refine spC (fun hb => ?_) fun hb => ?_ | refine taC ?_ | refine saC ?_ | refine drawX_of mixed ?_))
  all_goals exact vwV
/-- the words so far -/
def soFar (g : Goal) (i : Nat) : List Wd := [if g.kind = 5 then w_all else w_any, w_open] ++ kidsW (decide (g.kind = 6)) true g.cents (g.kids.take i)
theorem soFar_succ (g : Goal) {i : Nat} (h : i < g.kids.length) : soFar g (i + 1) = soFar g i ++ ((if i = 0 then [] else [w_comma]) ++ (if g.kind = 6 then [itoaW (g.cents.getD i 0)] else []) ++ goalW (g.kids.getD (i : Int).toNat (Cd.dflt U.goal))) := by
 unfold soFar
 rw [take_getD (d := Cd.dflt U.goal) h, kidsW_snoc, List.length_take, Nat.min_eq_left (by omega)]
 have e1 : (g.kids.take i).isEmpty = decide (i = 0) := by
  cases i with
  | zero => simp
  | succ i => cases hk : g.kids with
   | nil => rw [hk] at h; simp at h
   | cons a l => simp
 rw [e1]
 have e2 : g.kids.getD (i : Int).toNat (Cd.dflt U.goal) = g.kids.getD i (Cd.dflt U.goal) := rfl
 rw [e2]
 by_cases h0 : i = 0 <;> by_cases h6 : g.kind = 6 <;> simp [h0, h6, List.append_assoc]
theorem soFar_len (g : Goal) (h : g.kind = 5 ∨ g.kind = 6) (i : Nat) : (soFar g i).length ≤ (goalW g).length ∧ soFar g g.kids.length ++ [w_close] = goalW g := by
 constructor
 ·rw [goalW_eq, if_neg (by omega), if_neg (by omega)]
  unfold soFar
  have := kidsW_take_len (decide (g.kind = 6)) g.cents g.kids i
  simp only [List.length_append] at *
  omega
 ·rw [goalW_eq, if_neg (by omega), if_neg (by omega)]
  unfold soFar
  rw [List.take_length]
@[reducible] def apW (A B : List Wd) : List Wd := List.take A.length A ++ B
@[reducible] def tkW (x : Wd) : List Wd := List.take 1 (List.drop 0 [x])
theorem tkW_eq (x : Wd) : tkW x = [x] := rfl
theorem apW_eq (A B : List Wd) : apW A B = A ++ B := by rw [apW, List.take_length]
theorem rfmany (g : Goal) (h : OkG g) (hk : g.kind = 5 ∨ g.kind = 6) (hn : (goalW g).length ≤ 100000) (ih : ∀ k ∈ g.kids, Meets Tryz.prog Dc 59 [goalA k] [] (wsS (goalW k)) []) : Meets Tryz.prog Dc 59 [goalA g] [] (wsS (goalW g)) [] := by
 obtain ⟨k2, k4, hc6, hc5⟩ := h.many hk
 have hle := fun i => (soFar_len g hk i).1
 have hend := (soFar_len g hk 0).2
 have hs := fun i h => soFar_succ g (i := i) h
 have h0 : soFar g 0 = [if g.kind = 5 then w_all else w_any, w_open] := by unfold soFar; rw [List.take_zero, kidsW, List.append_nil]
 have hgn := hn
 rw [← hend]
 clear hn
 rcases hk with hk | hk
 ·rw [if_pos hk] at h0
  refine meets_of_gx Ax tab_ok Tryz.func59 (c := _) rfl Tryz.call59 300 ?_
  (repeat' ((conv => whnf); first | (exfalso; omega) | refine spC (fun hb => ?_) fun hb => ?_ | refine saC ?_))
  refine loop_upT [some 0, some 1] (fun q : Nat × List Wd => [(4, .slice 1 0 1 0 q.2.length), (5, iS q.1), (89, .any)]) (fun q => [(1, .rows U.str q.2)]) (fun q => q.1 ≤ g.kids.length ∧ q.2 = soFar g q.1) (fun q => g.kids.length - q.1) (0, [w_all, w_open]) ⟨Nat.zero_le _, h0.symm⟩ (by exact bkI) ?_
  rintro ⟨i, J⟩ ⟨hi, hJ⟩ K hK
  dsimp only at hi hJ hK ⊢
  have hJl := hle i
  rw [← hJ] at hJl
  rcases Nat.lt_or_ge i g.kids.length with hlt | hge
  ·have ihk := ih _ (List.mem_of_getElem? (getD_some (d := Cd.dflt U.goal) hlt))
   have hsi := hs i hlt
   have hl1 := hle (i + 1)
   rw [hsi] at hl1
   rw [← hJ] at hsi hl1
   simp only [List.length_append] at hl1
   rw [if_neg (show ¬ g.kind = 6 by omega)] at hsi
   generalize goalW (g.kids.getD (i : Int).toNat (Cd.dflt U.goal)) = Wk at *
   rcases Nat.eq_zero_or_pos i with hi0 | hi0
   ·have hJ2 : apW J Wk = soFar g (i + 1) := by rw [hsi, if_pos hi0]; simp only [apW_eq, tkW_eq, List.append_assoc, List.nil_append]
    clear hs hle ih hsi
    (repeat' ((conv => whnf); first | (exfalso; omega) | refine cpC (ihk) ?_ | refine hK (i + 1, apW J Wk) [some 0, some 2] _ _ ⟨⟨by dsimp only; omega, hJ2⟩⟩ ⟨by dsimp only; omega⟩ (by exact bkI) | refine spC (fun hb => ?_) fun hb => ?_ | refine saC ?_))
   ·have hJ2 : apW (apW J (tkW w_comma)) Wk = soFar g (i + 1) := by rw [hsi, if_neg (show ¬ i = 0 by omega)]; simp only [apW_eq, tkW_eq, List.append_assoc, List.nil_append]
    clear hs hle ih hsi
    (repeat' ((conv => whnf); first | (exfalso; omega) | refine cpC (ihk) ?_ | refine hK (i + 1, apW (apW J (tkW w_comma)) Wk) [some 0, some 4] _ _ ⟨⟨by dsimp only; omega, hJ2⟩⟩ ⟨by dsimp only; omega⟩ (by exact bkI) | refine spC (fun hb => ?_) fun hb => ?_ | refine saC ?_))
  ·have hig : i = g.kids.length := by omega
   rw [← hig, ← hJ]
   (repeat' ((conv => whnf); first | (exfalso; omega) | refine x0C ?_ | refine spC (fun hb => ?_) fun hb => ?_ | refine saC ?_))
   all_goals exact vwV
 ·rw [if_neg (show ¬ g.kind = 5 by omega)] at h0
  refine meets_of_gx Ax tab_ok Tryz.func59 (c := _) rfl Tryz.call59 300 ?_
  (repeat' ((conv => whnf); first | (exfalso; omega) | refine spC (fun hb => ?_) fun hb => ?_ | refine saC ?_))
  refine loop_upT [some 0, some 1, some 2] (fun q : Nat × List Wd => [(4, .slice 2 0 1 0 q.2.length), (5, iS q.1), (93, .any)]) (fun q => [(2, .rows U.str q.2)]) (fun q => q.1 ≤ g.kids.length ∧ q.2 = soFar g q.1) (fun q => g.kids.length - q.1) (0, [w_any, w_open]) ⟨Nat.zero_le _, h0.symm⟩ (by exact bkI) ?_
  rintro ⟨i, J⟩ ⟨hi, hJ⟩ K hK
  dsimp only at hi hJ hK ⊢
  have hJl := hle i
  rw [← hJ] at hJl
  rcases Nat.lt_or_ge i g.kids.length with hlt | hge
  ·have ihk := ih _ (List.mem_of_getElem? (getD_some (d := Cd.dflt U.goal) hlt))
   have hsi := hs i hlt
   have hl1 := hle (i + 1)
   rw [hsi] at hl1
   rw [← hJ] at hsi hl1
   simp only [List.length_append] at hl1
   have hcb := (hc6 hk).2 _ (List.mem_of_getElem? (getD_some (d := Cd.dflt U.int) (show i < g.cents.length by have := (hc6 hk).1; omega)))
   have hcl := (hc6 hk).1
   have qc := rfnum 11 (g.cents.getD (i : Int).toNat (Cd.dflt U.int)) (by have := hcb.1; exact this) (by have : g.cents.getD (i : Int).toNat (Cd.dflt U.int) ≤ 1000000000 := hcb.2; omega) (by have : g.cents.getD (i : Int).toNat (Cd.dflt U.int) ≤ 1000000000 := hcb.2; omega)
   have hce : g.cents.getD i 0 = g.cents.getD (i : Int).toNat (Cd.dflt U.int) := rfl
   rw [if_pos hk, hce] at hsi
   generalize goalW (g.kids.getD (i : Int).toNat (Cd.dflt U.goal)) = Wk at *
   have hCl := itoaW_len (g.cents.getD (i : Int).toNat (Cd.dflt U.int))
   generalize itoaW (g.cents.getD (i : Int).toNat (Cd.dflt U.int)) = Cw at *
   rcases Nat.eq_zero_or_pos i with hi0 | hi0
   ·have hJ2 : apW (apW J (tkW Cw)) Wk = soFar g (i + 1) := by rw [hsi, if_pos hi0]; simp only [apW_eq, tkW_eq, List.append_assoc, List.nil_append]
    clear hs hle ih hsi
    (repeat' ((conv => whnf); first | (exfalso; omega) | refine cpC (ihk) ?_ | refine cpC (qc) ?_ | refine hK (i + 1, apW (apW J (tkW Cw)) Wk) [some 0, some 1, some 5] _ _ ⟨⟨by dsimp only; omega, hJ2⟩⟩ ⟨by dsimp only; omega⟩ (by exact bkI) | refine spC (fun hb => ?_) fun hb => ?_ | refine saC ?_))
   ·have hJ2 : apW (apW (apW J (tkW w_comma)) (tkW Cw)) Wk = soFar g (i + 1) := by rw [hsi, if_neg (show ¬ i = 0 by omega)]; simp only [apW_eq, tkW_eq, List.append_assoc, List.nil_append]
    clear hs hle ih hsi
    (repeat' ((conv => whnf); first | (exfalso; omega) | refine cpC (ihk) ?_ | refine cpC (qc) ?_ | refine hK (i + 1, apW (apW (apW J (tkW w_comma)) (tkW Cw)) Wk) [some 0, some 1, some 7] _ _ ⟨⟨by dsimp only; omega, hJ2⟩⟩ ⟨by dsimp only; omega⟩ (by exact bkI) | refine spC (fun hb => ?_) fun hb => ?_ | refine saC ?_))
  ·have hig : i = g.kids.length := by omega
   rw [← hig, ← hJ]
   (repeat' ((conv => whnf); first | (exfalso; omega) | refine x0C ?_ | refine spC (fun hb => ?_) fun hb => ?_ | refine saC ?_))
   all_goals exact vwV
theorem rfgoal : ∀ (N : Nat) (g : Goal), manyG g ≤ N → validG g = true → Meets Tryz.prog Dc 59 [goalA g] [] (wsS (goalW g)) []
 | 0, g, hN, _ => by have := manyG_pos g; omega
 | N + 1, g, hN, hv => by
  have hv2 := ((valid_law g).1 hv).1
  rw [allOK_eq, Bool.and_eq_true] at hv2
  have hO := okG hv2.1
  rw [manyG_eq] at hN
  have ih : ∀ k ∈ g.kids, Meets Tryz.prog Dc 59 [goalA k] [] (wsS (goalW k)) [] := fun k hk => by
   have := manyL_mem hk
   exact rfgoal N k (by omega) (kid_valid hv hk)
  have hlen := goalW_valid hv
  rcases (show g.kind = 1 ∨ (g.kind = 2 ∨ g.kind = 3 ∨ g.kind = 4) ∨ g.kind = 5 ∨ g.kind = 6 by have := hO.kind; omega) with h | h | h
  ·exact rfsee g hO h
  ·obtain ⟨k, hkid, _, _⟩ := plain_one hO h
   have hkm : k ∈ g.kids := by rw [hkid]; simp
   have := goalW_valid (kid_valid hv hkm)
   exact rfone g k hO h hkid (by omega) (ih k hkm)
  ·exact rfmany g hO h (by omega) ih
/-- the reference's words of an order, which the caller owns -/
theorem rfwords (o : Order) (ho : ordB o = true) : Meets Tryz.prog Dc 30 [ordA o] [] (.slice 0 0 1 0 (orderW o).length) [.rows U.str (orderW o)] := by
 obtain ⟨b1, b2, b3, b4, b5, b6, b7⟩ := (ordB_iff o).1 ho
 have hg := rfgoal (manyG o.goal).toNat o.goal (by have := manyG_pos o.goal; omega) b7
 have hlen := goalW_valid b7
 have q1 := rfnum 11 o.id (by omega) (by omega) (by omega)
 have q2 := rfnum 11 o.owner (by omega) (by omega) (by omega)
 have q3 := rfnum 11 o.price (by omega) (by omega) (by omega)
 have q4 : ¬ o.group < 0 → Meets Tryz.prog Dc 58 [iS o.group] [] (wS (itoaW o.group)) [] := fun h => rfnum 11 o.group (by omega) (by omega) (by omega)
 have q5 := rfnum 11 o.known (by omega) (by omega) (by omega)
 have q6 := rfnum 11 o.due (by omega) (by omega) (by omega)
 have eW : orderW o = [w_order, itoaW o.id, w_by, itoaW o.owner, w_for, itoaW o.price, w_group, if o.group < 0 then w_none else itoaW o.group, if o.urgent then w_urgent else w_plain, w_known, itoaW o.known, w_due, itoaW o.due, w_colon] ++ goalW o.goal ++ [w_dot] := rfl
 rw [eW]
 clear eW
 generalize goalW o.goal = R at *
 have hV : ∀ L : List Wd, List.take (List.take 14 L ++ R).length (List.take 14 L ++ R) ++ List.take 1 (List.drop 0 [w_dot]) = List.take 14 L ++ R ++ [w_dot] := fun L => by rw [List.take_length]; rfl
 by_cases hgr : o.group < 0
 ·rw [if_pos hgr]
  clear q4
  cases hu : o.urgent with
  | true =>
   rw [if_pos rfl]
   rw [show [w_order, itoaW o.id, w_by, itoaW o.owner, w_for, itoaW o.price, w_group, w_none, w_urgent, w_known, itoaW o.known, w_due, itoaW o.due, w_colon] ++ R ++ [w_dot] = _ from (hV [w_order, itoaW o.id, w_by, itoaW o.owner, w_for, itoaW o.price, w_group, w_none, w_urgent, w_known, itoaW o.known, w_due, itoaW o.due, w_colon]).symm]
   refine meets_of_gx Ax tab_ok Tryz.func30 (c := _) rfl Tryz.call30 300 ?_
   (repeat' ((conv => whnf); first | (exfalso; omega) | (rw [hu] at hb; exact absurd hb (by decide)) | refine cpC (q1) ?_ | refine dpC (q1) ?_ | refine cpC (q2) ?_ | refine dpC (q2) ?_ | refine cpC (q3) ?_ | refine dpC (q3) ?_ | refine cpC (q5) ?_ | refine dpC (q5) ?_ | refine cpC (q6) ?_ | refine dpC (q6) ?_ | refine cpC (hg) ?_ | refine dpC (hg) ?_ | (refine end_fn [some 4] (.inr rfl) ?_ ?_ rfl rfl; (focus exact vwV); exact hsV) | refine x0C ?_ | refine spC (fun hb => ?_) fun hb => ?_ | refine nilC (fun hb => ?_) ?_ | refine taC ?_ | refine saC ?_ | exact sdV | refine side_and ?_ ?_ | refine drawX_of mixed ?_))
  | false =>
   rw [if_neg (by decide)]
   rw [show [w_order, itoaW o.id, w_by, itoaW o.owner, w_for, itoaW o.price, w_group, w_none, w_plain, w_known, itoaW o.known, w_due, itoaW o.due, w_colon] ++ R ++ [w_dot] = _ from (hV [w_order, itoaW o.id, w_by, itoaW o.owner, w_for, itoaW o.price, w_group, w_none, w_plain, w_known, itoaW o.known, w_due, itoaW o.due, w_colon]).symm]
   refine meets_of_gx Ax tab_ok Tryz.func30 (c := _) rfl Tryz.call30 300 ?_
   (repeat' ((conv => whnf); first | (exfalso; omega) | (rw [hu] at hb; exact absurd hb (by decide)) | refine cpC (q1) ?_ | refine dpC (q1) ?_ | refine cpC (q2) ?_ | refine dpC (q2) ?_ | refine cpC (q3) ?_ | refine dpC (q3) ?_ | refine cpC (q5) ?_ | refine dpC (q5) ?_ | refine cpC (q6) ?_ | refine dpC (q6) ?_ | refine cpC (hg) ?_ | refine dpC (hg) ?_ | (refine end_fn [some 4] (.inr rfl) ?_ ?_ rfl rfl; (focus exact vwV); exact hsV) | refine x0C ?_ | refine spC (fun hb => ?_) fun hb => ?_ | refine nilC (fun hb => ?_) ?_ | refine taC ?_ | refine saC ?_ | exact sdV | refine side_and ?_ ?_ | refine drawX_of mixed ?_))
 ·rw [if_neg hgr]
  have q4 := q4 hgr
  cases hu : o.urgent with
  | true =>
   rw [if_pos rfl]
   rw [show [w_order, itoaW o.id, w_by, itoaW o.owner, w_for, itoaW o.price, w_group, itoaW o.group, w_urgent, w_known, itoaW o.known, w_due, itoaW o.due, w_colon] ++ R ++ [w_dot] = _ from (hV [w_order, itoaW o.id, w_by, itoaW o.owner, w_for, itoaW o.price, w_group, itoaW o.group, w_urgent, w_known, itoaW o.known, w_due, itoaW o.due, w_colon]).symm]
   refine meets_of_gx Ax tab_ok Tryz.func30 (c := _) rfl Tryz.call30 300 ?_
   (repeat' ((conv => whnf); first | (exfalso; omega) | (rw [hu] at hb; exact absurd hb (by decide)) | refine cpC (q4) ?_ | refine dpC (q4) ?_ | refine cpC (q1) ?_ | refine dpC (q1) ?_ | refine cpC (q2) ?_ | refine dpC (q2) ?_ | refine cpC (q3) ?_ | refine dpC (q3) ?_ | refine cpC (q5) ?_ | refine dpC (q5) ?_ | refine cpC (q6) ?_ | refine dpC (q6) ?_ | refine cpC (hg) ?_ | refine dpC (hg) ?_ | (refine end_fn [some 4] (.inr rfl) ?_ ?_ rfl rfl; (focus exact vwV); exact hsV) | refine x0C ?_ | refine spC (fun hb => ?_) fun hb => ?_ | refine nilC (fun hb => ?_) ?_ | refine taC ?_ | refine saC ?_ | exact sdV | refine side_and ?_ ?_ | refine drawX_of mixed ?_))
  | false =>
   rw [if_neg (by decide)]
   rw [show [w_order, itoaW o.id, w_by, itoaW o.owner, w_for, itoaW o.price, w_group, itoaW o.group, w_plain, w_known, itoaW o.known, w_due, itoaW o.due, w_colon] ++ R ++ [w_dot] = _ from (hV [w_order, itoaW o.id, w_by, itoaW o.owner, w_for, itoaW o.price, w_group, itoaW o.group, w_plain, w_known, itoaW o.known, w_due, itoaW o.due, w_colon]).symm]
   refine meets_of_gx Ax tab_ok Tryz.func30 (c := _) rfl Tryz.call30 300 ?_
   (repeat' ((conv => whnf); first | (exfalso; omega) | (rw [hu] at hb; exact absurd hb (by decide)) | refine cpC (q4) ?_ | refine dpC (q4) ?_ | refine cpC (q1) ?_ | refine dpC (q1) ?_ | refine cpC (q2) ?_ | refine dpC (q2) ?_ | refine cpC (q3) ?_ | refine dpC (q3) ?_ | refine cpC (q5) ?_ | refine dpC (q5) ?_ | refine cpC (q6) ?_ | refine dpC (q6) ?_ | refine cpC (hg) ?_ | refine dpC (hg) ?_ | (refine end_fn [some 4] (.inr rfl) ?_ ?_ rfl rfl; (focus exact vwV); exact hsV) | refine x0C ?_ | refine spC (fun hb => ?_) fun hb => ?_ | refine nilC (fun hb => ?_) ?_ | refine taC ?_ | refine saC ?_ | exact sdV | refine side_and ?_ ?_ | refine drawX_of mixed ?_))
end Go.SX

/-
 Plain: what stands after the first wrong word plays no part; a text that is cut off before it is wrong where it ends.
-/
namespace Go.SX
/-! the words of an order, but for its end -/
def WordsAre (Q : Wd → Prop) (l : List Wd) : Prop := ∀ w ∈ l, Q w
theorem WordsAre.nil {Q : Wd → Prop} : WordsAre Q [] := fun w h => by cases h
theorem WordsAre.cons {Q : Wd → Prop} {w : Wd} {l : List Wd} (h : Q w) (hl : WordsAre Q l) : WordsAre Q (w :: l) := fun x hx => by
 rcases List.mem_cons.1 hx with rfl | hx
 ·exact h
 ·exact hl x hx
theorem WordsAre.app {Q : Wd → Prop} {a b : List Wd} (h : WordsAre Q a) (h' : WordsAre Q b) : WordsAre Q (a ++ b) := fun x hx => by
 rcases List.mem_append.1 hx with hx | hx
 ·exact h x hx
 ·exact h' x hx
/-! peeks -/
/-! texts -/
theorem joinTail_app (a b : List Wd) : Go.Lib.joinTail [32] (a ++ b) = Go.Lib.joinTail [32] a ++ Go.Lib.joinTail [32] b := by
 unfold Go.Lib.joinTail
 rw [List.map_append, List.flatten_append]
end Go.SX
