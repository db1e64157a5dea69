/-
  Walks: Uh8, Ui0, Uj7: what single functions of the program compute.
-/
import Derived.Test.YtijedffphgckmaaGreatDoorSxUh2
import Derived.Test.YtijedffphgckmaaGreatDoorSxUb9
import Derived.Test.YtijedffphgckmaaGreatDoorSxUd4
import Derived.Test.YtijedffphgckmaaGreatDoorSxOr6
set_option linter.unusedVariables false
set_option linter.unusedSimpArgs false
namespace Go.SX
open Go.Proofs
set_option maxHeartbeats 400000000
set_option maxRecDepth 100000
theorem y8t (s : Wd) (hs : s.length ≤ 2000000) : q07 Tryz.prog Dc 26 [wS s] [] (.tuple [qb4 (z0w s).1, iS (z0w s).2.1, iS (z0w s).2.2]) [] := by
 unfold z0w
 by_cases hl : 20000 < s.length
 ·rw [if_pos hl]
  refine q00 Ax q03 Tryz.func26 (c := _) rfl Tryz.call26 100 ?_
  (repeat' ((conv => whnf); first | (exfalso; omega) | (refine q08 [] (.inr rfl) ?_ ?_ rfl rfl; (focus exact vwV); exact hsV) | refine x0C ?_ | refine spC (fun hb => ?_) fun hb => ?_ | refine q52 (fun hb => ?_) ?_ | refine taC ?_ | refine saC ?_ | exact sdV | refine q0b ?_ ?_ | refine q02 mixed ?_))
 rw [if_neg hl]
 have qt := z3z s hs
 have hn : q74 (q0j s) := z0z (by omega)
 have hi0 : InW (q0j s) 0 11 := ⟨by omega, by omega, by omega, by omega⟩
 obtain ⟨S, hS⟩ : ∃ S, q7f (q0j s) 0 false 11 = S := ⟨_, rfl⟩
 rw [hS]
 generalize q0j s = ws at *
 obtain ⟨a0, ha0⟩ : ∃ a0 : Int, a0 = 0 := ⟨_, rfl⟩
 obtain ⟨w0, hw0⟩ : ∃ w0 : Bool, w0 = false := ⟨_, rfl⟩
 obtain ⟨m0, hm0⟩ : ∃ m0 : Int, m0 = 11 := ⟨_, rfl⟩
 replace hS : q7f ws a0 w0 m0 = S := by rw [ha0, hw0, hm0]; exact hS
 replace hi0 : InW ws a0 m0 := by rw [ha0, hm0]; exact hi0
 unfold q7f at hS
 have q1 := q34 hi0 hn w0 [q0w] (by simp)
 have hi1 := q0h ws [q0w] a0 w0 m0 hi0
 generalize q0c ws [q0w] a0 w0 m0 = x1 at *
 obtain ⟨v1, a1, w1, m1⟩ := x1
 simp only [q05] at hS
 dsimp only at q1 hi1
 have q2 := q27 hi1 hn w1 0 63
 have hi2 := q1w ws 0 63 a1 w1 m1 hi1
 have b2 := q3d (ws := ws) (lo := 0) (h := 63) (a := a1) (m := m1) (w := w1) (by omega) (by omega)
 generalize q2l ws 0 63 a1 w1 m1 = x2 at *
 obtain ⟨v2, a2, w2, m2⟩ := x2
 simp only [q05] at hS
 dsimp only at q2 hi2 b2
 have q3 := q34 hi2 hn w2 [q6s] (by simp)
 have hi3 := q0h ws [q6s] a2 w2 m2 hi2
 generalize q0c ws [q6s] a2 w2 m2 = x3 at *
 obtain ⟨v3, a3, w3, m3⟩ := x3
 simp only [q05] at hS
 dsimp only at q3 hi3
 have q4 := q27 hi3 hn w3 0 15
 have hi4 := q1w ws 0 15 a3 w3 m3 hi3
 have b4 := q3d (ws := ws) (lo := 0) (h := 15) (a := a3) (m := m3) (w := w3) (by omega) (by omega)
 generalize q2l ws 0 15 a3 w3 m3 = x4 at *
 obtain ⟨v4, a4, w4, m4⟩ := x4
 simp only [q05] at hS
 dsimp only at q4 hi4 b4
 have q5 := q34 hi4 hn w4 [q2n] (by simp)
 have hi5 := q0h ws [q2n] a4 w4 m4 hi4
 generalize q0c ws [q2n] a4 w4 m4 = x5 at *
 obtain ⟨v5, a5, w5, m5⟩ := x5
 simp only [q05] at hS
 dsimp only at q5 hi5
 have q6 := q27 hi5 hn w5 0 1000000000
 have hi6 := q1w ws 0 1000000000 a5 w5 m5 hi5
 have b6 := q3d (ws := ws) (lo := 0) (h := 1000000000) (a := a5) (m := m5) (w := w5) (by omega) (by omega)
 generalize q2l ws 0 1000000000 a5 w5 m5 = x6 at *
 obtain ⟨v6, a6, w6, m6⟩ := x6
 simp only [q05] at hS
 dsimp only at q6 hi6 b6
 have q7 := q34 hi6 hn w6 [q0x] (by simp)
 have hi7 := q0h ws [q0x] a6 w6 m6 hi6
 generalize q0c ws [q0x] a6 w6 m6 = x7 at *
 obtain ⟨v7, a7, w7, m7⟩ := x7
 simp only [q05] at hS
 dsimp only at q7 hi7
 unfold z54 at hS
 have q8 := xis hi7 hn w7 q36
 have hi8 := z3s ws q36 a7 w7 m7 hi7
 generalize xIs ws q36 a7 w7 m7 = x8 at *
 obtain ⟨v8, a8, w8, m8⟩ := x8
 simp only [q05] at hS
 dsimp only at q8 hi8
 cases v8 with
 | true =>
  rw [if_pos rfl] at hS
  simp only [q05] at hS
  unfold qy3 at hS
  have q9 := xis hi8 hn w8 q1j
  have hi9 := z3s ws q1j a8 w8 m8 hi8
  generalize xIs ws q1j a8 w8 m8 = x9 at *
  obtain ⟨v9, a9, w9, m9⟩ := x9
  simp only [q05] at hS
  dsimp only at q9 hi9
  cases v9 with
  | true =>
   rw [if_pos rfl] at hS
   simp only [q05] at hS
   have q10 := q34 hi9 hn w9 [q19] (by simp)
   have hi10 := q0h ws [q19] a9 w9 m9 hi9
   generalize q0c ws [q19] a9 w9 m9 = x10 at *
   obtain ⟨v10, a10, w10, m10⟩ := x10
   simp only [q05] at hS
   dsimp only at q10 hi10
   have q11 := q27 hi10 hn w10 0 999999
   have hi11 := q1w ws 0 999999 a10 w10 m10 hi10
   have b11 := q3d (ws := ws) (lo := 0) (h := 999999) (a := a10) (m := m10) (w := w10) (by omega) (by omega)
   generalize q2l ws 0 999999 a10 w10 m10 = x11 at *
   obtain ⟨v11, a11, w11, m11⟩ := x11
   simp only [q05] at hS
   dsimp only at q11 hi11 b11
   have q12 := q34 hi11 hn w11 [q2w] (by simp)
   have hi12 := q0h ws [q2w] a11 w11 m11 hi11
   generalize q0c ws [q2w] a11 w11 m11 = x12 at *
   obtain ⟨v12, a12, w12, m12⟩ := x12
   simp only [q05] at hS
   dsimp only at q12 hi12
   have q13 := q27 hi12 hn w12 (v11 + 1) 1000000
   have hi13 := q1w ws (v11 + 1) 1000000 a12 w12 m12 hi12
   have b13 := q3d (ws := ws) (lo := (v11 + 1)) (h := 1000000) (a := a12) (m := m12) (w := w12) (by omega) (by omega)
   generalize q2l ws (v11 + 1) 1000000 a12 w12 m12 = x13 at *
   obtain ⟨v13, a13, w13, m13⟩ := x13
   simp only [q05] at hS
   dsimp only at q13 hi13 b13
   have q14 := q34 hi13 hn w13 [q1a] (by simp)
   have hi14 := q0h ws [q1a] a13 w13 m13 hi13
   generalize q0c ws [q1a] a13 w13 m13 = x14 at *
   obtain ⟨v14, a14, w14, m14⟩ := x14
   simp only [q05] at hS
   dsimp only at q14 hi14
   have q15 := zs6 hn 5 (by omega) (by omega) 6 1 a14 m14 w14 hi14 (by omega) (fun h => by omega)
   have hi15 := ql5 ws 5 6 1 a14 w14 m14 hi14
   unfold MG at q15
   generalize q71 ws 5 6 1 a14 w14 m14 = x15 at *
   obtain ⟨v15, a15, w15, m15⟩ := x15
   simp only [q05] at hS
   dsimp only at q15 hi15
   have q16 := q34 hi15 hn w15 [q3z] (by simp)
   have hi16 := q0h ws [q3z] a15 w15 m15 hi15
   generalize q0c ws [q3z] a15 w15 m15 = x16 at *
   obtain ⟨v16, a16, w16, m16⟩ := x16
   simp only [q05] at hS
   dsimp only at q16 hi16
   obtain ⟨SO, sa, sw, sm⟩ := S
   dsimp only
   by_cases hfin : sw = true ∨ sa < ws.length
   ·rw [if_pos hfin]
    dsimp only
    injection hS with e1 e2
    injection e2 with e2 e3
    injection e3 with e3 e4
    subst e2 e3
    subst ha0 hw0 hm0
    by_cases hsw : w16 = true
    ·rw [hsw] at q16
     refine q00 Ax q03 Tryz.func26 (c := _) rfl Tryz.call26 900 ?_
     (repeat' ((conv => whnf); first | (exfalso; omega) | refine cpC (qt) ?_ | refine dpC (qt) ?_ | (refine q01 [some 1, some _] q1 rfl rfl ⟨rfl, rfl, trivial⟩ ?_) | (refine q01 [some 1] q2 rfl rfl ⟨rfl, trivial⟩ ?_) | (refine q01 [some 1, some _] q3 rfl rfl ⟨rfl, rfl, trivial⟩ ?_) | (refine q01 [some 1] q4 rfl rfl ⟨rfl, trivial⟩ ?_) | (refine q01 [some 1, some _] q5 rfl rfl ⟨rfl, rfl, trivial⟩ ?_) | (refine q01 [some 1] q6 rfl rfl ⟨rfl, trivial⟩ ?_) | (refine q01 [some 1, some _] q7 rfl rfl ⟨rfl, rfl, trivial⟩ ?_) | (refine q01 [some 1] q8 rfl rfl ⟨rfl, trivial⟩ ?_) | (refine q01 [some 1] q9 rfl rfl ⟨rfl, trivial⟩ ?_) | (refine q01 [some 1, some _] q10 rfl rfl ⟨rfl, rfl, trivial⟩ ?_) | (refine q01 [some 1] q11 rfl rfl ⟨rfl, trivial⟩ ?_) | (refine q01 [some 1, some _] q12 rfl rfl ⟨rfl, rfl, trivial⟩ ?_) | (refine q01 [some 1] q13 rfl rfl ⟨rfl, trivial⟩ ?_) | (refine q01 [some 1, some _] q14 rfl rfl ⟨rfl, rfl, trivial⟩ ?_) | (refine q01 [some 1] q15 rfl rfl ⟨rfl, trivial⟩ ?_) | (refine q01 [some 1, some _] q16 rfl rfl ⟨rfl, rfl, trivial⟩ ?_) | (refine q08 [] (.inr rfl) ?_ ?_ rfl rfl; (focus exact vwV); exact hsV) | refine x0C ?_ | refine spC (fun hb => ?_) fun hb => ?_ | refine q52 (fun hb => ?_) ?_ | refine taC ?_ | refine saC ?_ | exact sdV | refine q0b ?_ ?_ | refine q02 mixed ?_))
    ·have hsw : w16 = false := by simpa using hsw
     rw [hsw] at q16
     have hlt : a16 < ws.length := by rcases hfin with h | h; rw [hsw] at h; cases h; exact h
     refine q00 Ax q03 Tryz.func26 (c := _) rfl Tryz.call26 900 ?_
     (repeat' ((conv => whnf); first | (exfalso; omega) | refine cpC (qt) ?_ | refine dpC (qt) ?_ | (refine q01 [some 1, some _] q1 rfl rfl ⟨rfl, rfl, trivial⟩ ?_) | (refine q01 [some 1] q2 rfl rfl ⟨rfl, trivial⟩ ?_) | (refine q01 [some 1, some _] q3 rfl rfl ⟨rfl, rfl, trivial⟩ ?_) | (refine q01 [some 1] q4 rfl rfl ⟨rfl, trivial⟩ ?_) | (refine q01 [some 1, some _] q5 rfl rfl ⟨rfl, rfl, trivial⟩ ?_) | (refine q01 [some 1] q6 rfl rfl ⟨rfl, trivial⟩ ?_) | (refine q01 [some 1, some _] q7 rfl rfl ⟨rfl, rfl, trivial⟩ ?_) | (refine q01 [some 1] q8 rfl rfl ⟨rfl, trivial⟩ ?_) | (refine q01 [some 1] q9 rfl rfl ⟨rfl, trivial⟩ ?_) | (refine q01 [some 1, some _] q10 rfl rfl ⟨rfl, rfl, trivial⟩ ?_) | (refine q01 [some 1] q11 rfl rfl ⟨rfl, trivial⟩ ?_) | (refine q01 [some 1, some _] q12 rfl rfl ⟨rfl, rfl, trivial⟩ ?_) | (refine q01 [some 1] q13 rfl rfl ⟨rfl, trivial⟩ ?_) | (refine q01 [some 1, some _] q14 rfl rfl ⟨rfl, rfl, trivial⟩ ?_) | (refine q01 [some 1] q15 rfl rfl ⟨rfl, trivial⟩ ?_) | (refine q01 [some 1, some _] q16 rfl rfl ⟨rfl, rfl, trivial⟩ ?_) | (refine q08 [] (.inr rfl) ?_ ?_ rfl rfl; (focus exact vwV); exact hsV) | refine x0C ?_ | refine spC (fun hb => ?_) fun hb => ?_ | refine q52 (fun hb => ?_) ?_ | refine taC ?_ | refine saC ?_ | exact sdV | refine q0b ?_ ?_ | refine q02 mixed ?_))
   ·rw [if_neg hfin]
    dsimp only
    simp only [not_or] at hfin
    rw [← q8m v15] at hS
    injection hS with e1 e2
    injection e2 with e2 e3
    injection e3 with e3 e4
    subst e1 e2 e3
    subst ha0 hw0 hm0
    have hsw : w16 = false := by simpa using hfin.1
    have hge := hfin.2
    rw [hsw] at q16
    refine q00 Ax q03 Tryz.func26 (c := _) rfl Tryz.call26 900 ?_
    (repeat' ((conv => whnf); first | (exfalso; omega) | refine cpC (qt) ?_ | refine dpC (qt) ?_ | (refine q01 [some 1, some _] q1 rfl rfl ⟨rfl, rfl, trivial⟩ ?_) | (refine q01 [some 1] q2 rfl rfl ⟨rfl, trivial⟩ ?_) | (refine q01 [some 1, some _] q3 rfl rfl ⟨rfl, rfl, trivial⟩ ?_) | (refine q01 [some 1] q4 rfl rfl ⟨rfl, trivial⟩ ?_) | (refine q01 [some 1, some _] q5 rfl rfl ⟨rfl, rfl, trivial⟩ ?_) | (refine q01 [some 1] q6 rfl rfl ⟨rfl, trivial⟩ ?_) | (refine q01 [some 1, some _] q7 rfl rfl ⟨rfl, rfl, trivial⟩ ?_) | (refine q01 [some 1] q8 rfl rfl ⟨rfl, trivial⟩ ?_) | (refine q01 [some 1] q9 rfl rfl ⟨rfl, trivial⟩ ?_) | (refine q01 [some 1, some _] q10 rfl rfl ⟨rfl, rfl, trivial⟩ ?_) | (refine q01 [some 1] q11 rfl rfl ⟨rfl, trivial⟩ ?_) | (refine q01 [some 1, some _] q12 rfl rfl ⟨rfl, rfl, trivial⟩ ?_) | (refine q01 [some 1] q13 rfl rfl ⟨rfl, trivial⟩ ?_) | (refine q01 [some 1, some _] q14 rfl rfl ⟨rfl, rfl, trivial⟩ ?_) | (refine q01 [some 1] q15 rfl rfl ⟨rfl, trivial⟩ ?_) | (refine q01 [some 1, some _] q16 rfl rfl ⟨rfl, rfl, trivial⟩ ?_) | (refine q08 [] (.inr rfl) ?_ ?_ rfl rfl; (focus exact vwV); exact hsV) | refine x0C ?_ | refine spC (fun hb => ?_) fun hb => ?_ | refine q52 (fun hb => ?_) ?_ | refine taC ?_ | refine saC ?_ | exact sdV | refine q0b ?_ ?_ | refine q02 mixed ?_))
  | false =>
   rw [if_neg (by decide)] at hS
   have q10 := q34 hi9 hn w9 [q23] (by simp)
   have hi10 := q0h ws [q23] a9 w9 m9 hi9
   generalize q0c ws [q23] a9 w9 m9 = x10 at *
   obtain ⟨v10, a10, w10, m10⟩ := x10
   simp only [q05] at hS
   dsimp only at q10 hi10
   have q11 := q34 hi10 hn w10 [q19] (by simp)
   have hi11 := q0h ws [q19] a10 w10 m10 hi10
   generalize q0c ws [q19] a10 w10 m10 = x11 at *
   obtain ⟨v11, a11, w11, m11⟩ := x11
   simp only [q05] at hS
   dsimp only at q11 hi11
   have q12 := q27 hi11 hn w11 0 999999
   have hi12 := q1w ws 0 999999 a11 w11 m11 hi11
   have b12 := q3d (ws := ws) (lo := 0) (h := 999999) (a := a11) (m := m11) (w := w11) (by omega) (by omega)
   generalize q2l ws 0 999999 a11 w11 m11 = x12 at *
   obtain ⟨v12, a12, w12, m12⟩ := x12
   simp only [q05] at hS
   dsimp only at q12 hi12 b12
   have q13 := q34 hi12 hn w12 [q2w] (by simp)
   have hi13 := q0h ws [q2w] a12 w12 m12 hi12
   generalize q0c ws [q2w] a12 w12 m12 = x13 at *
   obtain ⟨v13, a13, w13, m13⟩ := x13
   simp only [q05] at hS
   dsimp only at q13 hi13
   have q14 := q27 hi13 hn w13 (v12 + 1) 1000000
   have hi14 := q1w ws (v12 + 1) 1000000 a13 w13 m13 hi13
   have b14 := q3d (ws := ws) (lo := (v12 + 1)) (h := 1000000) (a := a13) (m := m13) (w := w13) (by omega) (by omega)
   generalize q2l ws (v12 + 1) 1000000 a13 w13 m13 = x14 at *
   obtain ⟨v14, a14, w14, m14⟩ := x14
   simp only [q05] at hS
   dsimp only at q14 hi14 b14
   have q15 := q34 hi14 hn w14 [q1a] (by simp)
   have hi15 := q0h ws [q1a] a14 w14 m14 hi14
   generalize q0c ws [q1a] a14 w14 m14 = x15 at *
   obtain ⟨v15, a15, w15, m15⟩ := x15
   simp only [q05] at hS
   dsimp only at q15 hi15
   have q16 := zs6 hn 5 (by omega) (by omega) 6 1 a15 m15 w15 hi15 (by omega) (fun h => by omega)
   have hi16 := ql5 ws 5 6 1 a15 w15 m15 hi15
   unfold MG at q16
   generalize q71 ws 5 6 1 a15 w15 m15 = x16 at *
   obtain ⟨v16, a16, w16, m16⟩ := x16
   simp only [q05] at hS
   dsimp only at q16 hi16
   have q17 := q34 hi16 hn w16 [q3z] (by simp)
   have hi17 := q0h ws [q3z] a16 w16 m16 hi16
   generalize q0c ws [q3z] a16 w16 m16 = x17 at *
   obtain ⟨v17, a17, w17, m17⟩ := x17
   simp only [q05] at hS
   dsimp only at q17 hi17
   obtain ⟨SO, sa, sw, sm⟩ := S
   dsimp only
   by_cases hfin : sw = true ∨ sa < ws.length
   ·rw [if_pos hfin]
    dsimp only
    injection hS with e1 e2
    injection e2 with e2 e3
    injection e3 with e3 e4
    subst e2 e3
    subst ha0 hw0 hm0
    by_cases hsw : w17 = true
    ·rw [hsw] at q17
     refine q00 Ax q03 Tryz.func26 (c := _) rfl Tryz.call26 900 ?_
     (repeat' ((conv => whnf); first | (exfalso; omega) | refine cpC (qt) ?_ | refine dpC (qt) ?_ | (refine q01 [some 1, some _] q1 rfl rfl ⟨rfl, rfl, trivial⟩ ?_) | (refine q01 [some 1] q2 rfl rfl ⟨rfl, trivial⟩ ?_) | (refine q01 [some 1, some _] q3 rfl rfl ⟨rfl, rfl, trivial⟩ ?_) | (refine q01 [some 1] q4 rfl rfl ⟨rfl, trivial⟩ ?_) | (refine q01 [some 1, some _] q5 rfl rfl ⟨rfl, rfl, trivial⟩ ?_) | (refine q01 [some 1] q6 rfl rfl ⟨rfl, trivial⟩ ?_) | (refine q01 [some 1, some _] q7 rfl rfl ⟨rfl, rfl, trivial⟩ ?_) | (refine q01 [some 1] q8 rfl rfl ⟨rfl, trivial⟩ ?_) | (refine q01 [some 1] q9 rfl rfl ⟨rfl, trivial⟩ ?_) | (refine q01 [some 1, some _] q10 rfl rfl ⟨rfl, rfl, trivial⟩ ?_) | (refine q01 [some 1, some _] q11 rfl rfl ⟨rfl, rfl, trivial⟩ ?_) | (refine q01 [some 1] q12 rfl rfl ⟨rfl, trivial⟩ ?_) | (refine q01 [some 1, some _] q13 rfl rfl ⟨rfl, rfl, trivial⟩ ?_) | (refine q01 [some 1] q14 rfl rfl ⟨rfl, trivial⟩ ?_) | (refine q01 [some 1, some _] q15 rfl rfl ⟨rfl, rfl, trivial⟩ ?_) | (refine q01 [some 1] q16 rfl rfl ⟨rfl, trivial⟩ ?_) | (refine q01 [some 1, some _] q17 rfl rfl ⟨rfl, rfl, trivial⟩ ?_) | (refine q08 [] (.inr rfl) ?_ ?_ rfl rfl; (focus exact vwV); exact hsV) | refine x0C ?_ | refine spC (fun hb => ?_) fun hb => ?_ | refine q52 (fun hb => ?_) ?_ | refine taC ?_ | refine saC ?_ | exact sdV | refine q0b ?_ ?_ | refine q02 mixed ?_))
    ·have hsw : w17 = false := by simpa using hsw
     rw [hsw] at q17
     have hlt : a17 < ws.length := by rcases hfin with h | h; rw [hsw] at h; cases h; exact h
     refine q00 Ax q03 Tryz.func26 (c := _) rfl Tryz.call26 900 ?_
     (repeat' ((conv => whnf); first | (exfalso; omega) | refine cpC (qt) ?_ | refine dpC (qt) ?_ | (refine q01 [some 1, some _] q1 rfl rfl ⟨rfl, rfl, trivial⟩ ?_) | (refine q01 [some 1] q2 rfl rfl ⟨rfl, trivial⟩ ?_) | (refine q01 [some 1, some _] q3 rfl rfl ⟨rfl, rfl, trivial⟩ ?_) | (refine q01 [some 1] q4 rfl rfl ⟨rfl, trivial⟩ ?_) | (refine q01 [some 1, some _] q5 rfl rfl ⟨rfl, rfl, trivial⟩ ?_) | (refine q01 [some 1] q6 rfl rfl ⟨rfl, trivial⟩ ?_) | (refine q01 [some 1, some _] q7 rfl rfl ⟨rfl, rfl, trivial⟩ ?_) | (refine q01 [some 1] q8 rfl rfl ⟨rfl, trivial⟩ ?_) | (refine q01 [some 1] q9 rfl rfl ⟨rfl, trivial⟩ ?_) | (refine q01 [some 1, some _] q10 rfl rfl ⟨rfl, rfl, trivial⟩ ?_) | (refine q01 [some 1, some _] q11 rfl rfl ⟨rfl, rfl, trivial⟩ ?_) | (refine q01 [some 1] q12 rfl rfl ⟨rfl, trivial⟩ ?_) | (refine q01 [some 1, some _] q13 rfl rfl ⟨rfl, rfl, trivial⟩ ?_) | (refine q01 [some 1] q14 rfl rfl ⟨rfl, trivial⟩ ?_) | (refine q01 [some 1, some _] q15 rfl rfl ⟨rfl, rfl, trivial⟩ ?_) | (refine q01 [some 1] q16 rfl rfl ⟨rfl, trivial⟩ ?_) | (refine q01 [some 1, some _] q17 rfl rfl ⟨rfl, rfl, trivial⟩ ?_) | (refine q08 [] (.inr rfl) ?_ ?_ rfl rfl; (focus exact vwV); exact hsV) | refine x0C ?_ | refine spC (fun hb => ?_) fun hb => ?_ | refine q52 (fun hb => ?_) ?_ | refine taC ?_ | refine saC ?_ | exact sdV | refine q0b ?_ ?_ | refine q02 mixed ?_))
   ·rw [if_neg hfin]
    dsimp only
    simp only [not_or] at hfin
    rw [← q8m v16] at hS
    injection hS with e1 e2
    injection e2 with e2 e3
    injection e3 with e3 e4
    subst e1 e2 e3
    subst ha0 hw0 hm0
    have hsw : w17 = false := by simpa using hfin.1
    have hge := hfin.2
    rw [hsw] at q17
    refine q00 Ax q03 Tryz.func26 (c := _) rfl Tryz.call26 900 ?_
    (repeat' ((conv => whnf); first | (exfalso; omega) | refine cpC (qt) ?_ | refine dpC (qt) ?_ | (refine q01 [some 1, some _] q1 rfl rfl ⟨rfl, rfl, trivial⟩ ?_) | (refine q01 [some 1] q2 rfl rfl ⟨rfl, trivial⟩ ?_) | (refine q01 [some 1, some _] q3 rfl rfl ⟨rfl, rfl, trivial⟩ ?_) | (refine q01 [some 1] q4 rfl rfl ⟨rfl, trivial⟩ ?_) | (refine q01 [some 1, some _] q5 rfl rfl ⟨rfl, rfl, trivial⟩ ?_) | (refine q01 [some 1] q6 rfl rfl ⟨rfl, trivial⟩ ?_) | (refine q01 [some 1, some _] q7 rfl rfl ⟨rfl, rfl, trivial⟩ ?_) | (refine q01 [some 1] q8 rfl rfl ⟨rfl, trivial⟩ ?_) | (refine q01 [some 1] q9 rfl rfl ⟨rfl, trivial⟩ ?_) | (refine q01 [some 1, some _] q10 rfl rfl ⟨rfl, rfl, trivial⟩ ?_) | (refine q01 [some 1, some _] q11 rfl rfl ⟨rfl, rfl, trivial⟩ ?_) | (refine q01 [some 1] q12 rfl rfl ⟨rfl, trivial⟩ ?_) | (refine q01 [some 1, some _] q13 rfl rfl ⟨rfl, rfl, trivial⟩ ?_) | (refine q01 [some 1] q14 rfl rfl ⟨rfl, trivial⟩ ?_) | (refine q01 [some 1, some _] q15 rfl rfl ⟨rfl, rfl, trivial⟩ ?_) | (refine q01 [some 1] q16 rfl rfl ⟨rfl, trivial⟩ ?_) | (refine q01 [some 1, some _] q17 rfl rfl ⟨rfl, rfl, trivial⟩ ?_) | (refine q08 [] (.inr rfl) ?_ ?_ rfl rfl; (focus exact vwV); exact hsV) | refine x0C ?_ | refine spC (fun hb => ?_) fun hb => ?_ | refine q52 (fun hb => ?_) ?_ | refine taC ?_ | refine saC ?_ | exact sdV | refine q0b ?_ ?_ | refine q02 mixed ?_))
 | false =>
  rw [if_neg (by decide)] at hS
  have q9 := q27 hi8 hn w8 0 15
  have hi9 := q1w ws 0 15 a8 w8 m8 hi8
  have b9 := q3d (ws := ws) (lo := 0) (h := 15) (a := a8) (m := m8) (w := w8) (by omega) (by omega)
  generalize q2l ws 0 15 a8 w8 m8 = x9 at *
  obtain ⟨v9, a9, w9, m9⟩ := x9
  simp only [q05] at hS
  dsimp only at q9 hi9 b9
  unfold qy3 at hS
  have q10 := xis hi9 hn w9 q1j
  have hi10 := z3s ws q1j a9 w9 m9 hi9
  generalize xIs ws q1j a9 w9 m9 = x10 at *
  obtain ⟨v10, a10, w10, m10⟩ := x10
  simp only [q05] at hS
  dsimp only at q10 hi10
  cases v10 with
  | true =>
   rw [if_pos rfl] at hS
   simp only [q05] at hS
   have q11 := q34 hi10 hn w10 [q19] (by simp)
   have hi11 := q0h ws [q19] a10 w10 m10 hi10
   generalize q0c ws [q19] a10 w10 m10 = x11 at *
   obtain ⟨v11, a11, w11, m11⟩ := x11
   simp only [q05] at hS
   dsimp only at q11 hi11
   have q12 := q27 hi11 hn w11 0 999999
   have hi12 := q1w ws 0 999999 a11 w11 m11 hi11
   have b12 := q3d (ws := ws) (lo := 0) (h := 999999) (a := a11) (m := m11) (w := w11) (by omega) (by omega)
   generalize q2l ws 0 999999 a11 w11 m11 = x12 at *
   obtain ⟨v12, a12, w12, m12⟩ := x12
   simp only [q05] at hS
   dsimp only at q12 hi12 b12
   have q13 := q34 hi12 hn w12 [q2w] (by simp)
   have hi13 := q0h ws [q2w] a12 w12 m12 hi12
   generalize q0c ws [q2w] a12 w12 m12 = x13 at *
   obtain ⟨v13, a13, w13, m13⟩ := x13
   simp only [q05] at hS
   dsimp only at q13 hi13
   have q14 := q27 hi13 hn w13 (v12 + 1) 1000000
   have hi14 := q1w ws (v12 + 1) 1000000 a13 w13 m13 hi13
   have b14 := q3d (ws := ws) (lo := (v12 + 1)) (h := 1000000) (a := a13) (m := m13) (w := w13) (by omega) (by omega)
   generalize q2l ws (v12 + 1) 1000000 a13 w13 m13 = x14 at *
   obtain ⟨v14, a14, w14, m14⟩ := x14
   simp only [q05] at hS
   dsimp only at q14 hi14 b14
   have q15 := q34 hi14 hn w14 [q1a] (by simp)
   have hi15 := q0h ws [q1a] a14 w14 m14 hi14
   generalize q0c ws [q1a] a14 w14 m14 = x15 at *
   obtain ⟨v15, a15, w15, m15⟩ := x15
   simp only [q05] at hS
   dsimp only at q15 hi15
   have q16 := zs6 hn 5 (by omega) (by omega) 6 1 a15 m15 w15 hi15 (by omega) (fun h => by omega)
   have hi16 := ql5 ws 5 6 1 a15 w15 m15 hi15
   unfold MG at q16
   generalize q71 ws 5 6 1 a15 w15 m15 = x16 at *
   obtain ⟨v16, a16, w16, m16⟩ := x16
   simp only [q05] at hS
   dsimp only at q16 hi16
   have q17 := q34 hi16 hn w16 [q3z] (by simp)
   have hi17 := q0h ws [q3z] a16 w16 m16 hi16
   generalize q0c ws [q3z] a16 w16 m16 = x17 at *
   obtain ⟨v17, a17, w17, m17⟩ := x17
   simp only [q05] at hS
   dsimp only at q17 hi17
   obtain ⟨SO, sa, sw, sm⟩ := S
   dsimp only
   by_cases hfin : sw = true ∨ sa < ws.length
   ·rw [if_pos hfin]
    dsimp only
    injection hS with e1 e2
    injection e2 with e2 e3
    injection e3 with e3 e4
    subst e2 e3
    subst ha0 hw0 hm0
    by_cases hsw : w17 = true
    ·rw [hsw] at q17
     refine q00 Ax q03 Tryz.func26 (c := _) rfl Tryz.call26 900 ?_
     (repeat' ((conv => whnf); first | (exfalso; omega) | refine cpC (qt) ?_ | refine dpC (qt) ?_ | (refine q01 [some 1, some _] q1 rfl rfl ⟨rfl, rfl, trivial⟩ ?_) | (refine q01 [some 1] q2 rfl rfl ⟨rfl, trivial⟩ ?_) | (refine q01 [some 1, some _] q3 rfl rfl ⟨rfl, rfl, trivial⟩ ?_) | (refine q01 [some 1] q4 rfl rfl ⟨rfl, trivial⟩ ?_) | (refine q01 [some 1, some _] q5 rfl rfl ⟨rfl, rfl, trivial⟩ ?_) | (refine q01 [some 1] q6 rfl rfl ⟨rfl, trivial⟩ ?_) | (refine q01 [some 1, some _] q7 rfl rfl ⟨rfl, rfl, trivial⟩ ?_) | (refine q01 [some 1] q8 rfl rfl ⟨rfl, trivial⟩ ?_) | (refine q01 [some 1] q9 rfl rfl ⟨rfl, trivial⟩ ?_) | (refine q01 [some 1] q10 rfl rfl ⟨rfl, trivial⟩ ?_) | (refine q01 [some 1, some _] q11 rfl rfl ⟨rfl, rfl, trivial⟩ ?_) | (refine q01 [some 1] q12 rfl rfl ⟨rfl, trivial⟩ ?_) | (refine q01 [some 1, some _] q13 rfl rfl ⟨rfl, rfl, trivial⟩ ?_) | (refine q01 [some 1] q14 rfl rfl ⟨rfl, trivial⟩ ?_) | (refine q01 [some 1, some _] q15 rfl rfl ⟨rfl, rfl, trivial⟩ ?_) | (refine q01 [some 1] q16 rfl rfl ⟨rfl, trivial⟩ ?_) | (refine q01 [some 1, some _] q17 rfl rfl ⟨rfl, rfl, trivial⟩ ?_) | (refine q08 [] (.inr rfl) ?_ ?_ rfl rfl; (focus exact vwV); exact hsV) | refine x0C ?_ | refine spC (fun hb => ?_) fun hb => ?_ | refine q52 (fun hb => ?_) ?_ | refine taC ?_ | refine saC ?_ | exact sdV | refine q0b ?_ ?_ | refine q02 mixed ?_))
    ·have hsw : w17 = false := by simpa using hsw
     rw [hsw] at q17
     have hlt : a17 < ws.length := by rcases hfin with h | h; rw [hsw] at h; cases h; exact h
     refine q00 Ax q03 Tryz.func26 (c := _) rfl Tryz.call26 900 ?_
     (repeat' ((conv => whnf); first | (exfalso; omega) | refine cpC (qt) ?_ | refine dpC (qt) ?_ | (refine q01 [some 1, some _] q1 rfl rfl ⟨rfl, rfl, trivial⟩ ?_) | (refine q01 [some 1] q2 rfl rfl ⟨rfl, trivial⟩ ?_) | (refine q01 [some 1, some _] q3 rfl rfl ⟨rfl, rfl, trivial⟩ ?_) | (refine q01 [some 1] q4 rfl rfl ⟨rfl, trivial⟩ ?_) | (refine q01 [some 1, some _] q5 rfl rfl ⟨rfl, rfl, trivial⟩ ?_) | (refine q01 [some 1] q6 rfl rfl ⟨rfl, trivial⟩ ?_) | (refine q01 [some 1, some _] q7 rfl rfl ⟨rfl, rfl, trivial⟩ ?_) | (refine q01 [some 1] q8 rfl rfl ⟨rfl, trivial⟩ ?_) | (refine q01 [some 1] q9 rfl rfl ⟨rfl, trivial⟩ ?_) | (refine q01 [some 1] q10 rfl rfl ⟨rfl, trivial⟩ ?_) | (refine q01 [some 1, some _] q11 rfl rfl ⟨rfl, rfl, trivial⟩ ?_) | (refine q01 [some 1] q12 rfl rfl ⟨rfl, trivial⟩ ?_) | (refine q01 [some 1, some _] q13 rfl rfl ⟨rfl, rfl, trivial⟩ ?_) | (refine q01 [some 1] q14 rfl rfl ⟨rfl, trivial⟩ ?_) | (refine q01 [some 1, some _] q15 rfl rfl ⟨rfl, rfl, trivial⟩ ?_) | (refine q01 [some 1] q16 rfl rfl ⟨rfl, trivial⟩ ?_) | (refine q01 [some 1, some _] q17 rfl rfl ⟨rfl, rfl, trivial⟩ ?_) | (refine q08 [] (.inr rfl) ?_ ?_ rfl rfl; (focus exact vwV); exact hsV) | refine x0C ?_ | refine spC (fun hb => ?_) fun hb => ?_ | refine q52 (fun hb => ?_) ?_ | refine taC ?_ | refine saC ?_ | exact sdV | refine q0b ?_ ?_ | refine q02 mixed ?_))
   ·rw [if_neg hfin]
    dsimp only
    simp only [not_or] at hfin
    rw [← q8m v16] at hS
    injection hS with e1 e2
    injection e2 with e2 e3
    injection e3 with e3 e4
    subst e1 e2 e3
    subst ha0 hw0 hm0
    have hsw : w17 = false := by simpa using hfin.1
    have hge := hfin.2
    rw [hsw] at q17
    refine q00 Ax q03 Tryz.func26 (c := _) rfl Tryz.call26 900 ?_
    (repeat' ((conv => whnf); first | (exfalso; omega) | refine cpC (qt) ?_ | refine dpC (qt) ?_ | (refine q01 [some 1, some _] q1 rfl rfl ⟨rfl, rfl, trivial⟩ ?_) | (refine q01 [some 1] q2 rfl rfl ⟨rfl, trivial⟩ ?_) | (refine q01 [some 1, some _] q3 rfl rfl ⟨rfl, rfl, trivial⟩ ?_) | (refine q01 [some 1] q4 rfl rfl ⟨rfl, trivial⟩ ?_) | (refine q01 [some 1, some _] q5 rfl rfl ⟨rfl, rfl, trivial⟩ ?_) | (refine q01 [some 1] q6 rfl rfl ⟨rfl, trivial⟩ ?_) | (refine q01 [some 1, some _] q7 rfl rfl ⟨rfl, rfl, trivial⟩ ?_) | (refine q01 [some 1] q8 rfl rfl ⟨rfl, trivial⟩ ?_) | (refine q01 [some 1] q9 rfl rfl ⟨rfl, trivial⟩ ?_) | (refine q01 [some 1] q10 rfl rfl ⟨rfl, trivial⟩ ?_) | (refine q01 [some 1, some _] q11 rfl rfl ⟨rfl, rfl, trivial⟩ ?_) | (refine q01 [some 1] q12 rfl rfl ⟨rfl, trivial⟩ ?_) | (refine q01 [some 1, some _] q13 rfl rfl ⟨rfl, rfl, trivial⟩ ?_) | (refine q01 [some 1] q14 rfl rfl ⟨rfl, trivial⟩ ?_) | (refine q01 [some 1, some _] q15 rfl rfl ⟨rfl, rfl, trivial⟩ ?_) | (refine q01 [some 1] q16 rfl rfl ⟨rfl, trivial⟩ ?_) | (refine q01 [some 1, some _] q17 rfl rfl ⟨rfl, rfl, trivial⟩ ?_) | (refine q08 [] (.inr rfl) ?_ ?_ rfl rfl; (focus exact vwV); exact hsV) | refine x0C ?_ | refine spC (fun hb => ?_) fun hb => ?_ | refine q52 (fun hb => ?_) ?_ | refine taC ?_ | refine saC ?_ | exact sdV | refine q0b ?_ ?_ | refine q02 mixed ?_))
  | false =>
   rw [if_neg (by decide)] at hS
   have q11 := q34 hi10 hn w10 [q23] (by simp)
   have hi11 := q0h ws [q23] a10 w10 m10 hi10
   generalize q0c ws [q23] a10 w10 m10 = x11 at *
   obtain ⟨v11, a11, w11, m11⟩ := x11
   simp only [q05] at hS
   dsimp only at q11 hi11
   have q12 := q34 hi11 hn w11 [q19] (by simp)
   have hi12 := q0h ws [q19] a11 w11 m11 hi11
   generalize q0c ws [q19] a11 w11 m11 = x12 at *
   obtain ⟨v12, a12, w12, m12⟩ := x12
   simp only [q05] at hS
   dsimp only at q12 hi12
   have q13 := q27 hi12 hn w12 0 999999
   have hi13 := q1w ws 0 999999 a12 w12 m12 hi12
   have b13 := q3d (ws := ws) (lo := 0) (h := 999999) (a := a12) (m := m12) (w := w12) (by omega) (by omega)
   generalize q2l ws 0 999999 a12 w12 m12 = x13 at *
   obtain ⟨v13, a13, w13, m13⟩ := x13
   simp only [q05] at hS
   dsimp only at q13 hi13 b13
   have q14 := q34 hi13 hn w13 [q2w] (by simp)
   have hi14 := q0h ws [q2w] a13 w13 m13 hi13
   generalize q0c ws [q2w] a13 w13 m13 = x14 at *
   obtain ⟨v14, a14, w14, m14⟩ := x14
   simp only [q05] at hS
   dsimp only at q14 hi14
   have q15 := q27 hi14 hn w14 (v13 + 1) 1000000
   have hi15 := q1w ws (v13 + 1) 1000000 a14 w14 m14 hi14
   have b15 := q3d (ws := ws) (lo := (v13 + 1)) (h := 1000000) (a := a14) (m := m14) (w := w14) (by omega) (by omega)
   generalize q2l ws (v13 + 1) 1000000 a14 w14 m14 = x15 at *
   obtain ⟨v15, a15, w15, m15⟩ := x15
   simp only [q05] at hS
   dsimp only at q15 hi15 b15
   have q16 := q34 hi15 hn w15 [q1a] (by simp)
   have hi16 := q0h ws [q1a] a15 w15 m15 hi15
   generalize q0c ws [q1a] a15 w15 m15 = x16 at *
   obtain ⟨v16, a16, w16, m16⟩ := x16
   simp only [q05] at hS
   dsimp only at q16 hi16
   have q17 := zs6 hn 5 (by omega) (by omega) 6 1 a16 m16 w16 hi16 (by omega) (fun h => by omega)
   have hi17 := ql5 ws 5 6 1 a16 w16 m16 hi16
   unfold MG at q17
   generalize q71 ws 5 6 1 a16 w16 m16 = x17 at *
   obtain ⟨v17, a17, w17, m17⟩ := x17
   simp only [q05] at hS
   dsimp only at q17 hi17
   have q18 := q34 hi17 hn w17 [q3z] (by simp)
   have hi18 := q0h ws [q3z] a17 w17 m17 hi17
   generalize q0c ws [q3z] a17 w17 m17 = x18 at *
   obtain ⟨v18, a18, w18, m18⟩ := x18
   simp only [q05] at hS
   dsimp only at q18 hi18
   obtain ⟨SO, sa, sw, sm⟩ := S
   dsimp only
   by_cases hfin : sw = true ∨ sa < ws.length
   ·rw [if_pos hfin]
    dsimp only
    injection hS with e1 e2
    injection e2 with e2 e3
    injection e3 with e3 e4
    subst e2 e3
    subst ha0 hw0 hm0
    by_cases hsw : w18 = true
    ·rw [hsw] at q18
     refine q00 Ax q03 Tryz.func26 (c := _) rfl Tryz.call26 900 ?_
     (repeat' ((conv => whnf); first | (exfalso; omega) | refine cpC (qt) ?_ | refine dpC (qt) ?_ | (refine q01 [some 1, some _] q1 rfl rfl ⟨rfl, rfl, trivial⟩ ?_) | (refine q01 [some 1] q2 rfl rfl ⟨rfl, trivial⟩ ?_) | (refine q01 [some 1, some _] q3 rfl rfl ⟨rfl, rfl, trivial⟩ ?_) | (refine q01 [some 1] q4 rfl rfl ⟨rfl, trivial⟩ ?_) | (refine q01 [some 1, some _] q5 rfl rfl ⟨rfl, rfl, trivial⟩ ?_) | (refine q01 [some 1] q6 rfl rfl ⟨rfl, trivial⟩ ?_) | (refine q01 [some 1, some _] q7 rfl rfl ⟨rfl, rfl, trivial⟩ ?_) | (refine q01 [some 1] q8 rfl rfl ⟨rfl, trivial⟩ ?_) | (refine q01 [some 1] q9 rfl rfl ⟨rfl, trivial⟩ ?_) | (refine q01 [some 1] q10 rfl rfl ⟨rfl, trivial⟩ ?_) | (refine q01 [some 1, some _] q11 rfl rfl ⟨rfl, rfl, trivial⟩ ?_) | (refine q01 [some 1, some _] q12 rfl rfl ⟨rfl, rfl, trivial⟩ ?_) | (refine q01 [some 1] q13 rfl rfl ⟨rfl, trivial⟩ ?_) | (refine q01 [some 1, some _] q14 rfl rfl ⟨rfl, rfl, trivial⟩ ?_) | (refine q01 [some 1] q15 rfl rfl ⟨rfl, trivial⟩ ?_) | (refine q01 [some 1, some _] q16 rfl rfl ⟨rfl, rfl, trivial⟩ ?_) | (refine q01 [some 1] q17 rfl rfl ⟨rfl, trivial⟩ ?_) | (refine q01 [some 1, some _] q18 rfl rfl ⟨rfl, rfl, trivial⟩ ?_) | (refine q08 [] (.inr rfl) ?_ ?_ rfl rfl; (focus exact vwV); exact hsV) | refine x0C ?_ | refine spC (fun hb => ?_) fun hb => ?_ | refine q52 (fun hb => ?_) ?_ | refine taC ?_ | refine saC ?_ | exact sdV | refine q0b ?_ ?_ | refine q02 mixed ?_))
    ·have hsw : w18 = false := by simpa using hsw
     rw [hsw] at q18
     have hlt : a18 < ws.length := by rcases hfin with h | h; rw [hsw] at h; cases h; exact h
     refine q00 Ax q03 Tryz.func26 (c := _) rfl Tryz.call26 900 ?_
     (repeat' ((conv => whnf); first | (exfalso; omega) | refine cpC (qt) ?_ | refine dpC (qt) ?_ | (refine q01 [some 1, some _] q1 rfl rfl ⟨rfl, rfl, trivial⟩ ?_) | (refine q01 [some 1] q2 rfl rfl ⟨rfl, trivial⟩ ?_) | (refine q01 [some 1, some _] q3 rfl rfl ⟨rfl, rfl, trivial⟩ ?_) | (refine q01 [some 1] q4 rfl rfl ⟨rfl, trivial⟩ ?_) | (refine q01 [some 1, some _] q5 rfl rfl ⟨rfl, rfl, trivial⟩ ?_) | (refine q01 [some 1] q6 rfl rfl ⟨rfl, trivial⟩ ?_) | (refine q01 [some 1, some _] q7 rfl rfl ⟨rfl, rfl, trivial⟩ ?_) | (refine q01 [some 1] q8 rfl rfl ⟨rfl, trivial⟩ ?_) | (refine q01 [some 1] q9 rfl rfl ⟨rfl, trivial⟩ ?_) | (refine q01 [some 1] q10 rfl rfl ⟨rfl, trivial⟩ ?_) | (refine q01 [some 1, some _] q11 rfl rfl ⟨rfl, rfl, trivial⟩ ?_) | (refine q01 [some 1, some _] q12 rfl rfl ⟨rfl, rfl, trivial⟩ ?_) | (refine q01 [some 1] q13 rfl rfl ⟨rfl, trivial⟩ ?_) | (refine q01 [some 1, some _] q14 rfl rfl ⟨rfl, rfl, trivial⟩ ?_) | (refine q01 [some 1] q15 rfl rfl ⟨rfl, trivial⟩ ?_) | (refine q01 [some 1, some _] q16 rfl rfl ⟨rfl, rfl, trivial⟩ ?_) | (refine q01 [some 1] q17 rfl rfl ⟨rfl, trivial⟩ ?_) | (refine q01 [some 1, some _] q18 rfl rfl ⟨rfl, rfl, trivial⟩ ?_) | (refine q08 [] (.inr rfl) ?_ ?_ rfl rfl; (focus exact vwV); exact hsV) | refine x0C ?_ | refine spC (fun hb => ?_) fun hb => ?_ | refine q52 (fun hb => ?_) ?_ | refine taC ?_ | refine saC ?_ | exact sdV | refine q0b ?_ ?_ | refine q02 mixed ?_))
   ·rw [if_neg hfin]
    dsimp only
    simp only [not_or] at hfin
    rw [← q8m v17] at hS
    injection hS with e1 e2
    injection e2 with e2 e3
    injection e3 with e3 e4
    subst e1 e2 e3
    subst ha0 hw0 hm0
    have hsw : w18 = false := by simpa using hfin.1
    have hge := hfin.2
    rw [hsw] at q18
    refine q00 Ax q03 Tryz.func26 (c := _) rfl Tryz.call26 900 ?_
    (repeat' ((conv => whnf); first | (exfalso; omega) | refine cpC (qt) ?_ | refine dpC (qt) ?_ | (refine q01 [some 1, some _] q1 rfl rfl ⟨rfl, rfl, trivial⟩ ?_) | (refine q01 [some 1] q2 rfl rfl ⟨rfl, trivial⟩ ?_) | (refine q01 [some 1, some _] q3 rfl rfl ⟨rfl, rfl, trivial⟩ ?_) | (refine q01 [some 1] q4 rfl rfl ⟨rfl, trivial⟩ ?_) | (refine q01 [some 1, some _] q5 rfl rfl ⟨rfl, rfl, trivial⟩ ?_) | (refine q01 [some 1] q6 rfl rfl ⟨rfl, trivial⟩ ?_) | (refine q01 [some 1, some _] q7 rfl rfl ⟨rfl, rfl, trivial⟩ ?_) | (refine q01 [some 1] q8 rfl rfl ⟨rfl, trivial⟩ ?_) | (refine q01 [some 1] q9 rfl rfl ⟨rfl, trivial⟩ ?_) | (refine q01 [some 1] q10 rfl rfl ⟨rfl, trivial⟩ ?_) | (refine q01 [some 1, some _] q11 rfl rfl ⟨rfl, rfl, trivial⟩ ?_) | (refine q01 [some 1, some _] q12 rfl rfl ⟨rfl, rfl, trivial⟩ ?_) | (refine q01 [some 1] q13 rfl rfl ⟨rfl, trivial⟩ ?_) | (refine q01 [some 1, some _] q14 rfl rfl ⟨rfl, rfl, trivial⟩ ?_) | (refine q01 [some 1] q15 rfl rfl ⟨rfl, trivial⟩ ?_) | (refine q01 [some 1, some _] q16 rfl rfl ⟨rfl, rfl, trivial⟩ ?_) | (refine q01 [some 1] q17 rfl rfl ⟨rfl, trivial⟩ ?_) | (refine q01 [some 1, some _] q18 rfl rfl ⟨rfl, rfl, trivial⟩ ?_) | (refine q08 [] (.inr rfl) ?_ ?_ rfl rfl; (focus exact vwV); exact hsV) | refine x0C ?_ | refine spC (fun hb => ?_) fun hb => ?_ | refine q52 (fun hb => ?_) ?_ | refine taC ?_ | refine saC ?_ | exact sdV | refine q0b ?_ ?_ | refine q02 mixed ?_))
theorem zq6 (s : Wd) (hs : s.length ≤ 2000000) : q07 Tryz.prog Dc 26 [wS s] [] (z4c s) [] := by
 have := y8t s hs
 rw [zg7] at this
 unfold z4c
 exact this
theorem qn0 (s : Wd) : q4d (q39 s).1.goal := by
 obtain ⟨q, n, e, h⟩ : ∃ q n e, q39 s = (q, n, e) := ⟨_, _, _, rfl⟩
 rw [h]
 by_cases he : e = 0
 ·obtain ⟨h1, _⟩ := z8a h he
  exact q89 ((q6j q).1 h1).goal
 ·rw [(zw2 h he).1]; exact qz4
end Go.SX
namespace Go.SX
open Go.Proofs
theorem y90 (l : List Int) (hl : l.length = 7) (hz : ∀ z ∈ l, I64 z) (y : List A5) (hy : ∀ z ∈ y, z41 z) (hyl : (y.length : Int) ≤ 9223372036854775807) (raw : q2c) (hraw : q4d raw.goal) (odd : q06) (hodd : q4d odd) (at_ : Int) (hat : I64 at_) (s : Wd) (hsl : (s.length : Int) ≤ 9223372036854775807) : q07 Tryz.prog Dc 3 [a7A l, a5S y, qb4 raw, q0m odd, iS at_, wS s] [] (bS true) [] := by
 by_cases h1 : (q9q y).kids.length = 0
 ·exact y4y zq6 z3z qn0 l hl hz y hy hyl raw hraw odd hodd at_ hat s hsl h1
 ·by_cases h2 : q0e at_ 3 = 0
  ·exact y51 zq6 z3z qn0 l hl hz y hy hyl raw hraw odd hodd at_ hat s hsl h1 h2
  ·exact y53 zq6 z3z qn0 l hl hz y hy hyl raw hraw odd hodd at_ hat s hsl h1 h2
end Go.SX
