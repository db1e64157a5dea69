/-
  Walks: Uh2, Uh3, Uh4, Uh5, Uh6, Uh7: what single functions of the program compute.
-/
import Derived.Test.YtijedffphgckmaaGreatDoorSxOt0
set_option linter.unusedVariables false
set_option linter.unusedSimpArgs false
namespace Go.SX
open Go.Proofs
set_option maxHeartbeats 400000000
set_option maxRecDepth 100000
theorem q3d {ws : List Wd} {lo h a m : Int} {w : Bool} (hl : 0 ≤ lo) (hh : 0 ≤ h) : 0 ≤ (q2l ws lo h a w m).1 ∧ (q2l ws lo h a w m).1 ≤ h ∧ ((q2l ws lo h a w m).2.2.1 = false → lo ≤ (q2l ws lo h a w m).1) ∧ (w = true → (q2l ws lo h a w m).2.2.1 = true) := by
 unfold q2l
 split
 ·exact ⟨Int.le_refl _, hh, (fun h => by cases h), fun _ => rfl⟩
 ·rename_i hc
  simp only [not_or, Decidable.not_not] at hc
  exact ⟨by show 0 ≤ qm4 _; omega, hc.2.2.2, fun _ => hc.2.2.1, fun h => absurd h hc.1⟩
theorem z1j {ws : List Wd} {l : List Wd} {a m : Int} : (q0c ws l a true m).2.2.1 = true := (q2d ws l a m).2
structure yf2 (ws : List Wd) (S : Xr (List Int)) (q : Nat × Int × Int × List Int × Int × Bool × Int) : Prop where
 eq : q5e ws q.1 q.2.1 q.2.2.1 q.2.2.2.1 q.2.2.2.2.1 q.2.2.2.2.2.1 q.2.2.2.2.2.2 = S
 inw : InW ws q.2.2.2.2.1 q.2.2.2.2.2.2
 pos : 1 ≤ q.1
 mu : q.2.2.2.2.2.1 = false → (23 - q.2.1) * 25 + (47 - q.2.2.1) / 2 + 1 ≤ q.1
 y0 : 0 ≤ q.2.1 ∧ q.2.1 ≤ 23
 l0 : -2 ≤ q.2.2.1 ∧ q.2.2.1 ≤ 47
 len : q.2.2.2.1.length = 24
 rng : ∀ r ∈ q.2.2.2.1, 0 ≤ r ∧ r ≤ 281474976710655
theorem yb8 {ws : List Wd} {a m : Int} (hi : InW ws a m) (hn : q74 ws) (w : Bool) : q07 Tryz.prog Dc 81 [.ptr 0 0] (rdX ws a w m) (z36 (qm3 ws a w m).1) (rdX ws (qm3 ws a w m).2.1 (qm3 ws a w m).2.2.1 (qm3 ws a w m).2.2.2) := by
 unfold qm3
 generalize hS : q5e ws 1200 0 (-2) (List.replicate 24 0) a w m = S
 refine q00 Ax q03 Tryz.func81 (c := _) rfl Tryz.call81 600 ?_
 (repeat' ((conv => whnf); first | refine saC ?_))
 refine q0u (fun q : Nat × Int × Int × List Int × Int × Bool × Int => [(4, iS q.2.1), (5, iS q.2.2.1)]) (fun q => [(0, .vart none [wsS ws, iS q.2.2.2.2.1, bS q.2.2.2.2.2.1, iS q.2.2.2.2.2.2]), (2, .rows U.int q.2.2.2.1)]) (yf2 ws S) (fun q => q.1) (1200, 0, -2, List.replicate 24 0, a, w, m) ⟨hS, hi, by show 1 ≤ 1200; omega, fun _ => by dsimp only; omega, by dsimp only; omega, by dsimp only; omega, by simp, fun r hr => by rw [(List.mem_replicate.1 hr).2]; omega⟩ (by exact bkI) ?_
 clear hS hi
 rintro ⟨n, y, last, rows, a, w, m⟩ ⟨hS, hi, hn1, hmu, hy, hl, hlen, hrng⟩ K hK
 dsimp only at hS hi hn1 hmu hy hl hlen hrng hK ⊢
 obtain ⟨n, rfl⟩ : ∃ k, n = k + 1 := ⟨n - 1, by omega⟩
 rw [q9b] at hS
 have q0 := y69 hi hn w q7o
 cases w with
 | true =>
  rw [q5l] at hS q0
  rw [if_neg (by simp)] at hS
  have hT : S.1 = List.take (Int.toNat 24) (List.drop 0 rows) := by rw [← hS, List.drop_zero, List.take_of_length_le (by show rows.length ≤ 24; omega)]
  rw [hT, ← hS]
  clear hmu hT
  (repeat' ((conv => whnf); first | (refine q01 [some 0] q0 rfl rfl ⟨rfl, trivial⟩ ?_) | (refine q08 [some 0] (.inr rfl) ?_ ?_ rfl rfl; (focus exact vwV); exact hsV) | refine spC (fun hb => ?_) fun hb => ?_))
 | false =>
  have hmu := hmu rfl
  by_cases hgo : (q24 ws q7o a false || (decide (y = 0) && decide (last = -2) && !false)) = true
  ·rw [if_pos hgo] at hS
   unfold z7b at hS
   have hcond : q24 ws q7o a false = true ∨ q24 ws q7o a false = false ∧ y = 0 ∧ last = -2 := by
    simp only [Bool.or_eq_true, Bool.and_eq_true, decide_eq_true_eq, Bool.not_false, and_true] at hgo
    cases hx : q24 ws q7o a false with
    | true => exact .inl rfl
    | false => rw [hx] at hgo; rcases hgo with h | h; cases h; exact .inr ⟨rfl, h⟩
   by_cases hend : ¬ last + 2 < 48 ∧ y = 23
   ·rw [if_pos hend] at hS
    have hT : S.1 = List.take (Int.toNat 24) (List.drop 0 rows) := by rw [← hS, List.drop_zero, List.take_of_length_le (by show rows.length ≤ 24; omega)]
    rw [hT, ← hS]
    have hx : q24 ws q7o a false = true := by rcases hcond with h | h; exact h; omega
    rw [hx] at q0
    clear hmu hT
    (repeat' ((conv => whnf); first | (exfalso; omega) | (refine q01 [some 0] q0 rfl rfl ⟨rfl, trivial⟩ ?_) | (refine q08 [some 0] (.inr rfl) ?_ ?_ rfl rfl; (focus exact vwV); exact hsV) | refine spC (fun hb => ?_) fun hb => ?_ | refine saC ?_))
   ·rw [if_neg hend] at hS
    have qm := q34 hi hn false [q7o] (by simp)
    have im := q0h ws [q7o] a false m hi
    generalize q0c ws [q7o] a false m = x1 at *
    obtain ⟨u, a1, w1, m1⟩ := x1
    have qn := q27 im hn w1 (if last + 2 < 48 then y else y + 1) 23
    have jn := q1w ws (if last + 2 < 48 then y else y + 1) 23 a1 w1 m1 im
    have bn := q3d (ws := ws) (lo := if last + 2 < 48 then y else y + 1) (h := 23) (a := a1) (m := m1) (w := w1) (by split <;> omega) (by omega)
    replace hS : (q2l ws (if last + 2 < 48 then y else y + 1) 23 a1 w1 m1).bind (fun y' a w m => (q2l ws (if y' = y then last + 2 else 0) 47 a w m).bind fun first a w m => (q2l ws first 47 a w m).bind fun last' a w m => q5e ws n y' last' (if w then rows else rows.set y'.toNat (q1l .or .i64 (rows.getD y'.toNat 0) (q6f first last'))) a w m) = S := hS
    generalize q2l ws (if last + 2 < 48 then y else y + 1) 23 a1 w1 m1 = x2 at *
    obtain ⟨y', a2, w2, m2⟩ := x2
    have qf := q27 jn hn w2 (if y' = y then last + 2 else 0) 47
    have jf := q1w ws (if y' = y then last + 2 else 0) 47 a2 w2 m2 jn
    have bf := q3d (ws := ws) (lo := if y' = y then last + 2 else 0) (h := 47) (a := a2) (m := m2) (w := w2) (by split <;> omega) (by omega)
    replace hS : (q2l ws (if y' = y then last + 2 else 0) 47 a2 w2 m2).bind (fun first a w m => (q2l ws first 47 a w m).bind fun last' a w m => q5e ws n y' last' (if w then rows else rows.set y'.toNat (q1l .or .i64 (rows.getD y'.toNat 0) (q6f first last'))) a w m) = S := hS
    generalize q2l ws (if y' = y then last + 2 else 0) 47 a2 w2 m2 = x3 at *
    obtain ⟨f, a3, w3, m3⟩ := x3
    have ql := q27 jf hn w3 f 47
    have jl := q1w ws f 47 a3 w3 m3 jf
    have bl := q3d (ws := ws) (lo := f) (h := 47) (a := a3) (m := m3) (w := w3) (by have := bf.1; exact this) (by omega)
    replace hS : (q2l ws f 47 a3 w3 m3).bind (fun last' a w m => q5e ws n y' last' (if w then rows else rows.set y'.toNat (q1l .or .i64 (rows.getD y'.toNat 0) (q6f f last'))) a w m) = S := hS
    generalize q2l ws f 47 a3 w3 m3 = x4 at *
    obtain ⟨z, a4, w4, m4⟩ := x4
    replace hS : q5e ws n y' z (if w4 then rows else rows.set y'.toNat (q1l .or .i64 (rows.getD y'.toNat 0) (q6f f z))) a4 w4 m4 = S := hS
    dsimp only at qm im qn jn bn qf jf bf ql jl bl
    have hpos : 1 ≤ n := by omega
    have hgood : w4 = false → 0 ≤ f ∧ f ≤ z ∧ z ≤ 47 ∧ y'.toNat < 24 ∧ (23 - y') * 25 + (47 - z) / 2 + 1 ≤ n ∧ z9n rows y'.toNat f.toNat (z - f + 1).toNat = rows.set y'.toNat (q1l .or .i64 (rows.getD y'.toNat 0) (q6f f z)) ∧ q8y (z9n rows y'.toNat f.toNat (z - f + 1).toNat) := fun h4 => by
     have h3 : w3 = false := by cases w3 with | false => rfl | true => have := bl.2.2.2 rfl; rw [h4] at this; cases this
     have h2 : w2 = false := by cases w2 with | false => rfl | true => have := bf.2.2.2 rfl; rw [h3] at this; cases this
     have c1 := bl.2.2.1 h4
     have c2 := bf.2.2.1 h3
     have c3 := bn.2.2.1 h2
     have d1 := bn.2.1
     have d2 := bl.2.1
     have d3 := bf.1
     have d4 := bn.1
     have hy24 : y'.toNat < 24 := by omega
     have hm : (23 - y') * 25 + (47 - z) / 2 + 1 ≤ n := by
      by_cases hyy : y' = y
      ·rw [if_pos hyy] at c2; split at c3 <;> omega
      ·split at c3 <;> omega
     have hok : q8y rows := ⟨hlen, hrng⟩
     have hidx : y'.toNat < rows.length := by omega
     have hg : rows.getD y'.toNat 0 ∈ rows := List.mem_of_getElem? (getD_some (d := (0 : Int)) hidx)
     exact ⟨d3, c1, d2, hy24, hm, y3l ⟨d4, hidx⟩ d3 ⟨c1, d2⟩ (hrng _ hg), y32 hok hy24 _ (by omega)⟩
    have hz0 : 0 ≤ z := bl.1
    have hy0' : 0 ≤ y' := bn.1
    have hy23' : y' ≤ 23 := bn.2.1
    have hf0' : 0 ≤ f := bf.1
    have hf47' : f ≤ 47 := bf.2.1
    have hz47' : z ≤ 47 := bl.2.1
    rcases hcond with hx | ⟨hx, hy0, hl0⟩
    all_goals rw [hx] at q0
    all_goals by_cases hmore : last + 2 < 48
    all_goals first
     | rw [if_pos hmore] at qn
     | rw [if_neg hmore] at qn
    all_goals by_cases hyy : y' = y
    all_goals first
     | rw [if_pos hyy] at qf
     | rw [if_neg hyy] at qf
    all_goals try (exfalso; omega)
    all_goals (repeat' ((conv => whnf); first | (exfalso; omega) | (refine q01 [some 0] q0 rfl rfl ⟨rfl, trivial⟩ ?_) | (refine q01 [some 0, some 4] qm rfl rfl ⟨rfl, rfl, trivial⟩ ?_) | (refine q01 [some 0] qn rfl rfl ⟨rfl, trivial⟩ ?_) | (refine q01 [some 0] qf rfl rfl ⟨rfl, trivial⟩ ?_) | (refine q01 [some 0] ql rfl rfl ⟨rfl, trivial⟩ ?_) | refine spC (fun hb => ?_) fun hb => ?_ | refine saC ?_))
    all_goals (conv => whnf)
    all_goals (
     cases w4 with
     | true =>
      have hS : q5e ws n y' z rows a4 true m4 = S := hS
      refine q0u (fun _ : Unit => [(9, iS f)]) (fun _ => []) (fun _ => True) (fun _ => 0) () trivial (by exact bkI) ?_
      intro _ _ K2 hK2
      (repeat' ((conv => whnf); first | refine hK (n, y', z, rows, a4, true, m4) [some 0, some 1, some 2, some 3] _ _ ⟨⟨hS, jl, hpos, (fun h => by cases h), ⟨bn.1, bn.2.1⟩, ⟨by dsimp only; omega, bl.2.1⟩, hlen, hrng⟩⟩ ⟨by dsimp only; omega⟩ (by exact bkI) | refine spC (fun hb => ?_) fun hb => ?_))
     | false =>
      obtain ⟨g1, g2, g3, g4, hmu2, hnew, hnok⟩ := hgood rfl
      have hS : q5e ws n y' z (rows.set y'.toNat (q1l .or .i64 (rows.getD y'.toNat 0) (q6f f z))) a4 false m4 = S := hS
      rw [← hnew] at hS
      refine q0u (fun q : Nat × List Int => [(9, iS (f + q.1))]) (fun q => [(2, .rows U.int q.2)]) (fun q => q.1 ≤ (z - f + 1).toNat ∧ q.2 = z9n rows y'.toNat f.toNat q.1) (fun q => (z - f + 1).toNat - q.1) (0, rows) ⟨Nat.zero_le _, rfl⟩ (by exact bkI) ?_
      rintro ⟨k, R⟩ ⟨hk, hR⟩ K2 hK2
      dsimp only at hk hR hK2 ⊢
      have hRl : R.length = 24 := by rw [hR, za1]; exact hlen
      rcases Nat.lt_or_ge k (z - f + 1).toNat with hkl | hkg
      ·have hR2 : R.set (0 + y'.toNat) (q1l .or .i64 (R.getD (0 + y'.toNat) (Cd.dflt U.int)) (q4p .i64 1 (f + k))) = z9n rows y'.toNat f.toNat (k + 1) := by
        rw [Nat.zero_add, z9n, ← hR, show ((f.toNat : Nat) : Int) = f by omega]; rfl
       clear hS hK hnew
       (repeat' ((conv => whnf); first | (exfalso; omega) | refine hK2 (k + 1, R.set (0 + y'.toNat) (q1l .or .i64 (R.getD (0 + y'.toNat) (Cd.dflt U.int)) (q4p .i64 1 (f + k)))) [some 0, some 1, some 2, some 3, some 4] _ _ ⟨⟨by dsimp only; omega, hR2⟩⟩ ⟨by dsimp only; omega⟩ (by exact bkI) | refine spC (fun hb => ?_) fun hb => ?_ | refine taC ?_ | refine saC ?_ | refine q02 mixed ?_))
      ·have hke : k = (z - f + 1).toNat := by omega
       rw [← hke, ← hR] at hS hnok
       (repeat' ((conv => whnf); first | (exfalso; omega) | refine hK (n, y', z, R, a4, false, m4) [some 0, some 1, some 2, some 3] _ _ ⟨⟨hS, jl, hpos, (fun _ => hmu2), ⟨bn.1, bn.2.1⟩, ⟨by dsimp only; omega, bl.2.1⟩, hRl, hnok.ok⟩⟩ ⟨by dsimp only; omega⟩ (by exact bkI) | refine spC (fun hb => ?_) fun hb => ?_)))
  ·rw [if_neg hgo] at hS
   simp only [Bool.or_eq_true, Bool.and_eq_true, decide_eq_true_eq, not_or, Bool.not_eq_true, Bool.not_false, and_true] at hgo
   rw [hgo.1] at q0
   have hT : S.1 = List.take (Int.toNat 24) (List.drop 0 rows) := by rw [← hS, List.drop_zero, List.take_of_length_le (by show rows.length ≤ 24; omega)]
   rw [hT, ← hS]
   have hg2 := hgo.2
   clear hmu hT
   (repeat' ((conv => whnf); first | (exfalso; omega) | (refine q01 [some 0] q0 rfl rfl ⟨rfl, trivial⟩ ?_) | (refine q08 [some 0] (.inr rfl) ?_ ?_ rfl rfl; (focus exact vwV); exact hsV) | refine spC (fun hb => ?_) fun hb => ?_))
theorem q05 {α β : Type} (v : α) (a : Int) (w : Bool) (m : Int) (k : α → XP β) : Xr.bind (v, a, w, m) k = k v a w m := rfl
def MG (ws : List Wd) (most d a m : Int) (w : Bool) (S : Xr q06) : Prop := q07 Tryz.prog Dc 56 [.ptr 0 0, iS most, iS d] (rdX ws a w m) (q0m S.1) (rdX ws S.2.1 S.2.2.1 S.2.2.2)
def XG (ws : List Wd) (f : Nat) : Prop := ∀ (most d a m : Int) (w : Bool), InW ws a m → (f : Int) + d = 6 → (f = 1 → w = true) → MG ws most d a m w (q71 ws f most d a w m)
@[reducible] def y30 (g : q06) : q06 := ⟨g.kind, g.rows, g.from_, g.to_, g.low, g.high, g.clear, g.days, g.times, g.within, g.cents, g.kids⟩
theorem q8m (g : q06) : y30 g = g := by cases g; rfl
theorem q26 {ws : List Wd} {s t : Wd} {a : Int} (h : q24 ws s a false = true) (hst : s ≠ t) : q24 ws t a false = false := by
 unfold q24 at h ⊢
 simp only [Bool.and_eq_true, decide_eq_true_eq, Bool.not_false, Bool.true_and] at h
 rw [h.2, decide_eq_false hst]; simp
theorem q0t {ws : List Wd} {s : Wd} {a : Int} {w : Bool} (h : q24 ws s a w = false) (g d m : Int) : q2b ws s g d a w m = (false, a, w, m) := by unfold q2b; rw [h]; rfl
theorem q2x {ws : List Wd} {s : Wd} {a : Int} {w : Bool} (h : q24 ws s a w = true) (g d m : Int) : (q2b ws s g d a w m).1 = true := by unfold q2b; rw [h, if_pos rfl]; split <;> rfl
theorem y19 {ws : List Wd} (hn : q74 ws) {a m : Int} (hi : InW ws a m) (most d : Int) : MG ws most d a m true (qx5, a, true, m) := by
 unfold MG
 have nw_see := q4e hi hn true q3e 0 d (by omega)
 rw [q4u] at nw_see
 have nw_pair := q4e hi hn true q28 1 d (by omega)
 rw [q4u] at nw_pair
 have nw_every := q4e hi hn true q1k 1 d (by omega)
 rw [q4u] at nw_every
 have nw_deliver := q4e hi hn true q0q 1 d (by omega)
 rw [q4u] at nw_deliver
 have nw_all := q4e hi hn true q46 2 d (by omega)
 rw [q4u] at nw_all
 have nw_any := q4e hi hn true q2p 2 d (by omega)
 rw [q4u] at nw_any
 refine q00 Ax q03 Tryz.func56 (c := _) rfl Tryz.call56 900 ?_
 (repeat' ((conv => whnf); first | (exfalso; omega) | (refine q01 [some 0] nw_see rfl rfl ⟨rfl, trivial⟩ ?_) | (refine q01 [some 0] nw_pair rfl rfl ⟨rfl, trivial⟩ ?_) | (refine q01 [some 0] nw_every rfl rfl ⟨rfl, trivial⟩ ?_) | (refine q01 [some 0] nw_deliver rfl rfl ⟨rfl, trivial⟩ ?_) | (refine q01 [some 0] nw_all rfl rfl ⟨rfl, trivial⟩ ?_) | (refine q01 [some 0] nw_any rfl rfl ⟨rfl, trivial⟩ ?_) | (refine q08 [some 0] (.inr rfl) ?_ ?_ rfl rfl; (focus exact vwV); exact hsV) | refine spC (fun hb => ?_) fun hb => ?_))
theorem y95 {ws : List Wd} (hn : q74 ws) {a m : Int} (hi : InW ws a m) (most d : Int) (hd : 1 ≤ d ∧ d ≤ 5) (hx : q24 ws q3e a false = true) (S : Xr q06) (hS : (q2b ws q3e 0 d a false m).bind (fun _ => y44 ws) = S) : MG ws most d a m false S := by
 unfold MG
 have n0 := q4e hi hn false q3e 0 d (by omega)
 have k0 := q66 ws q3e (show (0 : Int) ≤ 0 by omega) d a false m hi
 have f0 := q2x hx 0 d m
 generalize q2b ws q3e 0 d a false m = x0 at *
 obtain ⟨v0, a0, w0, m0⟩ := x0
 dsimp only at n0 k0 f0
 subst f0
 have hi0 := k0
 simp only [q05] at hS
 unfold y44 at hS
 have q1 := yb8 hi0 hn w0
 have hi1 := z83 ws 1200 0 (-2) (List.replicate 24 0) a0 w0 m0 hi0
 replace hi1 : InW ws (qm3 ws a0 w0 m0).2.1 (qm3 ws a0 w0 m0).2.2.2 := hi1
 generalize qm3 ws a0 w0 m0 = x1 at *
 obtain ⟨v1, a1, w1, m1⟩ := x1
 simp only [q05] at hS
 dsimp only at q1 hi1
 have q2 := q34 hi1 hn w1 [q1q] (by simp)
 have hi2 := q0h ws [q1q] a1 w1 m1 hi1
 generalize q0c ws [q1q] a1 w1 m1 = x2 at *
 obtain ⟨v2, a2, w2, m2⟩ := x2
 simp only [q05] at hS
 dsimp only at q2 hi2
 have q3 := q27 hi2 hn w2 0 999999
 have hi3 := q1w ws 0 999999 a2 w2 m2 hi2
 have b3 := q3d (ws := ws) (lo := 0) (h := 999999) (a := a2) (m := m2) (w := w2) (by omega) (by omega)
 generalize q2l ws 0 999999 a2 w2 m2 = x3 at *
 obtain ⟨v3, a3, w3, m3⟩ := x3
 simp only [q05] at hS
 dsimp only at q3 hi3 b3
 have q4 := q34 hi3 hn w3 [qh5] (by simp)
 have hi4 := q0h ws [qh5] a3 w3 m3 hi3
 generalize q0c ws [qh5] a3 w3 m3 = x4 at *
 obtain ⟨v4, a4, w4, m4⟩ := x4
 simp only [q05] at hS
 dsimp only at q4 hi4
 have q5 := q27 hi4 hn w4 (v3 + 1) 1000000
 have hi5 := q1w ws (v3 + 1) 1000000 a4 w4 m4 hi4
 have b5 := q3d (ws := ws) (lo := (v3 + 1)) (h := 1000000) (a := a4) (m := m4) (w := w4) (by omega) (by omega)
 generalize q2l ws (v3 + 1) 1000000 a4 w4 m4 = x5 at *
 obtain ⟨v5, a5, w5, m5⟩ := x5
 simp only [q05] at hS
 dsimp only at q5 hi5 b5
 have q6 := q34 hi5 hn w5 [qf4] (by simp)
 have hi6 := q0h ws [qf4] a5 w5 m5 hi5
 generalize q0c ws [qf4] a5 w5 m5 = x6 at *
 obtain ⟨v6, a6, w6, m6⟩ := x6
 simp only [q05] at hS
 dsimp only at q6 hi6
 have q7 := q27 hi6 hn w6 0 90
 have hi7 := q1w ws 0 90 a6 w6 m6 hi6
 have b7 := q3d (ws := ws) (lo := 0) (h := 90) (a := a6) (m := m6) (w := w6) (by omega) (by omega)
 generalize q2l ws 0 90 a6 w6 m6 = x7 at *
 obtain ⟨v7, a7, w7, m7⟩ := x7
 simp only [q05] at hS
 dsimp only at q7 hi7 b7
 have q8 := q34 hi7 hn w7 [qh5] (by simp)
 have hi8 := q0h ws [qh5] a7 w7 m7 hi7
 generalize q0c ws [qh5] a7 w7 m7 = x8 at *
 obtain ⟨v8, a8, w8, m8⟩ := x8
 simp only [q05] at hS
 dsimp only at q8 hi8
 have q9 := q27 hi8 hn w8 v7 90
 have hi9 := q1w ws v7 90 a8 w8 m8 hi8
 have b9 := q3d (ws := ws) (lo := v7) (h := 90) (a := a8) (m := m8) (w := w8) (by omega) (by omega)
 generalize q2l ws v7 90 a8 w8 m8 = x9 at *
 obtain ⟨v9, a9, w9, m9⟩ := x9
 simp only [q05] at hS
 dsimp only at q9 hi9 b9
 replace hS : (qy3 ws q64 q2p a9 w9 m9).bind (fun c a w m => ((⟨1, v1, v3, v5, v7, v9, c, 0, 0, 0, [], []⟩ : q06), a, w, m)) = S := hS
 unfold qy3 at hS
 have q10 := xis hi9 hn w9 q64
 have hi10 := z3s ws q64 a9 w9 m9 hi9
 generalize xIs ws q64 a9 w9 m9 = x10 at *
 obtain ⟨v10, a10, w10, m10⟩ := x10
 simp only [q05] at hS
 dsimp only at q10 hi10
 cases v10 with
 | true =>
  have hS : ((⟨1, v1, v3, v5, v7, v9, true, 0, 0, 0, [], []⟩ : q06), a10, w10, m10) = S := hS
  rw [← hS]
  clear hS
  refine q00 Ax q03 Tryz.func56 (c := _) rfl Tryz.call56 900 ?_
  (repeat' ((conv => whnf); first | (refine q01 [some 0] n0 rfl rfl ⟨rfl, trivial⟩ ?_) | (refine q01 [some 0] q1 rfl rfl ⟨rfl, trivial⟩ ?_) | (refine q01 [some 0, some _] q2 rfl rfl ⟨rfl, rfl, trivial⟩ ?_) | (refine q01 [some 0] q3 rfl rfl ⟨rfl, trivial⟩ ?_) | (refine q01 [some 0, some _] q4 rfl rfl ⟨rfl, rfl, trivial⟩ ?_) | (refine q01 [some 0] q5 rfl rfl ⟨rfl, trivial⟩ ?_) | (refine q01 [some 0, some _] q6 rfl rfl ⟨rfl, rfl, trivial⟩ ?_) | (refine q01 [some 0] q7 rfl rfl ⟨rfl, trivial⟩ ?_) | (refine q01 [some 0, some _] q8 rfl rfl ⟨rfl, rfl, trivial⟩ ?_) | (refine q01 [some 0] q9 rfl rfl ⟨rfl, trivial⟩ ?_) | (refine q01 [some 0] q10 rfl rfl ⟨rfl, trivial⟩ ?_) | (refine q08 [some 0] (.inr rfl) ?_ ?_ rfl rfl; (focus exact vwV); exact hsV) | refine saC ?_))
 | false =>
  replace hS : (q0c ws [q2p] a10 w10 m10).bind (fun _ a w m => ((⟨1, v1, v3, v5, v7, v9, false, 0, 0, 0, [], []⟩ : q06), a, w, m)) = S := hS
  have q11 := q34 hi10 hn w10 [q2p] (by simp)
  have hi11 := q0h ws [q2p] a10 w10 m10 hi10
  generalize q0c ws [q2p] a10 w10 m10 = x11 at *
  obtain ⟨v11, a11, w11, m11⟩ := x11
  simp only [q05] at hS
  dsimp only at q11 hi11
  rw [← hS]
  clear hS
  refine q00 Ax q03 Tryz.func56 (c := _) rfl Tryz.call56 900 ?_
  (repeat' ((conv => whnf); first | (refine q01 [some 0] n0 rfl rfl ⟨rfl, trivial⟩ ?_) | (refine q01 [some 0] q1 rfl rfl ⟨rfl, trivial⟩ ?_) | (refine q01 [some 0, some _] q2 rfl rfl ⟨rfl, rfl, trivial⟩ ?_) | (refine q01 [some 0] q3 rfl rfl ⟨rfl, trivial⟩ ?_) | (refine q01 [some 0, some _] q4 rfl rfl ⟨rfl, rfl, trivial⟩ ?_) | (refine q01 [some 0] q5 rfl rfl ⟨rfl, trivial⟩ ?_) | (refine q01 [some 0, some _] q6 rfl rfl ⟨rfl, rfl, trivial⟩ ?_) | (refine q01 [some 0] q7 rfl rfl ⟨rfl, trivial⟩ ?_) | (refine q01 [some 0, some _] q8 rfl rfl ⟨rfl, rfl, trivial⟩ ?_) | (refine q01 [some 0] q9 rfl rfl ⟨rfl, trivial⟩ ?_) | (refine q01 [some 0] q10 rfl rfl ⟨rfl, trivial⟩ ?_) | (refine q01 [some 0, some _] q11 rfl rfl ⟨rfl, rfl, trivial⟩ ?_) | (refine q08 [some 0] (.inr rfl) ?_ ?_ rfl rfl; (focus exact vwV); exact hsV) | refine saC ?_))
theorem y4c {ws : List Wd} (hn : q74 ws) {sub : XP q06} (hkp : KP ws sub) {a m : Int} (hi : InW ws a m) (most d : Int) (hd : 1 ≤ d ∧ d ≤ 5) (hmost : 2 ≤ most) (hx : q24 ws q28 a false = true) (hsub : ∀ a m w, InW ws a m → (4 ≤ d → w = true) → MG ws 1 (d + 1) a m w (sub a w m)) (S : Xr q06) (hS : (q2b ws q28 1 d a false m).bind (fun _ => z7w ws sub) = S) : MG ws most d a m false S := by
 unfold MG
 have n0 := q4e hi hn false q3e 0 d (by omega)
 rw [q0t (q26 hx (by decide))] at n0
 have n1 := q4e hi hn false q28 1 d (by omega)
 have k1 := q66 ws q28 (show (0 : Int) ≤ 1 by omega) d a false m hi
 have f1 := q2x hx 1 d m
 have hw0 : 4 ≤ d → (q2b ws q28 1 d a false m).2.2.1 = true := fun h => by unfold q2b; rw [hx, if_pos rfl, if_pos (.inr ⟨by omega, h⟩)]
 generalize q2b ws q28 1 d a false m = x0 at *
 obtain ⟨v0, a0, w0, m0⟩ := x0
 dsimp only at n1 k1 f1 hw0
 subst f1
 have hi0 := k1
 simp only [q05] at hS
 unfold z7w at hS
 have q1 := q34 hi0 hn w0 [q3w] (by simp)
 have hi1 := q0h ws [q3w] a0 w0 m0 hi0
 have hw1 : 4 ≤ d → (q0c ws [q3w] a0 w0 m0).2.2.1 = true := fun h => by rw [hw0 h]; exact (q2d ws [q3w] a0 m0).2
 generalize q0c ws [q3w] a0 w0 m0 = x1 at *
 obtain ⟨v1, a1, w1, m1⟩ := x1
 simp only [q05] at hS
 dsimp only at q1 hi1
 dsimp only at hw1
 have q2 := q27 hi1 hn w1 1 8
 have hi2 := q1w ws 1 8 a1 w1 m1 hi1
 have b2 := q3d (ws := ws) (lo := 1) (h := 8) (a := a1) (m := m1) (w := w1) (by omega) (by omega)
 have hw2 : 4 ≤ d → (q2l ws 1 8 a1 w1 m1).2.2.1 = true := fun h => by rw [hw1 h]; exact (q4l ws 1 8 a1 m1).2
 generalize q2l ws 1 8 a1 w1 m1 = x2 at *
 obtain ⟨v2, a2, w2, m2⟩ := x2
 simp only [q05] at hS
 dsimp only at q2 hi2 b2
 dsimp only at hw2
 have q3 := q34 hi2 hn w2 [q0z] (by simp)
 have hi3 := q0h ws [q0z] a2 w2 m2 hi2
 have hw3 : 4 ≤ d → (q0c ws [q0z] a2 w2 m2).2.2.1 = true := fun h => by rw [hw2 h]; exact (q2d ws [q0z] a2 m2).2
 generalize q0c ws [q0z] a2 w2 m2 = x3 at *
 obtain ⟨v3, a3, w3, m3⟩ := x3
 simp only [q05] at hS
 dsimp only at q3 hi3
 dsimp only at hw3
 have q4 := q27 hi3 hn w3 1 1000000
 have hi4 := q1w ws 1 1000000 a3 w3 m3 hi3
 have b4 := q3d (ws := ws) (lo := 1) (h := 1000000) (a := a3) (m := m3) (w := w3) (by omega) (by omega)
 have hw4 : 4 ≤ d → (q2l ws 1 1000000 a3 w3 m3).2.2.1 = true := fun h => by rw [hw3 h]; exact (q4l ws 1 1000000 a3 m3).2
 generalize q2l ws 1 1000000 a3 w3 m3 = x4 at *
 obtain ⟨v4, a4, w4, m4⟩ := x4
 simp only [q05] at hS
 dsimp only at q4 hi4 b4
 dsimp only at hw4
 have q5 := q34 hi4 hn w4 [q5t] (by simp)
 have hi5 := q0h ws [q5t] a4 w4 m4 hi4
 have hw5 : 4 ≤ d → (q0c ws [q5t] a4 w4 m4).2.2.1 = true := fun h => by rw [hw4 h]; exact (q2d ws [q5t] a4 m4).2
 generalize q0c ws [q5t] a4 w4 m4 = x5 at *
 obtain ⟨v5, a5, w5, m5⟩ := x5
 simp only [q05] at hS
 dsimp only at q5 hi5
 dsimp only at hw5
 have q6 := hsub a5 m5 w5 hi5 hw5
 have hi6 := hkp a5 w5 m5 hi5
 unfold MG at q6
 replace hi6 : InW ws (sub a5 w5 m5).2.1 (sub a5 w5 m5).2.2.2 := hi6
 generalize sub a5 w5 m5 = x6 at *
 obtain ⟨v6, a6, w6, m6⟩ := x6
 simp only [q05] at hS
 dsimp only at q6 hi6
 have hS : ((⟨2, [], 0, 0, v2, 0, false, 0, 0, v4, [], [y30 v6]⟩ : q06), a6, w6, m6) = S := by rw [q8m]; exact hS
 rw [← hS]
 clear hS hsub
 refine q00 Ax q03 Tryz.func56 (c := _) rfl Tryz.call56 900 ?_
 (repeat' ((conv => whnf); first | (exfalso; omega) | (refine q01 [some 0] n0 rfl rfl ⟨rfl, trivial⟩ ?_) | (refine q01 [some 0] n1 rfl rfl ⟨rfl, trivial⟩ ?_) | (refine q01 [some 0, some _] q1 rfl rfl ⟨rfl, rfl, trivial⟩ ?_) | (refine q01 [some 0] q2 rfl rfl ⟨rfl, trivial⟩ ?_) | (refine q01 [some 0, some _] q3 rfl rfl ⟨rfl, rfl, trivial⟩ ?_) | (refine q01 [some 0] q4 rfl rfl ⟨rfl, trivial⟩ ?_) | (refine q01 [some 0, some _] q5 rfl rfl ⟨rfl, rfl, trivial⟩ ?_) | (refine q01 [some 0] q6 rfl rfl ⟨rfl, trivial⟩ ?_) | (refine q08 [some 0] (.inr rfl) ?_ ?_ rfl rfl; (focus exact vwV); exact hsV) | refine spC (fun hb => ?_) fun hb => ?_ | refine saC ?_))
theorem zz7 {ws : List Wd} (hn : q74 ws) {sub : XP q06} (hkp : KP ws sub) {a m : Int} (hi : InW ws a m) (most d : Int) (hd : 1 ≤ d ∧ d ≤ 5) (hmost : 3 ≤ most) (hx : q24 ws q1k a false = true) (hsub : ∀ a m w, InW ws a m → (4 ≤ d → w = true) → MG ws 1 (d + 1) a m w (sub a w m)) (S : Xr q06) (hS : (q2b ws q1k 1 d a false m).bind (fun _ => qs8 ws sub) = S) : MG ws most d a m false S := by
 unfold MG
 have n0 := q4e hi hn false q3e 0 d (by omega)
 rw [q0t (q26 hx (by decide))] at n0
 have n1 := q4e hi hn false q28 1 d (by omega)
 rw [q0t (q26 hx (by decide))] at n1
 have n2 := q4e hi hn false q1k 1 d (by omega)
 have k2 := q66 ws q1k (show (0 : Int) ≤ 1 by omega) d a false m hi
 have f2 := q2x hx 1 d m
 have hw0 : 4 ≤ d → (q2b ws q1k 1 d a false m).2.2.1 = true := fun h => by unfold q2b; rw [hx, if_pos rfl, if_pos (.inr ⟨by omega, h⟩)]
 generalize q2b ws q1k 1 d a false m = x0 at *
 obtain ⟨v0, a0, w0, m0⟩ := x0
 dsimp only at n2 k2 f2 hw0
 subst f2
 have hi0 := k2
 simp only [q05] at hS
 unfold qs8 at hS
 have q1 := q27 hi0 hn w0 1 60
 have hi1 := q1w ws 1 60 a0 w0 m0 hi0
 have b1 := q3d (ws := ws) (lo := 1) (h := 60) (a := a0) (m := m0) (w := w0) (by omega) (by omega)
 have hw1 : 4 ≤ d → (q2l ws 1 60 a0 w0 m0).2.2.1 = true := fun h => by rw [hw0 h]; exact (q4l ws 1 60 a0 m0).2
 generalize q2l ws 1 60 a0 w0 m0 = x1 at *
 obtain ⟨v1, a1, w1, m1⟩ := x1
 simp only [q05] at hS
 dsimp only at q1 hi1 b1
 dsimp only at hw1
 have q2 := q34 hi1 hn w1 [q5d] (by simp)
 have hi2 := q0h ws [q5d] a1 w1 m1 hi1
 have hw2 : 4 ≤ d → (q0c ws [q5d] a1 w1 m1).2.2.1 = true := fun h => by rw [hw1 h]; exact (q2d ws [q5d] a1 m1).2
 generalize q0c ws [q5d] a1 w1 m1 = x2 at *
 obtain ⟨v2, a2, w2, m2⟩ := x2
 simp only [q05] at hS
 dsimp only at q2 hi2
 dsimp only at hw2
 have q3 := q27 hi2 hn w2 1 6
 have hi3 := q1w ws 1 6 a2 w2 m2 hi2
 have b3 := q3d (ws := ws) (lo := 1) (h := 6) (a := a2) (m := m2) (w := w2) (by omega) (by omega)
 have hw3 : 4 ≤ d → (q2l ws 1 6 a2 w2 m2).2.2.1 = true := fun h => by rw [hw2 h]; exact (q4l ws 1 6 a2 m2).2
 generalize q2l ws 1 6 a2 w2 m2 = x3 at *
 obtain ⟨v3, a3, w3, m3⟩ := x3
 simp only [q05] at hS
 dsimp only at q3 hi3 b3
 dsimp only at hw3
 have q4 := q34 hi3 hn w3 [q3u, q3v] (by simp)
 have hi4 := q0h ws [q3u, q3v] a3 w3 m3 hi3
 have hw4 : 4 ≤ d → (q0c ws [q3u, q3v] a3 w3 m3).2.2.1 = true := fun h => by rw [hw3 h]; exact (q2d ws [q3u, q3v] a3 m3).2
 generalize q0c ws [q3u, q3v] a3 w3 m3 = x4 at *
 obtain ⟨v4, a4, w4, m4⟩ := x4
 simp only [q05] at hS
 dsimp only at q4 hi4
 dsimp only at hw4
 have q5 := q27 hi4 hn w4 0 (1440 * v1)
 have hi5 := q1w ws 0 (1440 * v1) a4 w4 m4 hi4
 have b5 := q3d (ws := ws) (lo := 0) (h := (1440 * v1)) (a := a4) (m := m4) (w := w4) (by omega) (by omega)
 have hw5 : 4 ≤ d → (q2l ws 0 (1440 * v1) a4 w4 m4).2.2.1 = true := fun h => by rw [hw4 h]; exact (q4l ws 0 (1440 * v1) a4 m4).2
 generalize q2l ws 0 (1440 * v1) a4 w4 m4 = x5 at *
 obtain ⟨v5, a5, w5, m5⟩ := x5
 simp only [q05] at hS
 dsimp only at q5 hi5 b5
 dsimp only at hw5
 have q6 := q34 hi5 hn w5 [q1q] (by simp)
 have hi6 := q0h ws [q1q] a5 w5 m5 hi5
 have hw6 : 4 ≤ d → (q0c ws [q1q] a5 w5 m5).2.2.1 = true := fun h => by rw [hw5 h]; exact (q2d ws [q1q] a5 m5).2
 generalize q0c ws [q1q] a5 w5 m5 = x6 at *
 obtain ⟨v6, a6, w6, m6⟩ := x6
 simp only [q05] at hS
 dsimp only at q6 hi6
 dsimp only at hw6
 have q7 := q27 hi6 hn w6 0 1000000
 have hi7 := q1w ws 0 1000000 a6 w6 m6 hi6
 have b7 := q3d (ws := ws) (lo := 0) (h := 1000000) (a := a6) (m := m6) (w := w6) (by omega) (by omega)
 have hw7 : 4 ≤ d → (q2l ws 0 1000000 a6 w6 m6).2.2.1 = true := fun h => by rw [hw6 h]; exact (q4l ws 0 1000000 a6 m6).2
 generalize q2l ws 0 1000000 a6 w6 m6 = x7 at *
 obtain ⟨v7, a7, w7, m7⟩ := x7
 simp only [q05] at hS
 dsimp only at q7 hi7 b7
 dsimp only at hw7
 have q8 := q34 hi7 hn w7 [q5t] (by simp)
 have hi8 := q0h ws [q5t] a7 w7 m7 hi7
 have hw8 : 4 ≤ d → (q0c ws [q5t] a7 w7 m7).2.2.1 = true := fun h => by rw [hw7 h]; exact (q2d ws [q5t] a7 m7).2
 generalize q0c ws [q5t] a7 w7 m7 = x8 at *
 obtain ⟨v8, a8, w8, m8⟩ := x8
 simp only [q05] at hS
 dsimp only at q8 hi8
 dsimp only at hw8
 have q9 := hsub a8 m8 w8 hi8 hw8
 have hi9 := hkp a8 w8 m8 hi8
 unfold MG at q9
 replace hi9 : InW ws (sub a8 w8 m8).2.1 (sub a8 w8 m8).2.2.2 := hi9
 generalize sub a8 w8 m8 = x9 at *
 obtain ⟨v9, a9, w9, m9⟩ := x9
 simp only [q05] at hS
 dsimp only at q9 hi9
 have hS : ((⟨3, [], v7, 0, 0, 0, false, v1, v3, v5, [], [y30 v9]⟩ : q06), a9, w9, m9) = S := by rw [q8m]; exact hS
 rw [← hS]
 clear hS hsub
 refine q00 Ax q03 Tryz.func56 (c := _) rfl Tryz.call56 900 ?_
 (repeat' ((conv => whnf); first | (exfalso; omega) | (refine q01 [some 0] n0 rfl rfl ⟨rfl, trivial⟩ ?_) | (refine q01 [some 0] n1 rfl rfl ⟨rfl, trivial⟩ ?_) | (refine q01 [some 0] n2 rfl rfl ⟨rfl, trivial⟩ ?_) | (refine q01 [some 0] q1 rfl rfl ⟨rfl, trivial⟩ ?_) | (refine q01 [some 0, some _] q2 rfl rfl ⟨rfl, rfl, trivial⟩ ?_) | (refine q01 [some 0] q3 rfl rfl ⟨rfl, trivial⟩ ?_) | (refine q01 [some 0, some _] q4 rfl rfl ⟨rfl, rfl, trivial⟩ ?_) | (refine q01 [some 0] q5 rfl rfl ⟨rfl, trivial⟩ ?_) | (refine q01 [some 0, some _] q6 rfl rfl ⟨rfl, rfl, trivial⟩ ?_) | (refine q01 [some 0] q7 rfl rfl ⟨rfl, trivial⟩ ?_) | (refine q01 [some 0, some _] q8 rfl rfl ⟨rfl, rfl, trivial⟩ ?_) | (refine q01 [some 0] q9 rfl rfl ⟨rfl, trivial⟩ ?_) | (refine q08 [some 0] (.inr rfl) ?_ ?_ rfl rfl; (focus exact vwV); exact hsV) | refine spC (fun hb => ?_) fun hb => ?_ | refine saC ?_))
theorem y7c {ws : List Wd} (hn : q74 ws) {sub : XP q06} (hkp : KP ws sub) {a m : Int} (hi : InW ws a m) (most d : Int) (hd : 1 ≤ d ∧ d ≤ 5) (hmost : 4 ≤ most) (hx : q24 ws q0q a false = true) (hsub : ∀ a m w, InW ws a m → (4 ≤ d → w = true) → MG ws 3 (d + 1) a m w (sub a w m)) (S : Xr q06) (hS : (q2b ws q0q 1 d a false m).bind (fun _ => y55 ws sub) = S) : MG ws most d a m false S := by
 unfold MG
 have n0 := q4e hi hn false q3e 0 d (by omega)
 rw [q0t (q26 hx (by decide))] at n0
 have n1 := q4e hi hn false q28 1 d (by omega)
 rw [q0t (q26 hx (by decide))] at n1
 have n2 := q4e hi hn false q1k 1 d (by omega)
 rw [q0t (q26 hx (by decide))] at n2
 have n3 := q4e hi hn false q0q 1 d (by omega)
 have k3 := q66 ws q0q (show (0 : Int) ≤ 1 by omega) d a false m hi
 have f3 := q2x hx 1 d m
 have hw0 : 4 ≤ d → (q2b ws q0q 1 d a false m).2.2.1 = true := fun h => by unfold q2b; rw [hx, if_pos rfl, if_pos (.inr ⟨by omega, h⟩)]
 generalize q2b ws q0q 1 d a false m = x0 at *
 obtain ⟨v0, a0, w0, m0⟩ := x0
 dsimp only at n3 k3 f3 hw0
 subst f3
 have hi0 := k3
 simp only [q05] at hS
 unfold y55 at hS
 have q1 := q34 hi0 hn w0 [q0z] (by simp)
 have hi1 := q0h ws [q0z] a0 w0 m0 hi0
 have hw1 : 4 ≤ d → (q0c ws [q0z] a0 w0 m0).2.2.1 = true := fun h => by rw [hw0 h]; exact (q2d ws [q0z] a0 m0).2
 generalize q0c ws [q0z] a0 w0 m0 = x1 at *
 obtain ⟨v1, a1, w1, m1⟩ := x1
 simp only [q05] at hS
 dsimp only at q1 hi1
 dsimp only at hw1
 have q2 := q27 hi1 hn w1 0 1000000
 have hi2 := q1w ws 0 1000000 a1 w1 m1 hi1
 have b2 := q3d (ws := ws) (lo := 0) (h := 1000000) (a := a1) (m := m1) (w := w1) (by omega) (by omega)
 have hw2 : 4 ≤ d → (q2l ws 0 1000000 a1 w1 m1).2.2.1 = true := fun h => by rw [hw1 h]; exact (q4l ws 0 1000000 a1 m1).2
 generalize q2l ws 0 1000000 a1 w1 m1 = x2 at *
 obtain ⟨v2, a2, w2, m2⟩ := x2
 simp only [q05] at hS
 dsimp only at q2 hi2 b2
 dsimp only at hw2
 have q3 := q34 hi2 hn w2 [q5t] (by simp)
 have hi3 := q0h ws [q5t] a2 w2 m2 hi2
 have hw3 : 4 ≤ d → (q0c ws [q5t] a2 w2 m2).2.2.1 = true := fun h => by rw [hw2 h]; exact (q2d ws [q5t] a2 m2).2
 generalize q0c ws [q5t] a2 w2 m2 = x3 at *
 obtain ⟨v3, a3, w3, m3⟩ := x3
 simp only [q05] at hS
 dsimp only at q3 hi3
 dsimp only at hw3
 have q4 := hsub a3 m3 w3 hi3 hw3
 have hi4 := hkp a3 w3 m3 hi3
 unfold MG at q4
 replace hi4 : InW ws (sub a3 w3 m3).2.1 (sub a3 w3 m3).2.2.2 := hi4
 generalize sub a3 w3 m3 = x4 at *
 obtain ⟨v4, a4, w4, m4⟩ := x4
 simp only [q05] at hS
 dsimp only at q4 hi4
 have hS : ((⟨4, [], 0, 0, 0, 0, false, 0, 0, v2, [], [y30 v4]⟩ : q06), a4, w4, m4) = S := by rw [q8m]; exact hS
 rw [← hS]
 clear hS hsub
 refine q00 Ax q03 Tryz.func56 (c := _) rfl Tryz.call56 900 ?_
 (repeat' ((conv => whnf); first | (exfalso; omega) | (refine q01 [some 0] n0 rfl rfl ⟨rfl, trivial⟩ ?_) | (refine q01 [some 0] n1 rfl rfl ⟨rfl, trivial⟩ ?_) | (refine q01 [some 0] n2 rfl rfl ⟨rfl, trivial⟩ ?_) | (refine q01 [some 0] n3 rfl rfl ⟨rfl, trivial⟩ ?_) | (refine q01 [some 0, some _] q1 rfl rfl ⟨rfl, rfl, trivial⟩ ?_) | (refine q01 [some 0] q2 rfl rfl ⟨rfl, trivial⟩ ?_) | (refine q01 [some 0, some _] q3 rfl rfl ⟨rfl, rfl, trivial⟩ ?_) | (refine q01 [some 0] q4 rfl rfl ⟨rfl, trivial⟩ ?_) | (refine q08 [some 0] (.inr rfl) ?_ ?_ rfl rfl; (focus exact vwV); exact hsV) | refine spC (fun hb => ?_) fun hb => ?_ | refine saC ?_))
@[reducible] def nlS : SV Cd := .p (.lit (.slice none 0 0))
@[reducible] def gF (k : Int) (cs ks : SV Cd) : List (SV Cd) := [iS k, nlS, iS 0, iS 0, iS 0, iS 0, bS false, iS 0, iS 0, iS 0, cs, ks]
theorem qe4 (ws : List Wd) (X : XP q06) (k : Int) (n : Nat) (cents : List Int) (kids : List q06) (a m : Int) : q1h ws X k n cents kids a true m = ((cents, kids), a, true, m) := by
 cases n with
 | zero => rfl
 | succ n => rw [q1h]; simp
theorem y4t {ws : List Wd} (hn : q74 ws) {sub : XP q06} (hkp : KP ws sub) {a m : Int} {w : Bool} (hi : InW ws a m) (d : Int) (hd : 1 ≤ d ∧ d ≤ 5) (hw : 4 ≤ d → w = true) (hsub : ∀ a m w, InW ws a m → (4 ≤ d → w = true) → MG ws 6 (d + 1) a m w (sub a w m)) (S : Xr (List Int × List q06)) (hS : (q0c ws [q2m] a w m).bind (fun _ => q1h ws sub 5 5 [] []) = S) :
  q07 Tryz.prog Dc 82 [.ptr 0 0, .ptr 1 0, iS d] (rdX ws a w m ++ [.vart none (gF 5 nlS nlS)]) (.tuple []) (rdX ws S.2.1 S.2.2.1 S.2.2.2 ++ [.vart none (gF 5 nlS (.slice 2 0 12 0 S.1.2.length)), .rows U.goal S.1.2]) := by
 have qm := q34 hi hn w [q2m] (by simp)
 have im := q0h ws [q2m] a w m hi
 have hw1 : 4 ≤ d → (q0c ws [q2m] a w m).2.2.1 = true := fun h => by rw [hw h]; exact z1j
 generalize q0c ws [q2m] a w m = x0 at *
 obtain ⟨u, a0, w0, m0⟩ := x0
 simp only [q05] at hS
 dsimp only at qm im hw1
 refine q00 Ax q03 Tryz.func82 (c := _) rfl Tryz.call82 600 ?_
 (repeat' ((conv => whnf); first | (refine q01 [some 0, some _] qm rfl rfl ⟨rfl, rfl, trivial⟩ ?_) | refine saC ?_))
 refine q57 [some 0, some 1, none] (fun _ : Nat × List q06 × Int × Bool × Int => [(7, .any)]) (fun q => [(0, .vart none [wsS ws, iS q.2.2.1, bS q.2.2.2.1, iS q.2.2.2.2]), (1, .vart none (gF 5 nlS (.slice 2 0 12 0 q.2.1.length))), (2, .rows U.goal q.2.1)]) (fun q => q1h ws sub 5 q.1 [] q.2.1 q.2.2.1 q.2.2.2.1 q.2.2.2.2 = S ∧ InW ws q.2.2.1 q.2.2.2.2 ∧ (4 ≤ d → q.2.2.2.1 = true) ∧ q.2.1.length + q.1 = 5 ∧ (q.2.2.2.1 = false → q.2.1.length ≤ 3)) (fun q => q.1) (5, [], a0, w0, m0) ⟨hS, im, hw1, rfl, fun _ => by simp⟩ (by exact bkI) ?_
 clear hS im hw1 qm
 rintro ⟨n, kids, a, w, m⟩ ⟨hS, hi, hw, hn5, hk3⟩ K hK
 dsimp only at hS hi hw hn5 hk3 hK ⊢
 cases w with
 | true =>
  rw [qe4] at hS
  rw [← hS]
  clear hsub hS
  (repeat' ((conv => whnf); first | (refine q08 [some 0, some 1, some 2] (.inl rfl) ?_ ?_ rfl rfl; (focus exact vwV); exact hsW)))
 | false =>
  have hd4 : d < 4 := by
   by_cases h : d < 4
   ·exact h
   ·have := hw (by omega); cases this
  have hk3 := hk3 rfl
  obtain ⟨n, rfl⟩ : ∃ k, n = k + 1 := ⟨n - 1, by omega⟩
  replace hS : (sub a false m).bind (fun g a w m =>
   if kids.length + 1 = 1 then (q0c ws [q0d] a w m).bind fun _ a w m => q1h ws sub 5 n [] (kids ++ [g]) a w m
   else (xIs ws q1d a w m).bind fun b a w m =>
    if b then (([], kids ++ [g]), a, w, m)
    else if kids.length + 1 = 4 ∨ m = 0 then (([], kids ++ [g]), a, true, m)
    else (q0c ws [q0d] a w (m - 1)).bind fun _ a w m => q1h ws sub 5 n [] (kids ++ [g]) a w m) = S := hS
  have q1 := hsub a m false hi (fun h => by omega)
  have i1 := hkp a false m hi
  unfold MG at q1
  generalize sub a false m = x1 at *
  obtain ⟨g, a1, w1, m1⟩ := x1
  simp only [q05] at hS
  dsimp only at q1 i1
  have hZl : (List.take kids.length kids ++ List.take 1 (List.drop 0 [(⟨0, [], 0, 0, 0, 0, false, 0, 0, 0, [], []⟩ : q06)])).length = kids.length + 1 := by rw [List.take_length]; simp
  have hV : (List.take kids.length kids ++ List.take 1 (List.drop 0 [(⟨0, [], 0, 0, 0, 0, false, 0, 0, 0, [], []⟩ : q06)])).set (0 + (kids.length : Int).toNat) (y30 g) = kids ++ [g] := by
   rw [List.take_length, show 0 + (kids.length : Int).toNat = kids.length by omega, List.set_append_right _ _ (Nat.le_refl _), Nat.sub_self, q8m]; rfl
  have hVl : ((List.take kids.length kids ++ List.take 1 (List.drop 0 [(⟨0, [], 0, 0, 0, 0, false, 0, 0, 0, [], []⟩ : q06)])).set (0 + (kids.length : Int).toNat) (y30 g)).length = kids.length + 1 := by rw [hV]; simp
  rw [← hV] at hS
  clear hsub hkp hV
  by_cases h1 : kids.length + 1 = 1
  ·rw [if_pos h1] at hS
   have q2 := q34 i1 hn w1 [q0d] (by simp)
   have i2 := q0h ws [q0d] a1 w1 m1 i1
   generalize q0c ws [q0d] a1 w1 m1 = x2 at *
   obtain ⟨u2, a2, w2, m2⟩ := x2
   simp only [q05] at hS
   dsimp only at q2 i2
   (repeat' ((conv => whnf); first | (exfalso; omega) | (refine q37 [some 0] q1 rfl rfl ⟨rfl, trivial⟩ ?_) | (refine q01 [some 0, some _] q2 rfl rfl ⟨rfl, rfl, trivial⟩ ?_) | refine hK (n, _, a2, w2, m2) [some 0, some 1, some 4] _ _ ⟨⟨hS, i2, (fun h => by omega), (by dsimp only; omega), (fun _ => by dsimp only; omega)⟩⟩ ⟨by dsimp only; omega⟩ (by exact bkW) | refine spC (fun hb => ?_) fun hb => ?_ | refine taC ?_ | refine saC ?_ | refine q02 mixed ?_))
  ·rw [if_neg h1] at hS
   have q2 := xis i1 hn w1 q1d
   have i2 := z3s ws q1d a1 w1 m1 i1
   generalize xIs ws q1d a1 w1 m1 = x2 at *
   obtain ⟨b2, a2, w2, m2⟩ := x2
   simp only [q05] at hS
   dsimp only at q2 i2
   cases b2 with
   | true =>
    rw [if_pos rfl] at hS
    rw [← hS]
    clear hS
    (repeat' ((conv => whnf); first | (exfalso; omega) | (refine q37 [some 0] q1 rfl rfl ⟨rfl, trivial⟩ ?_) | (refine q01 [some 0] q2 rfl rfl ⟨rfl, trivial⟩ ?_) | (refine q08 [some 0, some 1, some 4] (.inr rfl) ?_ ?_ rfl rfl; (focus exact vwV); exact hsW) | refine spC (fun hb => ?_) fun hb => ?_ | refine taC ?_ | refine saC ?_ | refine q02 mixed ?_))
   | false =>
    rw [if_neg (by decide)] at hS
    by_cases hc : kids.length + 1 = 4 ∨ m2 = 0
    ·rw [if_pos hc] at hS
     rw [← hS]
     clear hS
     by_cases hc4 : kids.length + 1 = 4
     ·(repeat' ((conv => whnf); first | (exfalso; omega) | (refine q37 [some 0] q1 rfl rfl ⟨rfl, trivial⟩ ?_) | (refine q01 [some 0] q2 rfl rfl ⟨rfl, trivial⟩ ?_) | (refine q08 [some 0, some 1, some 4] (.inr rfl) ?_ ?_ rfl rfl; (focus exact vwV); exact hsW) | refine spC (fun hb => ?_) fun hb => ?_ | refine taC ?_ | refine saC ?_ | refine q02 mixed ?_))
     ·(repeat' ((conv => whnf); first | (exfalso; omega) | (refine q37 [some 0] q1 rfl rfl ⟨rfl, trivial⟩ ?_) | (refine q01 [some 0] q2 rfl rfl ⟨rfl, trivial⟩ ?_) | (refine q08 [some 0, some 1, some 4] (.inr rfl) ?_ ?_ rfl rfl; (focus exact vwV); exact hsW) | refine spC (fun hb => ?_) fun hb => ?_ | refine taC ?_ | refine saC ?_ | refine q02 mixed ?_))
    ·rw [if_neg hc] at hS
     have hm2 := i2.m0
     have hm3 := i2.m1
     have i2' : InW ws a2 (m2 - 1) := ⟨i2.a0, i2.a1, by omega, by omega⟩
     have q3 := q34 i2' hn w2 [q0d] (by simp)
     have i3 := q0h ws [q0d] a2 w2 (m2 - 1) i2'
     generalize q0c ws [q0d] a2 w2 (m2 - 1) = x3 at *
     obtain ⟨u3, a3, w3, m3⟩ := x3
     simp only [q05] at hS
     dsimp only at q3 i3
     (repeat' ((conv => whnf); first | (exfalso; omega) | (refine q37 [some 0] q1 rfl rfl ⟨rfl, trivial⟩ ?_) | (refine q01 [some 0] q2 rfl rfl ⟨rfl, trivial⟩ ?_) | (refine q01 [some 0, some _] q3 rfl rfl ⟨rfl, rfl, trivial⟩ ?_) | refine hK (n, _, a3, w3, m3) [some 0, some 1, some 4] _ _ ⟨⟨hS, i3, (fun h => by omega), (by dsimp only; omega), (fun _ => by dsimp only; omega)⟩⟩ ⟨by dsimp only; omega⟩ (by exact bkW) | refine spC (fun hb => ?_) fun hb => ?_ | refine taC ?_ | refine saC ?_ | refine q02 mixed ?_))
theorem y61 {ws : List Wd} (hn : q74 ws) {sub : XP q06} (hkp : KP ws sub) {a m : Int} {w : Bool} (hi : InW ws a m) (d : Int) (hd : 1 ≤ d ∧ d ≤ 5) (hw : 4 ≤ d → w = true) (hsub : ∀ a m w, InW ws a m → (4 ≤ d → w = true) → MG ws 6 (d + 1) a m w (sub a w m)) (S : Xr (List Int × List q06)) (hS : (q0c ws [q2m] a w m).bind (fun _ => q1h ws sub 6 5 [] []) = S) :
  q07 Tryz.prog Dc 82 [.ptr 0 0, .ptr 1 0, iS d] (rdX ws a w m ++ [.vart none (gF 6 nlS nlS)]) (.tuple []) (rdX ws S.2.1 S.2.2.1 S.2.2.2 ++ [.vart none (gF 6 (.slice 2 0 1 0 S.1.1.length) (.slice 3 0 12 0 S.1.2.length)), .rows U.int S.1.1, .rows U.goal S.1.2]) := by
 have qm := q34 hi hn w [q2m] (by simp)
 have im := q0h ws [q2m] a w m hi
 have hw1 : 4 ≤ d → (q0c ws [q2m] a w m).2.2.1 = true := fun h => by rw [hw h]; exact z1j
 generalize q0c ws [q2m] a w m = x0 at *
 obtain ⟨u, a0, w0, m0⟩ := x0
 simp only [q05] at hS
 dsimp only at qm im hw1
 refine q00 Ax q03 Tryz.func82 (c := _) rfl Tryz.call82 600 ?_
 (repeat' ((conv => whnf); first | (refine q01 [some 0, some _] qm rfl rfl ⟨rfl, rfl, trivial⟩ ?_) | refine saC ?_))
 refine q57 [some 0, some 1, none, none] (fun _ : Nat × List Int × List q06 × Int × Bool × Int => [(7, .any)]) (fun q => [(0, .vart none [wsS ws, iS q.2.2.2.1, bS q.2.2.2.2.1, iS q.2.2.2.2.2]), (1, .vart none (gF 6 (.slice 2 0 1 0 q.2.1.length) (.slice 3 0 12 0 q.2.2.1.length))), (2, .rows U.int q.2.1), (3, .rows U.goal q.2.2.1)]) (fun q => q1h ws sub 6 q.1 q.2.1 q.2.2.1 q.2.2.2.1 q.2.2.2.2.1 q.2.2.2.2.2 = S ∧ InW ws q.2.2.2.1 q.2.2.2.2.2 ∧ (4 ≤ d → q.2.2.2.2.1 = true) ∧ q.2.2.1.length + q.1 = 5 ∧ (q.2.2.2.2.1 = false → q.2.2.1.length ≤ 3) ∧ q.2.1.length = q.2.2.1.length) (fun q => q.1) (5, [], [], a0, w0, m0) ⟨hS, im, hw1, rfl, (fun _ => by simp), rfl⟩ (by exact bkI) ?_
 clear hS im hw1 qm
 rintro ⟨n, cents, kids, a, w, m⟩ ⟨hS, hi, hw, hn5, hk3, hck⟩ K hK
 dsimp only at hS hi hw hn5 hk3 hck hK ⊢
 cases w with
 | true =>
  rw [qe4] at hS
  rw [← hS]
  clear hsub hS
  (repeat' ((conv => whnf); first | (refine q08 [some 0, some 1, some 2, some 3] (.inl rfl) ?_ ?_ rfl rfl; (focus exact vwV); exact hsW)))
 | false =>
  have hd4 : d < 4 := by
   by_cases h : d < 4
   ·exact h
   ·have := hw (by omega); cases this
  have hk3 := hk3 rfl
  obtain ⟨n, rfl⟩ : ∃ k, n = k + 1 := ⟨n - 1, by omega⟩
  replace hS : (q2l ws 0 1000000000 a false m).bind (fun c a w m => (sub a w m).bind (fun g a w m =>
   if kids.length + 1 = 1 then (q0c ws [q0d] a w m).bind fun _ a w m => q1h ws sub 6 n (cents ++ [c]) (kids ++ [g]) a w m
   else (xIs ws q1d a w m).bind fun b a w m =>
    if b then ((cents ++ [c], kids ++ [g]), a, w, m)
    else if kids.length + 1 = 4 ∨ m = 0 then ((cents ++ [c], kids ++ [g]), a, true, m)
    else (q0c ws [q0d] a w (m - 1)).bind fun _ a w m => q1h ws sub 6 n (cents ++ [c]) (kids ++ [g]) a w m)) = S := hS
  have q0 := q27 hi hn false 0 1000000000
  have i0 := q1w ws 0 1000000000 a false m hi
  generalize q2l ws 0 1000000000 a false m = x0 at *
  obtain ⟨c, a0, w0, m0⟩ := x0
  simp only [q05] at hS
  dsimp only at q0 i0
  have q1 := hsub a0 m0 w0 i0 (fun h => by omega)
  have i1 := hkp a0 w0 m0 i0
  unfold MG at q1
  generalize sub a0 w0 m0 = x1 at *
  obtain ⟨g, a1, w1, m1⟩ := x1
  simp only [q05] at hS
  dsimp only at q1 i1
  have hZl : (List.take kids.length kids ++ List.take 1 (List.drop 0 [(⟨0, [], 0, 0, 0, 0, false, 0, 0, 0, [], []⟩ : q06)])).length = kids.length + 1 := by rw [List.take_length]; simp
  have hV : (List.take kids.length kids ++ List.take 1 (List.drop 0 [(⟨0, [], 0, 0, 0, 0, false, 0, 0, 0, [], []⟩ : q06)])).set (0 + (kids.length : Int).toNat) (y30 g) = kids ++ [g] := by
   rw [List.take_length, show 0 + (kids.length : Int).toNat = kids.length by omega, List.set_append_right _ _ (Nat.le_refl _), Nat.sub_self, q8m]; rfl
  have hVl : ((List.take kids.length kids ++ List.take 1 (List.drop 0 [(⟨0, [], 0, 0, 0, 0, false, 0, 0, 0, [], []⟩ : q06)])).set (0 + (kids.length : Int).toNat) (y30 g)).length = kids.length + 1 := by rw [hV]; simp
  have hC : List.take cents.length cents ++ List.take 1 (List.drop 0 [c]) = cents ++ [c] := by rw [List.take_length]; rfl
  have hCl : (List.take cents.length cents ++ List.take 1 (List.drop 0 [c])).length = cents.length + 1 := by rw [hC]; simp
  rw [← hV, ← hC] at hS
  clear hsub hkp hV hC
  by_cases h1 : kids.length + 1 = 1
  ·rw [if_pos h1] at hS
   have q2 := q34 i1 hn w1 [q0d] (by simp)
   have i2 := q0h ws [q0d] a1 w1 m1 i1
   generalize q0c ws [q0d] a1 w1 m1 = x2 at *
   obtain ⟨u2, a2, w2, m2⟩ := x2
   simp only [q05] at hS
   dsimp only at q2 i2
   (repeat' ((conv => whnf); first | (exfalso; omega) | (refine q37 [some 0] q0 rfl rfl ⟨rfl, trivial⟩ ?_) | (refine q37 [some 0] q1 rfl rfl ⟨rfl, trivial⟩ ?_) | (refine q01 [some 0, some _] q2 rfl rfl ⟨rfl, rfl, trivial⟩ ?_) | refine hK (n, _, _, a2, w2, m2) [some 0, some 1, some 5, some 7] _ _ ⟨⟨hS, i2, (fun h => by omega), (by dsimp only; omega), (fun _ => by dsimp only; omega), (by dsimp only; omega)⟩⟩ ⟨by dsimp only; omega⟩ (by exact bkW) | refine spC (fun hb => ?_) fun hb => ?_ | refine taC ?_ | refine saC ?_ | refine q02 mixed ?_))
  ·rw [if_neg h1] at hS
   have q2 := xis i1 hn w1 q1d
   have i2 := z3s ws q1d a1 w1 m1 i1
   generalize xIs ws q1d a1 w1 m1 = x2 at *
   obtain ⟨b2, a2, w2, m2⟩ := x2
   simp only [q05] at hS
   dsimp only at q2 i2
   cases b2 with
   | true =>
    rw [if_pos rfl] at hS
    rw [← hS]
    clear hS
    (repeat' ((conv => whnf); first | (exfalso; omega) | (refine q37 [some 0] q0 rfl rfl ⟨rfl, trivial⟩ ?_) | (refine q37 [some 0] q1 rfl rfl ⟨rfl, trivial⟩ ?_) | (refine q01 [some 0] q2 rfl rfl ⟨rfl, trivial⟩ ?_) | (refine q08 [some 0, some 1, some 5, some 7] (.inr rfl) ?_ ?_ rfl rfl; (focus exact vwV); exact hsW) | refine spC (fun hb => ?_) fun hb => ?_ | refine taC ?_ | refine saC ?_ | refine q02 mixed ?_))
   | false =>
    rw [if_neg (by decide)] at hS
    by_cases hc : kids.length + 1 = 4 ∨ m2 = 0
    ·rw [if_pos hc] at hS
     rw [← hS]
     clear hS
     by_cases hc4 : kids.length + 1 = 4
     ·(repeat' ((conv => whnf); first | (exfalso; omega) | (refine q37 [some 0] q0 rfl rfl ⟨rfl, trivial⟩ ?_) | (refine q37 [some 0] q1 rfl rfl ⟨rfl, trivial⟩ ?_) | (refine q01 [some 0] q2 rfl rfl ⟨rfl, trivial⟩ ?_) | (refine q08 [some 0, some 1, some 5, some 7] (.inr rfl) ?_ ?_ rfl rfl; (focus exact vwV); exact hsW) | refine spC (fun hb => ?_) fun hb => ?_ | refine taC ?_ | refine saC ?_ | refine q02 mixed ?_))
     ·(repeat' ((conv => whnf); first | (exfalso; omega) | (refine q37 [some 0] q0 rfl rfl ⟨rfl, trivial⟩ ?_) | (refine q37 [some 0] q1 rfl rfl ⟨rfl, trivial⟩ ?_) | (refine q01 [some 0] q2 rfl rfl ⟨rfl, trivial⟩ ?_) | (refine q08 [some 0, some 1, some 5, some 7] (.inr rfl) ?_ ?_ rfl rfl; (focus exact vwV); exact hsW) | refine spC (fun hb => ?_) fun hb => ?_ | refine taC ?_ | refine saC ?_ | refine q02 mixed ?_))
    ·rw [if_neg hc] at hS
     have hm2 := i2.m0
     have hm3 := i2.m1
     have i2' : InW ws a2 (m2 - 1) := ⟨i2.a0, i2.a1, by omega, by omega⟩
     have q3 := q34 i2' hn w2 [q0d] (by simp)
     have i3 := q0h ws [q0d] a2 w2 (m2 - 1) i2'
     generalize q0c ws [q0d] a2 w2 (m2 - 1) = x3 at *
     obtain ⟨u3, a3, w3, m3⟩ := x3
     simp only [q05] at hS
     dsimp only at q3 i3
     (repeat' ((conv => whnf); first | (exfalso; omega) | (refine q37 [some 0] q0 rfl rfl ⟨rfl, trivial⟩ ?_) | (refine q37 [some 0] q1 rfl rfl ⟨rfl, trivial⟩ ?_) | (refine q01 [some 0] q2 rfl rfl ⟨rfl, trivial⟩ ?_) | (refine q01 [some 0, some _] q3 rfl rfl ⟨rfl, rfl, trivial⟩ ?_) | refine hK (n, _, _, a3, w3, m3) [some 0, some 1, some 5, some 7] _ _ ⟨⟨hS, i3, (fun h => by omega), (by dsimp only; omega), (fun _ => by dsimp only; omega), (by dsimp only; omega)⟩⟩ ⟨by dsimp only; omega⟩ (by exact bkW) | refine spC (fun hb => ?_) fun hb => ?_ | refine taC ?_ | refine saC ?_ | refine q02 mixed ?_))
theorem q9e (ws : List Wd) (X : XP q06) : ∀ (n : Nat) (kids : List q06) (a m : Int) (w : Bool), (q1h ws X 5 n [] kids a w m).1.1 = []
 | 0, kids, a, m, w => rfl
 | n + 1, kids, a, m, w => by
  cases w with
  | true => rw [qe4]
  | false =>
   show ((X a false m).bind (fun g a w m =>
    if kids.length + 1 = 1 then (q0c ws [q0d] a w m).bind fun _ a w m => q1h ws X 5 n [] (kids ++ [g]) a w m
    else (xIs ws q1d a w m).bind fun b a w m =>
     if b then (([], kids ++ [g]), a, w, m)
     else if kids.length + 1 = 4 ∨ m = 0 then (([], kids ++ [g]), a, true, m)
     else (q0c ws [q0d] a w (m - 1)).bind fun _ a w m => q1h ws X 5 n [] (kids ++ [g]) a w m)).1.1 = []
   generalize X a false m = x1
   obtain ⟨g, a1, w1, m1⟩ := x1
   rw [q05]
   split
   ·generalize q0c ws [q0d] a1 w1 m1 = x2
    obtain ⟨u, a2, w2, m2⟩ := x2
    rw [q05]
    exact q9e ws X n _ _ _ _
   ·generalize xIs ws q1d a1 w1 m1 = x2
    obtain ⟨b, a2, w2, m2⟩ := x2
    rw [q05]
    split
    ·rfl
    ·split
     ·rfl
     ·generalize q0c ws [q0d] a2 w2 (m2 - 1) = x3
      obtain ⟨u, a3, w3, m3⟩ := x3
      rw [q05]
      exact q9e ws X n _ _ _ _
theorem y86 {ws : List Wd} (hn : q74 ws) {sub : XP q06} (hkp : KP ws sub) {a m : Int} (hi : InW ws a m) (most d : Int) (hd : 1 ≤ d ∧ d ≤ 5) (hmost : 5 ≤ most) (hx : q24 ws q46 a false = true) (hsub : ∀ a m w, InW ws a m → (4 ≤ d → w = true) → MG ws 6 (d + 1) a m w (sub a w m)) (S : Xr q06) (hS : (q2b ws q46 2 d a false m).bind (fun _ => z5g ws sub 5) = S) : MG ws most d a m false S := by
 unfold MG
 have n0 := q4e hi hn false q3e 0 d (by omega)
 rw [q0t (q26 hx (by decide))] at n0
 have n1 := q4e hi hn false q28 1 d (by omega)
 rw [q0t (q26 hx (by decide))] at n1
 have n2 := q4e hi hn false q1k 1 d (by omega)
 rw [q0t (q26 hx (by decide))] at n2
 have n3 := q4e hi hn false q0q 1 d (by omega)
 rw [q0t (q26 hx (by decide))] at n3
 have n4 := q4e hi hn false q46 2 d (by omega)
 have k4 := q66 ws q46 (show (0 : Int) ≤ 2 by omega) d a false m hi
 have f4 := q2x hx 2 d m
 have hw0 : 4 ≤ d → (q2b ws q46 2 d a false m).2.2.1 = true := fun h => by unfold q2b; rw [hx, if_pos rfl, if_pos (.inr ⟨by omega, h⟩)]
 generalize q2b ws q46 2 d a false m = x0 at *
 obtain ⟨v0, a0, w0, m0⟩ := x0
 dsimp only at n4 k4 f4 hw0
 subst f4
 have hi0 := k4
 simp only [q05] at hS
 unfold z5g at hS
 have hS : ((q0c ws [q2m] a0 w0 m0).bind (fun _ => q1h ws sub 5 5 [] [])).bind (fun r a w m => ((⟨5, [], 0, 0, 0, 0, false, 0, 0, 0, r.1, r.2⟩ : q06), a, w, m)) = S := hS
 obtain ⟨P, hP⟩ : ∃ P, (q0c ws [q2m] a0 w0 m0).bind (fun _ => q1h ws sub 5 5 [] []) = P := ⟨_, rfl⟩
 have qp := y4t hn hkp hi0 d hd hw0 hsub P hP
 have hc : P.1.1 = [] := by rw [← hP]; exact q9e ws sub 5 [] _ _ _
 rw [hP] at hS
 obtain ⟨⟨cs, ks⟩, a1, w1, m1⟩ := P
 dsimp only at qp hc
 subst hc
 have hS : ((⟨5, [], 0, 0, 0, 0, false, 0, 0, 0, [], ks⟩ : q06), a1, w1, m1) = S := hS
 rw [← hS]
 clear hS hsub hP hkp
 refine q00 Ax q03 Tryz.func56 (c := _) rfl Tryz.call56 900 ?_
 (repeat' ((conv => whnf); first | (exfalso; omega) | (refine q01 [some 0] n0 rfl rfl ⟨rfl, trivial⟩ ?_) | (refine q01 [some 0] n1 rfl rfl ⟨rfl, trivial⟩ ?_) | (refine q01 [some 0] n2 rfl rfl ⟨rfl, trivial⟩ ?_) | (refine q01 [some 0] n3 rfl rfl ⟨rfl, trivial⟩ ?_) | (refine q01 [some 0] n4 rfl rfl ⟨rfl, trivial⟩ ?_) | (refine q01 [some 0, some 2] qp rfl rfl ⟨rfl, rfl, trivial⟩ ?_) | (refine q08 [some 0] (.inr rfl) ?_ ?_ rfl rfl; (focus exact vwV); exact hsV) | refine spC (fun hb => ?_) fun hb => ?_))
theorem y6p {ws : List Wd} (hn : q74 ws) {sub : XP q06} (hkp : KP ws sub) {a m : Int} (hi : InW ws a m) (most d : Int) (hd : 1 ≤ d ∧ d ≤ 5) (hmost : 6 ≤ most) (hx : q24 ws q2p a false = true) (hsub : ∀ a m w, InW ws a m → (4 ≤ d → w = true) → MG ws 6 (d + 1) a m w (sub a w m)) (S : Xr q06) (hS : (q2b ws q2p 2 d a false m).bind (fun _ => z5g ws sub 6) = S) : MG ws most d a m false S := by
 unfold MG
 have n0 := q4e hi hn false q3e 0 d (by omega)
 rw [q0t (q26 hx (by decide))] at n0
 have n1 := q4e hi hn false q28 1 d (by omega)
 rw [q0t (q26 hx (by decide))] at n1
 have n2 := q4e hi hn false q1k 1 d (by omega)
 rw [q0t (q26 hx (by decide))] at n2
 have n3 := q4e hi hn false q0q 1 d (by omega)
 rw [q0t (q26 hx (by decide))] at n3
 have n4 := q4e hi hn false q46 2 d (by omega)
 rw [q0t (q26 hx (by decide))] at n4
 have n5 := q4e hi hn false q2p 2 d (by omega)
 have k5 := q66 ws q2p (show (0 : Int) ≤ 2 by omega) d a false m hi
 have f5 := q2x hx 2 d m
 have hw0 : 4 ≤ d → (q2b ws q2p 2 d a false m).2.2.1 = true := fun h => by unfold q2b; rw [hx, if_pos rfl, if_pos (.inr ⟨by omega, h⟩)]
 generalize q2b ws q2p 2 d a false m = x0 at *
 obtain ⟨v0, a0, w0, m0⟩ := x0
 dsimp only at n5 k5 f5 hw0
 subst f5
 have hi0 := k5
 simp only [q05] at hS
 unfold z5g at hS
 have hS : ((q0c ws [q2m] a0 w0 m0).bind (fun _ => q1h ws sub 6 5 [] [])).bind (fun r a w m => ((⟨6, [], 0, 0, 0, 0, false, 0, 0, 0, r.1, r.2⟩ : q06), a, w, m)) = S := hS
 obtain ⟨P, hP⟩ : ∃ P, (q0c ws [q2m] a0 w0 m0).bind (fun _ => q1h ws sub 6 5 [] []) = P := ⟨_, rfl⟩
 have qp := y61 hn hkp hi0 d hd hw0 hsub P hP
 rw [hP] at hS
 obtain ⟨⟨cs, ks⟩, a1, w1, m1⟩ := P
 dsimp only at qp
 have hS : ((⟨6, [], 0, 0, 0, 0, false, 0, 0, 0, cs, ks⟩ : q06), a1, w1, m1) = S := hS
 rw [← hS]
 clear hS hsub hP hkp
 refine q00 Ax q03 Tryz.func56 (c := _) rfl Tryz.call56 900 ?_
 (repeat' ((conv => whnf); first | (exfalso; omega) | (refine q01 [some 0] n0 rfl rfl ⟨rfl, trivial⟩ ?_) | (refine q01 [some 0] n1 rfl rfl ⟨rfl, trivial⟩ ?_) | (refine q01 [some 0] n2 rfl rfl ⟨rfl, trivial⟩ ?_) | (refine q01 [some 0] n3 rfl rfl ⟨rfl, trivial⟩ ?_) | (refine q01 [some 0] n4 rfl rfl ⟨rfl, trivial⟩ ?_) | (refine q01 [some 0] n5 rfl rfl ⟨rfl, trivial⟩ ?_) | (refine q01 [some 0, some 2] qp rfl rfl ⟨rfl, rfl, trivial⟩ ?_) | (refine q08 [some 0] (.inr rfl) ?_ ?_ rfl rfl; (focus exact vwV); exact hsV) | refine spC (fun hb => ?_) fun hb => ?_))
theorem qk3 {ws : List Wd} (hn : q74 ws) {a m : Int} (hi : InW ws a m) (most d : Int) (h0 : q24 ws q3e a false = false) (h1 : 2 ≤ most → q24 ws q28 a false = false) (h2 : 3 ≤ most → q24 ws q1k a false = false) (h3 : 4 ≤ most → q24 ws q0q a false = false) (h4 : 5 ≤ most → q24 ws q46 a false = false) (h5 : 6 ≤ most → q24 ws q2p a false = false) : MG ws most d a m false (qx5, a, true, m) := by
 unfold MG
 have n0 := q4e hi hn false q3e 0 d (by omega)
 rw [q0t h0] at n0
 have n1 : 2 ≤ most → _ := fun h => by
  have n := q4e hi hn false q28 1 d (by omega)
  rw [q0t (h1 h)] at n
  exact n
 have n2 : 3 ≤ most → _ := fun h => by
  have n := q4e hi hn false q1k 1 d (by omega)
  rw [q0t (h2 h)] at n
  exact n
 have n3 : 4 ≤ most → _ := fun h => by
  have n := q4e hi hn false q0q 1 d (by omega)
  rw [q0t (h3 h)] at n
  exact n
 have n4 : 5 ≤ most → _ := fun h => by
  have n := q4e hi hn false q46 2 d (by omega)
  rw [q0t (h4 h)] at n
  exact n
 have n5 : 6 ≤ most → _ := fun h => by
  have n := q4e hi hn false q2p 2 d (by omega)
  rw [q0t (h5 h)] at n
  exact n
 refine q00 Ax q03 Tryz.func56 (c := _) rfl Tryz.call56 900 ?_
 (repeat' ((conv => whnf); first | (exfalso; omega) | (refine q01 [some 0] n0 rfl rfl ⟨rfl, trivial⟩ ?_) | (refine q01 [some 0] (n1 (by omega)) rfl rfl ⟨rfl, trivial⟩ ?_) | (refine q01 [some 0] (n2 (by omega)) rfl rfl ⟨rfl, trivial⟩ ?_) | (refine q01 [some 0] (n3 (by omega)) rfl rfl ⟨rfl, trivial⟩ ?_) | (refine q01 [some 0] (n4 (by omega)) rfl rfl ⟨rfl, trivial⟩ ?_) | (refine q01 [some 0] (n5 (by omega)) rfl rfl ⟨rfl, trivial⟩ ?_) | (refine q08 [some 0] (.inr rfl) ?_ ?_ rfl rfl; (focus exact vwV); exact hsV) | refine spC (fun hb => ?_) fun hb => ?_))
theorem zi6 (ws : List Wd) (f : Nat) (most d a m : Int) : q71 ws f most d a true m = (qx5, a, true, m) := by
 cases f with
 | zero => rfl
 | succ f => rw [q71]; simp only [q4u]; simp
theorem zs6 {ws : List Wd} (hn : q74 ws) : ∀ f : Nat, 1 ≤ f → f ≤ 5 → XG ws f
 | 0, h, _ => by omega
 | f + 1, _, h5 => fun most d a m w hi hfd hw => by
  cases w with
  | true => rw [zi6]; exact y19 hn hi most d
  | false =>
   have hf1 : 1 ≤ f := by
    by_cases h : f = 0
    ·have := hw (by omega); cases this
    ·omega
   have ih := zs6 hn f hf1 (by omega)
   have hd : 1 ≤ d ∧ d ≤ 5 := by omega
   have hsub : ∀ k : Int, ∀ a m w, InW ws a m → (4 ≤ d → w = true) → MG ws k (d + 1) a m w (q71 ws f k (d + 1) a w m) := fun k a m w hi h4 => ih k (d + 1) a m w hi (by omega) (fun h => h4 (by omega))
   have hkp : ∀ k : Int, KP ws (q71 ws f k (d + 1)) := fun k => ql5 ws f k (d + 1)
   rw [q71]
   dsimp only
   by_cases h0 : q24 ws q3e a false = true
   ·rw [if_pos (q2x h0 0 d m)]
    exact y95 hn hi most d hd h0 _ rfl
   have h0 : q24 ws q3e a false = false := by simpa using h0
   rw [q0t h0, if_neg (fun h => by cases h)]
   by_cases h1 : q24 ws q28 a false = true
   ·by_cases hm : 2 ≤ most
    ·rw [if_pos ⟨hm, q2x h1 1 d m⟩]
     exact y4c hn (hkp 1) hi most d hd hm h1 (hsub 1) _ rfl
    ·rw [if_neg (fun h => hm h.1), if_neg (fun h => by omega), if_neg (fun h => by omega), if_neg (fun h => by omega), if_neg (fun h => by omega)]
     exact qk3 hn hi most d h0 (fun h => by omega) (fun h => by omega) (fun h => by omega) (fun h => by omega) (fun h => by omega)
   have h1 : q24 ws q28 a false = false := by simpa using h1
   rw [q0t h1, if_neg (fun h => by cases h.2)]
   by_cases h2 : q24 ws q1k a false = true
   ·by_cases hm : 3 ≤ most
    ·rw [if_pos ⟨hm, q2x h2 1 d m⟩]
     exact zz7 hn (hkp 1) hi most d hd hm h2 (hsub 1) _ rfl
    ·rw [if_neg (fun h => hm h.1), if_neg (fun h => by omega), if_neg (fun h => by omega), if_neg (fun h => by omega)]
     exact qk3 hn hi most d h0 (fun _ => h1) (fun h => by omega) (fun h => by omega) (fun h => by omega) (fun h => by omega)
   have h2 : q24 ws q1k a false = false := by simpa using h2
   rw [q0t h2, if_neg (fun h => by cases h.2)]
   by_cases h3 : q24 ws q0q a false = true
   ·by_cases hm : 4 ≤ most
    ·rw [if_pos ⟨hm, q2x h3 1 d m⟩]
     exact y7c hn (hkp 3) hi most d hd hm h3 (hsub 3) _ rfl
    ·rw [if_neg (fun h => hm h.1), if_neg (fun h => by omega), if_neg (fun h => by omega)]
     exact qk3 hn hi most d h0 (fun _ => h1) (fun _ => h2) (fun h => by omega) (fun h => by omega) (fun h => by omega)
   have h3 : q24 ws q0q a false = false := by simpa using h3
   rw [q0t h3, if_neg (fun h => by cases h.2)]
   by_cases h4 : q24 ws q46 a false = true
   ·by_cases hm : 5 ≤ most
    ·rw [if_pos ⟨hm, q2x h4 2 d m⟩]
     exact y86 hn (hkp 6) hi most d hd hm h4 (hsub 6) _ rfl
    ·rw [if_neg (fun h => hm h.1), if_neg (fun h => by omega)]
     exact qk3 hn hi most d h0 (fun _ => h1) (fun _ => h2) (fun _ => h3) (fun h => by omega) (fun h => by omega)
   have h4 : q24 ws q46 a false = false := by simpa using h4
   rw [q0t h4, if_neg (fun h => by cases h.2)]
   by_cases h5' : q24 ws q2p a false = true
   ·by_cases hm : 6 ≤ most
    ·rw [if_pos ⟨hm, q2x h5' 2 d m⟩]
     exact y6p hn (hkp 6) hi most d hd hm h5' (hsub 6) _ rfl
    ·rw [if_neg (fun h => hm h.1)]
     exact qk3 hn hi most d h0 (fun _ => h1) (fun _ => h2) (fun _ => h3) (fun _ => h4) (fun h => by omega)
   have h5' : q24 ws q2p a false = false := by simpa using h5'
   rw [q0t h5', if_neg (fun h => by cases h.2)]
   exact qk3 hn hi most d h0 (fun _ => h1) (fun _ => h2) (fun _ => h3) (fun _ => h4) (fun _ => h5')
theorem z3z (s : Wd) (hs : s.length ≤ 2000000) : q07 Tryz.prog Dc 29 [wS s] [] (wsS (q0j s)) [] := by
 unfold q0j
 by_cases h0 : s = []
 ·rw [if_pos h0]
  refine q00 Ax q03 Tryz.func29 (c := _) rfl Tryz.call29 100 ?_
  (repeat' ((conv => whnf); first | (refine q08 [] (.inr rfl) ?_ ?_ rfl rfl; (focus exact vwV); exact hsV) | refine spC (fun hb => ?_) fun hb => ?_))
  all_goals exact absurd h0 (by assumption)
 ·rw [if_neg h0]
  refine q00 Ax q03 Tryz.func29 (c := _) rfl Tryz.call29 200 ?_
  (repeat' ((conv => whnf); first | (exact absurd (by assumption) h0) | refine spC (fun hb => ?_) fun hb => ?_))
  refine q57 [none] (fun q : Nat × Nat × List Wd => [(3, .slice 0 0 1 0 q.2.2.length), (4, iS q.2.1), (5, iS q.1)]) (fun q => [(0, .rows U.str q.2.2)]) (fun q => q.1 ≤ s.length ∧ q.2.1 ≤ q.1 ∧ q1b s = q.2.2 ++ q1b (s.drop q.2.1) ∧ (32 : UInt8) ∉ (s.drop q.2.1).take (q.1 - q.2.1) ∧ q.2.2.length ≤ q.1) (fun q => s.length - q.1) (0, 0, []) ⟨Nat.zero_le _, Nat.le_refl _, rfl, by simp, by simp⟩ (by exact bkI) ?_
  rintro ⟨i, b, J⟩ ⟨hi, hb1, hJ, hno, hJl⟩ K hK
  dsimp only at hi hb1 hJ hno hJl hK ⊢
  rcases Nat.lt_or_ge i s.length with hlt | hge
  ·have hdr := q99 (d := (0 : UInt8)) hlt
   have hD : s.drop b = (s.drop b).take (i - b) ++ s.getD i 0 :: s.drop (i + 1) := by
    have h1 : (s.drop b).drop (i - b) = s.drop i := by rw [List.drop_drop]; congr 1; omega
    have h2 := List.take_append_drop (i - b) (s.drop b)
    rw [h1, hdr] at h2
    exact h2.symm
   by_cases hc : s.getD i 0 = 32
   ·have hcn : ((s.getD (i : Int).toNat 0).toNat : Int) = 32 := by
     show ((s.getD i 0).toNat : Int) = 32
     rw [hc]; rfl
    have hs1 : q1b (s.drop b) = (s.drop b).take (i - b) :: q1b (s.drop (i + 1)) := by
     rw [hD, hc]
     have := z0x ((s.drop b).take (i - b)) (s.drop (i + 1)) hno
     rw [this]
     rw [← hc, ← hD]
    have hT : List.drop (b : Int).toNat (List.take (i : Int).toNat s) = (s.drop b).take (i - b) := by
     show List.drop b (List.take i s) = _
     rw [List.drop_take]
    have hJ2 : q1b s = (List.take J.length J ++ List.take 1 (List.drop 0 [List.drop (b : Int).toNat (List.take (i : Int).toNat s)])) ++ q1b (s.drop (i + 1)) := by
     rw [List.take_length, hT, hJ, hs1, List.append_assoc]; rfl
    have hJ2l : (List.take J.length J ++ List.take 1 (List.drop 0 [List.drop (b : Int).toNat (List.take (i : Int).toNat s)])).length = J.length + 1 := by rw [List.take_length]; simp
    have hno2 : (32 : UInt8) ∉ (s.drop (i + 1)).take (i + 1 - (i + 1)) := by simp
    clear hJ hs1 hT hD
    (repeat' ((conv => whnf); first | (exfalso; omega) | refine hK (i + 1, i + 1, _) [some 2] _ _ ⟨⟨by dsimp only; omega, by dsimp only; omega, hJ2, hno2, by dsimp only; omega⟩⟩ ⟨by dsimp only; omega⟩ (by exact bkW) | refine spC (fun hb => ?_) fun hb => ?_ | refine saC ?_))
   ·have hcn : ¬ ((s.getD (i : Int).toNat 0).toNat : Int) = 32 := by
     show ¬ ((s.getD i 0).toNat : Int) = 32
     intro h
     refine hc (UInt8.toNat_inj.1 ?_)
     have : (32 : UInt8).toNat = 32 := rfl
     omega
    have hno2 : (32 : UInt8) ∉ (s.drop b).take (i + 1 - b) := by
     rw [show i + 1 - b = (i - b) + 1 by omega, List.take_add_one]
     have h1 : (s.drop b)[i - b]? = some (s.getD i 0) := by
      rw [List.getElem?_drop, show b + (i - b) = i by omega, List.getElem?_eq_getElem hlt, List.getD_eq_getElem?_getD, List.getElem?_eq_getElem hlt]; rfl
     rw [h1]
     simp only [List.mem_append, not_or]
     exact ⟨hno, by simp; exact fun e => hc e.symm⟩
    clear hD
    (repeat' ((conv => whnf); first | (exfalso; omega) | refine hK (i + 1, b, J) [some 0] _ _ ⟨⟨by dsimp only; omega, by dsimp only; omega, hJ, hno2, by dsimp only; omega⟩⟩ ⟨by dsimp only; omega⟩ (by exact bkW) | refine spC (fun hb => ?_) fun hb => ?_ | refine saC ?_))
  ·have hns : (32 : UInt8) ∉ s.drop b := by
    have : (s.drop b).take (i - b) = s.drop b := List.take_of_length_le (by rw [List.length_drop]; omega)
    rw [this] at hno; exact hno
   rw [qv0 _ hns] at hJ
   have hV : q1b s = List.take J.length J ++ List.take 1 (List.drop 0 [List.drop (b : Int).toNat (List.take (s.length : Int).toNat s)]) := by
    rw [List.take_length, hJ]
    show J ++ [List.drop b s] = J ++ [List.drop b (List.take s.length s)]
    rw [List.take_length]
   rw [hV]
   clear hJ hno hns hV
   (repeat' ((conv => whnf); first | (exfalso; omega) | (refine q08 [] (.inr rfl) ?_ ?_ rfl rfl; (focus exact vwV); exact hsV) | refine spC (fun hb => ?_) fun hb => ?_ | refine saC ?_))
end Go.SX
