/-
  Plain law: the events that integers determine; valid events, and a part of them.
-/
import Derived.Test.YtijedffphgckmaaGreatDoorSxUb9
set_option linter.unusedVariables false
set_option linter.unusedSimpArgs false
namespace Go.SX
/-! the exposures of a goal -/
mutual
def seesG : Goal → List Goal
 | ⟨kind, rows, from_, to_, low, high, clear, days, times, within, cents, kids⟩ =>
  if kind = 1 then [⟨kind, rows, from_, to_, low, high, clear, days, times, within, cents, kids⟩] else seesL kids
def seesL : List Goal → List Goal
 | [] => []
 | k :: l => seesG k ++ seesL l
end
theorem seesG_eq (g : Goal) : seesG g = if g.kind = 1 then [g] else seesL g.kids := by cases g; rw [seesG]
theorem seesL_snoc : ∀ (l : List Goal) (k : Goal), seesL (l ++ [k]) = seesL l ++ seesG k
 | [], k => by simp [seesL]
 | x :: l, k => by rw [List.cons_append, seesL, seesL, seesL_snoc l k, List.append_assoc]
/-! an event more -/
/-! the events -/
/-! a part of valid events -/
end Go.SX

namespace Go.SX
open Go.Proofs
set_option maxHeartbeats 4000000
set_option maxRecDepth 100000
@[reducible] def a5S (x : List A5) : SV Cd := .p (.dsl U.arr5 x)
theorem y5_in {x : List A5} {i : Int} (h0 : 0 ≤ i) (h : i < x.length) : y5 x i = x.getD i.toNat (Cd.dflt U.arr5) := if_pos h
theorem y5_out {x : List A5} {i : Int} (h : ¬ i < x.length) : y5 x i = zero5 := if_neg h
theorem y5_ok {x : List A5} (hx : ∀ y ∈ x, A5OK y) {i : Int} (h0 : 0 ≤ i) : A5OK (y5 x i) := by
 by_cases h : i < x.length
 ·rw [y5_in h0 h]
  refine hx _ ?_
  rw [List.getD_eq_getElem?_getD, List.getElem?_eq_getElem (by omega)]
  exact List.getElem_mem _
 ·rw [y5_out h]
  have : I64 0 := by unfold I64; omega
  exact ⟨this, this, this, this, this⟩
theorem arr5_den {w : World} {E : Env} {a b c d e : Int} {vs : List Value} (h : DenA Dc w E [.agg [.arr U.int 5 [a, b, c, d, e]]] vs) : DenA Dc w E [.agg [iS a, iS b, iS c, iS d, iS e]] vs := by
 simp only [DenA, Den, DenC] at h ⊢
 obtain ⟨v, v2, rfl, ⟨cs, rfl, _, v1, v3, hv, hp, rfl⟩, rfl⟩ := h
 refine ⟨_, _, rfl, ⟨cs, rfl, ?_⟩, rfl⟩
 rw [List.append_nil] at hv
 rw [hv]
 obtain ⟨hl, hd⟩ := hp
 match v1, hl with
 | [x0, x1, x2, x3, x4], _ =>
  have g := fun (j : Nat) pv v h1 h2 => hd j pv v h1 h2
  have e0 := g 0 _ _ rfl rfl
  have e1 := g 1 _ _ rfl rfl
  have e2 := g 2 _ _ rfl rfl
  have e3 := g 3 _ _ rfl rfl
  have e4 := g 4 _ _ rfl rfl
  exact ⟨x0, _, rfl, e0.oneCell, e0, x1, _, rfl, e1.oneCell, e1, x2, _, rfl, e2.oneCell, e2, x3, _, rfl, e3.oneCell, e3, x4, _, rfl, e4.oneCell, e4, rfl⟩
theorem rsee0 : Meets Tryz.prog Dc 85 [.agg [.arr U.int 5 (List.replicate 5 (Cd.dflt U.int))]] [] (goalA (seeS zero5)) [] := by
  have h := rseX zero5 (by have : I64 0 := by (unfold I64; omega)
                           exact ⟨this, this, this, this, this⟩)
  exact ⟨h.enter, fun w E hm vs hs hd => h.calls w E hm vs hs (arr5_den (a := 0) (b := 0) (c := 0) (d := 0) (e := 0) hd)⟩
theorem rgoals1 (x : List A5) (hx : ∀ y ∈ x, A5OK y) (hxl : (x.length : Int) ≤ 9223372036854775807) (deep at_ most : Int) (h1 : 0 ≤ at_ ∧ at_ ≤ 1000) (h3 : 1 ≤ most ∧ most ≤ 9) (hdeep : 1 ≤ deep ∧ deep ≤ 4)
  (hk : deep = 4 ∨ most < 2 ∨ (x.length : Int) ≤ at_ + 1 ∨ (5 ≤ 1 + pickS ((y5 x at_).a.tdiv 144) 6 ∧ most < 3) ∨ pickS ((y5 x at_).a.tdiv 144) 6 = 0) :
  Meets Tryz.prog Dc 60 [a5S x, iS at_, iS deep, iS most] [] (.tuple [goalA (seeS (y5 x at_)), iS 1, iS 1]) [] := by
 have hy := y5_ok hx h1.1
 have hs := rseX (y5 x at_) hy
 have hp := pick13 ((y5 x at_).a.tdiv 144) 6 (tdiv_i64 hy.a (by omega)) (by omega)
 have hb2 := pickS_bd (c := (y5 x at_).a.tdiv 144) (n := 6) (by omega)
 have hya := hy.a
 have htd := tdiv_i64 (n := 144) hya (by omega)
 unfold I64 at hya
 by_cases hc : at_ < x.length
 ·rw [y5_in h1.1 hc] at *
  refine meets_of_gx Ax tab_ok Tryz.func60 (c := _) rfl Tryz.call60 400 ?_
  (repeat' ((conv => whnf); first | (exfalso; omega) | refine cpC (hs) ?_ | refine dpC (hs) ?_ | refine cpC (hp) ?_ | refine dpC (hp) ?_ | refine x0C ?_ | refine spC (fun hb => ?_) fun hb => ?_ | refine nilC (fun hb => ?_) ?_ | refine taC ?_ | refine saC ?_ | exact sdV | refine side_and ?_ ?_ | refine drawX_of mixed ?_))
  all_goals exact vwV
 ·rw [y5_out hc] at *
  have hp0 : Meets Tryz.prog Dc 36 [iS (Int.tdiv ((List.replicate 5 (Cd.dflt U.int)).getD (Int.toNat 0) (Cd.dflt U.int)) 144), iS 6] [] (iS (pickS (zero5.a.tdiv 144) 6)) [] := hp
  have hr0 : Side ((144 : Int) ≠ 0 ∧ InR IntKind.i64 (Int.tdiv ((List.replicate 5 (Cd.dflt U.int)).getD (Int.toNat 0) (Cd.dflt U.int)) 144)) := ⟨by decide, by rfl⟩
  refine meets_of_gx Ax tab_ok Tryz.func60 (c := _) rfl Tryz.call60 400 ?_
  (repeat' ((conv => whnf); first | (exfalso; omega) | exact hr0 | refine cpC (rsee0) ?_ | refine dpC (rsee0) ?_ | refine cpC (hp0) ?_ | refine dpC (hp0) ?_ | refine x0C ?_ | refine spC (fun hb => ?_) fun hb => ?_ | refine nilC (fun hb => ?_) ?_ | refine taC ?_ | refine saC ?_ | exact sdV | refine side_and ?_ ?_ | refine drawX_of mixed ?_))
  all_goals exact vwV
/-- there are parts: an integer, and one behind it -/
structure TwoOK (x : List A5) (at_ : Int) : Prop where
 y : A5OK (x.getD at_.toNat (Cd.dflt U.arr5))
 z : A5OK (x.getD (at_ + 1).toNat (Cd.dflt U.arr5))
theorem two_ok {x : List A5} (hx : ∀ y ∈ x, A5OK y) {at_ : Int} (h1 : 0 ≤ at_) (h2 : at_ + 1 < x.length) : TwoOK x at_ := by
 have e1 := y5_ok hx h1
 have e2 := y5_ok hx (i := at_ + 1) (by omega)
 rw [y5_in h1 (by omega)] at e1
 rw [y5_in (by omega) h2] at e2
 exact ⟨e1, e2⟩
theorem rgoals2 (x : List A5) (hx : ∀ y ∈ x, A5OK y) (hxl : (x.length : Int) ≤ 9223372036854775807) (deep at_ most : Int) (h1 : 0 ≤ at_ ∧ at_ ≤ 1000) (h3 : 1 ≤ most ∧ most ≤ 9) (hdeep : 1 ≤ deep ∧ deep ≤ 3)
  (h4 : 2 ≤ most) (h5 : at_ + 1 < x.length) (K : Int) (hK : 2 ≤ K ∧ K ≤ 4) (hk : 1 + pickS ((x.getD at_.toNat (Cd.dflt U.arr5)).a.tdiv 144) 6 = K) (g : Goal)
  (hg : g = if K = 2 then ⟨1 + pickS ((x.getD at_.toNat (Cd.dflt U.arr5)).a.tdiv 144) 6, [], 0, 0, 1 + pickS (x.getD at_.toNat (Cd.dflt U.arr5)).b 8, 0, false, 0, 0, 1 + pickS (x.getD at_.toNat (Cd.dflt U.arr5)).c 3000, [], [seeS (x.getD (at_ + 1).toNat (Cd.dflt U.arr5))]⟩
   else if K = 3 then ⟨1 + pickS ((x.getD at_.toNat (Cd.dflt U.arr5)).a.tdiv 144) 6, [], pickS (x.getD at_.toNat (Cd.dflt U.arr5)).e 3000, 0, 0, 0, false, 1 + pickS (x.getD at_.toNat (Cd.dflt U.arr5)).b 4, 1 + pickS (x.getD at_.toNat (Cd.dflt U.arr5)).c 4, pickS (x.getD at_.toNat (Cd.dflt U.arr5)).d (1440 * (1 + pickS (x.getD at_.toNat (Cd.dflt U.arr5)).b 4) + 1), [], [seeS (x.getD (at_ + 1).toNat (Cd.dflt U.arr5))]⟩
   else ⟨1 + pickS ((x.getD at_.toNat (Cd.dflt U.arr5)).a.tdiv 144) 6, [], 0, 0, 0, 0, false, 0, 0, pickS (x.getD at_.toNat (Cd.dflt U.arr5)).b 3000, [], [seeS (x.getD (at_ + 1).toNat (Cd.dflt U.arr5))]⟩) :
  Meets Tryz.prog Dc 60 [a5S x, iS at_, iS deep, iS most] [] (.tuple [goalA g, iS 2, iS 2]) [] := by
 obtain ⟨hy, hz⟩ := two_ok hx h1.1 h5
 have hs := rseX _ hz
 have htd := tdiv_i64 (n := 144) hy.a (by omega)
 have hp := pick13 ((x.getD at_.toNat (Cd.dflt U.arr5)).a.tdiv 144) 6 htd (by omega)
 have hb2 := pickS_bd (c := (x.getD at_.toNat (Cd.dflt U.arr5)).a.tdiv 144) (n := 6) (by omega)
 have hya := hy.a
 unfold I64 at hya
 have q1 := pick13 (x.getD at_.toNat (Cd.dflt U.arr5)).b 8 hy.b (by omega)
 have q2 := pick13 (x.getD at_.toNat (Cd.dflt U.arr5)).c 3000 hy.c (by omega)
 have q3 := pick13 (x.getD at_.toNat (Cd.dflt U.arr5)).b 4 hy.b (by omega)
 have q4 := pick13 (x.getD at_.toNat (Cd.dflt U.arr5)).c 4 hy.c (by omega)
 have r1 := pickS_bd (c := (x.getD at_.toNat (Cd.dflt U.arr5)).b) (n := 8) (by omega)
 have r2 := pickS_bd (c := (x.getD at_.toNat (Cd.dflt U.arr5)).c) (n := 3000) (by omega)
 have r3 := pickS_bd (c := (x.getD at_.toNat (Cd.dflt U.arr5)).b) (n := 4) (by omega)
 have r4 := pickS_bd (c := (x.getD at_.toNat (Cd.dflt U.arr5)).c) (n := 4) (by omega)
 have q5 := pick13 (x.getD at_.toNat (Cd.dflt U.arr5)).d (1440 * (1 + pickS (x.getD at_.toNat (Cd.dflt U.arr5)).b 4) + 1) hy.d (by omega)
 have q6 := pick13 (x.getD at_.toNat (Cd.dflt U.arr5)).e 3000 hy.e (by omega)
 have q7 := pick13 (x.getD at_.toNat (Cd.dflt U.arr5)).b 3000 hy.b (by omega)
 rcases (show K = 2 ∨ K = 3 ∨ K = 4 by omega) with rfl | rfl | rfl
 ·rw [if_pos rfl] at hg
  subst hg
  refine meets_of_gx Ax tab_ok Tryz.func60 (c := _) rfl Tryz.call60 400 ?_
  (repeat' ((conv => whnf); first | (exfalso; omega) | refine cpC (hs) ?_ | refine dpC (hs) ?_ | refine cpC (hp) ?_ | refine dpC (hp) ?_ | refine cpC (q1) ?_ | refine dpC (q1) ?_ | refine cpC (q2) ?_ | refine dpC (q2) ?_ | refine x0C ?_ | refine spC (fun hb => ?_) fun hb => ?_ | refine nilC (fun hb => ?_) ?_ | refine taC ?_ | refine saC ?_ | exact sdV | refine side_and ?_ ?_ | refine drawX_of mixed ?_))
  all_goals exact vwV
 ·rw [if_neg (by omega), if_pos rfl] at hg
  subst hg
  refine meets_of_gx Ax tab_ok Tryz.func60 (c := _) rfl Tryz.call60 400 ?_
  (repeat' ((conv => whnf); first | (exfalso; omega) | refine cpC (hs) ?_ | refine dpC (hs) ?_ | refine cpC (hp) ?_ | refine dpC (hp) ?_ | refine cpC (q3) ?_ | refine dpC (q3) ?_ | refine cpC (q4) ?_ | refine dpC (q4) ?_ | refine cpC (q5) ?_ | refine dpC (q5) ?_ | refine cpC (q6) ?_ | refine dpC (q6) ?_ | refine x0C ?_ | refine spC (fun hb => ?_) fun hb => ?_ | refine nilC (fun hb => ?_) ?_ | refine taC ?_ | refine saC ?_ | exact sdV | refine side_and ?_ ?_ | refine drawX_of mixed ?_))
  all_goals exact vwV
 ·rw [if_neg (by omega), if_neg (by omega)] at hg
  subst hg
  refine meets_of_gx Ax tab_ok Tryz.func60 (c := _) rfl Tryz.call60 400 ?_
  (repeat' ((conv => whnf); first | (exfalso; omega) | refine cpC (hs) ?_ | refine dpC (hs) ?_ | refine cpC (hp) ?_ | refine dpC (hp) ?_ | refine cpC (q7) ?_ | refine dpC (q7) ?_ | refine x0C ?_ | refine spC (fun hb => ?_) fun hb => ?_ | refine nilC (fun hb => ?_) ?_ | refine taC ?_ | refine saC ?_ | exact sdV | refine side_and ?_ ?_ | refine drawX_of mixed ?_))
  all_goals exact vwV
end Go.SX
