/-
  Walks: Te2: what single functions of the program compute.
-/
import Derived.Test.YtfbicphocelpeaaGreatDoorSxV6
import Derived.Test.YtfbicphocelpeaaGreatDoorSxTg9
set_option linter.unusedVariables false
set_option linter.unusedSimpArgs false
namespace Go.SX
open Go.Proofs
set_option maxHeartbeats 400000000
set_option maxRecDepth 100000
def Fd : aI := ⟨2, [], 0, 0, 3, 0, false, 0, 0, 10, [], [exS]⟩
def q27 : aI := ⟨2, [], 0, 0, 3, 0, false, 0, 0, 9, [], [exS]⟩
def pH : aI := ⟨4, [], 0, 0, 0, 0, false, 0, 0, 30, [], [exS]⟩
def Qu : aI := ⟨6, [], 0, 0, 0, 0, false, 0, 0, 0, [7, 5], [exS, pH]⟩
def exD (a b : Int) : aB := ⟨2, a, b, [], 0, 0, false⟩
theorem oH : pX exS := by
 rw [dJ];exact ⟨⟨by decide, by decide, by decide⟩, by rw [show exS.kids = [] from rfl, GAllL]; trivial⟩
theorem yI (g : aI) (h : g.kids = [exS]) (h1 : g.rows = []) (h2 : g.cents = []) : pX g := by
 rw [dJ];refine ⟨⟨by rw [h1]; decide, by rw [h2]; decide, by rw [h]; decide⟩, ?_⟩;rw [h, GAllL, GAllL];exact ⟨oH, trivial⟩
theorem sU : pX pH := yI _ rfl rfl rfl
theorem Q4 : pX Qu := by
 rw [dJ];refine ⟨⟨by decide, by decide, by decide⟩, ?_⟩;rw [show Qu.kids = [exS, pH] from rfl, GAllL, GAllL, GAllL];exact ⟨oH, sU, trivial⟩
theorem Xs : oS exE := by unfold oS; decide
theorem q98 : oS exF := by unfold oS; decide
theorem q8j (a b : Int) : oS (exD a b) := by
 show ((([] : List Int).length : Nat) : Int) ≤ _;decide
theorem Uq (g : aI) (hG : pX g) (l : List aB) (hl : (l.length : Int) ≤ 9223372036854775807) (hE : ∀ e ∈ l, oS e) (b : Bool) (c : Int) (h : (wV g l).2.2 = (b, c)) : aF Tryz.prog Dc 14 [aM g, eS l] [] (.tuple [bS b, iS c]) [] := by
 have := qb6 g hG l hl hE;rw [h] at this;exact this
theorem Tj (g : aI) (hG : pX g) (l : List aB) (hl : (l.length : Int) ≤ 9223372036854775807) (hE : ∀ e ∈ l, oS e) (p : Int) (h : q9f g l p = true) : aF Tryz.prog Dc 16 [aM g, eS l, iS p] [] (bS true) [] := by
 have := qd4 g hG l hl hE p;rw [h] at this;exact this
theorem q1s (now : Int) (F : Option (List aB)) (h1 : okF exS [] now = true) (h2 : q0l exS [] now = F) : aF Tryz.prog Dc 13 [aM exS, eS [], iS now] [] (.tuple [eS (F.getD []), bS F.isSome, iS 0]) [] := by
 have := qb3 exS oH [] (by decide) (fun e h => by cases h) now;rw [if_pos h1, h2] at this;exact this
@[reducible] def q2u (g : aI) : HS Cd := .vart none [iS g.kind, lS g.rows, iS g.from_, iS g.to_, iS g.low, iS g.high, bS g.clear, iS g.days, iS g.times, iS g.within, lS g.cents, .p (.dsl U.goal g.kids)]
theorem q95 : aF Tryz.prog Dc 4 [] [] (bS true) [] := by
 have mE : ∀ e ∈ [exE, exF], oS e := fun e h => by simp at h; rcases h with rfl | rfl <;> first | exact Xs | exact q98
 have u1 : aF Tryz.prog Dc 12 [aM Fd, eS [exE, exF]] [] (.tuple [lS [5, 6], iS 0]) [] := by
  have := q94 Fd (yI _ rfl rfl rfl) [exE, exF] (by decide) mE;rw [show wV Fd [exE, exF] = (0, [5, 6], true, 0) by decide +kernel] at this;exact this
 have f1 : aF Tryz.prog Dc 13 [aM exS, .p (.lit (.slice none 0 0)), iS 199] [] (.tuple [eS [Yv exS 199 0 0], bS true, iS 0]) [] := q1n (q1s 199 (some [Yv exS 199 0 0]) (by decide +kernel) (by decide +kernel)) snV;have d1 : aF Tryz.prog Dc 10 [aM exS, .p (.lit (.slice none 0 0)), iS 200] [] (.tuple [bS true, iS 0]) [] := q1n (Gr exS [] 200 [] false 0 (q1s 200 none (by decide +kernel) (by decide +kernel))) snV;have m1 := Uq q27 (yI _ rfl rfl rfl) [exE, exF] (by decide) mE false 0 (by decide +kernel);have m2 := Uq pH sU [exE, exD 181 5] (by decide) (fun e h => by simp at h; rcases h with rfl | rfl <;> first | exact Xs | exact q8j _ _) false 0 (by decide +kernel);have m3 := Uq exS oH [exF, exE] (by decide) (fun e h => by simp at h; rcases h with rfl | rfl <;> first | exact Xs | exact q98) false 150 (by decide +kernel);have t1 := Tj exS oH [exE] (by decide) (fun e h => by simp at h; rw [h]; exact Xs) 0 (by decide +kernel);have t2 := Tj Fd (yI _ rfl rfl rfl) [exE, exF] (by decide) mE 0 (by decide +kernel);have t3 := Tj pH sU [exE, exD 180 5] (by decide) (fun e h => by simp at h; rcases h with rfl | rfl <;> first | exact Xs | exact q8j _ _) 0 (by decide +kernel);have t4 := Tj Qu Q4 [exE] (by decide) (fun e h => by simp at h; rw [h]; exact Xs) 7 (by decide +kernel);have t5 := Tj Qu Q4 [exE, exD 170 5] (by decide) (fun e h => by simp at h; rcases h with rfl | rfl <;> first | exact Xs | exact q8j _ _) 5 (by decide +kernel);have t4 : aF Tryz.prog Dc 16 [aM Qu, eS (List.drop (Int.toNat 0) (List.take (Int.toNat 1) [exE, exF])), iS 7] [] (bS true) [] := t4;have t1 : aF Tryz.prog Dc 16 [aM exS, eS (List.drop (Int.toNat 0) (List.take (Int.toNat 1) [exE, exF])), iS 0] [] (bS true) [] := t1;have i1 := q8u [5, 6] [5, 6] (by decide) (by decide)
 have s1 : aF Tryz.prog Dc 18 [aM exS, evA exE] [] (bS true) [] := by
  have := R4 exS oH exE Xs;rw [show (decide (exS.kind = 1) && cF exS && fI exE && J8 exS exE) = true by decide +kernel] at this;exact this
 have s2 : aF Tryz.prog Dc 18 [aM exS, evA (exD 150 5)] [] (bS false) [] := by
  have := R4 exS oH (exD 150 5) (q8j _ _);rw [show (decide (exS.kind = 1) && cF exS && fI (exD 150 5) && J8 exS (exD 150 5)) = false by decide +kernel] at this;exact this
 have v1 : aF Tryz.prog Dc 19 [eS [exE, exF]] [] (bS true) [] := by
  have := lN [exE, exF] (by decide) mE;rw [show bM [exE, exF] = true by decide +kernel] at this;exact this
 have v2 : aF Tryz.prog Dc 19 [eS [exF, exE]] [] (bS false) [] := by
  have := lN [exF, exE] (by decide) (fun e h => by simp at h; rcases h with rfl | rfl <;> first | exact Xs | exact q98);rw [show bM [exF, exE] = false by decide +kernel] at this;exact this
 rw [show decide (([5, 6] : List Int) = [5, 6]) = true by decide] at i1;refine aA Ax aD Tryz.func4 (c := _) rfl Tryz.call4 1000 ?_
 (repeat' ((conv => whnf); first | refine cpC (Xm) ?_ | refine dpC (Yx _ _) ?_ | refine cpC (u1) ?_ | refine cpC (f1) ?_ | refine cpC (d1) ?_ | refine rdC (m1) ?_ | refine rdC (m3) ?_ | refine dpC (t1) ?_ | refine dpC (t2) ?_ | refine dpC (s1) ?_ | refine dpC (s2) ?_ | refine dpC (v1) ?_ | (refine cI [some 17] (Fq (args := [.slice 0 0 7 0 2]) (H1 := [.rows U.event [exF, exE]]) v2 (by exact snV) rfl) rfl rfl ⟨rfl, trivial⟩ ?_) | (refine cI [some 14] (Fq (args := [lS [5, 6], .slice 0 0 1 0 2]) (H1 := [.rows U.int [5, 6]]) i1 (by exact snV) rfl) rfl rfl ⟨rfl, trivial⟩ ?_) | (refine cI [some 15] (Fq (args := [aM pH, .slice 0 0 7 0 2, iS 0]) (H1 := [.rows U.event [exE, exD 180 5]]) t3 (by exact snV) rfl) rfl rfl ⟨rfl, trivial⟩ ?_) | (refine cI [some 10] (Fq (args := [.agg [iS 6, .p (.lit (.slice none 0 0)), iS 0, iS 0, iS 0, iS 0, bS false, iS 0, iS 0, iS 0, lS [7, 5], .slice 0 0 12 0 2], eS (List.drop (Int.toNat 0) (List.take (Int.toNat 1) [exE, exF])), iS 7]) (H1 := [.rows U.goal [exS, pH]]) t4 (by exact snV) rfl) rfl rfl ⟨rfl, trivial⟩ ?_) | (refine cI [some 10, some 16] (Fq (args := [.agg [iS 6, .p (.lit (.slice none 0 0)), iS 0, iS 0, iS 0, iS 0, bS false, iS 0, iS 0, iS 0, lS [7, 5], .slice 0 0 12 0 2], .slice 1 0 7 0 2, iS 5]) (H1 := [.rows U.goal [exS, pH], .rows U.event [exE, exD 170 5]]) t5 (by exact snV) rfl) rfl rfl ⟨rfl, rfl, trivial⟩ ?_) | (refine cI [some 12] (Fq (args := [aM pH, .slice 0 0 7 0 2]) (H1 := [.rows U.event [exE, exD 181 5]]) m2 (by exact snV) rfl) rfl rfl ⟨rfl, trivial⟩ ?_) | (refine rR (rS [some 0, some 1, some 2, none, none, some 5, some 6, none, some 8, none] [(4, eS [exE, exF]), (31, .any), (33, .any), (34, .any), (35, .any), (38, .any), (39, .any), (40, lS [7, 5]), (42, aM pH)] [(3, .rows U.int []), (4, .rows U.int []), (5, q2u Fd), (6, q2u q27), (7, .rows U.int []), (8, q2u pH), (9, .rows U.int [])] (by exact bkV) ?_)) | refine x0C ?_ | refine taC ?_ | refine saC ?_ | refine aE mixed ?_))
 all_goals clear u1 f1 d1 m1 m2 m3 t1 t2 t3 t4 t5 i1 s1 s2 v1 v2
 all_goals exact vwV
end Go.SX
