/-
  Walks: Tf0, Tf3, Tf4, Tf5, Tf6: what single functions of the program compute.
-/
import Derived.Test.YtdaghncicimipaaGreatDoorSxTq1
import Derived.Test.YtdaghncicimipaaGreatDoorSxZ2
import Derived.LaidMore
import Derived.ChangeMaps5
import Derived.Lay
import Derived.SevenTiedAt
import Derived.Stop.Joined
import Derived.Test.YtdaghncicimipaaGreatDoorTie
import Derived.Test.YtdaghncicimipaaGreatDoorCards
import Derived.Test.YtdaghncicimipaaGreatDoorSxTa6
namespace Go.SX
open Go.Proofs Go.Proofs.YtdaghncicimipaaGreatDoor Go.ChangeShapes Go.WideShapes Go.ChangeAt Go.RowKit
set_option linter.unusedVariables false
set_option linter.unusedSimpArgs false
set_option maxHeartbeats 4000000
set_option maxRecDepth 100000
theorem ownT : ownKnob Tryz.prog.godebug = none := by kernel_rfl
theorem laidT : laidOutB Tryz.prog = true := by kernel_rfl
abbrev laidL : List (String × DataW Unit) := [("math/bits.deBruijn32tab", Rows.laid_math_bits_deBruijn32tab), ("math/bits.deBruijn64tab", Rows.laid_math_bits_deBruijn64tab)]
def bruijn : List Int := (U.glob 1).map fun v => match v with | .int _ n => n | _ => 0
theorem globE : U.glob 1 = bruijn.map (Value.int .u8) := by kernel_rfl
theorem laidE : (Rows.laid_math_bits_deBruijn64tab : DataW Unit) = .agg (bruijn.map fun n => .lit (.int .u8 n)) := by kernel_rfl
theorem glob_ok {W : World} (h : laidMetH Tryz.prog laidL W) : GlobOK Cd W ⟨Old W, fun _ => .fresh⟩ := by
  rw [MakeChecks.laidMetH_plain _ _ _ (by kernel_rfl)] at h
  obtain ⟨ps, ⟨g1, t1, cs1, fuel1, p1, q1, _, _, _, _, ⟨g, t, cs, fuel, p, q, hg, ht, hv, hd, _, _⟩, _⟩, _, _⟩ := h
  obtain rfl := Option.some.inj ((show Tryz.prog.globalNamed "math/bits.deBruijn64tab" = some 1 by kernel_rfl).symm.trans hg)
  obtain rfl := Option.some.inj ((show (Tryz.prog.globals[1]?).map (·.type) = some 183 by kernel_rfl).symm.trans ht)
  obtain ⟨xs, m, _, ex, hcl, hl, hel⟩ := DataW.trod_array Tryz.underlying183 hd
  have c84 : Tryz.prog.cellsOf 5 = 1 := by kernel_rfl
  have hlen : bruijn.length = 64 := by kernel_rfl
  have hct : Tryz.prog.cellsOf 183 = 64 := by kernel_rfl
  have hcs : cs.toList.length = 64 := by rw [← hct]; exact hcl
  have e3 : (xs.map (·.1)) = bruijn.map fun n => (.lit (.int .u8 n) : DataW Unit) := by
    have := (Prod.mk.inj ex).1
    rw [laidE] at this
    exact (DataW.agg.inj this).symm
  have key : cs.toList = bruijn.map (Value.int .u8) := by
    refine List.ext_getElem (by rw [hcs, List.length_map, hlen]) fun r h1 h2 => ?_
    have hr : r < 64 := by omega
    have hE := hel r hr
    rw [c84, Nat.mul_one, List.getElem?_eq_getElem (by omega)] at hE
    obtain ⟨z, e1, e2, _⟩ := DataW.trod_int Tryz.underlying5 hE
    have e4 : (xs.map (·.1))[r]? = (bruijn.map fun n => (DataW.lit (.int .u8 n) : DataW Unit))[r]? := by rw [e3]
    rw [List.getElem?_map, List.getElem?_map, List.getElem?_eq_getElem (by omega : r < xs.length), List.getElem?_eq_getElem (by omega : r < bruijn.length), e2] at e4
    simp only [Option.map_some, Option.some.injEq, DataW.lit.injEq, Lit.int.injEq, true_and] at e4
    have e4 : z = bruijn[r] := by first | exact e4 | exact e4.2
    have : cs.toList[r]? = some (.int .u8 z) := by
      have h0 : ((cs.toList.drop r).take 1)[0]? = some (.int .u8 z) := by rw [e1]; rfl
      simpa using h0
    rw [List.getElem?_eq_getElem h1] at this
    rw [Option.some.inj this, List.getElem_map]
    exact congrArg _ e4
  intro g hgl
  match g, hgl with
  | 1, _ =>
    unfold World.var? at hv
    rw [hg] at hv
    simp only [Option.bind_some] at hv
    split at hv
    · rename_i c T z hh
      obtain rfl := Option.some.inj hv
      refine ⟨?_, ⟨_, _, _, hh, key.trans globE.symm⟩, ?_⟩
      · show 1 < W.heap.size
        rcases Nat.lt_or_ge 1 W.heap.size with h' | h'
        · exact h'
        · rw [Array.getElem?_eq_none h'] at hh; cases hh
      · intro v hv2
        have hv3 : v ∈ U.glob 1 := hv2
        rw [globE] at hv3
        obtain ⟨n, _, rfl⟩ := List.mem_map.1 hv3
        rfl
    · cases hv
  | 0, hgl => exact absurd rfl hgl
  | g + 2, hgl => exact absurd rfl hgl
variable {H : Type} {enc : TypeId × Value → H} {W : World}
theorem rarr5 : ReadsAs (C := Cd) Dc enc Tryz.prog W 114 U.arr5 A5OK := by
  refine ⟨by kernel_rfl, fun fuel cs x h => ?_⟩
  obtain ⟨zs, hlen, rfl, hz⟩ := trod_array_ints Tryz.underlying114 (by kernel_rfl) (by kernel_rfl) h
  match zs, hlen, hz with
  | [a, b, c, d, e], _, hz => exact ⟨⟨a, b, c, d, e⟩, pdenL_ints Dc W (Old W) [a, b, c, d, e], ⟨(hz a (by simp)).h, (hz b (by simp)).h, (hz c (by simp)).h, (hz d (by simp)).h, (hz e (by simp)).h⟩⟩
theorem rarr4 : ReadsAs (C := Cd) Dc enc Tryz.prog W 91 U.arr4 A4OK := by
  refine ⟨by kernel_rfl, fun fuel cs x h => ?_⟩
  obtain ⟨zs, hlen, rfl, hz⟩ := trod_array_ints Tryz.underlying91 (by kernel_rfl) (by kernel_rfl) h
  match zs, hlen, hz with
  | [a, b, c, d], _, hz => exact ⟨⟨a, b, c, d⟩, pdenL_ints Dc W (Old W) [a, b, c, d], ⟨(hz a (by simp)).h, (hz b (by simp)).h, (hz c (by simp)).h, (hz d (by simp)).h⟩⟩
variable {r : Reach} {b0' : Nat} {v : Value} {d : DataW H} {ps : List MemPlace}
/-- what a case holds -/
structure CaseOK (x : List A5 × List A4) : Prop where
  hx : ∀ y ∈ x.1, A5OK y
  hxl : (x.1.length : Int) ≤ 9223372036854775807
  hy : ∀ y ∈ x.2, A4OK y
  hyl : (x.2.length : Int) ≤ 9223372036854775807
theorem argCase (ho : Value.okWide Tryz.prog W r b0' 25 v) (h : DataW.Trod enc Tryz.prog W 0 (fun _ => true) true 25 v d ps) : ∃ x : List A5 × List A4, Den Dc W (En W) (.agg [a5S x.1, a4S x.2]) v ∧ CaseOK x := by
  obtain ⟨cs, rfl, hsz⟩ := okWide_struct Tryz.underlying25 ho
  obtain ⟨fuel, hx⟩ := h
  obtain ⟨xs, n, _, _, hlen, hxs, hel⟩ := DataW.trod_struct Tryz.underlying25 hx
  have hlen' : cs.toList.length = 2 := hlen.trans (by kernel_rfl)
  have hxs' : xs.length = 2 := hxs
  have e0 : DataW.trod enc Tryz.prog W 0 (fun _ => true) true n 22 ((cs.toList.drop 0).take (Tryz.prog.cellsOf 22)) = xs[0]? := hel 0 _ rfl
  have e1 : DataW.trod enc Tryz.prog W 0 (fun _ => true) true n 23 ((cs.toList.drop 1).take (Tryz.prog.cellsOf 23)) = xs[1]? := hel 1 _ rfl
  have k0 : Tryz.prog.cellsOf 22 = 1 := by kernel_rfl
  have k1 : Tryz.prog.cellsOf 23 = 1 := by kernel_rfl
  rw [List.getElem?_eq_getElem (by omega)] at e0 e1
  rw [k0] at e0
  rw [k1] at e1
  obtain ⟨l⟩ := cs
  match l, hlen' with
  | [c0, c1], _ =>
    simp only [List.drop, List.take] at e0 e1
    obtain ⟨v0, l0, h0, i0, j0, m0⟩ := readSlice rarr5 Tryz.underlying22 e0
    obtain ⟨v1, l1, h1, i1, j1, m1⟩ := readSlice rarr4 Tryz.underlying23 e1
    injection h0 with h0; injection h1 with h1
    subst h0 h1
    have hm : maxLen = 9223372036854775807 := rfl
    refine ⟨⟨l0, l1⟩, ?_, ⟨j0, by show (l0.length : Int) ≤ _; omega, j1, by show (l1.length : Int) ≤ _; omega⟩⟩
    simp only [a5S, a4S, Den]
    exact ⟨_, rfl, argC_dsl i0 (argC_dsl i1 argC_nil)⟩
end Go.SX

namespace Go.SX
open Go.Proofs
set_option linter.unusedSimpArgs false
set_option linter.unusedVariables false
set_option maxHeartbeats 4000000
set_option maxRecDepth 100000
def dGoal (w : Int) (one : Goal) : Goal := ⟨4, [], 0, 0, 0, 0, false, 0, 0, w, [], [one]⟩
theorem ask_len {g : Goal} {l : List Event} : ((askS g l).2.1.length : Int) ≤ 9223372036854775807 := by
  unfold askS
  split
  · rename_i h
    simp only [Bool.and_eq_true] at h
    obtain ⟨hg, _⟩ := h
    split
    · rename_i p im hm
      unfold validG at hg
      split at hg
      · cases hg
      · rename_i n hn
        have := mean_bound g 1 n l p im hn hm
        simp only [decide_eq_true_eq] at hg
        dsimp only
        omega
    · dsimp only; simp
  · dsimp only; simp
def EvL (y : List Event) : Prop := (y.length : Int) ≤ 9223372036854775807 ∧ ∀ e ∈ y, ELen e
theorem getD_all {α : Type} {P : α → Prop} {xs : List α} {d : α} (h : ∀ x ∈ xs, P x) {i : Nat} (hi : i < xs.length) : P (xs.getD i d) := by
  rw [List.getD_eq_getElem?_getD, List.getElem?_eq_getElem hi]
  exact h _ (List.getElem_mem _)
theorem lmatch1 (xs : List A5) (ys : List A4) (hx : ∀ y ∈ xs, A5OK y) (hxl : (xs.length : Int) ≤ 9223372036854775807) (hy : ∀ y ∈ ys, A4OK y) (hyl : (ys.length : Int) ≤ 9223372036854775807) (raw : Goal) (hraw : GLen raw) (odd : List Event) (hodd : (odd.length : Int) ≤ 9223372036854775807) (hoddE : ∀ e ∈ odd, ELen e) (which : Int) (hw : I64 which) (hset : 0 < ((eventsS (goalS xs) ys).length : Int) ∧ 0 < ((fewS odd).length : Int)) : Meets Tryz.prog Dc 3 [.agg [a5S xs, a4S ys], goalA raw, eS odd, iS which] [] (bS true) [] := by
  have h0 := lsane
  have h1 := lmade xs ys hx hxl hy hyl
  have hgv := goal_valid xs
  obtain ⟨hev, hel⟩ := events_valid (goalS xs) ys
  generalize eventsS (goalS xs) ys = l at *
  generalize goalS xs = g at *
  have hG := valid_gall hgv
  have hE := valid_elen hev
  have h2 := lfew odd hodd hoddE
  have hf1 := few_len odd
  have hf2 := few_elen odd
  generalize fewS odd = short at *
  have h3 := lflat raw hraw
  have hf3 := flat_all raw
  have hf4 : (flatS raw).kids = [] := rfl
  generalize flatS raw = one at *
  obtain ⟨q1, q2, q3, q4, q5, q6, q7, q8, q9, q10, q11, q12⟩ := one
  obtain ⟨g1, g2, g3, g4, g5, g6, g7, g8, g9, g10, g11, g12⟩ := g
  · obtain ⟨hs1, hs2⟩ := hset
    have hs1' : (0 : Int) < ((List.take 0 [] ++ l).length : Nat) := hs1
    have h4 : Meets Tryz.prog Dc 12 [iS which, iS ((List.take 0 [] ++ l).length : Nat)] [] (iS (pickS which l.length)) [] := pickL which l.length hw (by omega)
    have hp := pickS_bd (c := which) (n := l.length) (by omega)
    generalize pickS which l.length = w at *
    have hp' : 0 ≤ w ∧ w < ((List.take 0 [] ++ l).length : Nat) := hp
    have hlen : ((List.take 0 [] ++ l).set (0 + w.toNat) (short.getD (Int.toNat 0) (Cd.dflt U.event))).length = (List.take 0 [] ++ l).length := List.length_set
    refine meets_of_gx Ax tab_ok Tryz.func3 (c := _) rfl Tryz.call3 900 ?_
    (repeat' ((conv => whnf); first | (exfalso; omega) | refine cpC (h0) ?_ | refine dpC (h0) ?_ | refine cpC (h1) ?_ | refine dpC (h1) ?_ | refine cpC (h2) ?_ | refine dpC (h2) ?_ | refine cpC (h3) ?_ | refine dpC (h3) ?_ | refine cpC (h4) ?_ | refine dpC (h4) ?_ | (refine frz_op [some 0, some 1, some 2, none, none, some 5, none] [(12, eS ((List.take 0 [] ++ l).set (0 + w.toNat) (short.getD (Int.toNat 0) (Cd.dflt U.event)))), (42, .any), (44, .any), (45, .any), (53, .any), (55, .any), (61, .any), (69, .p (.dsl U.goal [⟨q1, q2, q3, q4, q5, q6, q7, q8, q9, q10, q11, q12⟩])), (70, goalA (dGoal raw.within ⟨q1, q2, q3, q4, q5, q6, q7, q8, q9, q10, q11, q12⟩))] [(3, .rows U.event []), (4, .rows U.event []), (6, .rows U.goal [])] (by exact bkV) ?_) | refine x0C ?_ | refine spC (fun hb => ?_) fun hb => ?_ | refine nilC (fun hb => ?_) ?_ | refine taC ?_ | refine saC ?_ | exact sdV | refine side_and ?_ ?_ | refine drawX_of mixed ?_))
    have hbl : EvL ((List.take 0 [] ++ l).set (0 + w.toNat) (short.getD (Int.toNat 0) (Cd.dflt U.event))) := by
      refine ⟨by rw [hlen]; show (l.length : Int) ≤ _; omega, fun e he => ?_⟩
      rcases List.mem_or_eq_of_mem_set he with h | h
      · exact hE e h
      · rw [h]; exact getD_all (P := ELen) hf2 (by show (0 : Nat) < _; omega)
    generalize (List.take 0 [] ++ l).set (0 + w.toNat) (short.getD (Int.toNat 0) (Cd.dflt U.event)) = bent at *
    obtain ⟨gs, hgs⟩ : ∃ gs : List Goal, ([⟨g1, g2, g3, g4, g5, g6, g7, g8, g9, g10, g11, g12⟩, ⟨q1, q2, q3, q4, q5, q6, q7, q8, q9, q10, q11, q12⟩, dGoal raw.within ⟨q1, q2, q3, q4, q5, q6, q7, q8, q9, q10, q11, q12⟩] : List Goal) = gs := ⟨_, rfl⟩
    have hgl : gs.length = 3 := by rw [← hgs]; rfl
    have hgG : ∀ x ∈ gs, GAll x := by
      rw [← hgs]
      intro x hx
      rcases List.mem_cons.1 hx with rfl | hx
      · exact hG
      · rcases List.mem_cons.1 hx with rfl | hx
        · exact hf3
        · rw [List.mem_singleton.1 hx, GAll_iff]
          refine ⟨⟨by simp [dGoal], by simp [dGoal], by simp [dGoal]⟩, ?_⟩
          show GAllL [⟨q1, q2, q3, q4, q5, q6, q7, q8, q9, q10, q11, q12⟩]
          rw [GAllL, GAllL]
          exact ⟨hf3, trivial⟩
    refine loop_upT [some 0, some 1, some 2, none, none, some 5, none, some 7] (fun i : Nat => [(73, iS i)]) (fun _ => [(3, .rows U.event []), (4, .rows U.event []), (6, .rows U.goal []), (7, .rows U.goal gs)]) (fun i => i ≤ 3) (fun i => 3 - i) 0 (Nat.zero_le _) (by exact bkI) ?_
    rintro i hi K hK
    dsimp only at hK ⊢
    rcases Nat.lt_or_ge i 3 with hlt | hge
    · (repeat' ((conv => whnf); first | (exfalso; omega) | refine x0C ?_ | refine spC (fun hb => ?_) fun hb => ?_ | refine nilC (fun hb => ?_) ?_ | refine taC ?_ | refine saC ?_ | exact sdV | refine side_and ?_ ?_ | refine drawX_of mixed ?_))
      obtain ⟨ls, hls⟩ : ∃ ls : List Evs, ([⟨l⟩, ⟨bent⟩, ⟨short⟩] : List Evs) = ls := ⟨_, rfl⟩
      have hll : ls.length = 3 := by rw [← hls]; rfl
      have hlE : ∀ y ∈ ls, EvL y.l := by
        rw [← hls]
        intro y hy
        rcases List.mem_cons.1 hy with rfl | hy
        · exact ⟨by show (l.length : Int) ≤ _; omega, hE⟩
        · rcases List.mem_cons.1 hy with rfl | hy
          · exact hbl
          · rw [List.mem_singleton.1 hy]; exact ⟨by show (short.length : Int) ≤ _; omega, hf2⟩
      have hX : GAll (gs.getD (0 + (i : Int).toNat) (Cd.dflt U.goal)) := getD_all (P := GAll) hgG (by show 0 + i < _; omega)
      refine loop_upT [some 0, some 1, some 2, none, none, some 5, none, some 7, some 8, some 9] (fun j : Nat => [(82, iS j)]) (fun _ => [(3, .rows U.event []), (4, .rows U.event []), (6, .rows U.goal []), (9, .rows U.evs ls)]) (fun j => j ≤ 3) (fun j => 3 - j) 0 (Nat.zero_le _) (by exact bkI) ?_
      rintro j hj K' hK'
      dsimp only at hK' ⊢
      rcases Nat.lt_or_ge j 3 with hjl | hjg
      · have hY : EvL (ls.getD (0 + (j : Int).toNat) (Cd.dflt U.evs)).l := getD_all (P := fun y : Evs => EvL y.l) hlE (by show 0 + j < _; omega)
        have c1 := tmet _ hX _ hY.1 hY.2
        have c2 := rMet _ hX _ hY.1 hY.2
        have c3 := tprice _ hX _ hY.1 hY.2
        have c4 := rPrice _ hX _ hY.1 hY.2
        have c5 := tuses _ hX _ hY.1 hY.2
        have c6 := rUses _ hX _ hY.1 hY.2
        have c7 := rints _ _ (ask_len (g := gs.getD (0 + (i : Int).toNat) (Cd.dflt U.goal)) (l := (ls.getD (0 + (j : Int).toNat) (Cd.dflt U.evs)).l)) (ask_len (g := gs.getD (0 + (i : Int).toNat) (Cd.dflt U.goal)) (l := (ls.getD (0 + (j : Int).toNat) (Cd.dflt U.evs)).l))
        have c8 := tvalid_meets _ hY.1 hY.2
        have c9 := rvalidE _ hY.1 hY.2
        rw [decide_eq_true rfl] at c7
        generalize askS (gs.getD (0 + (i : Int).toNat) (Cd.dflt U.goal)) (ls.getD (0 + (j : Int).toNat) (Cd.dflt U.evs)).l = q at *
        obtain ⟨ap, am, ai, ae⟩ := q
        dsimp only at c1 c2 c3 c4 c5 c6 c7
        have hYv : (validE (ls.getD (0 + (j : Int).toNat) (Cd.dflt U.evs)).l == validE (ls.getD (0 + (j : Int).toNat) (Cd.dflt U.evs)).l) = true := by simp
        have haa : (ai == ai) = true := by simp
        (repeat' ((conv => whnf); first | (exfalso; omega) | refine cpC (c1) ?_ | refine dpC (c1) ?_ | refine cpC (c2) ?_ | refine dpC (c2) ?_ | refine cpC (c3) ?_ | refine dpC (c3) ?_ | refine cpC (c4) ?_ | refine dpC (c4) ?_ | refine cpC (c5) ?_ | refine dpC (c5) ?_ | refine cpC (c6) ?_ | refine dpC (c6) ?_ | refine cpC (c7) ?_ | refine dpC (c7) ?_ | refine cpC (c8) ?_ | refine dpC (c8) ?_ | refine cpC (c9) ?_ | refine dpC (c9) ?_ | refine x0C ?_ | refine spC (fun hb => ?_) fun hb => ?_ | refine nilC (fun hb => ?_) ?_ | refine taC ?_ | refine saC ?_ | exact sdV | refine side_and ?_ ?_ | refine drawX_of mixed ?_))
        · exfalso; rw [hb] at haa; cases haa
        · exfalso; rw [hb] at haa; cases haa
        · exfalso; rw [hb] at hYv; cases hYv
        clear c1 c2 c3 c4 c5 c6 c7 c8 c9
        refine loop_upT [some 0, some 1, some 2, none, none, some 5, none, some 7, some 8, some 9] (fun n : Nat => [(32, iS n)]) (fun _ => [(3, .rows U.event []), (4, .rows U.event []), (6, .rows U.goal [])]) (fun n => n ≤ (ls.getD (0 + (j : Int).toNat) (Cd.dflt U.evs)).l.length) (fun n => (ls.getD (0 + (j : Int).toNat) (Cd.dflt U.evs)).l.length - n) 0 (Nat.zero_le _) (by exact bkI) ?_
        rintro n hn K2 hK2
        dsimp only at hK2 ⊢
        have hYl := hY.1
        rcases Nat.lt_or_ge n (ls.getD (0 + (j : Int).toNat) (Cd.dflt U.evs)).l.length with hnl | hng
        · have hnl' : n < (ls.getD (0 + (j : Int).toNat) (U.dflt U.evs)).l.length := hnl
          have he := getD_all (P := ELen) hY.2 (d := Cd.dflt U.event) (i := (n : Int).toNat) (by show n < _; omega)
          have d1 := sees_meets _ hX _ he
          have d2 := rSees_meets _ hX _ he
          generalize hsb : (decide ((gs.getD (0 + (i : Int).toNat) (Cd.dflt U.goal)).kind = 1) && validG (gs.getD (0 + (i : Int).toNat) (Cd.dflt U.goal)) && formB ((ls.getD (0 + (j : Int).toNat) (Cd.dflt U.evs)).l.getD (n : Int).toNat (Cd.dflt U.event)) && seesB (gs.getD (0 + (i : Int).toNat) (Cd.dflt U.goal)) ((ls.getD (0 + (j : Int).toNat) (Cd.dflt U.evs)).l.getD (n : Int).toNat (Cd.dflt U.event))) = sb at d1 d2
          have hss : (sb == sb) = true := by simp
          (repeat' ((conv => whnf); first | (exfalso; omega) | refine cpC (d1) ?_ | refine dpC (d1) ?_ | refine cpC (d2) ?_ | refine dpC (d2) ?_ | refine hK2 (n + 1) [some 0, some 1, some 2, none, none, some 5, none, some 7, some 8, some 9] _ _ ⟨by omega⟩ ⟨by omega⟩ (by exact bkI) | refine x0C ?_ | refine spC (fun hb => ?_) fun hb => ?_ | refine nilC (fun hb => ?_) ?_ | refine taC ?_ | refine saC ?_ | exact sdV | refine side_and ?_ ?_ | refine drawX_of mixed ?_))
          all_goals (first | (exfalso; rw [hb] at hss; cases hss) | (exfalso; omega) | (exfalso; exact hb hnl))
        · have hng' : (ls.getD (0 + (j : Int).toNat) (U.dflt U.evs)).l.length ≤ n := hng
          (repeat' ((conv => whnf); first | (exfalso; omega) | refine hK' (j + 1) [some 0, some 1, some 2, none, none, some 5, none, some 7, some 8, some 9] _ _ ⟨by omega⟩ ⟨by omega⟩ (by exact bkI) | refine x0C ?_ | refine spC (fun hb => ?_) fun hb => ?_ | refine nilC (fun hb => ?_) ?_ | refine taC ?_ | refine saC ?_ | exact sdV | refine side_and ?_ ?_ | refine drawX_of mixed ?_))
      · (repeat' ((conv => whnf); first | (exfalso; omega) | refine hK (i + 1) [some 0, some 1, some 2, none, none, some 5, none, some 7] _ _ ⟨by omega⟩ ⟨by omega⟩ (by exact bkI) | refine x0C ?_ | refine spC (fun hb => ?_) fun hb => ?_ | refine nilC (fun hb => ?_) ?_ | refine taC ?_ | refine saC ?_ | exact sdV | refine side_and ?_ ?_ | refine drawX_of mixed ?_))
    · (repeat' ((conv => whnf); first | (exfalso; omega) | refine x0C ?_ | refine spC (fun hb => ?_) fun hb => ?_ | refine nilC (fun hb => ?_) ?_ | refine taC ?_ | refine saC ?_ | exact sdV | refine side_and ?_ ?_ | refine drawX_of mixed ?_))
      all_goals exact vwV
end Go.SX

namespace Go.SX
open Go.Proofs
set_option linter.unusedSimpArgs false
set_option linter.unusedVariables false
set_option maxHeartbeats 4000000
set_option maxRecDepth 100000
theorem lmatch2 (xs : List A5) (ys : List A4) (hx : ∀ y ∈ xs, A5OK y) (hxl : (xs.length : Int) ≤ 9223372036854775807) (hy : ∀ y ∈ ys, A4OK y) (hyl : (ys.length : Int) ≤ 9223372036854775807) (raw : Goal) (hraw : GLen raw) (odd : List Event) (hodd : (odd.length : Int) ≤ 9223372036854775807) (hoddE : ∀ e ∈ odd, ELen e) (which : Int) (hw : I64 which) (hset : ((eventsS (goalS xs) ys).length : Int) = 0) : Meets Tryz.prog Dc 3 [.agg [a5S xs, a4S ys], goalA raw, eS odd, iS which] [] (bS true) [] := by
  have h0 := lsane
  have h1 := lmade xs ys hx hxl hy hyl
  have hgv := goal_valid xs
  obtain ⟨hev, hel⟩ := events_valid (goalS xs) ys
  generalize eventsS (goalS xs) ys = l at *
  generalize goalS xs = g at *
  have hG := valid_gall hgv
  have hE := valid_elen hev
  have h2 := lfew odd hodd hoddE
  have hf1 := few_len odd
  have hf2 := few_elen odd
  generalize fewS odd = short at *
  have h3 := lflat raw hraw
  have hf3 := flat_all raw
  have hf4 : (flatS raw).kids = [] := rfl
  generalize flatS raw = one at *
  obtain ⟨q1, q2, q3, q4, q5, q6, q7, q8, q9, q10, q11, q12⟩ := one
  obtain ⟨g1, g2, g3, g4, g5, g6, g7, g8, g9, g10, g11, g12⟩ := g
  have hl0 := hset
  · have hl0' : ((List.take 0 [] ++ l).length : Int) = 0 := hl0
    refine meets_of_gx Ax tab_ok Tryz.func3 (c := _) rfl Tryz.call3 900 ?_
    (repeat' ((conv => whnf); first | (exfalso; omega) | refine cpC (h0) ?_ | refine dpC (h0) ?_ | refine cpC (h1) ?_ | refine dpC (h1) ?_ | refine cpC (h2) ?_ | refine dpC (h2) ?_ | refine cpC (h3) ?_ | refine dpC (h3) ?_ | (refine frz_op [some 0, some 1, some 2, none, none, some 5, none] [(12, eS (List.take 0 [] ++ l)), (42, .any), (44, .any), (45, .any), (69, .p (.dsl U.goal [⟨q1, q2, q3, q4, q5, q6, q7, q8, q9, q10, q11, q12⟩])), (70, goalA (dGoal raw.within ⟨q1, q2, q3, q4, q5, q6, q7, q8, q9, q10, q11, q12⟩))] [(3, .rows U.event []), (4, .rows U.event []), (6, .rows U.goal [])] (by exact bkV) ?_) | refine x0C ?_ | refine spC (fun hb => ?_) fun hb => ?_ | refine nilC (fun hb => ?_) ?_ | refine taC ?_ | refine saC ?_ | exact sdV | refine side_and ?_ ?_ | refine drawX_of mixed ?_))
    have hbl : EvL (List.take 0 [] ++ l) := ⟨by show (l.length : Int) ≤ _; omega, hE⟩
    generalize List.take 0 [] ++ l = bent at *
    obtain ⟨gs, hgs⟩ : ∃ gs : List Goal, ([⟨g1, g2, g3, g4, g5, g6, g7, g8, g9, g10, g11, g12⟩, ⟨q1, q2, q3, q4, q5, q6, q7, q8, q9, q10, q11, q12⟩, dGoal raw.within ⟨q1, q2, q3, q4, q5, q6, q7, q8, q9, q10, q11, q12⟩] : List Goal) = gs := ⟨_, rfl⟩
    have hgl : gs.length = 3 := by rw [← hgs]; rfl
    have hgG : ∀ x ∈ gs, GAll x := by
      rw [← hgs]
      intro x hx
      rcases List.mem_cons.1 hx with rfl | hx
      · exact hG
      · rcases List.mem_cons.1 hx with rfl | hx
        · exact hf3
        · rw [List.mem_singleton.1 hx, GAll_iff]
          refine ⟨⟨by simp [dGoal], by simp [dGoal], by simp [dGoal]⟩, ?_⟩
          show GAllL [⟨q1, q2, q3, q4, q5, q6, q7, q8, q9, q10, q11, q12⟩]
          rw [GAllL, GAllL]
          exact ⟨hf3, trivial⟩
    refine loop_upT [some 0, some 1, some 2, none, none, some 5, none, some 7] (fun i : Nat => [(73, iS i)]) (fun _ => [(3, .rows U.event []), (4, .rows U.event []), (6, .rows U.goal []), (7, .rows U.goal gs)]) (fun i => i ≤ 3) (fun i => 3 - i) 0 (Nat.zero_le _) (by exact bkI) ?_
    rintro i hi K hK
    dsimp only at hK ⊢
    rcases Nat.lt_or_ge i 3 with hlt | hge
    · (repeat' ((conv => whnf); first | (exfalso; omega) | refine x0C ?_ | refine spC (fun hb => ?_) fun hb => ?_ | refine nilC (fun hb => ?_) ?_ | refine taC ?_ | refine saC ?_ | exact sdV | refine side_and ?_ ?_ | refine drawX_of mixed ?_))
      obtain ⟨ls, hls⟩ : ∃ ls : List Evs, ([⟨l⟩, ⟨bent⟩, ⟨short⟩] : List Evs) = ls := ⟨_, rfl⟩
      have hll : ls.length = 3 := by rw [← hls]; rfl
      have hlE : ∀ y ∈ ls, EvL y.l := by
        rw [← hls]
        intro y hy
        rcases List.mem_cons.1 hy with rfl | hy
        · exact ⟨by show (l.length : Int) ≤ _; omega, hE⟩
        · rcases List.mem_cons.1 hy with rfl | hy
          · exact hbl
          · rw [List.mem_singleton.1 hy]; exact ⟨by show (short.length : Int) ≤ _; omega, hf2⟩
      have hX : GAll (gs.getD (0 + (i : Int).toNat) (Cd.dflt U.goal)) := getD_all (P := GAll) hgG (by show 0 + i < _; omega)
      refine loop_upT [some 0, some 1, some 2, none, none, some 5, none, some 7, some 8, some 9] (fun j : Nat => [(82, iS j)]) (fun _ => [(3, .rows U.event []), (4, .rows U.event []), (6, .rows U.goal []), (9, .rows U.evs ls)]) (fun j => j ≤ 3) (fun j => 3 - j) 0 (Nat.zero_le _) (by exact bkI) ?_
      rintro j hj K' hK'
      dsimp only at hK' ⊢
      rcases Nat.lt_or_ge j 3 with hjl | hjg
      · have hY : EvL (ls.getD (0 + (j : Int).toNat) (Cd.dflt U.evs)).l := getD_all (P := fun y : Evs => EvL y.l) hlE (by show 0 + j < _; omega)
        have c1 := tmet _ hX _ hY.1 hY.2
        have c2 := rMet _ hX _ hY.1 hY.2
        have c3 := tprice _ hX _ hY.1 hY.2
        have c4 := rPrice _ hX _ hY.1 hY.2
        have c5 := tuses _ hX _ hY.1 hY.2
        have c6 := rUses _ hX _ hY.1 hY.2
        have c7 := rints _ _ (ask_len (g := gs.getD (0 + (i : Int).toNat) (Cd.dflt U.goal)) (l := (ls.getD (0 + (j : Int).toNat) (Cd.dflt U.evs)).l)) (ask_len (g := gs.getD (0 + (i : Int).toNat) (Cd.dflt U.goal)) (l := (ls.getD (0 + (j : Int).toNat) (Cd.dflt U.evs)).l))
        have c8 := tvalid_meets _ hY.1 hY.2
        have c9 := rvalidE _ hY.1 hY.2
        rw [decide_eq_true rfl] at c7
        generalize askS (gs.getD (0 + (i : Int).toNat) (Cd.dflt U.goal)) (ls.getD (0 + (j : Int).toNat) (Cd.dflt U.evs)).l = q at *
        obtain ⟨ap, am, ai, ae⟩ := q
        dsimp only at c1 c2 c3 c4 c5 c6 c7
        have hYv : (validE (ls.getD (0 + (j : Int).toNat) (Cd.dflt U.evs)).l == validE (ls.getD (0 + (j : Int).toNat) (Cd.dflt U.evs)).l) = true := by simp
        have haa : (ai == ai) = true := by simp
        (repeat' ((conv => whnf); first | (exfalso; omega) | refine cpC (c1) ?_ | refine dpC (c1) ?_ | refine cpC (c2) ?_ | refine dpC (c2) ?_ | refine cpC (c3) ?_ | refine dpC (c3) ?_ | refine cpC (c4) ?_ | refine dpC (c4) ?_ | refine cpC (c5) ?_ | refine dpC (c5) ?_ | refine cpC (c6) ?_ | refine dpC (c6) ?_ | refine cpC (c7) ?_ | refine dpC (c7) ?_ | refine cpC (c8) ?_ | refine dpC (c8) ?_ | refine cpC (c9) ?_ | refine dpC (c9) ?_ | refine x0C ?_ | refine spC (fun hb => ?_) fun hb => ?_ | refine nilC (fun hb => ?_) ?_ | refine taC ?_ | refine saC ?_ | exact sdV | refine side_and ?_ ?_ | refine drawX_of mixed ?_))
        · exfalso; rw [hb] at haa; cases haa
        · exfalso; rw [hb] at haa; cases haa
        · exfalso; rw [hb] at hYv; cases hYv
        clear c1 c2 c3 c4 c5 c6 c7 c8 c9
        refine loop_upT [some 0, some 1, some 2, none, none, some 5, none, some 7, some 8, some 9] (fun n : Nat => [(32, iS n)]) (fun _ => [(3, .rows U.event []), (4, .rows U.event []), (6, .rows U.goal [])]) (fun n => n ≤ (ls.getD (0 + (j : Int).toNat) (Cd.dflt U.evs)).l.length) (fun n => (ls.getD (0 + (j : Int).toNat) (Cd.dflt U.evs)).l.length - n) 0 (Nat.zero_le _) (by exact bkI) ?_
        rintro n hn K2 hK2
        dsimp only at hK2 ⊢
        have hYl := hY.1
        rcases Nat.lt_or_ge n (ls.getD (0 + (j : Int).toNat) (Cd.dflt U.evs)).l.length with hnl | hng
        · have hnl' : n < (ls.getD (0 + (j : Int).toNat) (U.dflt U.evs)).l.length := hnl
          have he := getD_all (P := ELen) hY.2 (d := Cd.dflt U.event) (i := (n : Int).toNat) (by show n < _; omega)
          have d1 := sees_meets _ hX _ he
          have d2 := rSees_meets _ hX _ he
          generalize hsb : (decide ((gs.getD (0 + (i : Int).toNat) (Cd.dflt U.goal)).kind = 1) && validG (gs.getD (0 + (i : Int).toNat) (Cd.dflt U.goal)) && formB ((ls.getD (0 + (j : Int).toNat) (Cd.dflt U.evs)).l.getD (n : Int).toNat (Cd.dflt U.event)) && seesB (gs.getD (0 + (i : Int).toNat) (Cd.dflt U.goal)) ((ls.getD (0 + (j : Int).toNat) (Cd.dflt U.evs)).l.getD (n : Int).toNat (Cd.dflt U.event))) = sb at d1 d2
          have hss : (sb == sb) = true := by simp
          (repeat' ((conv => whnf); first | (exfalso; omega) | refine cpC (d1) ?_ | refine dpC (d1) ?_ | refine cpC (d2) ?_ | refine dpC (d2) ?_ | refine hK2 (n + 1) [some 0, some 1, some 2, none, none, some 5, none, some 7, some 8, some 9] _ _ ⟨by omega⟩ ⟨by omega⟩ (by exact bkI) | refine x0C ?_ | refine spC (fun hb => ?_) fun hb => ?_ | refine nilC (fun hb => ?_) ?_ | refine taC ?_ | refine saC ?_ | exact sdV | refine side_and ?_ ?_ | refine drawX_of mixed ?_))
          all_goals (first | (exfalso; rw [hb] at hss; cases hss) | (exfalso; omega) | (exfalso; exact hb hnl))
        · have hng' : (ls.getD (0 + (j : Int).toNat) (U.dflt U.evs)).l.length ≤ n := hng
          (repeat' ((conv => whnf); first | (exfalso; omega) | refine hK' (j + 1) [some 0, some 1, some 2, none, none, some 5, none, some 7, some 8, some 9] _ _ ⟨by omega⟩ ⟨by omega⟩ (by exact bkI) | refine x0C ?_ | refine spC (fun hb => ?_) fun hb => ?_ | refine nilC (fun hb => ?_) ?_ | refine taC ?_ | refine saC ?_ | exact sdV | refine side_and ?_ ?_ | refine drawX_of mixed ?_))
      · (repeat' ((conv => whnf); first | (exfalso; omega) | refine hK (i + 1) [some 0, some 1, some 2, none, none, some 5, none, some 7] _ _ ⟨by omega⟩ ⟨by omega⟩ (by exact bkI) | refine x0C ?_ | refine spC (fun hb => ?_) fun hb => ?_ | refine nilC (fun hb => ?_) ?_ | refine taC ?_ | refine saC ?_ | exact sdV | refine side_and ?_ ?_ | refine drawX_of mixed ?_))
    · (repeat' ((conv => whnf); first | (exfalso; omega) | refine x0C ?_ | refine spC (fun hb => ?_) fun hb => ?_ | refine nilC (fun hb => ?_) ?_ | refine taC ?_ | refine saC ?_ | exact sdV | refine side_and ?_ ?_ | refine drawX_of mixed ?_))
      all_goals exact vwV
end Go.SX

namespace Go.SX
open Go.Proofs
set_option linter.unusedSimpArgs false
set_option linter.unusedVariables false
set_option maxHeartbeats 4000000
set_option maxRecDepth 100000
theorem lmatch3 (xs : List A5) (ys : List A4) (hx : ∀ y ∈ xs, A5OK y) (hxl : (xs.length : Int) ≤ 9223372036854775807) (hy : ∀ y ∈ ys, A4OK y) (hyl : (ys.length : Int) ≤ 9223372036854775807) (raw : Goal) (hraw : GLen raw) (odd : List Event) (hodd : (odd.length : Int) ≤ 9223372036854775807) (hoddE : ∀ e ∈ odd, ELen e) (which : Int) (hw : I64 which) (hset : ((eventsS (goalS xs) ys).length : Int) ≠ 0 ∧ ((fewS odd).length : Int) = 0) : Meets Tryz.prog Dc 3 [.agg [a5S xs, a4S ys], goalA raw, eS odd, iS which] [] (bS true) [] := by
  have h0 := lsane
  have h1 := lmade xs ys hx hxl hy hyl
  have hgv := goal_valid xs
  obtain ⟨hev, hel⟩ := events_valid (goalS xs) ys
  generalize eventsS (goalS xs) ys = l at *
  generalize goalS xs = g at *
  have hG := valid_gall hgv
  have hE := valid_elen hev
  have h2 := lfew odd hodd hoddE
  have hf1 := few_len odd
  have hf2 := few_elen odd
  generalize fewS odd = short at *
  have h3 := lflat raw hraw
  have hf3 := flat_all raw
  have hf4 : (flatS raw).kids = [] := rfl
  generalize flatS raw = one at *
  obtain ⟨q1, q2, q3, q4, q5, q6, q7, q8, q9, q10, q11, q12⟩ := one
  obtain ⟨g1, g2, g3, g4, g5, g6, g7, g8, g9, g10, g11, g12⟩ := g
  have hl0 := hset.1
  have hs0' := hset.2
  · have hs0 : (short.length : Int) = 0 := by omega
    have hl0' : 0 < ((List.take 0 [] ++ l).length : Int) := by show 0 < (l.length : Int); omega
    refine meets_of_gx Ax tab_ok Tryz.func3 (c := _) rfl Tryz.call3 900 ?_
    (repeat' ((conv => whnf); first | (exfalso; omega) | refine cpC (h0) ?_ | refine dpC (h0) ?_ | refine cpC (h1) ?_ | refine dpC (h1) ?_ | refine cpC (h2) ?_ | refine dpC (h2) ?_ | refine cpC (h3) ?_ | refine dpC (h3) ?_ | (refine frz_op [some 0, some 1, some 2, none, none, some 5, none] [(12, eS (List.take 0 [] ++ l)), (42, .any), (44, .any), (45, .any), (69, .p (.dsl U.goal [⟨q1, q2, q3, q4, q5, q6, q7, q8, q9, q10, q11, q12⟩])), (70, goalA (dGoal raw.within ⟨q1, q2, q3, q4, q5, q6, q7, q8, q9, q10, q11, q12⟩))] [(3, .rows U.event []), (4, .rows U.event []), (6, .rows U.goal [])] (by exact bkV) ?_) | refine x0C ?_ | refine spC (fun hb => ?_) fun hb => ?_ | refine nilC (fun hb => ?_) ?_ | refine taC ?_ | refine saC ?_ | exact sdV | refine side_and ?_ ?_ | refine drawX_of mixed ?_))
    have hbl : EvL (List.take 0 [] ++ l) := ⟨by show (l.length : Int) ≤ _; omega, hE⟩
    generalize List.take 0 [] ++ l = bent at *
    obtain ⟨gs, hgs⟩ : ∃ gs : List Goal, ([⟨g1, g2, g3, g4, g5, g6, g7, g8, g9, g10, g11, g12⟩, ⟨q1, q2, q3, q4, q5, q6, q7, q8, q9, q10, q11, q12⟩, dGoal raw.within ⟨q1, q2, q3, q4, q5, q6, q7, q8, q9, q10, q11, q12⟩] : List Goal) = gs := ⟨_, rfl⟩
    have hgl : gs.length = 3 := by rw [← hgs]; rfl
    have hgG : ∀ x ∈ gs, GAll x := by
      rw [← hgs]
      intro x hx
      rcases List.mem_cons.1 hx with rfl | hx
      · exact hG
      · rcases List.mem_cons.1 hx with rfl | hx
        · exact hf3
        · rw [List.mem_singleton.1 hx, GAll_iff]
          refine ⟨⟨by simp [dGoal], by simp [dGoal], by simp [dGoal]⟩, ?_⟩
          show GAllL [⟨q1, q2, q3, q4, q5, q6, q7, q8, q9, q10, q11, q12⟩]
          rw [GAllL, GAllL]
          exact ⟨hf3, trivial⟩
    refine loop_upT [some 0, some 1, some 2, none, none, some 5, none, some 7] (fun i : Nat => [(73, iS i)]) (fun _ => [(3, .rows U.event []), (4, .rows U.event []), (6, .rows U.goal []), (7, .rows U.goal gs)]) (fun i => i ≤ 3) (fun i => 3 - i) 0 (Nat.zero_le _) (by exact bkI) ?_
    rintro i hi K hK
    dsimp only at hK ⊢
    rcases Nat.lt_or_ge i 3 with hlt | hge
    · (repeat' ((conv => whnf); first | (exfalso; omega) | refine x0C ?_ | refine spC (fun hb => ?_) fun hb => ?_ | refine nilC (fun hb => ?_) ?_ | refine taC ?_ | refine saC ?_ | exact sdV | refine side_and ?_ ?_ | refine drawX_of mixed ?_))
      obtain ⟨ls, hls⟩ : ∃ ls : List Evs, ([⟨l⟩, ⟨bent⟩, ⟨short⟩] : List Evs) = ls := ⟨_, rfl⟩
      have hll : ls.length = 3 := by rw [← hls]; rfl
      have hlE : ∀ y ∈ ls, EvL y.l := by
        rw [← hls]
        intro y hy
        rcases List.mem_cons.1 hy with rfl | hy
        · exact ⟨by show (l.length : Int) ≤ _; omega, hE⟩
        · rcases List.mem_cons.1 hy with rfl | hy
          · exact hbl
          · rw [List.mem_singleton.1 hy]; exact ⟨by show (short.length : Int) ≤ _; omega, hf2⟩
      have hX : GAll (gs.getD (0 + (i : Int).toNat) (Cd.dflt U.goal)) := getD_all (P := GAll) hgG (by show 0 + i < _; omega)
      refine loop_upT [some 0, some 1, some 2, none, none, some 5, none, some 7, some 8, some 9] (fun j : Nat => [(82, iS j)]) (fun _ => [(3, .rows U.event []), (4, .rows U.event []), (6, .rows U.goal []), (9, .rows U.evs ls)]) (fun j => j ≤ 3) (fun j => 3 - j) 0 (Nat.zero_le _) (by exact bkI) ?_
      rintro j hj K' hK'
      dsimp only at hK' ⊢
      rcases Nat.lt_or_ge j 3 with hjl | hjg
      · have hY : EvL (ls.getD (0 + (j : Int).toNat) (Cd.dflt U.evs)).l := getD_all (P := fun y : Evs => EvL y.l) hlE (by show 0 + j < _; omega)
        have c1 := tmet _ hX _ hY.1 hY.2
        have c2 := rMet _ hX _ hY.1 hY.2
        have c3 := tprice _ hX _ hY.1 hY.2
        have c4 := rPrice _ hX _ hY.1 hY.2
        have c5 := tuses _ hX _ hY.1 hY.2
        have c6 := rUses _ hX _ hY.1 hY.2
        have c7 := rints _ _ (ask_len (g := gs.getD (0 + (i : Int).toNat) (Cd.dflt U.goal)) (l := (ls.getD (0 + (j : Int).toNat) (Cd.dflt U.evs)).l)) (ask_len (g := gs.getD (0 + (i : Int).toNat) (Cd.dflt U.goal)) (l := (ls.getD (0 + (j : Int).toNat) (Cd.dflt U.evs)).l))
        have c8 := tvalid_meets _ hY.1 hY.2
        have c9 := rvalidE _ hY.1 hY.2
        rw [decide_eq_true rfl] at c7
        generalize askS (gs.getD (0 + (i : Int).toNat) (Cd.dflt U.goal)) (ls.getD (0 + (j : Int).toNat) (Cd.dflt U.evs)).l = q at *
        obtain ⟨ap, am, ai, ae⟩ := q
        dsimp only at c1 c2 c3 c4 c5 c6 c7
        have hYv : (validE (ls.getD (0 + (j : Int).toNat) (Cd.dflt U.evs)).l == validE (ls.getD (0 + (j : Int).toNat) (Cd.dflt U.evs)).l) = true := by simp
        have haa : (ai == ai) = true := by simp
        (repeat' ((conv => whnf); first | (exfalso; omega) | refine cpC (c1) ?_ | refine dpC (c1) ?_ | refine cpC (c2) ?_ | refine dpC (c2) ?_ | refine cpC (c3) ?_ | refine dpC (c3) ?_ | refine cpC (c4) ?_ | refine dpC (c4) ?_ | refine cpC (c5) ?_ | refine dpC (c5) ?_ | refine cpC (c6) ?_ | refine dpC (c6) ?_ | refine cpC (c7) ?_ | refine dpC (c7) ?_ | refine cpC (c8) ?_ | refine dpC (c8) ?_ | refine cpC (c9) ?_ | refine dpC (c9) ?_ | refine x0C ?_ | refine spC (fun hb => ?_) fun hb => ?_ | refine nilC (fun hb => ?_) ?_ | refine taC ?_ | refine saC ?_ | exact sdV | refine side_and ?_ ?_ | refine drawX_of mixed ?_))
        · exfalso; rw [hb] at haa; cases haa
        · exfalso; rw [hb] at haa; cases haa
        · exfalso; rw [hb] at hYv; cases hYv
        clear c1 c2 c3 c4 c5 c6 c7 c8 c9
        refine loop_upT [some 0, some 1, some 2, none, none, some 5, none, some 7, some 8, some 9] (fun n : Nat => [(32, iS n)]) (fun _ => [(3, .rows U.event []), (4, .rows U.event []), (6, .rows U.goal [])]) (fun n => n ≤ (ls.getD (0 + (j : Int).toNat) (Cd.dflt U.evs)).l.length) (fun n => (ls.getD (0 + (j : Int).toNat) (Cd.dflt U.evs)).l.length - n) 0 (Nat.zero_le _) (by exact bkI) ?_
        rintro n hn K2 hK2
        dsimp only at hK2 ⊢
        have hYl := hY.1
        rcases Nat.lt_or_ge n (ls.getD (0 + (j : Int).toNat) (Cd.dflt U.evs)).l.length with hnl | hng
        · have hnl' : n < (ls.getD (0 + (j : Int).toNat) (U.dflt U.evs)).l.length := hnl
          have he := getD_all (P := ELen) hY.2 (d := Cd.dflt U.event) (i := (n : Int).toNat) (by show n < _; omega)
          have d1 := sees_meets _ hX _ he
          have d2 := rSees_meets _ hX _ he
          generalize hsb : (decide ((gs.getD (0 + (i : Int).toNat) (Cd.dflt U.goal)).kind = 1) && validG (gs.getD (0 + (i : Int).toNat) (Cd.dflt U.goal)) && formB ((ls.getD (0 + (j : Int).toNat) (Cd.dflt U.evs)).l.getD (n : Int).toNat (Cd.dflt U.event)) && seesB (gs.getD (0 + (i : Int).toNat) (Cd.dflt U.goal)) ((ls.getD (0 + (j : Int).toNat) (Cd.dflt U.evs)).l.getD (n : Int).toNat (Cd.dflt U.event))) = sb at d1 d2
          have hss : (sb == sb) = true := by simp
          (repeat' ((conv => whnf); first | (exfalso; omega) | refine cpC (d1) ?_ | refine dpC (d1) ?_ | refine cpC (d2) ?_ | refine dpC (d2) ?_ | refine hK2 (n + 1) [some 0, some 1, some 2, none, none, some 5, none, some 7, some 8, some 9] _ _ ⟨by omega⟩ ⟨by omega⟩ (by exact bkI) | refine x0C ?_ | refine spC (fun hb => ?_) fun hb => ?_ | refine nilC (fun hb => ?_) ?_ | refine taC ?_ | refine saC ?_ | exact sdV | refine side_and ?_ ?_ | refine drawX_of mixed ?_))
          all_goals (first | (exfalso; rw [hb] at hss; cases hss) | (exfalso; omega) | (exfalso; exact hb hnl))
        · have hng' : (ls.getD (0 + (j : Int).toNat) (U.dflt U.evs)).l.length ≤ n := hng
          (repeat' ((conv => whnf); first | (exfalso; omega) | refine hK' (j + 1) [some 0, some 1, some 2, none, none, some 5, none, some 7, some 8, some 9] _ _ ⟨by omega⟩ ⟨by omega⟩ (by exact bkI) | refine x0C ?_ | refine spC (fun hb => ?_) fun hb => ?_ | refine nilC (fun hb => ?_) ?_ | refine taC ?_ | refine saC ?_ | exact sdV | refine side_and ?_ ?_ | refine drawX_of mixed ?_))
      · (repeat' ((conv => whnf); first | (exfalso; omega) | refine hK (i + 1) [some 0, some 1, some 2, none, none, some 5, none, some 7] _ _ ⟨by omega⟩ ⟨by omega⟩ (by exact bkI) | refine x0C ?_ | refine spC (fun hb => ?_) fun hb => ?_ | refine nilC (fun hb => ?_) ?_ | refine taC ?_ | refine saC ?_ | exact sdV | refine side_and ?_ ?_ | refine drawX_of mixed ?_))
    · (repeat' ((conv => whnf); first | (exfalso; omega) | refine x0C ?_ | refine spC (fun hb => ?_) fun hb => ?_ | refine nilC (fun hb => ?_) ?_ | refine taC ?_ | refine saC ?_ | exact sdV | refine side_and ?_ ?_ | refine drawX_of mixed ?_))
      all_goals exact vwV
end Go.SX

namespace Go.SX
open Go.Proofs Go.Proofs.YtdaghncicimipaaGreatDoor Go.ChangeShapes Go.WideShapes Go.ChangeAt Go.RowKit Go.Deep
set_option linter.unusedVariables false
set_option linter.unusedSimpArgs false
set_option maxHeartbeats 4000000
set_option maxRecDepth 100000
variable {H : Type} {enc : TypeId × Value → H} {W : World}
/-- reading an element by a fuel below another one -/
structure ReadsTo (e : TypeId) (u : U) (Ok : u.El → Prop) (enc : TypeId × Value → H) (W : World) (N : Nat) : Prop where
  n : Tryz.prog.cellsOf e = u.n
  el : ∀ fuel, fuel < N → ∀ cs x, DataW.trod enc Tryz.prog W 0 (fun _ => true) true fuel e cs = some x → ∃ y : u.El, PDenL Dc W (Old W) (Dc.enc u y) cs ∧ Ok y
theorem readSliceTo {t e : TypeId} {u : U} {Ok : u.El → Prop} {N : Nat} (R : ReadsTo e u Ok enc W N) (ht : Tryz.prog.underlying t = some (.slice e)) {fuel : Nat} (hN : fuel ≤ N) {cs : List Value} {x : DataW H × List MemPlace}
    (h : DataW.trod enc Tryz.prog W 0 (fun _ => true) true fuel t cs = some x) :
    ∃ (v : Value) (l : List u.El), cs = [v] ∧ PDen Dc W (Old W) (.dsl u l) v ∧ (∀ y ∈ l, Ok y) ∧ l.length ≤ maxLen := by
  rcases DataW.trod_slice ht h with ⟨rfl, _⟩ | ⟨a, len, cap, elems, rest, n, hfu, rfl, _, _, hl, hmm, hlen, hel, _, _⟩
  · exact ⟨_, [], rfl, .dslNil (C := Cd) u none 0, by simp, by simp⟩
  · by_cases h0 : len = 0
    · subst h0; exact ⟨_, [], rfl, .dslNil (C := Cd) u (some a) cap, by simp, by simp⟩
    haveI : Inhabited u.El := ⟨u.dflt⟩
    obtain ⟨f, hf⟩ := choose_lt (n := len) (p := fun i (y : u.El) => ∃ cs', W.cells? 0 (a.add (i * Tryz.prog.cellsOf e)) (Tryz.prog.cellsOf e) = some cs' ∧ PDenL Dc W (Old W) (Dc.enc u y) cs' ∧ Ok y) (fun i hi => by
      have h1 := hel i hi
      rw [List.getElem?_eq_getElem (by omega)] at h1
      obtain ⟨cs', h1, h2⟩ := Option.bind_eq_some_iff.1 h1
      obtain ⟨y, h3, h4⟩ := R.el n (by omega) cs' _ h2
      exact ⟨y, cs', h1, h3, h4⟩)
    have hn := R.n
    have hnp : 0 < u.n := Dc.n_pos u
    have hspot : a.spot = none := by
      obtain ⟨cs', h1, h2, _⟩ := hf 0 (by omega)
      obtain ⟨_, hlen, hc⟩ := World.cells?_some h1
      have := hc 0 (by omega)
      have hv : ∃ v, cs'[0]? = some v := ⟨cs'[0]'(by omega), by rw [List.getElem?_eq_getElem]⟩
      obtain ⟨v, hv⟩ := hv
      rw [hv] at this
      have hs := World.cell?_spot this
      simpa [Addr.add] using hs
    obtain ⟨b, o, sp⟩ := a
    simp only at hspot
    subst hspot
    have hcell : ∀ i, i < len → ∀ j, j < u.n → ∃ v, W.cell? ⟨b, o + i * u.n + j, none⟩ = some v ∧ ∀ pv, (Dc.enc u (f i))[j]? = some pv → PDen Dc W (Old W) pv v := by
      intro i hi j hj
      obtain ⟨cs', h1, h2, _⟩ := hf i hi
      rw [hn, add_none] at h1
      obtain ⟨_, hlen, hc⟩ := World.cells?_some h1
      have := hc j hj
      rw [add_none] at this
      have hv : cs'[j]? = some (cs'[j]'(by omega)) := by rw [List.getElem?_eq_getElem]
      rw [hv] at this
      exact ⟨_, this, fun pv hp => h2.2 j pv _ hp hv⟩
    have hen : ∀ y, (Dc.enc u y).length = u.n := Dc.enc_len u
    refine ⟨_, (List.range len).map f, rfl, ?_, ?_, ?_⟩
    · have key := PDen.dsl (D := Dc) (w := W) (F := Old W) u ((List.range len).map f) b o cap (fun i j => (W.cell? ⟨b, o + i * u.n + j, none⟩).getD (.bool false)) ?_ (by simpa using hl) ?_ ?_
      · simpa using key
      · intro _
        obtain ⟨v, hv, _⟩ := hcell 0 (by omega) 0 hnp
        exact cell_old hv
      · intro i x hx j pv hp
        have hi : i < len := by
          rcases Nat.lt_or_ge i len with h' | h'
          · exact h'
          · rw [List.getElem?_eq_none (by simpa using h')] at hx; cases hx
        have hxe : x = f i := by simpa [hi] using hx.symm
        subst hxe
        have hj : j < u.n := by
          rw [← hen (f i)]
          rcases Nat.lt_or_ge j (Dc.enc u (f i)).length with h' | h'
          · exact h'
          · rw [List.getElem?_eq_none h'] at hp; cases hp
        obtain ⟨v, hv, _⟩ := hcell i hi j hj
        show W.cell? ⟨b, o + i * u.n + j, none⟩ = some ((W.cell? ⟨b, o + i * u.n + j, none⟩).getD (.bool false))
        rw [hv]; rfl
      · intro i x hx j pv hp
        have hi : i < len := by
          rcases Nat.lt_or_ge i len with h' | h'
          · exact h'
          · rw [List.getElem?_eq_none (by simpa using h')] at hx; cases hx
        have hxe : x = f i := by simpa [hi] using hx.symm
        subst hxe
        have hj : j < u.n := by
          rw [← hen (f i)]
          rcases Nat.lt_or_ge j (Dc.enc u (f i)).length with h' | h'
          · exact h'
          · rw [List.getElem?_eq_none h'] at hp; cases hp
        obtain ⟨v, hv, hd⟩ := hcell i hi j hj
        show PDen Dc W (Old W) pv ((W.cell? ⟨b, o + i * u.n + j, none⟩).getD (.bool false))
        rw [hv]; exact hd pv hp
    · intro y hy
      obtain ⟨i, hi, rfl⟩ := List.mem_map.1 hy
      obtain ⟨_, _, _, hok⟩ := hf i (List.mem_range.1 hi)
      exact hok
    · simp only [List.length_map, List.length_range]; omega
theorem rint3 : ReadsAs (C := Cd) Dc enc Tryz.prog W 3 U.int (fun _ => True) := by
  refine ⟨by kernel_rfl, fun fuel cs x h => ?_⟩
  obtain ⟨z, rfl, _, _⟩ := DataW.trod_int Tryz.underlying3 h
  exact ⟨z, pdenL_ints Dc W (Old W) [z], trivial⟩
/-- cells, one by one -/
theorem pdc0 : PDenL Dc W (Old W) [] [] := ⟨rfl, fun j pv v h => by cases h⟩
theorem pdc1 {p : PV Cd} {v : Value} {ps : List (PV Cd)} {vs : List Value} (h : PDen Dc W (Old W) p v) (h2 : PDenL Dc W (Old W) ps vs) : PDenL Dc W (Old W) (p :: ps) (v :: vs) := by
  refine ⟨by simp [h2.1], fun j pv w h3 h4 => ?_⟩
  match j, h3, h4 with
  | 0, h3, h4 =>
    injection h3 with h3; injection h4 with h4
    subst h3 h4; exact h
  | j + 1, h3, h4 => exact h2.2 j pv w h3 h4
theorem fieldOf {t : TypeId} {fs : Array Field} (ht : Tryz.prog.underlying t = some (.struct fs)) {fuel : Nat} {cs : List Value} {x : DataW H × List MemPlace} (h : DataW.trod enc Tryz.prog W 0 (fun _ => true) true fuel t cs = some x) :
    ∃ n, fuel = n + 1 ∧ cs.length = Tryz.prog.cellsOf t ∧ ∀ (i : Nat) (f : Field), fs[i]? = some f → ∃ y, DataW.trod enc Tryz.prog W 0 (fun _ => true) true n f.type ((cs.drop f.offset).take (Tryz.prog.cellsOf f.type)) = some y := by
  obtain ⟨xs, n, hf, _, hlen, hxs, hel⟩ := DataW.trod_struct ht h
  refine ⟨n, hf, hlen, fun i f hi => ?_⟩
  have h1 := hel i f hi
  have h2 : i < fs.size := by
    rcases Nat.lt_or_ge i fs.size with h' | h'
    · exact h'
    · rw [Array.getElem?_eq_none h'] at hi; cases hi
  rw [List.getElem?_eq_getElem (by omega)] at h1
  exact ⟨_, h1⟩
theorem k3 : Tryz.prog.cellsOf 3 = 1 := by kernel_rfl
theorem k4 : Tryz.prog.cellsOf 4 = 1 := by kernel_rfl
theorem k26 : Tryz.prog.cellsOf 26 = 1 := by kernel_rfl
theorem k28 : Tryz.prog.cellsOf 28 = 1 := by kernel_rfl
theorem k30 : Tryz.prog.cellsOf 30 = 2 := by kernel_rfl
theorem k31 : Tryz.prog.cellsOf 31 = 1 := by kernel_rfl
theorem k33 : Tryz.prog.cellsOf 33 = 12 := by kernel_rfl
theorem k40 : Tryz.prog.cellsOf 40 = 7 := by kernel_rfl
abbrev Tr (enc : TypeId × Value → H) (W : World) (n : Nat) (t : TypeId) (cs : List Value) : Prop := ∃ y, DataW.trod enc Tryz.prog W 0 (fun _ => true) true n t cs = some y
theorem tr_int {n : Nat} {c : Value} (h : Tr enc W n 3 [c]) : ∃ z, PDen Dc W (Old W) (.int .i64 z) c := by
  obtain ⟨y, h⟩ := h
  obtain ⟨z, e, _, _⟩ := DataW.trod_int Tryz.underlying3 h
  injection e with e
  subst e
  exact ⟨z, .int _ _⟩
theorem tr_bool {n : Nat} {c : Value} (h : Tr enc W n 4 [c]) : ∃ z, PDen Dc W (Old W) (.bool z) c := by
  obtain ⟨y, h⟩ := h
  obtain ⟨z, e, _⟩ := DataW.trod_bool Tryz.underlying4 h
  injection e with e
  subst e
  exact ⟨z, .bool _⟩
theorem tr_ints {n : Nat} {c : Value} (h : Tr enc W n 26 [c]) : ∃ l : List Int, PDen Dc W (Old W) (.dsl U.int l) c ∧ (l.length : Int) ≤ 9223372036854775807 := by
  obtain ⟨y, h⟩ := h
  obtain ⟨v, l, e, h2, _, h3⟩ := readSlice rint3 Tryz.underlying26 h
  injection e with e
  subst e
  have hm : maxLen = 9223372036854775807 := rfl
  exact ⟨l, h2, by omega⟩
theorem tr_area {n : Nat} {c : Value} (h : Tr enc W n 28 [c]) : ∃ l : List Int, PDen Dc W (Old W) (.dsl U.int l) c ∧ (l.length : Int) ≤ 9223372036854775807 := by
  obtain ⟨y, h⟩ := h
  obtain ⟨m, _, _, hf⟩ := fieldOf Tryz.underlying28 h
  have e : Tr enc W m 26 (([c].drop 0).take (Tryz.prog.cellsOf 26)) := hf 0 _ rfl
  rw [k26] at e
  exact tr_ints e
theorem tr_spell {n : Nat} {c d : Value} (h : Tr enc W n 30 [c, d]) : (∃ z, PDen Dc W (Old W) (.int .i64 z) c) ∧ ∃ z, PDen Dc W (Old W) (.int .i64 z) d := by
  obtain ⟨y, h⟩ := h
  obtain ⟨m, _, _, hf⟩ := fieldOf Tryz.underlying30 h
  have e0 : Tr enc W m 3 (([c, d].drop 0).take (Tryz.prog.cellsOf 3)) := hf 0 _ rfl
  have e1 : Tr enc W m 3 (([c, d].drop 1).take (Tryz.prog.cellsOf 3)) := hf 1 _ rfl
  rw [k3] at e0 e1
  exact ⟨tr_int e0, tr_int e1⟩
theorem revent : ReadsAs (C := Cd) Dc enc Tryz.prog W 40 U.event ELen := by
  refine ⟨by kernel_rfl, fun fuel cs x h => ?_⟩
  obtain ⟨m, _, hl, hf⟩ := fieldOf Tryz.underlying40 h
  rw [k40] at hl
  match cs, hl with
  | [c0, c1, c2, c3, c4, c5, c6], _ =>
    have e0 : Tr enc W m 3 (([c0, c1, c2, c3, c4, c5, c6].drop 0).take (Tryz.prog.cellsOf 3)) := hf 0 _ rfl
    have e1 : Tr enc W m 3 (([c0, c1, c2, c3, c4, c5, c6].drop 1).take (Tryz.prog.cellsOf 3)) := hf 1 _ rfl
    have e2 : Tr enc W m 3 (([c0, c1, c2, c3, c4, c5, c6].drop 2).take (Tryz.prog.cellsOf 3)) := hf 2 _ rfl
    have e3 : Tr enc W m 28 (([c0, c1, c2, c3, c4, c5, c6].drop 3).take (Tryz.prog.cellsOf 28)) := hf 3 _ rfl
    have e4 : Tr enc W m 3 (([c0, c1, c2, c3, c4, c5, c6].drop 4).take (Tryz.prog.cellsOf 3)) := hf 4 _ rfl
    have e5 : Tr enc W m 3 (([c0, c1, c2, c3, c4, c5, c6].drop 5).take (Tryz.prog.cellsOf 3)) := hf 5 _ rfl
    have e6 : Tr enc W m 4 (([c0, c1, c2, c3, c4, c5, c6].drop 6).take (Tryz.prog.cellsOf 4)) := hf 6 _ rfl
    rw [k3] at e0 e1 e2 e4 e5
    rw [k28] at e3
    rw [k4] at e6
    obtain ⟨z0, d0⟩ := tr_int e0
    obtain ⟨z1, d1⟩ := tr_int e1
    obtain ⟨z2, d2⟩ := tr_int e2
    obtain ⟨z3, d3, b3⟩ := tr_area e3
    obtain ⟨z4, d4⟩ := tr_int e4
    obtain ⟨z5, d5⟩ := tr_int e5
    obtain ⟨z6, d6⟩ := tr_bool e6
    exact ⟨⟨z0, z1, z2, z3, z4, z5, z6⟩, pdc1 d0 (pdc1 d1 (pdc1 d2 (pdc1 d3 (pdc1 d4 (pdc1 d5 (pdc1 d6 pdc0)))))), b3⟩
theorem rgoalTo : ∀ N : Nat, ReadsTo 33 U.goal GLen enc W N
  | 0 => ⟨k33, fun fuel h => absurd h (Nat.not_lt_zero _)⟩
  | N + 1 => by
    have ih := rgoalTo N
    refine ⟨k33, fun fuel hN cs x h => ?_⟩
    obtain ⟨m, hm, hl, hf⟩ := fieldOf Tryz.underlying33 h
    rw [k33] at hl
    match cs, hl with
    | [c0, c1, c2, c3, c4, c5, c6, c7, c8, c9, c10, c11], _ =>
      have e0 : Tr enc W m 3 (([c0, c1, c2, c3, c4, c5, c6, c7, c8, c9, c10, c11].drop 0).take (Tryz.prog.cellsOf 3)) := hf 0 _ rfl
      have e1 : Tr enc W m 28 (([c0, c1, c2, c3, c4, c5, c6, c7, c8, c9, c10, c11].drop 1).take (Tryz.prog.cellsOf 28)) := hf 1 _ rfl
      have e2 : Tr enc W m 30 (([c0, c1, c2, c3, c4, c5, c6, c7, c8, c9, c10, c11].drop 2).take (Tryz.prog.cellsOf 30)) := hf 2 _ rfl
      have e4 : Tr enc W m 3 (([c0, c1, c2, c3, c4, c5, c6, c7, c8, c9, c10, c11].drop 4).take (Tryz.prog.cellsOf 3)) := hf 3 _ rfl
      have e5 : Tr enc W m 3 (([c0, c1, c2, c3, c4, c5, c6, c7, c8, c9, c10, c11].drop 5).take (Tryz.prog.cellsOf 3)) := hf 4 _ rfl
      have e6 : Tr enc W m 4 (([c0, c1, c2, c3, c4, c5, c6, c7, c8, c9, c10, c11].drop 6).take (Tryz.prog.cellsOf 4)) := hf 5 _ rfl
      have e7 : Tr enc W m 3 (([c0, c1, c2, c3, c4, c5, c6, c7, c8, c9, c10, c11].drop 7).take (Tryz.prog.cellsOf 3)) := hf 6 _ rfl
      have e8 : Tr enc W m 3 (([c0, c1, c2, c3, c4, c5, c6, c7, c8, c9, c10, c11].drop 8).take (Tryz.prog.cellsOf 3)) := hf 7 _ rfl
      have e9 : Tr enc W m 3 (([c0, c1, c2, c3, c4, c5, c6, c7, c8, c9, c10, c11].drop 9).take (Tryz.prog.cellsOf 3)) := hf 8 _ rfl
      have e10 : Tr enc W m 26 (([c0, c1, c2, c3, c4, c5, c6, c7, c8, c9, c10, c11].drop 10).take (Tryz.prog.cellsOf 26)) := hf 9 _ rfl
      have e11 : Tr enc W m 31 (([c0, c1, c2, c3, c4, c5, c6, c7, c8, c9, c10, c11].drop 11).take (Tryz.prog.cellsOf 31)) := hf 10 _ rfl
      rw [k3] at e0 e4 e5 e7 e8 e9
      rw [k28] at e1
      rw [k30] at e2
      rw [k4] at e6
      rw [k26] at e10
      rw [k31] at e11
      obtain ⟨z0, d0⟩ := tr_int e0
      obtain ⟨z1, d1, b1⟩ := tr_area e1
      obtain ⟨⟨z2, d2⟩, ⟨z3, d3⟩⟩ := tr_spell e2
      obtain ⟨z4, d4⟩ := tr_int e4
      obtain ⟨z5, d5⟩ := tr_int e5
      obtain ⟨z6, d6⟩ := tr_bool e6
      obtain ⟨z7, d7⟩ := tr_int e7
      obtain ⟨z8, d8⟩ := tr_int e8
      obtain ⟨z9, d9⟩ := tr_int e9
      obtain ⟨z10, d10, b10⟩ := tr_ints e10
      obtain ⟨y11, h11⟩ := e11
      obtain ⟨v, z11, e, d11, _, b11⟩ := readSliceTo ih Tryz.underlying31 (by omega) h11
      have e' : c11 = v := by injection e
      subst e'
      have hm : maxLen = 9223372036854775807 := rfl
      exact ⟨⟨z0, z1, z2, z3, z4, z5, z6, z7, z8, z9, z10, z11⟩, pdc1 d0 (pdc1 d1 (pdc1 d2 (pdc1 d3 (pdc1 d4 (pdc1 d5 (pdc1 d6 (pdc1 d7 (pdc1 d8 (pdc1 d9 (pdc1 d10 (pdc1 d11 pdc0))))))))))), b1, b10, by show (z11.length : Int) ≤ _; omega⟩
variable {r : Reach} {b0' : Nat} {v : Value} {d : DataW H} {ps : List MemPlace}
theorem argGoal (ho : Value.okWide Tryz.prog W r b0' 33 v) (h : DataW.Trod enc Tryz.prog W 0 (fun _ => true) true 33 v d ps) : ∃ g : Goal, Den Dc W (En W) (goalA g) v ∧ GLen g := by
  obtain ⟨cs, rfl, hsz⟩ := okWide_struct Tryz.underlying33 ho
  obtain ⟨fuel, hx⟩ := h
  obtain ⟨g, h1, h2⟩ := (rgoalTo (enc := enc) (W := W) (fuel + 1)).el fuel (Nat.lt_succ_self _) _ _ hx
  refine ⟨g, ?_, h2⟩
  obtain ⟨l⟩ := cs
  have hl := h1.1
  match l, hl with
  | [c0, c1, c2, c3, c4, c5, c6, c7, c8, c9, c10, c11], _ =>
    have q : ∀ (j : Nat) (pv : PV Cd) (w : Value), (goalC g)[j]? = some pv → [c0, c1, c2, c3, c4, c5, c6, c7, c8, c9, c10, c11][j]? = some w → PDen Dc W (Old W) pv w := h1.2
    simp only [goalA, Den]
    refine ⟨_, rfl, ?_⟩
    have one : ∀ {p : PV Cd} {w : Value} {xs : List (SV Cd)} {vs : List Value}, PDen Dc W (Old W) p w → DenC Dc W (En W) xs vs → DenC Dc W (En W) (.p p :: xs) (w :: vs) := fun hp hd => by
      simp only [DenC]
      exact ⟨_, _, rfl, hp.oneCell, by simp only [Den]; exact hp, hd⟩
    exact one (q 0 _ _ rfl rfl) (one (q 1 _ _ rfl rfl) (one (q 2 _ _ rfl rfl) (one (q 3 _ _ rfl rfl) (one (q 4 _ _ rfl rfl) (one (q 5 _ _ rfl rfl) (one (q 6 _ _ rfl rfl) (one (q 7 _ _ rfl rfl) (one (q 8 _ _ rfl rfl) (one (q 9 _ _ rfl rfl) (one (q 10 _ _ rfl rfl) (one (q 11 _ _ rfl rfl) argC_nil)))))))))))
end Go.SX
