/-
  Walks: Tf0: what single functions of the program compute.
-/
import Derived.Test.YtdaghncicimipaaGreatDoorSxTq1
import Derived.Test.YtdaghncicimipaaGreatDoorSxZ2
import Derived.LaidMore
import Derived.ChangeMaps5
import Derived.Lay
import Derived.SevenTiedAt
import Derived.Stop.Joined
import Derived.Test.YtdaghncicimipaaGreatDoorTie
import Derived.Test.YtdaghncicimipaaGreatDoorCards
namespace Go.SX
open Go.Proofs Go.Proofs.YtdaghncicimipaaGreatDoor Go.ChangeShapes Go.WideShapes Go.ChangeAt Go.RowKit
set_option linter.unusedVariables false
set_option linter.unusedSimpArgs false
set_option maxHeartbeats 4000000
set_option maxRecDepth 100000
theorem ownT : ownKnob Tryz.prog.godebug = none := by kernel_rfl
theorem laidT : laidOutB Tryz.prog = true := by kernel_rfl
abbrev laidL : List (String × DataW Unit) := [("math/bits.deBruijn32tab", Rows.laid_math_bits_deBruijn32tab), ("math/bits.deBruijn64tab", Rows.laid_math_bits_deBruijn64tab)]
def bruijn : List Int := (U.glob 1).map fun v => match v with | .int _ n => n | _ => 0
theorem globE : U.glob 1 = bruijn.map (Value.int .u8) := by kernel_rfl
theorem laidE : (Rows.laid_math_bits_deBruijn64tab : DataW Unit) = .agg (bruijn.map fun n => .lit (.int .u8 n)) := by kernel_rfl
theorem glob_ok {W : World} (h : laidMetH Tryz.prog laidL W) : GlobOK Cd W ⟨Old W, fun _ => .fresh⟩ := by
  rw [MakeChecks.laidMetH_plain _ _ _ (by kernel_rfl)] at h
  obtain ⟨ps, ⟨g1, t1, cs1, fuel1, p1, q1, _, _, _, _, ⟨g, t, cs, fuel, p, q, hg, ht, hv, hd, _, _⟩, _⟩, _, _⟩ := h
  obtain rfl := Option.some.inj ((show Tryz.prog.globalNamed "math/bits.deBruijn64tab" = some 1 by kernel_rfl).symm.trans hg)
  obtain rfl := Option.some.inj ((show (Tryz.prog.globals[1]?).map (·.type) = some 183 by kernel_rfl).symm.trans ht)
  obtain ⟨xs, m, _, ex, hcl, hl, hel⟩ := DataW.trod_array Tryz.underlying183 hd
  have c84 : Tryz.prog.cellsOf 5 = 1 := by kernel_rfl
  have hlen : bruijn.length = 64 := by kernel_rfl
  have hct : Tryz.prog.cellsOf 183 = 64 := by kernel_rfl
  have hcs : cs.toList.length = 64 := by rw [← hct]; exact hcl
  have e3 : (xs.map (·.1)) = bruijn.map fun n => (.lit (.int .u8 n) : DataW Unit) := by
    have := (Prod.mk.inj ex).1
    rw [laidE] at this
    exact (DataW.agg.inj this).symm
  have key : cs.toList = bruijn.map (Value.int .u8) := by
    refine List.ext_getElem (by rw [hcs, List.length_map, hlen]) fun r h1 h2 => ?_
    have hr : r < 64 := by omega
    have hE := hel r hr
    rw [c84, Nat.mul_one, List.getElem?_eq_getElem (by omega)] at hE
    obtain ⟨z, e1, e2, _⟩ := DataW.trod_int Tryz.underlying5 hE
    have e4 : (xs.map (·.1))[r]? = (bruijn.map fun n => (DataW.lit (.int .u8 n) : DataW Unit))[r]? := by rw [e3]
    rw [List.getElem?_map, List.getElem?_map, List.getElem?_eq_getElem (by omega : r < xs.length), List.getElem?_eq_getElem (by omega : r < bruijn.length), e2] at e4
    simp only [Option.map_some, Option.some.injEq, DataW.lit.injEq, Lit.int.injEq, true_and] at e4
    have e4 : z = bruijn[r] := by first | exact e4 | exact e4.2
    have : cs.toList[r]? = some (.int .u8 z) := by
      have h0 : ((cs.toList.drop r).take 1)[0]? = some (.int .u8 z) := by rw [e1]; rfl
      simpa using h0
    rw [List.getElem?_eq_getElem h1] at this
    rw [Option.some.inj this, List.getElem_map]
    exact congrArg _ e4
  intro g hgl
  match g, hgl with
  | 1, _ =>
    unfold World.var? at hv
    rw [hg] at hv
    simp only [Option.bind_some] at hv
    split at hv
    · rename_i c T z hh
      obtain rfl := Option.some.inj hv
      refine ⟨?_, ⟨_, _, _, hh, key.trans globE.symm⟩, ?_⟩
      · show 1 < W.heap.size
        rcases Nat.lt_or_ge 1 W.heap.size with h' | h'
        · exact h'
        · rw [Array.getElem?_eq_none h'] at hh; cases hh
      · intro v hv2
        have hv3 : v ∈ U.glob 1 := hv2
        rw [globE] at hv3
        obtain ⟨n, _, rfl⟩ := List.mem_map.1 hv3
        rfl
    · cases hv
  | 0, hgl => exact absurd rfl hgl
  | g + 2, hgl => exact absurd rfl hgl
variable {H : Type} {enc : TypeId × Value → H} {W : World}
theorem rarr5 : ReadsAs (C := Cd) Dc enc Tryz.prog W 114 U.arr5 A5OK := by
  refine ⟨by kernel_rfl, fun fuel cs x h => ?_⟩
  obtain ⟨zs, hlen, rfl, hz⟩ := trod_array_ints Tryz.underlying114 (by kernel_rfl) (by kernel_rfl) h
  match zs, hlen, hz with
  | [a, b, c, d, e], _, hz => exact ⟨⟨a, b, c, d, e⟩, pdenL_ints Dc W (Old W) [a, b, c, d, e], ⟨(hz a (by simp)).h, (hz b (by simp)).h, (hz c (by simp)).h, (hz d (by simp)).h, (hz e (by simp)).h⟩⟩
theorem rarr4 : ReadsAs (C := Cd) Dc enc Tryz.prog W 91 U.arr4 A4OK := by
  refine ⟨by kernel_rfl, fun fuel cs x h => ?_⟩
  obtain ⟨zs, hlen, rfl, hz⟩ := trod_array_ints Tryz.underlying91 (by kernel_rfl) (by kernel_rfl) h
  match zs, hlen, hz with
  | [a, b, c, d], _, hz => exact ⟨⟨a, b, c, d⟩, pdenL_ints Dc W (Old W) [a, b, c, d], ⟨(hz a (by simp)).h, (hz b (by simp)).h, (hz c (by simp)).h, (hz d (by simp)).h⟩⟩
variable {r : Reach} {b0' : Nat} {v : Value} {d : DataW H} {ps : List MemPlace}
/-- what a case holds -/
structure CaseOK (x : List A5 × List A4) : Prop where
  hx : ∀ y ∈ x.1, A5OK y
  hxl : (x.1.length : Int) ≤ 9223372036854775807
  hy : ∀ y ∈ x.2, A4OK y
  hyl : (x.2.length : Int) ≤ 9223372036854775807
theorem argCase (ho : Value.okWide Tryz.prog W r b0' 25 v) (h : DataW.Trod enc Tryz.prog W 0 (fun _ => true) true 25 v d ps) : ∃ x : List A5 × List A4, Den Dc W (En W) (.agg [a5S x.1, a4S x.2]) v ∧ CaseOK x := by
  obtain ⟨cs, rfl, hsz⟩ := okWide_struct Tryz.underlying25 ho
  obtain ⟨fuel, hx⟩ := h
  obtain ⟨xs, n, _, _, hlen, hxs, hel⟩ := DataW.trod_struct Tryz.underlying25 hx
  have hlen' : cs.toList.length = 2 := hlen.trans (by kernel_rfl)
  have hxs' : xs.length = 2 := hxs
  have e0 : DataW.trod enc Tryz.prog W 0 (fun _ => true) true n 22 ((cs.toList.drop 0).take (Tryz.prog.cellsOf 22)) = xs[0]? := hel 0 _ rfl
  have e1 : DataW.trod enc Tryz.prog W 0 (fun _ => true) true n 23 ((cs.toList.drop 1).take (Tryz.prog.cellsOf 23)) = xs[1]? := hel 1 _ rfl
  have k0 : Tryz.prog.cellsOf 22 = 1 := by kernel_rfl
  have k1 : Tryz.prog.cellsOf 23 = 1 := by kernel_rfl
  rw [List.getElem?_eq_getElem (by omega)] at e0 e1
  rw [k0] at e0
  rw [k1] at e1
  obtain ⟨l⟩ := cs
  match l, hlen' with
  | [c0, c1], _ =>
    simp only [List.drop, List.take] at e0 e1
    obtain ⟨v0, l0, h0, i0, j0, m0⟩ := readSlice rarr5 Tryz.underlying22 e0
    obtain ⟨v1, l1, h1, i1, j1, m1⟩ := readSlice rarr4 Tryz.underlying23 e1
    injection h0 with h0; injection h1 with h1
    subst h0 h1
    have hm : maxLen = 9223372036854775807 := rfl
    refine ⟨⟨l0, l1⟩, ?_, ⟨j0, by show (l0.length : Int) ≤ _; omega, j1, by show (l1.length : Int) ≤ _; omega⟩⟩
    simp only [a5S, a4S, Den]
    exact ⟨_, rfl, argC_dsl i0 (argC_dsl i1 argC_nil)⟩
end Go.SX
