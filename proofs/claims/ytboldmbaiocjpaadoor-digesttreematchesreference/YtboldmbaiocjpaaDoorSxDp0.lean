/-
  Walks: Dp0: what single functions of the program compute.
-/
import Derived.Test.YtboldmbaiocjpaaDoorSxDm7
import Derived.Test.YtboldmbaiocjpaaDoorSxZ2
import Derived.LaidMore
import Derived.ChangeMaps5
import Derived.Lay
import Derived.SevenTiedAt
import Derived.Stop.Joined
import Derived.Test.YtboldmbaiocjpaaDoorTie
import Derived.Test.YtboldmbaiocjpaaDoorCards
namespace Go.SX
open Go.Proofs Go.Proofs.YtboldmbaiocjpaaDoor Go.ChangeShapes Go.WideShapes Go.ChangeAt Go.RowKit
set_option linter.unusedVariables false
set_option linter.unusedSimpArgs false
set_option maxHeartbeats 4000000
set_option maxRecDepth 100000
theorem ownT : ownKnob Tryd.prog.godebug = none := by kernel_rfl
theorem laidT : laidOutB Tryd.prog = true := by kernel_rfl
abbrev laidL : List (String × DataW Unit) := [("nadir/digest.round", Rows.laid_nadir_digest_round)]
def intOf : Value → Int
  | .int _ n => n
  | _ => 0
theorem globE : U.glob 0 = roundK.map (Value.int .u32) := by kernel_rfl
theorem laidE : (Rows.laid_nadir_digest_round : DataW Unit) = .agg (roundK.map fun n => .lit (.int .u32 n)) := by kernel_rfl
theorem glob_ok {W : World} (h : laidMetH Tryd.prog laidL W) : GlobOK Cd W ⟨Old W, fun _ => .fresh⟩ := by
  rw [MakeChecks.laidMetH_plain _ _ _ (by kernel_rfl)] at h
  obtain ⟨ps, ⟨g, t, cs, fuel, p, q, hg, ht, hv, hd, _, _⟩, _, _⟩ := h
  obtain rfl := Option.some.inj ((show Tryd.prog.globalNamed "nadir/digest.round" = some 0 by kernel_rfl).symm.trans hg)
  obtain rfl := Option.some.inj ((show (Tryd.prog.globals[0]?).map (·.type) = some 133 by kernel_rfl).symm.trans ht)
  obtain ⟨xs, m, _, ex, hcl, hl, hel⟩ := DataW.trod_array Tryd.underlying133 hd
  have c84 : Tryd.prog.cellsOf 84 = 1 := by kernel_rfl
  have hlen : roundK.length = 64 := by kernel_rfl
  have hct : Tryd.prog.cellsOf 133 = 64 := by kernel_rfl
  have hcs : cs.toList.length = 64 := by rw [← hct]; exact hcl
  have e3 : (xs.map (·.1)) = roundK.map fun n => (.lit (.int .u32 n) : DataW Unit) := by
    have := (Prod.mk.inj ex).1
    rw [laidE] at this
    exact (DataW.agg.inj this).symm
  have key : cs.toList = roundK.map (Value.int .u32) := by
    refine List.ext_getElem (by rw [hcs, List.length_map, hlen]) fun r h1 h2 => ?_
    have hr : r < 64 := by omega
    have hE := hel r hr
    rw [c84, Nat.mul_one, List.getElem?_eq_getElem (by omega)] at hE
    obtain ⟨z, e1, e2, _⟩ := DataW.trod_int Tryd.underlying84 hE
    have e4 : (xs.map (·.1))[r]? = (roundK.map fun n => (DataW.lit (.int .u32 n) : DataW Unit))[r]? := by rw [e3]
    rw [List.getElem?_map, List.getElem?_map, List.getElem?_eq_getElem (by omega : r < xs.length), List.getElem?_eq_getElem (by omega : r < roundK.length), e2] at e4
    simp only [Option.map_some, Option.some.injEq, DataW.lit.injEq, Lit.int.injEq, true_and] at e4
    have e4 : z = roundK[r] := by first | exact e4 | exact e4.2
    have : cs.toList[r]? = some (.int .u32 z) := by
      have h0 : ((cs.toList.drop r).take 1)[0]? = some (.int .u32 z) := by rw [e1]; rfl
      simpa using h0
    rw [List.getElem?_eq_getElem h1] at this
    rw [Option.some.inj this, List.getElem_map]
    exact congrArg _ e4
  intro g hgl
  match g, hgl with
  | 0, _ =>
    unfold World.var? at hv
    rw [hg] at hv
    simp only [Option.bind_some] at hv
    split at hv
    · rename_i c T z hh
      obtain rfl := Option.some.inj hv
      refine ⟨?_, ⟨_, _, _, hh, key.trans globE.symm⟩, ?_⟩
      · show 0 < W.heap.size
        rcases Nat.lt_or_ge 0 W.heap.size with h' | h'
        · exact h'
        · rw [Array.getElem?_eq_none h'] at hh; cases hh
      · intro v hv2
        have hv3 : v ∈ U.glob 0 := hv2
        rw [globE] at hv3
        obtain ⟨n, _, rfl⟩ := List.mem_map.1 hv3
        rfl
    · cases hv
  | g + 1, hgl => exact absurd rfl hgl
variable {H : Type} {enc : TypeId × Value → H} {W : World}
theorem rstr : ReadsAs (C := Cd) Dc enc Tryd.prog W 9 U.str (fun s => (s.length : Int) ≤ 9223372036854775807) := by
  refine ⟨by kernel_rfl, fun fuel cs x h => ?_⟩
  obtain ⟨s, rfl, _, h2⟩ := DataW.trod_string Tryd.underlying9 h
  have hm : maxLen = 9223372036854775807 := rfl
  refine ⟨s.data.toList, ⟨rfl, fun j pv v hp hv => ?_⟩, ?_⟩
  · have hj : j = 0 := by
      rcases j with _ | j
      · rfl
      · simp at hv
    subst hj
    have hp' : pv = .str s.data.toList := (Option.some.inj hp).symm
    have hv' : v = .string s := (Option.some.inj hv).symm
    subst hp' hv'
    exact .str _
  · have : s.data.toList.length = s.size := Array.length_toList
    show ((s.data.toList.length : Nat) : Int) ≤ _
    omega
variable {r : Reach} {b0' : Nat} {v : Value} {d : DataW H} {ps : List MemPlace}
theorem argStr (ho : Value.okWide Tryd.prog W r b0' 9 v) (h : DataW.Trod enc Tryd.prog W 0 (fun _ => true) true 9 v d ps) : ∃ s : Bs, Den Dc W (En W) (.p (.str s)) v ∧ (s.length : Int) ≤ 9223372036854775807 := by
  obtain ⟨s, rfl, _, _, hs⟩ := Go.ChangeMaps.open_string Tryd.underlying9 ho h
  have hm : maxLen = 9223372036854775807 := rfl
  refine ⟨s.data.toList, by simp only [Den]; exact .str _, ?_⟩
  have : s.data.toList.length = s.size := Array.length_toList
  omega
theorem argStrs (ho : Value.okWide Tryd.prog W r b0' 22 v) (h : DataW.Trod enc Tryd.prog W 0 (fun _ => true) true 22 v d ps) : ∃ l : List Bs, Den Dc W (En W) (.p (.dsl U.str l)) v := by
  obtain ⟨l, h1, _, _⟩ := argSlice rstr Tryd.underlying22 ho h
  exact ⟨l, h1⟩
end Go.SX
