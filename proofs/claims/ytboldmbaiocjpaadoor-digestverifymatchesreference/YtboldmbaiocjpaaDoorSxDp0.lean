/-
  Walks: Dp0, Dn1: what single functions of the program compute.
-/
import Derived.Test.YtboldmbaiocjpaaDoorSxDm7
import Derived.Test.YtboldmbaiocjpaaDoorSxZ2
import Derived.LaidMore
import Derived.ChangeMaps5
import Derived.Lay
import Derived.SevenTiedAt
import Derived.Stop.Joined
import Derived.Test.YtboldmbaiocjpaaDoorTie
import Derived.Test.YtboldmbaiocjpaaDoorCards
namespace Go.SX
open Go.Proofs Go.Proofs.YtboldmbaiocjpaaDoor Go.ChangeShapes Go.WideShapes Go.ChangeAt Go.RowKit
set_option linter.unusedVariables false
set_option linter.unusedSimpArgs false
set_option maxHeartbeats 4000000
set_option maxRecDepth 100000
theorem ownT : ownKnob Tryd.prog.godebug = none := by kernel_rfl
theorem laidT : laidOutB Tryd.prog = true := by kernel_rfl
abbrev laidL : List (String × DataW Unit) := [("nadir/digest.round", Rows.laid_nadir_digest_round)]
def intOf : Value → Int
  | .int _ n => n
  | _ => 0
theorem globE : U.glob 0 = roundK.map (Value.int .u32) := by kernel_rfl
theorem laidE : (Rows.laid_nadir_digest_round : DataW Unit) = .agg (roundK.map fun n => .lit (.int .u32 n)) := by kernel_rfl
theorem glob_ok {W : World} (h : laidMetH Tryd.prog laidL W) : GlobOK Cd W ⟨Old W, fun _ => .fresh⟩ := by
  rw [MakeChecks.laidMetH_plain _ _ _ (by kernel_rfl)] at h
  obtain ⟨ps, ⟨g, t, cs, fuel, p, q, hg, ht, hv, hd, _, _⟩, _, _⟩ := h
  obtain rfl := Option.some.inj ((show Tryd.prog.globalNamed "nadir/digest.round" = some 0 by kernel_rfl).symm.trans hg)
  obtain rfl := Option.some.inj ((show (Tryd.prog.globals[0]?).map (·.type) = some 133 by kernel_rfl).symm.trans ht)
  obtain ⟨xs, m, _, ex, hcl, hl, hel⟩ := DataW.trod_array Tryd.underlying133 hd
  have c84 : Tryd.prog.cellsOf 84 = 1 := by kernel_rfl
  have hlen : roundK.length = 64 := by kernel_rfl
  have hct : Tryd.prog.cellsOf 133 = 64 := by kernel_rfl
  have hcs : cs.toList.length = 64 := by rw [← hct]; exact hcl
  have e3 : (xs.map (·.1)) = roundK.map fun n => (.lit (.int .u32 n) : DataW Unit) := by
    have := (Prod.mk.inj ex).1
    rw [laidE] at this
    exact (DataW.agg.inj this).symm
  have key : cs.toList = roundK.map (Value.int .u32) := by
    refine List.ext_getElem (by rw [hcs, List.length_map, hlen]) fun r h1 h2 => ?_
    have hr : r < 64 := by omega
    have hE := hel r hr
    rw [c84, Nat.mul_one, List.getElem?_eq_getElem (by omega)] at hE
    obtain ⟨z, e1, e2, _⟩ := DataW.trod_int Tryd.underlying84 hE
    have e4 : (xs.map (·.1))[r]? = (roundK.map fun n => (DataW.lit (.int .u32 n) : DataW Unit))[r]? := by rw [e3]
    rw [List.getElem?_map, List.getElem?_map, List.getElem?_eq_getElem (by omega : r < xs.length), List.getElem?_eq_getElem (by omega : r < roundK.length), e2] at e4
    simp only [Option.map_some, Option.some.injEq, DataW.lit.injEq, Lit.int.injEq, true_and] at e4
    have e4 : z = roundK[r] := by first | exact e4 | exact e4.2
    have : cs.toList[r]? = some (.int .u32 z) := by
      have h0 : ((cs.toList.drop r).take 1)[0]? = some (.int .u32 z) := by rw [e1]; rfl
      simpa using h0
    rw [List.getElem?_eq_getElem h1] at this
    rw [Option.some.inj this, List.getElem_map]
    exact congrArg _ e4
  intro g hgl
  match g, hgl with
  | 0, _ =>
    unfold World.var? at hv
    rw [hg] at hv
    simp only [Option.bind_some] at hv
    split at hv
    · rename_i c T z hh
      obtain rfl := Option.some.inj hv
      refine ⟨?_, ⟨_, _, _, hh, key.trans globE.symm⟩, ?_⟩
      · show 0 < W.heap.size
        rcases Nat.lt_or_ge 0 W.heap.size with h' | h'
        · exact h'
        · rw [Array.getElem?_eq_none h'] at hh; cases hh
      · intro v hv2
        have hv3 : v ∈ U.glob 0 := hv2
        rw [globE] at hv3
        obtain ⟨n, _, rfl⟩ := List.mem_map.1 hv3
        rfl
    · cases hv
  | g + 1, hgl => exact absurd rfl hgl
variable {H : Type} {enc : TypeId × Value → H} {W : World}
theorem rstr : ReadsAs (C := Cd) Dc enc Tryd.prog W 9 U.str (fun s => (s.length : Int) ≤ 9223372036854775807) := by
  refine ⟨by kernel_rfl, fun fuel cs x h => ?_⟩
  obtain ⟨s, rfl, _, h2⟩ := DataW.trod_string Tryd.underlying9 h
  have hm : maxLen = 9223372036854775807 := rfl
  refine ⟨s.data.toList, ⟨rfl, fun j pv v hp hv => ?_⟩, ?_⟩
  · have hj : j = 0 := by
      rcases j with _ | j
      · rfl
      · simp at hv
    subst hj
    have hp' : pv = .str s.data.toList := (Option.some.inj hp).symm
    have hv' : v = .string s := (Option.some.inj hv).symm
    subst hp' hv'
    exact .str _
  · have : s.data.toList.length = s.size := Array.length_toList
    show ((s.data.toList.length : Nat) : Int) ≤ _
    omega
variable {r : Reach} {b0' : Nat} {v : Value} {d : DataW H} {ps : List MemPlace}
theorem argStr (ho : Value.okWide Tryd.prog W r b0' 9 v) (h : DataW.Trod enc Tryd.prog W 0 (fun _ => true) true 9 v d ps) : ∃ s : Bs, Den Dc W (En W) (.p (.str s)) v ∧ (s.length : Int) ≤ 9223372036854775807 := by
  obtain ⟨s, rfl, _, _, hs⟩ := Go.ChangeMaps.open_string Tryd.underlying9 ho h
  have hm : maxLen = 9223372036854775807 := rfl
  refine ⟨s.data.toList, by simp only [Den]; exact .str _, ?_⟩
  have : s.data.toList.length = s.size := Array.length_toList
  omega
theorem argStrs (ho : Value.okWide Tryd.prog W r b0' 22 v) (h : DataW.Trod enc Tryd.prog W 0 (fun _ => true) true 22 v d ps) : ∃ l : List Bs, Den Dc W (En W) (.p (.dsl U.str l)) v := by
  obtain ⟨l, h1, _, _⟩ := argSlice rstr Tryd.underlying22 ho h
  exact ⟨l, h1⟩
end Go.SX

namespace Go.SX
open Go.Proofs
set_option linter.unusedSimpArgs false
set_option linter.unusedVariables false
set_option maxHeartbeats 4000000
set_option maxRecDepth 100000
theorem cut_eq (s : Bs) : List.drop (Int.toNat 0) (List.take (min ((List.length s : Nat) : Int) 60).toNat s) = s.take 60 := by
  show List.take (min ((List.length s : Nat) : Int) 60).toNat s = _
  rcases Nat.lt_or_ge s.length 60 with h | h
  · rw [show (min ((s.length : Nat) : Int) 60).toNat = s.length by omega, List.take_length, List.take_of_length_le (by omega)]
  · rw [show (min ((s.length : Nat) : Int) 60).toNat = 60 by omega]
theorem verify_walk (old root : Bs) (n i : Int) (s : Bs) (proof : List Bs) (hn : -9223372036854775808 ≤ n) (hn2 : n < 9223372036854775808) (hi : -9223372036854775808 ≤ i) (hi2 : i < 9223372036854775808) (hs : (s.length : Int) ≤ 9223372036854775807) :
    Meets Tryd.prog Dc 4 [.p (.str old), .p (.str root), .p (.int .i64 n), .p (.int .i64 i), .p (.str s), .p (.dsl U.str proof)] [] (.p (.bool true)) [] := by
  have hf := few_meets proof 70 (by omega)
  have hS := fewS_short proof 70
  have hL := fewS_length proof 70
  generalize fewS proof 70 = w at *
  have hsane := sane_meets
  have hsl : (s.take 60).length ≤ 100 := by simp; omega
  have c1 := verify_meets root n i hn2 hi (s.take 60) hsl w (by omega) hS
  have c2 := refVerify_meets root n i hn2 hi (s.take 60) hsl w (by omega) hS
  have c3 := verX_meets old i root n hn2 hi w (by omega) hS
  have c4 := refVerX_meets old i root n hn2 hi w (by omega) hS
  rw [← cut_eq s] at c1 c2
  generalize verB root n i (List.drop (Int.toNat 0) (List.take (min ((List.length s : Nat) : Int) 60).toNat s)) w = b1 at *
  generalize verXB old i root n w = b2 at *
  refine meets_of_gx Ax tab_ok Tryd.func4 (c := _) rfl Tryd.call4 400 ?_
  (repeat' ((conv => whnf); first | (exfalso; omega) | (refine callx_pure (hsane) rfl rfl ?_) | (refine dcallx_pure (hsane) rfl rfl ?_) | (refine callx_pure (hf) rfl rfl ?_) | (refine dcallx_pure (hf) rfl rfl ?_) | (refine callx_pure (c1) rfl rfl ?_) | (refine dcallx_pure (c1) rfl rfl ?_) | (refine callx_pure (c2) rfl rfl ?_) | (refine dcallx_pure (c2) rfl rfl ?_) | (refine callx_pure (c3) rfl rfl ?_) | (refine dcallx_pure (c3) rfl rfl ?_) | (refine callx_pure (c4) rfl rfl ?_) | (refine dcallx_pure (c4) rfl rfl ?_) | (exact absurd rfl hb) | (refine end_fn [] (.inr rfl) ?_ trivial rfl rfl) | (refine split_nd (fun hb => ?_) (fun hb => ?_)) | (refine split_d (fun hb => ?_) (fun hb => ?_)) | (refine split_n (fun hb => ?_) (fun hb => ?_)) | (refine split_x (fun hb => ?_) (fun hb => ?_)) | (refine And.intro (TraceOK.mk (by kernel_rfl)) ?_) | (refine Side.mk ?_; (repeat' (first | refine And.intro ?_ ?_ | exact inR_i64 (by omega) (by omega) | omega | rfl | exact trivial | exact none_ne rfl | exact some_ne rfl (Nat.ne_of_beq_eq_false rfl) | exact Nat.ne_of_beq_eq_false rfl | (dsimp only [srcSide]; omega) | (simp; done) | (simp; omega))); done) | (refine side_and ?_ ?_) | (refine drawX_of mixed ?_)))
  all_goals (repeat' (first | refine EndV.mk ?_ | exact trivial | exact rfl | refine And.intro ?_ ?_))
  all_goals ((conv => whnf); simp)
end Go.SX
