/-
  SX, part Z2: one argument of a row at a time.
-/
import Derived.Test.YtijedffphgckmaaGreatDoorSxOq1
import Derived.Test.YtijedffphgckmaaGreatDoorSxTd7
import Derived.Test.YtijedffphgckmaaGreatDoorSxUd1
import Derived.LaidMore
import Derived.ChangeMaps5
import Derived.Lay
import Derived.SevenTiedAt
import Derived.Stop.Joined
import Derived.Test.YtijedffphgckmaaGreatDoorTie
import Derived.Test.YtijedffphgckmaaGreatDoorCards
set_option linter.unusedVariables false
set_option linter.unusedSimpArgs false
namespace Go.SX
open Go.ChangeShapes Go.WideShapes Go.RowKit Go.Deep
variable {C : Cod} {D : Codec C} {H : Type} {enc : TypeId × Value → H} {P : Program} {W : World} {r : Reach} {b0 : Nat} {t : TypeId} {v : Value} {d : DataW H} {ps : List MemPlace}
/-- the environment at a call's beginning -/
def En (W : World) : Env := ⟨Old W, fun _ => .fresh⟩

theorem argInt (ht : P.underlying t = some (.int .i64)) (ho : Value.okWide P W r b0 t v) (h : DataW.Trod enc P W 0 (fun _ => true) true t v d ps) : ∃ n, Den D W (En W) (.p (.int .i64 n)) v ∧ Z64 n := by
 obtain ⟨n, rfl, _, _, hw⟩ := open_int ht ho h
 exact ⟨n, by simp only [Den]; exact .int _ _, i64_wf hw⟩

theorem argSlice {e : TypeId} {u : C.U} {Ok : C.El u → Prop} (R : ReadsAs D enc P W e u Ok) (ht : P.underlying t = some (.slice e)) (ho : Value.okWide P W r b0 t v) (h : DataW.Trod enc P W 0 (fun _ => true) true t v d ps) :
  ∃ l : List (C.El u), Den D W (En W) (.p (.dsl u l)) v ∧ (∀ y ∈ l, Ok y) ∧ (l.length : Int) ≤ 9223372036854775807 := by
 obtain ⟨a, len, cap, rfl⟩ := okWide_slice ht ho
 obtain ⟨fuel, hf⟩ := h
 obtain ⟨v', l, hcs, hd, hok, hlen⟩ := readSlice R ht hf
 have e : v' = .slice a len cap := by simpa [Value.cells] using hcs.symm
 subst e
 have hm : maxLen = 9223372036854775807 := rfl
 exact ⟨l, by simp only [Den]; exact hd, hok, by omega⟩

/-- an integer among an aggregate's cells -/
theorem argC_int {w : World} {E : Env} {n : Int} {xs : List (SV C)} {vs : List Value} (h : DenC D w E xs vs) : DenC D w E (.p (.int .i64 n) :: xs) (.int .i64 n :: vs) := by
 simp only [DenC]
 exact ⟨_, _, rfl, rfl, by simp only [Den]; exact .int _ _, h⟩
theorem argC_dsl {w : World} {E : Env} {u : C.U} {l : List (C.El u)} {v : Value} {xs : List (SV C)} {vs : List Value} (hd : PDen D w E.F (.dsl u l) v) (h : DenC D w E xs vs) : DenC D w E (.p (.dsl u l) :: xs) (v :: vs) := by
 simp only [DenC]
 exact ⟨_, _, rfl, hd.oneCell, by simp only [Den]; exact hd, h⟩
theorem argC_nil {w : World} {E : Env} : DenC D w E [] [] := by simp only [DenC]

/-- a struct of integers -/
theorem argInts {fs : Array Field} (ht : P.underlying t = some (.struct fs)) (hf : intFieldsB P fs = true) (hn : P.cellsOf t = fs.size) (ho : Value.okWide P W r b0 t v) (h : DataW.Trod enc P W 0 (fun _ => true) true t v d ps) :
  ∃ zs : List Int, zs.length = fs.size ∧ v = .agg (zs.map (Value.int .i64)).toArray ∧ ∀ z ∈ zs, Z64 z := by
 obtain ⟨cs, rfl, _⟩ := okWide_struct ht ho
 obtain ⟨fuel, hx⟩ := h
 obtain ⟨zs, h1, h2, h3⟩ := trod_struct_ints ht hf hn hx
 refine ⟨zs, h1, ?_, h3⟩
 have : cs.toList = zs.map (Value.int .i64) := h2
 rw [← this]

theorem argA_cons {w : World} {E : Env} {x : SV C} {v : Value} {xs : List (SV C)} {vs : List Value} (hd : Den D w E x v) (h : DenA D w E xs vs) : DenA D w E (x :: xs) (v :: vs) := by
 simp only [DenA]; exact ⟨_, _, rfl, hd, h⟩
theorem argA_nil {w : World} {E : Env} : DenA D w E [] [] := by simp only [DenA]
end Go.SX

namespace Go.SX
open Go.Proofs Go.Proofs.YtijedffphgckmaaGreatDoor Go.ChangeShapes Go.WideShapes Go.ChangeAt Go.RowKit
set_option maxHeartbeats 4000000
set_option maxRecDepth 100000
theorem ownT : ownKnob Tryz.prog.godebug = none := by kernel_rfl
theorem laidT : laidOutB Tryz.prog = true := by kernel_rfl
abbrev laidL : List (String × DataW Unit) := [("math/bits.deBruijn32tab", Rows.laid_math_bits_deBruijn32tab), ("math/bits.deBruijn64tab", Rows.laid_math_bits_deBruijn64tab), ("internal/strconv.uint64pow10", Rows.laid_internal_strconv_uint64pow10), ("unicode/utf8.acceptRanges", Rows.laid_unicode_utf8_acceptRanges), ("strconv.ErrRange", Rows.laid_strconv_ErrRange), ("strconv.ErrSyntax", Rows.laid_strconv_ErrSyntax), ("unicode/utf8.first", Rows.laid_unicode_utf8_first)]
def intsOf (l : List Value) : List Int := l.map fun v => match v with | .int _ n => n | _ => 0
theorem globE1 : U.glob 1 = (intsOf (U.glob 1)).map (Value.int .u8) := by kernel_rfl
theorem globE3 : U.glob 3 = (intsOf (U.glob 3)).map (Value.int .u64) := by kernel_rfl
theorem laidE1 : (Rows.laid_math_bits_deBruijn64tab : DataW Unit) = .agg ((intsOf (U.glob 1)).map fun n => .lit (.int .u8 n)) := by kernel_rfl
theorem laidE3 : (Rows.laid_internal_strconv_uint64pow10 : DataW Unit) = .agg ((intsOf (U.glob 3)).map fun n => .lit (.int .u64 n)) := by kernel_rfl
theorem arr_cells {P : Program} {W : World} {t e : TypeId} {n : Nat} {k : IntKind} {cs : List Value} {fuel : Nat} {p : List MemPlace} {L : List Int} (ut : P.underlying t = some (.array n e)) (ue : P.underlying e = some (.int k)) (ce : P.cellsOf e = 1) (ct : P.cellsOf t = n) (hlen : L.length = n)
  (hd : DataW.trod (fun _ => ()) P W 0 (fun _ => true) false fuel t cs = some (.agg (L.map fun z => .lit (.int k z)), p)) : cs = L.map (Value.int k) := by
 obtain ⟨xs, m, _, ex, hcl, hl, hel⟩ := DataW.trod_array ut hd
 rw [ct] at hcl
 have e3 : (xs.map (·.1)) = L.map fun n => (.lit (.int k n) : DataW Unit) := (DataW.agg.inj (Prod.mk.inj ex).1).symm
 refine List.ext_getElem (by rw [hcl, List.length_map, hlen]) fun r h1 h2 => ?_
 have hr : r < n := by omega
 have hE := hel r hr
 rw [ce, Nat.mul_one, List.getElem?_eq_getElem (by omega)] at hE
 obtain ⟨z, e1, e2, _⟩ := DataW.trod_int ue hE
 have e4 : (xs.map (·.1))[r]? = (L.map fun n => (DataW.lit (.int k n) : DataW Unit))[r]? := by rw [e3]
 rw [List.getElem?_map, List.getElem?_map, List.getElem?_eq_getElem (by omega : r < xs.length), List.getElem?_eq_getElem (by omega : r < L.length), e2] at e4
 simp only [Option.map_some, Option.some.injEq, DataW.lit.injEq, Lit.int.injEq, true_and] at e4
 have e4 : z = L[r] := by first | exact e4 | exact e4.2
 have : cs[r]? = some (.int k z) := by
  have h0 : ((cs.drop r).take 1)[0]? = some (.int k z) := by rw [e1]; rfl
  simpa using h0
 rw [List.getElem?_eq_getElem h1] at this
 rw [Option.some.inj this, List.getElem_map]
 exact congrArg _ e4
theorem ifc_cells {P : Program} {W : World} {t : TypeId} {ms : Array (String × TypeId)} {cs : List Value} {fuel : Nat} {x : DataW Unit × List MemPlace} (ut : P.underlying t = some (.interface ms)) (hd : DataW.trod (fun _ => ()) P W 0 (fun _ => true) false fuel t cs = some x) : ∃ v, cs = [v] ∧ (v = .nilIface ∨ ∃ te pe, v = .iface te pe) := by
 cases fuel with
 | zero => simp [DataW.trod] at hd
 | succ n =>
  unfold DataW.trod at hd
  rw [ut] at hd
  split at hd <;> first | (rename_i h; cases h; done) | (exact ⟨_, rfl, .inl rfl⟩) | (exact ⟨_, rfl, .inr ⟨_, _, rfl⟩⟩) | (cases hd; done) | skip
  all_goals simp_all
theorem var_at_heap {P : Program} {W : World} {name : String} {g : Nat} {cs : Array Value} (hg : P.globalNamed name = some g) (hv : W.var? P name = some cs) : (∃ T z, W.heap[g]? = some (.cells cs T z)) ∧ g < W.heap.size := by
 unfold World.var? at hv
 rw [hg] at hv
 simp only [Option.bind_some] at hv
 split at hv
 ·rename_i c T z hh
  obtain rfl := Option.some.inj hv
  refine ⟨⟨T, z, hh⟩, ?_⟩
  rcases Nat.lt_or_ge g W.heap.size with h' | h'
  ·exact h'
  ·rw [Array.getElem?_eq_none h'] at hh; cases hh
 ·cases hv
theorem glob_ok {W : World} (h : laidMetH Tryz.prog laidL W) : GlobOK Cd W ⟨Old W, fun _ => .fresh⟩ := by
 rw [MakeChecks.laidMetH_plain _ _ _ (by kernel_rfl)] at h
 obtain ⟨ps, ⟨_, _, _, _, _, _, _, _, _, _, ⟨g1, t1, cs1, fu1, p1, q1, hg1, ht1, hv1, hd1, ⟨g3, t3, cs3, fu3, p3, q3, hg3, ht3, hv3, hd3, ⟨_, _, _, _, _, _, _, _, _, _, ⟨g5, t5, cs5, fu5, p5, q5, hg5, ht5, hv5, hd5, ⟨g4, t4, cs4, fu4, p4, q4, hg4, ht4, hv4, hd4, _, _⟩, _⟩, _⟩, _⟩, _⟩, _⟩, _, _⟩ := h
 obtain rfl := Option.some.inj ((show Tryz.prog.globalNamed "math/bits.deBruijn64tab" = some 1 by kernel_rfl).symm.trans hg1)
 obtain rfl := Option.some.inj ((show (Tryz.prog.globals[1]?).map (·.type) = some 170 by kernel_rfl).symm.trans ht1)
 obtain rfl := Option.some.inj ((show Tryz.prog.globalNamed "internal/strconv.uint64pow10" = some 3 by kernel_rfl).symm.trans hg3)
 obtain rfl := Option.some.inj ((show (Tryz.prog.globals[3]?).map (·.type) = some 180 by kernel_rfl).symm.trans ht3)
 obtain rfl := Option.some.inj ((show Tryz.prog.globalNamed "strconv.ErrRange" = some 5 by kernel_rfl).symm.trans hg5)
 obtain rfl := Option.some.inj ((show (Tryz.prog.globals[5]?).map (·.type) = some 107 by kernel_rfl).symm.trans ht5)
 obtain rfl := Option.some.inj ((show Tryz.prog.globalNamed "strconv.ErrSyntax" = some 4 by kernel_rfl).symm.trans hg4)
 obtain rfl := Option.some.inj ((show (Tryz.prog.globals[4]?).map (·.type) = some 107 by kernel_rfl).symm.trans ht4)
 rw [laidE1] at hd1
 rw [laidE3] at hd3
 have k1 := arr_cells (Tryz.underlying170) Tryz.underlying5 (by kernel_rfl) (by kernel_rfl) (by kernel_rfl) hd1
 have k3 := arr_cells (Tryz.underlying180) Tryz.underlying12 (by kernel_rfl) (by kernel_rfl) (by kernel_rfl) hd3
 obtain ⟨v5, e5, k5⟩ := ifc_cells Tryz.underlying107 hd5
 obtain ⟨v4, e4, k4⟩ := ifc_cells Tryz.underlying107 hd4
 obtain ⟨⟨T1, z1, a1⟩, b1⟩ := var_at_heap (by kernel_rfl) hv1
 obtain ⟨⟨T3, z3, a3⟩, b3⟩ := var_at_heap (by kernel_rfl) hv3
 obtain ⟨⟨T5, z5, a5⟩, b5⟩ := var_at_heap (by kernel_rfl) hv5
 obtain ⟨⟨T4, z4, a4⟩, b4⟩ := var_at_heap (by kernel_rfl) hv4
 refine ⟨fun g hgl => ?_, fun g hgl => ?_⟩
 ·match g, hgl with
  | 0, h => exact absurd rfl h
  | 1, _ =>
   refine ⟨b1, ⟨_, _, _, a1, k1.trans globE1.symm⟩, fun v hv => ?_⟩
   have hv3 : v ∈ U.glob 1 := hv
   rw [globE1] at hv3
   obtain ⟨n, _, rfl⟩ := List.mem_map.1 hv3
   rfl
  | 2, h => exact absurd rfl h
  | 3, _ =>
   refine ⟨b3, ⟨_, _, _, a3, k3.trans globE3.symm⟩, fun v hv => ?_⟩
   have hv3 : v ∈ U.glob 3 := hv
   rw [globE3] at hv3
   obtain ⟨n, _, rfl⟩ := List.mem_map.1 hv3
   rfl
  | g + 4, h => exact absurd rfl h
 ·have one : ∀ {cs : Array Value} {v : Value}, cs.toList = [v] → cs = #[v] := fun h => Array.toList_inj.1 h
  match g, hgl with
  | 0, h => cases h
  | 1, h => cases h
  | 2, h => cases h
  | 3, h => cases h
  | 4, _ => rw [one e4] at a4; exact ⟨b4, v4, _, _, a4, k4⟩
  | 5, _ => rw [one e5] at a5; exact ⟨b5, v5, _, _, a5, k5⟩
  | g + 6, h => cases h
variable {H : Type} {enc : TypeId × Value → H} {W : World}
theorem rarr5 : ReadsAs (C := Cd) Dc enc Tryz.prog W 121 U.arr5 A5OK := by
 refine ⟨by kernel_rfl, fun fuel cs x h => ?_⟩
 obtain ⟨zs, hlen, rfl, hz⟩ := trod_array_ints Tryz.underlying121 (by kernel_rfl) (by kernel_rfl) h
 match zs, hlen, hz with
 | [a, b, c, d, e], _, hz => exact ⟨⟨a, b, c, d, e⟩, pdenL_ints Dc W (Old W) [a, b, c, d, e], ⟨(hz a (by simp)).h, (hz b (by simp)).h, (hz c (by simp)).h, (hz d (by simp)).h, (hz e (by simp)).h⟩⟩
end Go.SX

namespace Go.SX
open Go.Proofs Go.Proofs.YtijedffphgckmaaGreatDoor Go.ChangeShapes Go.WideShapes Go.ChangeAt Go.RowKit
set_option maxHeartbeats 4000000
set_option maxRecDepth 100000
variable {H : Type} {enc : TypeId × Value → H} {W : World} {r : Reach} {b0' : Nat} {v : Value} {d : DataW H} {ps : List MemPlace}
/-- seven integers -/
theorem arg7 (ho : Value.okWide Tryz.prog W r b0' 22 v) (h : DataW.Trod enc Tryz.prog W 0 (fun _ => true) true 22 v d ps) : ∃ l : List Int, Den Dc W (En W) (a7A l) v ∧ l.length = 7 ∧ ∀ z ∈ l, I64 z := by
 have hut := Tryz.underlying22
 simp only [Value.okWide, hut] at ho
 obtain ⟨cs, rfl, _⟩ := ho
 obtain ⟨fuel, hx⟩ := h
 obtain ⟨zs, hlen, hcs, hz⟩ := trod_array_ints Tryz.underlying22 (by kernel_rfl) (by kernel_rfl) hx
 have hcs : cs.toList = zs.map (Value.int .i64) := hcs
 refine ⟨zs, ?_, hlen, fun z h => (hz z h).h⟩
 simp only [a7A, Den]
 refine ⟨cs, rfl, ?_⟩
 simp only [DenC]
 have e : ∀ l : List Int, l.flatMap (Dc.enc U.int) = l.map (PV.int .i64) := fun l => by
  induction l with
  | nil => rfl
  | cons a l ih => rw [List.flatMap_cons, ih]; rfl
 exact ⟨hlen, cs.toList, [], by simp, by rw [hcs, e]; exact pdenL_ints Dc W (En W).F zs, rfl⟩
end Go.SX
