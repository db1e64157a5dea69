/-
  Walks: Ep5: what single functions of the program compute.
-/
import Derived.Test.YtboldmbaiocjpaaDoorSxEq1
import Derived.Test.YtboldmbaiocjpaaDoorSxEm0
namespace Go.SX
open Go.Proofs Go.Proofs.YtboldmbaiocjpaaDoor Go.ChangeShapes Go.WideShapes Go.ChangeAt Go.RowKit
set_option linter.unusedSimpArgs false
set_option linter.unusedVariables false
set_option maxHeartbeats 4000000
set_option maxRecDepth 100000
variable {H : Type} {enc : TypeId × Value → H} {W : World}
theorem rposting : ReadsAs (C := Cd) Dc enc Tryd.prog W 52 U.posting (fun p => I64 p.subject) := by
  refine ⟨by kernel_rfl, fun fuel cs x h => ?_⟩
  obtain ⟨zs, hlen, rfl, hz⟩ := trod_struct_ints Tryd.underlying52 (by kernel_rfl) (by kernel_rfl) h
  match zs, hlen, hz with
  | [a, b, c, d, e, f, g], _, hz => exact ⟨⟨a, b, c, d, e, f, g⟩, pdenL_ints Dc W (Old W) [a, b, c, d, e, f, g], hz f (by simp)⟩
theorem rarr5 : ReadsAs (C := Cd) Dc enc Tryd.prog W 116 U.arr5 A5OK := by
  refine ⟨by kernel_rfl, fun fuel cs x h => ?_⟩
  obtain ⟨zs, hlen, rfl, hz⟩ := trod_array_ints Tryd.underlying116 (by kernel_rfl) (by kernel_rfl) h
  match zs, hlen, hz with
  | [a, b, c, d, e], _, hz => exact ⟨⟨a, b, c, d, e⟩, pdenL_ints Dc W (Old W) [a, b, c, d, e], ⟨hz a (by simp), hz b (by simp), hz c (by simp), hz d (by simp), hz e (by simp)⟩⟩
variable {r : Reach} {b0' : Nat} {v : Value} {d : DataW H} {ps : List MemPlace}
theorem argPosting (ho : Value.okWide Tryd.prog W r b0' 52 v) (h : DataW.Trod enc Tryd.prog W 0 (fun _ => true) true 52 v d ps) : ∃ p : Posting, Den Dc W (En W) (pa p) v ∧ I64 p.subject := by
  obtain ⟨zs, hlen, rfl, hz⟩ := argInts Tryd.underlying52 (by kernel_rfl) (by kernel_rfl) ho h
  match zs, hlen, hz with
  | [a, b, c, d, e, f, g], _, hz =>
    refine ⟨⟨a, b, c, d, e, f, g⟩, ?_, hz f (by simp)⟩
    simp only [pa, Den]
    exact ⟨_, rfl, argC_int (argC_int (argC_int (argC_int (argC_int (argC_int (argC_int argC_nil))))))⟩
theorem argBook (ho : Value.okWide Tryd.prog W r b0' 49 v) (h : DataW.Trod enc Tryd.prog W 0 (fun _ => true) true 49 v d ps) : ∃ b : Book, Den Dc W (En W) (ba b) v ∧ (b.postings.length : Int) ≤ 9223372036854775807 := by
  obtain ⟨cs, rfl, hsz⟩ := okWide_struct Tryd.underlying49 ho
  obtain ⟨fuel, hx⟩ := h
  obtain ⟨xs, n, _, _, hlen, hxs, hel⟩ := DataW.trod_struct Tryd.underlying49 hx
  have hlen' : cs.toList.length = 3 := hlen.trans (by kernel_rfl)
  have hxs' : xs.length = 3 := hxs
  have e0 : DataW.trod enc Tryd.prog W 0 (fun _ => true) true n 3 ((cs.toList.drop 0).take (Tryd.prog.cellsOf 3)) = xs[0]? := hel 0 _ rfl
  have e1 : DataW.trod enc Tryd.prog W 0 (fun _ => true) true n 47 ((cs.toList.drop 1).take (Tryd.prog.cellsOf 47)) = xs[1]? := hel 1 _ rfl
  have e2 : DataW.trod enc Tryd.prog W 0 (fun _ => true) true n 3 ((cs.toList.drop 2).take (Tryd.prog.cellsOf 3)) = xs[2]? := hel 2 _ rfl
  have k0 : Tryd.prog.cellsOf 3 = 1 := by kernel_rfl
  have k1 : Tryd.prog.cellsOf 47 = 1 := by kernel_rfl
  rw [List.getElem?_eq_getElem (by omega)] at e0 e1 e2
  rw [k0] at e0 e2
  rw [k1] at e1
  obtain ⟨l⟩ := cs
  match l, hlen' with
  | [c0, c1, c2], _ =>
    simp only [List.drop, List.take] at e0 e1 e2
    obtain ⟨z0, h0, i0⟩ := trod_i64 Tryd.underlying3 e0
    obtain ⟨v1, ll, h1, i1, _, l1⟩ := readSlice rposting Tryd.underlying47 e1
    obtain ⟨z2, h2, i2⟩ := trod_i64 Tryd.underlying3 e2
    injection h0 with h0; injection h1 with h1; injection h2 with h2
    subst h0 h1 h2
    have hm : maxLen = 9223372036854775807 := rfl
    refine ⟨⟨z0, ll, z2⟩, ?_, by show (ll.length : Int) ≤ _; omega⟩
    simp only [ba, Den]
    exact ⟨_, rfl, argC_int (argC_dsl i1 (argC_int argC_nil))⟩
end Go.SX
