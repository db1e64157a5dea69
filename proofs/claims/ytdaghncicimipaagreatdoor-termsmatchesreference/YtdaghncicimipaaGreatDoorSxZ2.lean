/-
  SX, part Z2: one argument of a row at a time.
-/
import Derived.Test.YtdaghncicimipaaGreatDoorSxZ
set_option linter.unusedVariables false
set_option linter.unusedSimpArgs false
namespace Go.SX
open Go.ChangeShapes Go.WideShapes Go.RowKit Go.Deep
variable {C : Cod} {D : Codec C} {H : Type} {enc : TypeId × Value → H} {P : Program} {W : World} {r : Reach} {b0 : Nat} {t : TypeId} {v : Value} {d : DataW H} {ps : List MemPlace}
/-- the environment at a call's beginning -/
def En (W : World) : Env := ⟨Old W, fun _ => .fresh⟩

theorem argInt (ht : P.underlying t = some (.int .i64)) (ho : Value.okWide P W r b0 t v) (h : DataW.Trod enc P W 0 (fun _ => true) true t v d ps) : ∃ n, Den D W (En W) (.p (.int .i64 n)) v ∧ Z64 n := by
  obtain ⟨n, rfl, _, _, hw⟩ := open_int ht ho h
  exact ⟨n, by simp only [Den]; exact .int _ _, i64_wf hw⟩

theorem argSlice {e : TypeId} {u : C.U} {Ok : C.El u → Prop} (R : ReadsAs D enc P W e u Ok) (ht : P.underlying t = some (.slice e)) (ho : Value.okWide P W r b0 t v) (h : DataW.Trod enc P W 0 (fun _ => true) true t v d ps) :
    ∃ l : List (C.El u), Den D W (En W) (.p (.dsl u l)) v ∧ (∀ y ∈ l, Ok y) ∧ (l.length : Int) ≤ 9223372036854775807 := by
  obtain ⟨a, len, cap, rfl⟩ := okWide_slice ht ho
  obtain ⟨fuel, hf⟩ := h
  obtain ⟨v', l, hcs, hd, hok, hlen⟩ := readSlice R ht hf
  have e : v' = .slice a len cap := by simpa [Value.cells] using hcs.symm
  subst e
  have hm : maxLen = 9223372036854775807 := rfl
  exact ⟨l, by simp only [Den]; exact hd, hok, by omega⟩

/-- an integer among an aggregate's cells -/
theorem argC_int {w : World} {E : Env} {n : Int} {xs : List (SV C)} {vs : List Value} (h : DenC D w E xs vs) : DenC D w E (.p (.int .i64 n) :: xs) (.int .i64 n :: vs) := by
  simp only [DenC]
  exact ⟨_, _, rfl, rfl, by simp only [Den]; exact .int _ _, h⟩
theorem argC_dsl {w : World} {E : Env} {u : C.U} {l : List (C.El u)} {v : Value} {xs : List (SV C)} {vs : List Value} (hd : PDen D w E.F (.dsl u l) v) (h : DenC D w E xs vs) : DenC D w E (.p (.dsl u l) :: xs) (v :: vs) := by
  simp only [DenC]
  exact ⟨_, _, rfl, hd.oneCell, by simp only [Den]; exact hd, h⟩
theorem argC_nil {w : World} {E : Env} : DenC D w E [] [] := by simp only [DenC]

/-- a struct of integers -/
theorem argInts {fs : Array Field} (ht : P.underlying t = some (.struct fs)) (hf : intFieldsB P fs = true) (hn : P.cellsOf t = fs.size) (ho : Value.okWide P W r b0 t v) (h : DataW.Trod enc P W 0 (fun _ => true) true t v d ps) :
    ∃ zs : List Int, zs.length = fs.size ∧ v = .agg (zs.map (Value.int .i64)).toArray ∧ ∀ z ∈ zs, Z64 z := by
  obtain ⟨cs, rfl, _⟩ := okWide_struct ht ho
  obtain ⟨fuel, hx⟩ := h
  obtain ⟨zs, h1, h2, h3⟩ := trod_struct_ints ht hf hn hx
  refine ⟨zs, h1, ?_, h3⟩
  have : cs.toList = zs.map (Value.int .i64) := h2
  rw [← this]

theorem argA_cons {w : World} {E : Env} {x : SV C} {v : Value} {xs : List (SV C)} {vs : List Value} (hd : Den D w E x v) (h : DenA D w E xs vs) : DenA D w E (x :: xs) (v :: vs) := by
  simp only [DenA]; exact ⟨_, _, rfl, hd, h⟩
theorem argA_nil {w : World} {E : Env} : DenA D w E [] [] := by simp only [DenA]
end Go.SX
