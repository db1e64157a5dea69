/-
  SX, part Z2: one argument of a row at a time.
-/
import Derived.Test.YtdaghncicimipaaGreatDoorSxZ
set_option linter.unusedVariables false
set_option linter.unusedSimpArgs false
namespace Go.SX
open Go.ChangeShapes Go.WideShapes Go.RowKit Go.Deep
variable {C : Cod} {D : Codec C} {H : Type} {enc : TypeId × Value → H} {P : Program} {W : World} {r : Reach} {b0 : Nat} {t : TypeId} {v : Value} {d : DataW H} {ps : List MemPlace}
/-- the environment at a call's beginning -/
def En (W : World) : Env := ⟨Old W, fun _ => .fresh⟩

theorem argInt (ht : P.underlying t = some (.int .i64)) (ho : Value.okWide P W r b0 t v) (h : DataW.Trod enc P W 0 (fun _ => true) true t v d ps) : ∃ n, Den D W (En W) (.p (.int .i64 n)) v ∧ Z64 n := by
  obtain ⟨n, rfl, _, _, hw⟩ := open_int ht ho h
  exact ⟨n, by simp only [Den]; exact .int _ _, i64_wf hw⟩

theorem argC_dsl {w : World} {E : Env} {u : C.U} {l : List (C.El u)} {v : Value} {xs : List (SV C)} {vs : List Value} (hd : PDen D w E.F (.dsl u l) v) (h : DenC D w E xs vs) : DenC D w E (.p (.dsl u l) :: xs) (v :: vs) := by
  simp only [DenC]
  exact ⟨_, _, rfl, hd.oneCell, by simp only [Den]; exact hd, h⟩
theorem argC_nil {w : World} {E : Env} : DenC D w E [] [] := by simp only [DenC]

theorem argA_cons {w : World} {E : Env} {x : SV C} {v : Value} {xs : List (SV C)} {vs : List Value} (hd : Den D w E x v) (h : DenA D w E xs vs) : DenA D w E (x :: xs) (v :: vs) := by
  simp only [DenA]; exact ⟨_, _, rfl, hd, h⟩
theorem argA_nil {w : World} {E : Env} : DenA D w E [] [] := by simp only [DenA]
end Go.SX
