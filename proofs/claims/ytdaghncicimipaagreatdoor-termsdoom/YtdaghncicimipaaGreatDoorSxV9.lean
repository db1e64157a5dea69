/-
  SX, part V9: views in which numbers and rows may be spelled otherwise.
-/
import Derived.Test.YtdaghncicimipaaGreatDoorSxV8
set_option linter.unusedSimpArgs false
namespace Go.SX
set_option linter.unusedVariables false
variable {C : Cod}
section
variable {Hp : List (HS C)} {θ : List (Option Nat)} {T T' : List (SV C)} {Hp' : List (HS C)} {m0 : Nat} {ret : SV C}
theorem intV {k : IntKind} {a b : Int} (h : a = b := by omega) : View Hp θ (.p (.int k a)) (.p (.int k b)) := by subst h; rfl
theorem rowV {u : C.U} {xs ys : List (C.El u)} (h : xs = ys) : ViewH Hp θ (.rows u xs) (.rows u ys) := by subst h; rfl
theorem bkI {m0 : Nat} (h1 : ViewL Hp θ T T' := by first | ((repeat' (first | exact trivial | exact rfl | refine And.intro ?_ ?_ | exact intV | exact fzV | exact fvV)); done) | fail) (h2 : ViewHs Hp θ θ Hp' := by
    first | ((repeat' (first | exact trivial | exact rfl | refine And.intro ?_ ?_ | exact ⟨_, rfl⟩ | exact intV | (refine rowV ?_; assumption) | (refine rowV ?_; (apply Eq.symm); assumption) | exact fzV | exact fvV)); done) | fail) (h3 : idO m0 0 θ = true := by rfl) (h4 : ndO θ = true := by rfl) : Back m0 θ T Hp T' Hp' := ⟨h1, h2, h3, h4⟩
end
end Go.SX
namespace Go.SX
variable {C : Cod}
theorem loop_upT {D : Codec C} {m0 : Nat} {R : Kont C} {body : Code} {k : List (It C)} {T : List (SV C)} {Hp : List (HS C)} {γ : Type} (θ0 : List (Option Nat)) (I : γ → List (Nat × SV C)) (U : γ → List (Nat × HS C)) (good : γ → Prop) (μ : γ → Nat) (g0 : γ) (h0 : good g0) (hent : Back m0 θ0 T Hp (headT body T (I g0)) (setCs Hp (U g0)))
    (hround : ∀ g, good g → ∀ K : List (SV C) → List (HS C) → Prop, (∀ g' θ T' Hp', Side (good g') → Side (μ g' < μ g) → Back m0 θ T' Hp' (headT body T (I g')) (setCs Hp (U g')) → K T' Hp') →
      forceV (headT body T (I g)) fun T1 => setCsK Hp (U g) fun Hp1 => R (.code body :: .endLoop K :: k) T1 Hp1) : LoopX D m0 R body k T Hp := by
  refine loop_inv I (fun g => setCs Hp (U g)) good μ g0 h0 θ0 hent fun g hg K hK => ?_
  have := hround g hg K hK
  rw [forceV_eq, setCsK_eq] at this
  rw [forceV_eq, forceL_eq]
  exact this
end Go.SX
