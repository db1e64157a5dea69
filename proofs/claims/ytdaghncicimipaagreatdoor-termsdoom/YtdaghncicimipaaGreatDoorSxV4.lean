/-
  SX, part V4: loops, splits, ends for the strict generator.
-/
import Derived.Test.YtdaghncicimipaaGreatDoorSxV3
set_option linter.unusedSimpArgs false
namespace Go.SX
set_option linter.unusedVariables false
open Go.RowKit
variable {C : Cod}

/-- which slots a piece of code writes, as bits -/
def maskO : List Oper → Nat → Nat
  | [], m => m
  | ⟨some d, _, _, _, _, _⟩ :: l, m => maskO l (Nat.lor m (Nat.shiftLeft 1 d))
  | ⟨none, _, _, _, _, _⟩ :: l, m => maskO l m
def maskC : Code → Nat → Nat
  | .region _ ops _, m => maskO ops.toList m
  | .seq a b, m => maskC b (maskC a m)
  | .cond _ a b, m => maskC b (maskC a m)
  | .block _ b, m => maskC b m
  | .loop b, m => maskC b m
  | _, m => m
/-- the slots that are written are forgotten -/
def havocL : Nat → List (SV C) → List (SV C)
  | _, [] => []
  | m, x :: l => (match Nat.mod m 2 with | 0 => x | _ + 1 => .any) :: havocL (Nat.div m 2) l
def setMany : List (SV C) → List (Nat × SV C) → List (SV C)
  | T, [] => T
  | T, (d, v) :: l => setMany (setT T d v) l
/-- the slots at a loop's head -/
def headT (body : Code) (T : List (SV C)) (us : List (Nat × SV C)) : List (SV C) := setMany (havocL (maskC body 0) T) us
structure Back (m0 : Nat) (θ : List (Option Nat)) (T : List (SV C)) (Hp : List (HS C)) (T' : List (SV C)) (Hp' : List (HS C)) : Prop where
  T : ViewL Hp θ T T'
  H : ViewHs Hp θ θ Hp'
  id : idO m0 0 θ = true
  nd : ndO θ = true

section
variable {P : Program} {D : Codec C} {tab : Tab C} {A : Aux C D} {X : Ctx C} {R : Kont C} {Φ : Post C} {n m0 : Nat} {body : Code} {k : List (It C)} {T : List (SV C)} {Hp : List (HS C)}

structure Side (p : Prop) : Prop where
  h : p
theorem side_and {p q : Prop} (h1 : Side p) (h2 : q) : p ∧ q := ⟨h1.h, h2⟩
/-- A loop, by what holds at its head: I the slots that count, J the heap; the other slots that it writes are forgotten. -/
theorem loop_inv {γ : Type} (I : γ → List (Nat × SV C)) (J : γ → List (HS C)) (good : γ → Prop) (μ : γ → Nat) (g0 : γ) (h0 : good g0) (θ0 : List (Option Nat)) (hent : Back m0 θ0 T Hp (headT body T (I g0)) (J g0))
    (hround : ∀ g, good g → ∀ K : List (SV C) → List (HS C) → Prop, (∀ g' θ T' Hp', Side (good g') → Side (μ g' < μ g) → Back m0 θ T' Hp' (headT body T (I g')) (J g') → K T' Hp') →
      forceV (headT body T (I g)) fun T1 => forceL (J g) fun Hp1 => R (.code body :: .endLoop K :: k) T1 Hp1) : LoopX D m0 R body k T Hp := by
  refine ⟨γ, fun g => (headT body T (I g), J g), good, μ, g0, h0, sub_of θ0 hent.T ⟨hent.H, hent.id, hent.nd⟩, ?_⟩
  intro g hg K hK
  have := hround g hg K fun g' θ T' Hp' h1 h2 h3 => hK _ _ g' h1.h h2.h (sub_of θ h3.T ⟨h3.H, h3.id, h3.nd⟩)
  rw [forceV_eq, forceL_eq] at this
  exact this

theorem split_x {b : Bool} {X Y : Prop} (h1 : b = true → X) (h2 : b = false → Y) : condX b X Y := by
  cases b with
  | true => exact h1 rfl
  | false => exact h2 rfl

/-- A yield, its round walked in place. -/
theorem yield_in {args : List (SV C)} {dst : Option Nat} {all rest : List Oper} (A : Aux C D) (hT : TabOK P D tab) {c : Nat} {ri : RI C} (hri : lkR X.L c = some ri) (hc : getC Hp c = .obj (.loop (mkLoop ri .ready none))) (hlen' : sameLen ri.ps.toList args = true) (n n' : Nat)
    (h : forceV (setPs ri.T ri.ps.toList args) fun T0 => hlenK Hp 0 fun m => gx P A tab ⟨some c, X.L, m⟩ (beginRound c (gx P A tab ⟨some c, X.L, m⟩ (endRound R c dst all rest k T) n') ri.body) n [.code ri.assign] T0 Hp) :
    YieldX P D X R c args dst all rest k T Hp := by
  rw [forceV_eq, hlenK_eq, Nat.add_zero] at h
  exact ⟨_, yieldS_of_gx A hT hri hc hlen' n n' h, fun q Hp' hS => hS⟩

/-- the end of a function -/
def endV (Hp : List (HS C)) (θ : List (Option Nat)) (ret : SV C) : Option (List (SV C)) → Prop
  | some l => View Hp θ (retOf l) ret
  | none => False
/-- a function's end: its results, seen as the contract says -/
structure EndV (Hp : List (HS C)) (θ : List (Option Nat)) (ret : SV C) (l : Option (List (SV C))) : Prop where
  h : endV Hp θ ret l
theorem end_fn {rs : List ResultVar} {ret : SV C} {H1 : List (HS C)} {e : Exit} (θ : List (Option Nat)) (he : e = .normal ∨ e = .ret) (hE : EndV Hp θ ret (resOf D tab T Hp rs)) (hv : ViewHs Hp θ θ H1) (hid : idO m0 0 θ = true) (hnd : ndO θ = true) :
    (e = .normal ∨ e = .ret) ∧ ∃ θ l, resOf D tab T Hp rs = some l ∧ View Hp θ (retOf l) ret ∧ ViewOK Hp θ H1 m0 := by
  refine ⟨he, ?_⟩
  have h := hE.h
  generalize hr : resOf D tab T Hp rs = r at h
  cases r with
  | none => exact h.elim
  | some l => exact ⟨θ, l, rfl, h, ⟨hv, hid, hnd⟩⟩
end
end Go.SX
