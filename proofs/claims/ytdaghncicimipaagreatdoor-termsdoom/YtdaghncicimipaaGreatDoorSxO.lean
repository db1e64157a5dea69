/-
  SX, part O: numbers renamed.
-/
import Derived.Test.YtdaghncicimipaaGreatDoorSxN
set_option linter.unusedVariables false
set_option linter.unusedSimpArgs false
namespace Go.SX
open Go.RowKit
variable {C : Cod}

def ixO : List (Option Nat) → Nat → Option Nat
  | [], _ => none
  | x :: _, 0 => x
  | _ :: l, i + 1 => ixO l i

mutual
def renS (θ : List (Option Nat)) : SV C → Option (SV C)
  | .ptr c o => match ixO θ c with
    | some d => some (.ptr d o)
    | none => none
  | .eptr c o n i f => match ixO θ c with
    | some d => some (.eptr d o n i f)
    | none => none
  | .slice c o n off len => match ixO θ c with
    | some d => some (.slice d o n off len)
    | none => none
  | .agg vs => match renL θ vs with
    | some l => some (.agg l)
    | none => none
  | .fn f a b => match renL θ a with
    | some a' => match renL θ b with
      | some b' => some (.fn f a' b')
      | none => none
    | none => none
  | .iface t v => match renS θ v with
    | some v' => some (.iface t v')
    | none => none
  | .tuple vs => match renL θ vs with
    | some l => some (.tuple l)
    | none => none
  | .p x => some (.p x)
  | .any => some .any
  | .dptr a f => some (.dptr a f)
  | .arr u N xs => some (.arr u N xs)
  | .mapp c => match ixO θ c with
    | some d => some (.mapp d)
    | none => none
  | .yieldv c => match ixO θ c with
    | some d => some (.yieldv d)
    | none => none
def renL (θ : List (Option Nat)) : List (SV C) → Option (List (SV C))
  | [] => some []
  | x :: l => match renS θ x with
    | some y => match renL θ l with
      | some r => some (y :: r)
      | none => none
    | none => none
end
def renH (θ : List (Option Nat)) : HS C → Option (HS C)
  | .fresh => some .fresh
  | .dead => some .dead
  | .rows u xs => some (.rows u xs)
  | .obj o => some (.obj o)
  | .vart t vs => match renL θ vs with
    | some l => some (.vart t l)
    | none => none

section
variable {D : Codec C} {w : World}

theorem renS_isArr {θ : List (Option Nat)} {x y : SV C} (h : renS θ x = some y) : y.isArr = x.isArr := by
  cases x <;> simp only [renS] at h <;> (repeat' split at h) <;> simp at h <;> (try subst h) <;> rfl

mutual
theorem ren_den {θ : List (Option Nat)} {E E' : Env} (hF : E'.F = E.F) (hβ : ∀ j d, ixO θ j = some d → E'.β j = E.β d) : ∀ (x y : SV C) (v : Value), renS θ x = some y → (Den D w E y v ↔ Den D w E' x v)
  | .ptr c o, y, v, h => by
    simp only [renS] at h
    cases hc : ixO θ c with
    | none => simp [hc] at h
    | some d => simp [hc] at h; subst h; simp only [Den, hβ c d hc]
  | .eptr c o n i f, y, v, h => by
    simp only [renS] at h
    cases hc : ixO θ c with
    | none => simp [hc] at h
    | some d => simp [hc] at h; subst h; simp only [Den, hβ c d hc]
  | .slice c o n off len, y, v, h => by
    simp only [renS] at h
    cases hc : ixO θ c with
    | none => simp [hc] at h
    | some d => simp [hc] at h; subst h; simp only [Den, hβ c d hc]
  | .agg vs, y, v, h => by
    simp only [renS] at h
    cases hc : renL θ vs with
    | none => simp [hc] at h
    | some l =>
      simp [hc] at h; subst h; simp only [Den]
      constructor
      · rintro ⟨cs, h1, h2⟩; exact ⟨cs, h1, (ren_denC hF hβ vs l _ hc).1 h2⟩
      · rintro ⟨cs, h1, h2⟩; exact ⟨cs, h1, (ren_denC hF hβ vs l _ hc).2 h2⟩
  | .fn f a b, y, v, h => by
    simp only [renS] at h
    cases ha : renL θ a with
    | none => simp [ha] at h
    | some a' =>
      cases hb : renL θ b with
      | none => simp [ha, hb] at h
      | some b' =>
        simp [ha, hb] at h; subst h; simp only [Den]
        constructor
        · rintro ⟨xs, ys, h1, h2, h3⟩; exact ⟨xs, ys, h1, (ren_denA hF hβ a a' _ ha).1 h2, (ren_denA hF hβ b b' _ hb).1 h3⟩
        · rintro ⟨xs, ys, h1, h2, h3⟩; exact ⟨xs, ys, h1, (ren_denA hF hβ a a' _ ha).2 h2, (ren_denA hF hβ b b' _ hb).2 h3⟩
  | .iface t x, y, v, h => by
    simp only [renS] at h
    cases hc : renS θ x with
    | none => simp [hc] at h
    | some l =>
      simp [hc] at h; subst h; simp only [Den]
      constructor
      · rintro ⟨u, h1, h2⟩; exact ⟨u, h1, (ren_den hF hβ x l _ hc).1 h2⟩
      · rintro ⟨u, h1, h2⟩; exact ⟨u, h1, (ren_den hF hβ x l _ hc).2 h2⟩
  | .tuple vs, y, v, h => by
    simp only [renS] at h
    cases hc : renL θ vs with
    | none => simp [hc] at h
    | some l =>
      simp [hc] at h; subst h; simp only [Den]
      constructor
      · rintro ⟨cs, h1, h2⟩; exact ⟨cs, h1, (ren_denA hF hβ vs l _ hc).1 h2⟩
      · rintro ⟨cs, h1, h2⟩; exact ⟨cs, h1, (ren_denA hF hβ vs l _ hc).2 h2⟩
  | .p x, y, v, h => by simp only [renS, Option.some.injEq] at h; subst h; simp only [Den, hF]
  | .any, y, v, h => by simp only [renS, Option.some.injEq] at h; subst h; simp only [Den]
  | .dptr a f, y, v, h => by simp only [renS, Option.some.injEq] at h; subst h; simp only [Den, hF]
  | .arr u N xs, y, v, h => by simp only [renS, Option.some.injEq] at h; subst h; simp only [Den]
  | .mapp c, y, v, h => by
    simp only [renS] at h
    cases hc : ixO θ c with
    | none => simp [hc] at h
    | some d => simp [hc] at h; subst h; simp only [Den, hβ c d hc]
  | .yieldv c, y, v, h => by
    simp only [renS] at h
    cases hc : ixO θ c with
    | none => simp [hc] at h
    | some d => simp [hc] at h; subst h; simp only [Den, hβ c d hc]
theorem ren_denC {θ : List (Option Nat)} {E E' : Env} (hF : E'.F = E.F) (hβ : ∀ j d, ixO θ j = some d → E'.β j = E.β d) : ∀ (l m : List (SV C)) (vs : List Value), renL θ l = some m → (DenC D w E m vs ↔ DenC D w E' l vs)
  | [], m, vs, h => by simp only [renL, Option.some.injEq] at h; subst h; simp only [DenC]
  | x :: l, m, vs, h => by
    simp only [renL] at h
    cases hx : renS θ x with
    | none => simp [hx] at h
    | some y =>
      cases hl : renL θ l with
      | none => simp [hx, hl] at h
      | some r =>
        simp [hx, hl] at h; subst h
        have ih := ren_denC hF hβ l r
        cases hxa : x.isArr with
        | true =>
          obtain ⟨u, N, xs, rfl⟩ := SV.arr_of hxa
          simp only [renS, Option.some.injEq] at hx
          subst hx
          simp only [DenC, hF]
          constructor
          · rintro ⟨h1, v1, v2, h2, h3, h4⟩; exact ⟨h1, v1, v2, h2, h3, (ih v2 hl).1 h4⟩
          · rintro ⟨h1, v1, v2, h2, h3, h4⟩; exact ⟨h1, v1, v2, h2, h3, (ih v2 hl).2 h4⟩
        | false =>
          have hya : y.isArr = false := by rw [renS_isArr hx]; exact hxa
          rw [DenC_cons hxa, DenC_cons hya]
          constructor
          · rintro ⟨v, v2, h1, h2, h3, h4⟩; exact ⟨v, v2, h1, h2, (ren_den hF hβ x y v hx).1 h3, (ih v2 hl).1 h4⟩
          · rintro ⟨v, v2, h1, h2, h3, h4⟩; exact ⟨v, v2, h1, h2, (ren_den hF hβ x y v hx).2 h3, (ih v2 hl).2 h4⟩
theorem ren_denA {θ : List (Option Nat)} {E E' : Env} (hF : E'.F = E.F) (hβ : ∀ j d, ixO θ j = some d → E'.β j = E.β d) : ∀ (l m : List (SV C)) (vs : List Value), renL θ l = some m → (DenA D w E m vs ↔ DenA D w E' l vs)
  | [], m, vs, h => by simp only [renL, Option.some.injEq] at h; subst h; simp only [DenA]
  | x :: l, m, vs, h => by
    simp only [renL] at h
    cases hx : renS θ x with
    | none => simp [hx] at h
    | some y =>
      cases hl : renL θ l with
      | none => simp [hx, hl] at h
      | some r =>
        simp [hx, hl] at h; subst h
        have ih := ren_denA hF hβ l r
        simp only [DenA]
        constructor
        · rintro ⟨v, v2, h1, h2, h3⟩; exact ⟨v, v2, h1, (ren_den hF hβ x y v hx).1 h2, (ih v2 hl).1 h3⟩
        · rintro ⟨v, v2, h1, h2, h3⟩; exact ⟨v, v2, h1, (ren_den hF hβ x y v hx).2 h2, (ih v2 hl).2 h3⟩
end

theorem ren_at {θ : List (Option Nat)} {E E' : Env} (hF : E'.F = E.F) (hβ : ∀ j d, ixO θ j = some d → E'.β j = E.β d) {x y : HS C} (h : renH θ x = some y) (b : Nat) : y.at D w E b ↔ x.at D w E' b := by
  cases x with
  | fresh => simp only [renH, Option.some.injEq] at h; subst h; exact Iff.rfl
  | dead => simp only [renH, Option.some.injEq] at h; subst h; exact Iff.rfl
  | rows u xs => simp only [renH, Option.some.injEq] at h; subst h; simp only [HS.at, hF]
  | obj o => simp only [renH, Option.some.injEq] at h; subst h; exact Iff.rfl
  | vart ty vs =>
    simp only [renH] at h
    cases hc : renL θ vs with
    | none => simp [hc] at h
    | some l =>
      simp [hc] at h; subst h
      simp only [HS.at]
      constructor
      · rintro ⟨cs, T, h1, h2⟩; exact ⟨cs, T, h1, (ren_denC hF hβ vs l _ hc).1 h2⟩
      · rintro ⟨cs, T, h1, h2⟩; exact ⟨cs, T, h1, (ren_denC hF hβ vs l _ hc).2 h2⟩

theorem ren_ok {θ : List (Option Nat)} {E E' : Env} (hF : E'.F = E.F) (hβ : ∀ j d, ixO θ j = some d → E'.β j = E.β d) {x y : HS C} (h : renH θ x = some y) (s : BS) : y.ok D w E s ↔ x.ok D w E' s := by
  have key : (y = .fresh ↔ x = .fresh) ∧ (y = .dead ↔ x = .dead) ∧ ((∃ u, y = .rows u []) ↔ ∃ u, x = .rows u []) := by
    cases x with
    | fresh => simp only [renH, Option.some.injEq] at h; subst h; simp
    | dead => simp only [renH, Option.some.injEq] at h; subst h; simp
    | rows u xs => simp only [renH, Option.some.injEq] at h; subst h; simp
    | obj o => simp only [renH, Option.some.injEq] at h; subst h; simp
    | vart ty vs =>
      simp only [renH] at h
      cases hc : renL θ vs with
      | none => simp [hc] at h
      | some l => simp [hc] at h; subst h; simp
  cases s with
  | fresh => exact key.1
  | dead => exact key.2.1
  | virt => exact key.2.2
  | loc b => exact ren_at hF hβ h b
end
end Go.SX
