/-
  SX, part P: one state seen as another: numbers renamed, what is dropped becomes persistent.
-/
import Derived.Test.YtiflflnmonljeaaGreatDoorSxM2
set_option linter.unusedVariables false
set_option linter.unusedSimpArgs false
namespace Go.SX
open Go.RowKit
variable {C : Cod}
def inO : List (Option Nat) → Nat → Bool
 | [], _ => false
 | none :: l, c => inO l c
 | some d :: l, c => if d = c then true else inO l c
def oL (Hp : List (HS C)) (θ : List (Option Nat)) (c o n off len : Nat) (u : C.U) (ys : List (C.El u)) : Prop :=
 ∃ xs, aS Hp c = .rows u xs ∧ o = 0 ∧ n = C.n u ∧ off + len ≤ xs.length ∧ ys = (xs.drop off).take len ∧ inO θ c = false
def Nz (Hp : List (HS C)) (θ : List (Option Nat)) : SV C → PV C → Prop
 | .slice c o n off len, .dsl u ys => oL Hp θ c o n off len u ys
 | .p (.lit (.slice none 0 0)), .dsl _ ys => ys = []
 | .p x, y => x = y
 | _, _ => False
def yA (Hp : List (HS C)) (θ : List (Option Nat)) : List (SV C) → List (PV C) → Prop
 | [], [] => True
 | x :: l, y :: m => Nz Hp θ x y ∧ yA Hp θ l m
 | _, _ => False
def uI (Hp : List (HS C)) (θ : List (Option Nat)) (c : Nat) (cells : List (PV C)) : Prop :=
 ∃ t vs, aS Hp c = .vart t vs ∧ yA Hp θ vs cells ∧ inO θ c = false
mutual
def jR (Hp : List (HS C)) (θ : List (Option Nat)) : SV C → SV C → Prop
 | .arr _ _ _, .any => False
 | _, .any => True
 | .agg vs, .agg ws => ViewL Hp θ vs ws
 | .tuple vs, .tuple ws => ViewL Hp θ vs ws
 | .fn f a b, .fn f' a' b' => f' = f ∧ ViewL Hp θ a a' ∧ ViewL Hp θ b b'
 | .ptr c o, .dptr cells f => f = o ∧ uI Hp θ c cells
 | .slice c o n off len, .p (.dsl u ys) => oL Hp θ c o n off len u ys
 | .p (.lit (.slice none 0 0)), .p (.dsl _ ys) => ys = []
 | .p (.lit (.slice none 0 0)), .slice j _ _ _ len => ixL θ j = some none ∧ len = 0
 | .p x, .p y => x = y
 | x, y => jO θ y = some x
def ViewL (Hp : List (HS C)) (θ : List (Option Nat)) : List (SV C) → List (SV C) → Prop
 | [], [] => True
 | x :: l, y :: m => jR Hp θ x y ∧ ViewL Hp θ l m
 | _, _ => False
end
def wF (Hp : List (HS C)) (θ : List (Option Nat)) : HS C → HS C → Prop
 | _, .dead => True
 | .vart t vs, .vart t' ws => t' = t ∧ ViewL Hp θ vs ws
 | .rows u xs, .rows v ys => (.rows v ys : HS C) = .rows u xs
 | .obj o, .obj o' => o' = o
 | _, _ => False
@[reducible] def Rw : HS C → Prop
 | .dead => True
 | h => ∃ u, h = .rows u []
theorem Rw.cases {h : HS C} (k : Rw h) : (∃ u, h = .rows u []) ∨ h = .dead := by
 cases h with
 | dead => exact .inr rfl
 | _ => exact .inl k
def eP (Hp : List (HS C)) (θ : List (Option Nat)) : List (Option Nat) → List (HS C) → Prop
 | [], [] => True
 | some d :: l, h :: m => wF Hp θ (aS Hp d) h ∧ eP Hp θ l m
 | none :: l, h :: m => Rw h ∧ eP Hp θ l m
 | _, _ => False
def idO : Nat → Nat → List (Option Nat) → List (HS C) → Bool
 | 0, _, _, _ => true
 | m + 1, k, some d :: l, _ :: hs => if d = k then idO m (k + 1) l hs else false
 | m + 1, k, none :: l, .dead :: hs => idO m (k + 1) l hs
 | _, _, _, _ => false
def ndO : List (Option Nat) → Bool
 | [] => true
 | none :: l => ndO l
 | some d :: l => match inO l d with
  | true => false
  | false => ndO l
section
variable {P : Program} {D : aL C} {B : dZ} {E : Env} {df : List Deferred} {a : Act} {w : World}
theorem xS : ∀ (θ : List (Option Nat)) (j d : Nat), ixO θ j = some d → inO θ d = true
 | [], j, d, h => by simp [ixO] at h
 | x :: l, 0, d, h => by simp [ixO] at h; subst h; simp [inO]
 | x :: l, j + 1, d, h => by
  have ih := xS l j d (by simpa [ixO] using h)
  cases x with
  | none => simpa [inO] using ih
  | some e => simp only [inO]; split <;> first | rfl | exact ih
theorem tI : ∀ (θ : List (Option Nat)), ndO θ = true → ∀ j j' d, ixO θ j = some d → ixO θ j' = some d → j = j'
 | [], _, j, j', d, h, _ => by simp [ixO] at h
 | x :: l, hn, j, j', d, h, h' => by
  cases x with
  | none =>
   cases j with
   | zero => simp [ixO] at h
   | succ j =>
    cases j' with
    | zero => simp [ixO] at h'
    | succ j' => rw [tI l (by simpa [ndO] using hn) j j' d (by simpa [ixO] using h) (by simpa [ixO] using h')]
  | some e =>
   simp only [ndO] at hn
   cases hi : inO l e with
   | true => rw [hi] at hn; simp at hn
   | false =>
    rw [hi] at hn
    cases j with
    | zero =>
     simp [ixO] at h; subst h
     cases j' with
     | zero => rfl
     | succ j' => have := xS l j' e (by simpa [ixO] using h'); rw [hi] at this; cases this
    | succ j =>
     cases j' with
     | zero => simp [ixO] at h'; subst h'; have := xS l j e (by simpa [ixO] using h); rw [hi] at this; cases this
     | succ j' => rw [tI l hn j j' d (by simpa [ixO] using h) (by simpa [ixO] using h')]
theorem sI : ∀ (m k : Nat) (θ : List (Option Nat)) (hs : List (HS C)), idO m k θ hs = true → ∀ c, c < m → ixO θ c = some (k + c) ∨ ixL θ c = some none ∧ aS hs c = .dead
 | 0, _, _, _, _, c, hc => absurd hc (Nat.not_lt_zero _)
 | m + 1, k, [], _, h, c, hc => by simp [idO] at h
 | m + 1, k, some d :: l, [], h, c, hc => by simp [idO] at h
 | m + 1, k, none :: l, hs, h, c, hc => by
  match hs with
  | .dead :: hs =>
   simp only [idO] at h
   cases c with
   | zero => exact .inr ⟨rfl, rfl⟩
   | succ c =>
    rcases sI m (k + 1) l hs h c (by omega) with h1 | h1
    ·left; simp only [ixO, h1]; congr 1; omega
    ·exact .inr h1
  | [] => simp [idO] at h
  | .fresh :: _ => simp [idO] at h
  | .vart _ _ :: _ => simp [idO] at h
  | .rows _ _ :: _ => simp [idO] at h
  | .obj _ :: _ => simp [idO] at h
 | m + 1, k, some d :: l, x :: hs, h, c, hc => by
  simp only [idO] at h
  split at h
  ·rename_i hd
   subst hd
   cases c with
   | zero => left; simp [ixO]
   | succ c =>
    rcases sI m (d + 1) l hs h c (by omega) with h1 | h1
    ·left; simp only [ixO, h1]; congr 1; omega
    ·exact .inr h1
  ·cases h
theorem dV (θ : List (Option Nat)) (j d : Nat) : ixL θ j = some (some d) ↔ ixO θ j = some d := by
 induction θ generalizing j with
 | nil => simp [ixL, ixO]
 | cons x l ih => cases j with
  | zero => simp [ixL, ixO]
  | succ j => simpa [ixL, ixO] using ih j
theorem qO : ∀ (Hp : List (HS C)) (θ l : List (Option Nat)) (m : List (HS C)), eP Hp θ l m → l.length = m.length ∧
  (∀ j d, ixL l j = some (some d) → wF Hp θ (aS Hp d) (aS m j)) ∧ (∀ j, ixL l j = some none → (∃ u, aS m j = .rows u []) ∨ aS m j = .dead) ∧ (∀ j, ixL l j = none → aS m j = .fresh)
 | Hp, θ, [], [], h => ⟨rfl, fun j d h => by simp [ixL] at h, fun j h => by simp [ixL] at h, fun j _ => rfl⟩
 | Hp, θ, [], _ :: _, h => by simp [eP] at h
 | Hp, θ, some d :: l, [], h => by simp [eP] at h
 | Hp, θ, none :: l, [], h => by simp [eP] at h
 | Hp, θ, some d :: l, y :: m, h => by
  simp only [eP] at h
  obtain ⟨h1, h2, h3, h4⟩ := qO Hp θ l m h.2
  refine ⟨by simp [h1], fun j e hj => ?_, fun j hj => ?_, fun j hj => ?_⟩
  ·cases j with
   | zero => simp [ixL] at hj; subst hj; exact h.1
   | succ j => exact h2 j e (by simpa [ixL] using hj)
  ·cases j with
   | zero => simp [ixL] at hj
   | succ j => exact h3 j (by simpa [ixL] using hj)
  ·cases j with
   | zero => simp [ixL] at hj
   | succ j => exact h4 j (by simpa [ixL] using hj)
 | Hp, θ, none :: l, y :: m, h => by
  simp only [eP] at h
  obtain ⟨h1, h2, h3, h4⟩ := qO Hp θ l m h.2
  refine ⟨by simp [h1], fun j e hj => ?_, fun j hj => ?_, fun j hj => ?_⟩
  ·cases j with
   | zero => simp [ixL] at hj
   | succ j => exact h2 j e (by simpa [ixL] using hj)
  ·cases j with
   | zero => exact h.1.cases
   | succ j => exact h3 j (by simpa [ixL] using hj)
  ·cases j with
   | zero => simp [ixL] at hj
   | succ j => exact h4 j (by simpa [ixL] using hj)
structure iR (w : World) (E E' : Env) (θ : List (Option Nat)) : Prop where
 F : ∀ b, E.F b → E'.F b
 β : ∀ j d, ixO θ j = some d → E'.β j = E.β d ∨ E'.β j = .dead
 virt : ∀ j, ixL θ j = some none → E'.β j = .virt ∨ E'.β j = .dead
 drop : ∀ c b, inO θ c = false → E.β c = .loc b → E'.F b
def Env.sub (E : Env) (θ : List (Option Nat)) : Env := { F := E.F, β := fun j => match ixO θ j with | some d => E.β d | none => .fresh }
theorem cF {E' : Env} {θ : List (Option Nat)} (hV : iR w E E' θ) {x y : SV C} {v : Value} (h : jO θ y = some x) (hd : Den D w E x v) : Den D w E' y v := by
 have h1 := (lJ (D := D) (w := w) (E := E) (E' := E.sub θ) rfl (fun j d hj => by simp [Env.sub, hj]) y x v h).1 hd
 have hL : cI w (E.sub θ) w E' := by
  refine ⟨fun b hb => ⟨hV.F b hb, rfl⟩, fun j => ?_, fun _ _ _ _ cs T hc => ⟨cs, T, hc, rfl⟩⟩
  cases hj : ixO θ j with
  | none => exact .inr (.inr (by simp [Env.sub, hj]))
  | some d =>
   rcases hV.β j d hj with e | e
   ·exact .inl (by simp [Env.sub, hj, e])
   ·exact .inr (.inl e)
 exact Den.mono hL y v h1
theorem Ms {Hp : List (HS C)} {θ : List (Option Nat)} {u : C.U} {N : Nat} {xs : List (C.El u)} {y : SV C} (h : jR Hp θ (.arr u N xs) y) : y = .arr u N xs := by
 have key : ∀ z : SV C, jO θ z = some (.arr u N xs) → z = .arr u N xs := fun z hz => by
  have h1 := yC hz
  have h2 : z.isArr = true := by rw [← h1]; rfl
  obtain ⟨u', N', xs', rfl⟩ := SV.arr_of h2
  simpa [jO] using hz
 cases y with
 | any => simp only [jR] at h
 | _ => exact key _ (by simpa only [jR] using h)
theorem vA {E' : Env} {θ : List (Option Nat)} {Hp : List (HS C)} (hs : Sat D w E (aS Hp)) (hV : iR w E E' θ) {c o n off len : Nat} {u : C.U} {ys : List (C.El u)} {v : Value}
    (h : oL Hp θ c o n off len u ys) (hd : Den D w E (.slice c o n off len) v) : eM D w E'.F (.dsl u ys) v := by
  obtain ⟨xs, h1, rfl, rfl, h2, rfl, h3⟩ := h
  have hl : (aS Hp c).live = true := by rw [h1]; rfl
  have hylen : ((xs.drop off).take len).length = len := by simp; omega
  rcases bT hs hl hd with ⟨rfl, hn⟩ | ⟨b, cap, cs, T, hb, e, hlc, hcs, hsz⟩
  · simp only [List.take_zero]
    rcases hn with ⟨ad, e, _⟩ | ⟨ad, b, e, _⟩
    · rw [e]; exact .dslNil u _ _
    · rw [e]; exact .dslNil u _ _
  · have hok := hs.ok c
    rw [hb, h1] at hok
    obtain ⟨cs', T', hcs', hz1, hz2⟩ := hok
    obtain ⟨rfl, rfl⟩ := hcs.inj hcs'.1
    have hsq : Xt D w E b 0 (.some u xs) := ⟨cs, T, hcs, by omega, by simpa using hz2⟩
    have hF' : E'.F b := hV.drop c b h3 hb
    have hcell : ∀ (i : Nat) (x : C.El u), ((xs.drop off).take len)[i]? = some x → ∀ (j : Nat) (pv : PV C), (D.enc u x)[j]? = some pv →
        ∃ v, w.cell? ⟨b, 0 + off * C.n u + i * C.n u + j, none⟩ = some v ∧ eM D w E.F pv v := by
      intro i x hx j pv hp
      rw [List.getElem?_take] at hx
      split at hx
      · rename_i hi
        rw [List.getElem?_drop] at hx
        have hlt : off + i < xs.length := (List.getElem?_eq_some_iff.1 hx).1
        have hg : xs.getD (off + i) (C.dflt u) = x := by simp [List.getD_eq_getElem?_getD, hx]
        obtain ⟨v, h4, h5⟩ := C0 hsq hlt j pv (by rw [hg]; exact hp)
        refine ⟨v, ?_, h5⟩
        rw [show 0 + off * C.n u + i * C.n u + j = 0 + (off + i) * C.n u + j by rw [Nat.add_mul]; omega]
        exact h4
      · cases hx
    rw [e]
    have hfin := eM.dsl (D := D) (w := w) (F := E'.F) u ((xs.drop off).take len) b (0 + off * C.n u) cap (fun i j => (w.cell? ⟨b, 0 + off * C.n u + i * C.n u + j, none⟩).getD undef) (fun _ => hF') (by rw [hylen]; exact hlc)
      (fun i x hx j pv hp => by obtain ⟨v, h4, _⟩ := hcell i x hx j pv hp; rw [h4]; rfl)
      (fun i x hx j pv hp => by
        obtain ⟨v, h4, h5⟩ := hcell i x hx j pv hp
        simp only [h4, Option.getD_some]
        exact h5.mono fun b hb => ⟨hV.F b hb, rfl⟩)
    rw [hylen] at hfin
    exact hfin
theorem Js {E' : Env} {θ : List (Option Nat)} {Hp : List (HS C)} (hs : Sat D w E (aS Hp)) (hV : iR w E E' θ) {x : SV C} {y : PV C} {v : Value} (h : Nz Hp θ x y) (hd : Den D w E x v) : eM D w E'.F y v := by
 have key : ∀ z, x = .p z → z = y → eM D w E'.F y v := fun z e e' => by
  subst e; subst e'
  simp only [Den] at hd
  exact hd.mono fun b hb => ⟨hV.F b hb, rfl⟩
 unfold Nz at h
 split at h
 ·exact vA hs hV h hd
 ·subst h; rw [bR hd]; exact .dslNil _ _ _
 ·exact key _ rfl h
 ·exact h.elim
theorem xZ {E' : Env} {θ : List (Option Nat)} {Hp : List (HS C)} (hs : Sat D w E (aS Hp)) (hV : iR w E E' θ) : ∀ (l : List (SV C)) (m : List (PV C)) (vs : List Value), yA Hp θ l m → DenC D w E l vs →
  ∀ (j : Nat) (pv : PV C), m[j]? = some pv → ∃ cv : Value, vs[j]? = some cv ∧ eM D w E'.F pv cv
 | [], [], vs, h, hd, j, pv, hp => by simp at hp
 | [], _ :: _, vs, h, hd, j, pv, hp => by simp only [yA] at h
 | _ :: _, [], vs, h, hd, j, pv, hp => by simp at hp
 | x :: l, y :: m, vs, h, hd, j, pv, hp => by
  simp only [yA] at h
  have hx : x.isArr = false := by
   cases hx : x.isArr with
   | false => rfl
   | true =>
    obtain ⟨u, N, xs, rfl⟩ := SV.arr_of hx
    have := h.1
    simp [Nz] at this
  rw [aZ hx] at hd
  obtain ⟨v, v2, rfl, _, h2, h3⟩ := hd
  cases j with
  | zero =>
   simp at hp; subst hp
   exact ⟨v, rfl, Js hs hV h.1 h2⟩
  | succ j => exact xZ hs hV l m v2 h.2 h3 j pv (by simpa using hp)
theorem Oi {E' : Env} {θ : List (Option Nat)} {Hp : List (HS C)} (hs : Sat D w E (aS Hp)) (hV : iR w E E' θ) {c o f : Nat} {cells : List (PV C)} {v : Value} (h : f = o ∧ uI Hp θ c cells) (hd : Den D w E (.ptr c o) v) : Den D w E' (.dptr cells f) v := by
 obtain ⟨rfl, t, vs, h1, h2, h3⟩ := h
 obtain ⟨b, cs, T, hb, hrow, hden⟩ := X9 hs h1
 have e := eX hd hb
 have hF' : E'.F b := hV.drop c b h3 hb
 simp only [Den]
 refine ⟨b, 0, by rw [e, Nat.zero_add], fun j pv hp => ⟨hF', ?_⟩⟩
 obtain ⟨cv, h4, h5⟩ := xZ hs hV vs cells _ h2 hden j pv hp
 exact ⟨cv, by rw [Nat.zero_add, gC hrow.1]; exact h4, h5⟩
mutual
theorem pJ {E' : Env} {θ : List (Option Nat)} {Hp : List (HS C)} (hs : Sat D w E (aS Hp)) (hV : iR w E E' θ) : ∀ (x y : SV C) (v : Value), jR Hp θ x y → Den D w E x v → Den D w E' y v
 | .agg vs, y, v, h, hd => by
  cases y with
  | any => trivial
  | agg ws =>
   simp only [jR] at h
   simp only [Den] at hd ⊢
   obtain ⟨cs, e, hc⟩ := hd
   exact ⟨cs, e, view_denC hs hV vs ws _ h hc⟩
  | _ => exact cF hV (by simpa only [jR] using h) hd
 | .tuple vs, y, v, h, hd => by
  cases y with
  | any => trivial
  | tuple ws =>
   simp only [jR] at h
   simp only [Den] at hd ⊢
   obtain ⟨cs, e, hc⟩ := hd
   exact ⟨cs, e, view_denA hs hV vs ws _ h hc⟩
  | _ => exact cF hV (by simpa only [jR] using h) hd
 | .slice c o n off len, y, v, h, hd => by
  cases y with
  | any => trivial
  | p pv =>
   cases pv with
   | dsl u ys => simp only [jR] at h; simp only [Den]; exact vA hs hV h hd
   | _ => exact cF hV (by simpa only [jR] using h) hd
  | _ => exact cF hV (by simpa only [jR] using h) hd
 | .p x, y, v, h, hd => by
  have key : ∀ z, x = z → Den D w E' (.p z) v := fun z e => by
   subst e
   simp only [Den] at hd ⊢
   exact hd.mono fun b hb => ⟨hV.F b hb, rfl⟩
  by_cases hx : x = .lit (.slice none 0 0)
  ·subst hx
   have e := bR hd
   cases y with
   | any => trivial
   | p pv =>
    cases pv with
    | dsl u ys => simp only [jR] at h; subst h; simp only [Den]; rw [e]; exact .dslNil u _ _
    | _ => exact key _ (by simpa only [jR] using h)
   | slice j o n off len =>
    simp only [jR] at h
    obtain ⟨h1, h2⟩ := h
    simp only [Den]
    rcases hV.virt j h1 with h3 | h3
    ·rw [h3]; exact ⟨none, e, h2⟩
    ·rw [h3, e]; rfl
   | _ => exact cF hV (by simpa only [jR] using h) hd
  ·cases y with
   | any => trivial
   | p pv =>
    have hv : jR Hp θ (.p x) (.p pv) = (x = pv) := by
     unfold jR
     split <;> simp_all
    rw [hv] at h
    exact key _ h
   | slice j o n off len =>
    have hv : jR Hp θ (.p x) (.slice j o n off len) = (jO θ (.slice j o n off len) = some (.p x)) := by
     unfold jR
     split <;> simp_all
    rw [hv] at h
    exact cF hV h hd
   | _ => exact cF hV (by simpa only [jR] using h) hd
 | .any, y, v, h, hd => by
  cases y with
  | any => trivial
  | _ => exact cF hV (by simpa only [jR] using h) hd
 | .ptr c o, y, v, h, hd => by
  cases y with
  | any => trivial
  | dptr cells f => exact Oi hs hV (by simpa only [jR] using h) hd
  | _ => exact cF hV (by simpa only [jR] using h) hd
 | .eptr c o n i f, y, v, h, hd => by
  cases y with
  | any => trivial
  | _ => exact cF hV (by simpa only [jR] using h) hd
 | .dptr cells f, y, v, h, hd => by
  cases y with
  | any => trivial
  | _ => exact cF hV (by simpa only [jR] using h) hd
 | .arr u N xs, y, v, h, hd => by simp only [Den] at hd
 | .fn f p q, y, v, h, hd => by
  cases y with
  | any => trivial
  | fn f' p' q' =>
   simp only [jR] at h
   obtain ⟨rfl, h1, h2⟩ := h
   simp only [Den] at hd ⊢
   obtain ⟨xs, ys, e, h3, h4⟩ := hd
   exact ⟨xs, ys, e, view_denA hs hV p p' _ h1 h3, view_denA hs hV q q' _ h2 h4⟩
  | _ => exact cF hV (by simpa only [jR] using h) hd
 | .iface t z, y, v, h, hd => by
  cases y with
  | any => trivial
  | _ => exact cF hV (by simpa only [jR] using h) hd
 | .yieldv c, y, v, h, hd => by
  cases y with
  | any => trivial
  | _ => exact cF hV (by simpa only [jR] using h) hd
 | .mapp c, y, v, h, hd => by
  cases y with
  | any => trivial
  | _ => exact cF hV (by simpa only [jR] using h) hd
theorem view_denC {E' : Env} {θ : List (Option Nat)} {Hp : List (HS C)} (hs : Sat D w E (aS Hp)) (hV : iR w E E' θ) : ∀ (l m : List (SV C)) (vs : List Value), ViewL Hp θ l m → DenC D w E l vs → DenC D w E' m vs
 | [], m, vs, h, hd => by
  cases m with
  | nil => simp only [DenC] at hd ⊢; exact hd
  | cons y m => simp only [ViewL] at h
 | x :: l, [], vs, h, hd => by simp only [ViewL] at h
 | x :: l, y :: m, vs, h, hd => by
  simp only [ViewL] at h
  cases hxa : x.isArr with
  | true =>
   obtain ⟨u, N, xs, rfl⟩ := SV.arr_of hxa
   have hy := Ms h.1
   subst hy
   simp only [DenC] at hd ⊢
   obtain ⟨h1, v1, v2, h2, h3, h4⟩ := hd
   exact ⟨h1, v1, v2, h2, h3.mono fun b hb => ⟨hV.F b hb, rfl⟩, view_denC hs hV l m v2 h.2 h4⟩
  | false =>
   rw [aZ hxa] at hd
   obtain ⟨v, v2, rfl, h2, h3, h4⟩ := hd
   have ih := view_denC hs hV l m v2 h.2 h4
   have hden := pJ hs hV x y v h.1 h3
   cases hya : y.isArr with
   | false => rw [aZ hya]; exact ⟨v, v2, rfl, h2, hden, ih⟩
   | true =>
    obtain ⟨u, N, xs, rfl⟩ := SV.arr_of hya
    simp only [Den] at hden
theorem view_denA {E' : Env} {θ : List (Option Nat)} {Hp : List (HS C)} (hs : Sat D w E (aS Hp)) (hV : iR w E E' θ) : ∀ (l m : List (SV C)) (vs : List Value), ViewL Hp θ l m → DenA D w E l vs → DenA D w E' m vs
 | [], m, vs, h, hd => by
  cases m with
  | nil => simp only [DenA] at hd ⊢; exact hd
  | cons y m => simp only [ViewL] at h
 | x :: l, [], vs, h, hd => by simp only [ViewL] at h
 | x :: l, y :: m, vs, h, hd => by
  simp only [ViewL] at h
  simp only [DenA] at hd ⊢
  obtain ⟨v, v2, rfl, h2, h3⟩ := hd
  exact ⟨v, v2, rfl, pJ hs hV x y v h.1 h2, view_denA hs hV l m v2 h.2 h3⟩
end
end
end Go.SX
namespace Go.SX
open Go.RowKit
variable {C : Cod}
section
variable {P : Program} {D : aL C} {tab : Tab C} {B : dZ} {E : Env} {df : List Deferred} {a : Act} {w : World}
def mL : HS C → Bool
 | .dead => true
 | _ => false
def Env.view (E : Env) (θ : List (Option Nat)) (Hp' : List (HS C)) : Env :=
  { F := fun b => E.F b ∨ ∃ c, inO θ c = false ∧ E.β c = .loc b,
    β := fun j => match mL (aS Hp' j) with
      | true => .dead
      | false => match ixL θ j with
        | some (some d) => E.β d
        | some none => .virt
        | none => .fresh }
structure vZ (Hp : List (HS C)) (θ : List (Option Nat)) (Hp' : List (HS C)) (m0 : Nat) : Prop where
 H : eP Hp θ θ Hp'
 id : idO m0 0 θ Hp' = true
 nd : ndO θ = true
theorem Ch {Hp : List (HS C)} {θ : List (Option Nat)} {x y : HS C} (h : wF Hp θ x y) (hy : mL y = false) :
  (∃ t vs ws, x = .vart t vs ∧ y = .vart t ws ∧ ViewL Hp θ vs ws) ∨ (∃ u xs, x = .rows u xs ∧ y = .rows u xs) ∨ ∃ o, x = .obj o ∧ y = .obj o := by
 cases y with
 | obj o =>
  cases x with
  | obj o' => simp only [wF] at h; subst h; exact .inr (.inr ⟨_, rfl, rfl⟩)
  | _ => simp [wF] at h
 | fresh => cases x <;> simp [wF] at h
 | dead => simp [mL] at hy
 | vart t' ws =>
  cases x with
  | vart t vs => simp only [wF] at h; obtain ⟨rfl, h⟩ := h; exact .inl ⟨_, vs, ws, rfl, rfl, h⟩
  | _ => simp [wF] at h
 | rows v ys =>
  cases x with
  | rows u xs => simp only [wF] at h; exact .inr (.inl ⟨u, xs, rfl, h⟩)
  | _ => simp [wF] at h
theorem oK {Hp Hp' : List (HS C)} {θ : List (Option Nat)} (hs : Sat D w E (aS Hp)) (hf : Fr B E w) (hv : vZ Hp θ Hp' B.m0) :
  iR w E (E.view θ Hp') θ ∧ Sat D w (E.view θ Hp') (aS Hp') ∧ Fr B (E.view θ Hp') w := by
 obtain ⟨hlen, hsome, hnone, hout⟩ := qO Hp θ θ Hp' hv.H
 have hβ : ∀ j, (E.view θ Hp').β j = match mL (aS Hp' j) with | true => .dead | false => match ixL θ j with | some (some d) => E.β d | some none => .virt | none => .fresh := fun j => rfl
 have hEV : iR w E (E.view θ Hp') θ := by
  refine ⟨fun b hb => .inl hb, fun j d hj => ?_, fun j hj => ?_, fun c b hc hb => .inr ⟨c, hc, hb⟩⟩
  ·rw [hβ, (dV θ j d).2 hj]
   cases mL (aS Hp' j)
   ·exact .inl rfl
   ·exact .inr rfl
  ·rw [hβ, hj]
   cases mL (aS Hp' j)
   ·exact .inl rfl
   ·exact .inr rfl
 have hat : ∀ j b, (E.view θ Hp').β j = .loc b → ∃ d, ixO θ j = some d ∧ E.β d = .loc b ∧ mL (aS Hp' j) = false := by
  intro j b e
  rw [hβ] at e
  cases hd : mL (aS Hp' j) with
  | true => rw [hd] at e; cases e
  | false =>
   rw [hd] at e
   cases hj : ixL θ j with
   | none => rw [hj] at e; cases e
   | some q =>
    cases q with
    | none => rw [hj] at e; cases e
    | some d => rw [hj] at e; exact ⟨d, (dV θ j d).1 hj, e, rfl⟩
 refine ⟨hEV, ⟨fun j => ?_, fun j b e => ?_, fun j j' b e e' => ?_, ?_, hs.glob.mono fun b hb => ⟨hEV.F b hb, rfl⟩⟩, ?_⟩
 ·
  rw [hβ]
  cases hd : mL (aS Hp' j) with
  | true =>
   cases hg : aS Hp' j <;> rw [hg] at hd <;> simp [mL] at hd
   rfl
  | false =>
   cases hj : ixL θ j with
   | none => exact hout j hj
   | some q =>
    cases q with
    | none =>
     rcases hnone j hj with h1 | h1
     ·exact h1
     ·rw [h1] at hd; cases hd
    | some d =>
     have hok := hs.ok d
     simp only
     rcases Ch (hsome j d hj) hd with ⟨ty, vs, ws, e1, e2, hl⟩ | ⟨u, xs, e1, e2⟩ | ⟨ob, e1, e2⟩
     ·rw [e1] at hok
      rw [e2]
      cases hb : E.β d with
      | fresh => rw [hb] at hok; simp [HS.ok] at hok
      | dead => rw [hb] at hok; simp [HS.ok] at hok
      | virt => rw [hb] at hok; simp [HS.ok] at hok
      | loc b =>
       rw [hb] at hok
       obtain ⟨cs, T, h1, h2⟩ := hok
       exact ⟨cs, T, h1, view_denC hs hEV vs ws _ hl h2⟩
     ·rw [e1] at hok
      rw [e2]
      cases hb : E.β d with
      | fresh => rw [hb] at hok; simp [HS.ok] at hok
      | dead => rw [hb] at hok; simp [HS.ok] at hok
      | virt => rw [hb] at hok; exact hok
      | loc b =>
       rw [hb] at hok
       obtain ⟨cs, T, h1, h2, h3⟩ := hok
       exact ⟨cs, T, h1, h2, h3.mono fun b hb => ⟨.inl hb, rfl⟩⟩
     ·rw [e1] at hok
      rw [e2]
      cases hb : E.β d with
      | fresh => rw [hb] at hok; simp [HS.ok] at hok
      | dead => rw [hb] at hok; simp [HS.ok] at hok
      | virt => rw [hb] at hok; simp [HS.ok] at hok
      | loc b =>
       rw [hb] at hok
       exact hok
 ·obtain ⟨d, hd, e1, _⟩ := hat j b e
  refine ⟨(hs.own d b e1).1, ?_⟩
  rintro (hF | ⟨c, hc, hb⟩)
  ·exact (hs.own d b e1).2 hF
  ·have := hs.inj c d b hb e1
   subst this
   have := xS θ j c hd
   rw [hc] at this; cases this
 ·obtain ⟨d, hd, e1, _⟩ := hat j b e
  obtain ⟨d', hd', e1', _⟩ := hat j' b e'
  have := hs.inj d d' b e1 e1'
  subst this
  exact tI θ hv.nd j j' d hd hd'
 ·rintro b (hF | ⟨c, _, hb⟩)
  ·exact hs.F b hF
  ·exact (hs.own c b hb).1
 ·refine ⟨hf.os, hf.tape, hf.output, hf.size, hf.same, ⟨fun b hb => ⟨.inl (hf.late.F b hb).1, (hf.late.F b hb).2⟩, fun c => ?_, fun c b e1 e2 cs T hcs => ?_⟩, ?_, fun j b e => ?_⟩
  ·by_cases hc : c < B.m0
   ·rcases sI B.m0 0 θ Hp' hv.id c hc with h1 | ⟨h1, h2⟩
    ·rw [Nat.zero_add] at h1
     rcases hEV.β c c h1 with e | e
     ·rw [e]; exact hf.late.β c
     ·exact .inr (.inl e)
    ·exact .inr (.inl (by rw [hβ, h2]; rfl))
   ·exact .inr (.inr (B.hm0 c (by omega)))
  ·by_cases hc : c < B.m0
   ·rcases sI B.m0 0 θ Hp' hv.id c hc with h1 | ⟨h1, h2⟩
    ·rw [Nat.zero_add] at h1
     have e3 : E.β c = .loc b := by
      rcases hEV.β c c h1 with e | e
      ·rw [← e]; exact e2
      ·rw [e] at e2; cases e2
     exact hf.late.size c b e1 e3 cs T hcs
    ·rw [hβ, h2] at e2; cases e2
   ·rw [B.hm0 c (by omega)] at e1; cases e1
  ·rintro b (hF | ⟨c, _, hb⟩)
   ·exact hf.newF b hF
   ·rcases hf.newO c b hb with h | h
    ·exact .inr (.inl h)
    ·exact .inr (.inr h)
  ·obtain ⟨d, _, e1, _⟩ := hat j b e
   exact hf.newO d b e1
theorem Fe {m0 : Nat} {T T' : List (SV C)} {Hp Hp' : List (HS C)} (θ : List (Option Nat)) (hT : ViewL Hp θ T T') (hv : vZ Hp θ Hp' m0) : Vl D m0 T Hp T' Hp' := by
 rintro B df a w rfl ⟨E, hR, hsz⟩
 obtain ⟨h1, h2, h3⟩ := oK hR.sat hR.fr hv
 have hlen : ∀ (l m : List (SV C)), ViewL Hp θ l m → l.length = m.length := by
  intro l
  induction l with
  | nil => intro m h; cases m with
   | nil => rfl
   | cons y m => simp [ViewL] at h
  | cons x l ih => intro m h; cases m with
   | nil => simp [ViewL] at h
   | cons y m => simp only [ViewL] at h; simp [ih m h.2]
 have hget : ∀ (l m : List (SV C)) (i : Nat) (v : Value), ViewL Hp θ l m → Den D w E (bI l i) v → Den D w (E.view θ Hp') (bI m i) v := by
  intro l
  induction l with
  | nil => intro m i v h _; cases m with
   | nil => trivial
   | cons y m => simp [ViewL] at h
  | cons x l ih => intro m i v h hd; cases m with
   | nil => simp [ViewL] at h
   | cons y m =>
    simp only [ViewL] at h
    cases i with
    | zero => exact pJ hR.sat h1 x y v h.1 hd
    | succ i => exact ih m i v h.2 hd
 exact ⟨_, ⟨fun i => hget T T' i _ hT (hR.den i), h2, h3, hR.defers, hR.marks.mono fun b hb => ⟨h1.F b hb, rfl⟩⟩, by rw [hsz, hlen T T' hT]⟩
structure aG (P : Program) (D : aL C) (f : FuncId) (args : List (SV C)) (H0 : List (HS C)) (ret : SV C) (H1 : List (HS C)) : Prop where
 enter : ∀ args w, (callFunc f args).run P w = .ok (.enter f args) w
 calls : ∀ w E (hm : ∀ c, H0.length ≤ c → E.β c = .fresh) vs, Sat D w E (aS H0) → DenA D w E args vs →
  CallsIn (Fc none) 0 P f vs.toArray w fun e w' => ∃ v E', e = .returned v ∧ Den D w' E' ret v ∧ Sat D w' E' (aS H1) ∧ Fr ⟨w, E, fun b => ∃ c, E.β c = .loc b, H0.length, hm, [], false⟩ E' w'
def fL (D : aL C) (tab : Tab C) (T : List (SV C)) (Hp : List (HS C)) : List ResultVar → Option (List (SV C))
 | [] => some []
 | .tmp t :: r => match fL D tab T Hp r with
  | some l => some (bI T t :: l)
  | none => none
 | .cell t ty :: r => match mN D tab ty (bI T t) (mI Hp [bI T t]) with
  | .val v => match fL D tab T Hp r with
   | some l => some (v :: l)
   | none => none
  | _ => none
def rX : List (SV C) → SV C
 | [x] => x
 | l => .tuple l
def Uw (D : aL C) (tab : Tab C) (rs : List ResultVar) (m0 : Nat) (ret : SV C) (H1 : List (HS C)) : Ca C := fun e T Hp =>
 (e = .normal ∨ e = .ret) ∧ ∃ θ l, fL D tab T Hp rs = some l ∧ jR Hp θ (rX l) ret ∧ vZ Hp θ H1 m0
def Er : Nat → List (SV C)
 | 0 => []
 | n + 1 => .any :: Er n
theorem nK : ∀ n, (Er n : List (SV C)).length = n
 | 0 => rfl
 | n + 1 => by simp [Er, nK n]
theorem uV : ∀ n i, bI (Er n : List (SV C)) i = .any
 | 0, i => rfl
 | n + 1, 0 => rfl
 | n + 1, i + 1 => uV n i
theorem uM : ∀ (l m : List (SV C)) (i : Nat), bI (l ++ m) i = if i < l.length then bI l i else bI m (i - l.length)
 | [], m, i => by simp
 | x :: l, m, 0 => by simp [bI]
 | x :: l, m, i + 1 => by simp [bI, uM l m i]
theorem nR : ∀ (l : List (SV C)) (vs : List Value), DenA D w E l vs → l.length = vs.length
 | [], vs, h => by simp only [DenA] at h; subst h; rfl
 | x :: l, vs, h => by simp only [DenA] at h; obtain ⟨v, v2, rfl, _, h2⟩ := h; simp [nR l v2 h2]
theorem O7 : ∀ (l : List (SV C)) (vs : List Value), DenA D w E l vs → ∀ i, i < l.length → Den D w E (bI l i) (vs.getD i undef)
 | [], vs, _, i, h => by simp at h
 | x :: l, vs, h, i, hi => by
  simp only [DenA] at h
  obtain ⟨v, v2, rfl, h1, h2⟩ := h
  cases i with
  | zero => simpa [bI] using h1
  | succ i => simpa [bI] using O7 l v2 h2 i (by simpa using hi)
def Vr (tmps : Array Value) : ResultVar → Sem Value
 | .tmp t => pure (tmps.getD t undef)
 | .cell q t => do loadVar t (← asAddr (tmps.getD q undef))
theorem Hl {t q : Nat} {u : Value} (h : (Instr.loadAt t (a.tmps.getD q undef)).run P w = .ok u w) : (Vr a.tmps (.cell q t)).run P w = .ok u w := by
 simp only [Vr]
 unfold Instr.loadAt at h
 generalize a.tmps.getD q undef = v at h ⊢
 cases v with
 | pointer ad =>
  cases ad with
  | none => simp [Instr.sureAddr] at h
  | some ad => simpa [Instr.sureAddr, asAddr] using h
 | _ => simp [Instr.sureAddr] at h
theorem zF (hT : bH P D tab) {T : List (SV C)} {Hp : List (HS C)} (hR : Rel D B E (bI T) (aS Hp) df a w) : ∀ (rs : List ResultVar) (l : List (SV C)), fL D tab T Hp rs = some l →
  ∃ vs, (rs.mapM (Vr a.tmps)).run P w = .ok vs w ∧ DenA D w E l vs
 | [], l, h => by
  simp only [fL, Option.some.injEq] at h; subst h
  exact ⟨[], by simp, by simp only [DenA]⟩
 | .tmp t :: r, l, h => by
  simp only [fL] at h
  cases hr : fL D tab T Hp r with
  | none => simp [hr] at h
  | some l' =>
   simp [hr] at h; subst h
   obtain ⟨vs, h1, h2⟩ := zF hT hR r l' hr
   refine ⟨a.tmps.getD t undef :: vs, by simp [List.mapM_cons, h1, Vr], ?_⟩
   simp only [DenA]
   exact ⟨_, _, rfl, hR.den t, h2⟩
 | .cell q t :: r, l, h => by
  simp only [fL] at h
  have hload := G6 (P := P) (t := t) hT hR.sat (hR.den q) (hs := mI Hp [bI T q]) (fun c hc => pX Hp [bI T q] _ (by simp) c hc)
  cases hd : mN D tab t (bI T q) (mI Hp [bI T q]) with
  | val v =>
   rw [hd] at hload h
   simp only at hload h
   obtain ⟨u, h3, h4⟩ := hload
   cases hr : fL D tab T Hp r with
   | none => simp [hr] at h
   | some l' =>
    simp [hr] at h; subst h
    obtain ⟨vs, h1, h2⟩ := zF hT hR r l' hr
    refine ⟨u :: vs, by simp [List.mapM_cons, h1, Hl h3], ?_⟩
    simp only [DenA]
    exact ⟨_, _, rfl, h4, h2⟩
  | _ => rw [hd] at h; simp at h
theorem sZ (hT : bH P D tab) {T : List (SV C)} {Hp : List (HS C)} (hR : Rel D B E (bI T) (aS Hp) df a w) {fn : Func} {l : List (SV C)} (h : fL D tab T Hp fn.results.toList = some l) :
  ∃ v, (results fn a.tmps).run P w = .ok v w ∧ Den D w E (rX l) v := by
 obtain ⟨vs, h1, h2⟩ := zF (P := P) hT hR _ _ h
 have h3 : (fn.results.mapM (Vr a.tmps)).run P w = .ok vs.toArray w := by
  rw [Array.mapM_eq_mapM_toList]
  simp [h1]
 have h4 : (results fn a.tmps).run P w = .ok (if h : vs.toArray.size = 1 then vs.toArray[0] else .tuple vs.toArray) w := by
  have e : results fn a.tmps = (fn.results.mapM (Vr a.tmps) >>= fun vs => pure (if h : vs.size = 1 then vs[0] else .tuple vs)) := by
   unfold results
   congr 1
  rw [e, Sem.run_bind, h3]
  rfl
 refine ⟨_, h4, ?_⟩
 cases l with
 | nil => simp only [DenA] at h2; subst h2; simp only [rX, Den, DenA]; exact ⟨_, by simp, rfl⟩
 | cons x l =>
  cases l with
  | nil =>
   simp only [DenA] at h2
   obtain ⟨v, v2, rfl, h5, rfl⟩ := h2
   simpa [rX] using h5
  | cons y l =>
   have h2' := h2
   simp only [DenA] at h2
   obtain ⟨v, v2, rfl, h5, v3, v4, rfl, h6, h7⟩ := h2
   simp only [rX, Den]
   refine ⟨(v :: v3 :: v4).toArray, by simp, by simpa using h2'⟩
end
end Go.SX
namespace Go.SX
open Go.RowKit
variable {C : Cod}
def eK : Nat → Nat → List (Option Nat)
 | 0, _ => []
 | n + 1, m => some m :: eK n (m + 1)
def fA (θ : List (Option Nat)) : List (HS C) → Option (List (HS C))
 | [] => some []
 | x :: l => match R0 θ x with
  | some y => match fA θ l with
   | some r => some (y :: r)
   | none => none
  | none => none
def dC (H : Nat → HS C) : List (Option Nat) → List (HS C) → Prop
 | [], [] => True
 | some d :: l, h :: m => H d = h ∧ dC H l m
 | _, _ => False
def wA : List (Option Nat) → List (HS C) → List (Nat × HS C)
 | some d :: l, h :: m => (d, h) :: wA l m
 | _, _ => []
section
variable {P : Program} {D : aL C} {tab : Tab C} {B : dZ} {E : Env} {σ : Nat → SV C} {H : Nat → HS C} {df : List Deferred} {a : Act} {w : World}
theorem Fw : ∀ (θ : List (Option Nat)) (m : List (HS C)) (H : Nat → HS C), ndO θ = true → θ.length = m.length → (∀ j, j < θ.length → ∃ d, ixL θ j = some (some d)) →
    (∀ j d, ixO θ j = some d → kH H (wA θ m) d = aS m j) ∧ (∀ c, inO θ c = false → kH H (wA θ m) c = H c) := by
  intro θ
  induction θ with
  | nil => intro m H _ hl _; exact ⟨fun j d h => by simp [ixO] at h, fun c _ => rfl⟩
  | cons x l ih =>
    intro m H hn hl hall
    cases m with
    | nil => simp at hl
    | cons y m =>
      cases x with
      | none => obtain ⟨d, hd⟩ := hall 0 (by simp); simp [ixL] at hd
      | some d =>
        simp only [ndO] at hn
        cases hi : inO l d with
        | true => rw [hi] at hn; simp at hn
        | false =>
          rw [hi] at hn
          obtain ⟨h1, h2⟩ := ih m (upH H d y) hn (by simpa using hl) (fun j hj => by
            obtain ⟨e, he⟩ := hall (j + 1) (by simpa using hj)
            exact ⟨e, by simpa [ixL] using he⟩)
          simp only [wA, kH]
          refine ⟨fun j e hj => ?_, fun c hc => ?_⟩
          · cases j with
            | zero =>
              simp [ixO] at hj; subst hj
              rw [h2 d hi]; simp [upH, aS]
            | succ j => exact h1 j e (by simpa [ixO] using hj)
          · simp only [inO] at hc
            split at hc
            · cases hc
            · rename_i hdc
              rw [h2 c hc]
              simp [upH, Ne.symm hdc]
theorem tK : ∀ (θ : List (Option Nat)) (l m : List (HS C)), fA θ l = some m → l.length = m.length ∧ ∀ j, R0 θ (aS l j) = some (aS m j)
 | θ, [], m, h => by simp only [fA, Option.some.injEq] at h; subst h; exact ⟨rfl, fun j => rfl⟩
 | θ, x :: l, m, h => by
  simp only [fA] at h
  cases hx : R0 θ x with
  | none => simp [hx] at h
  | some y =>
   cases hl : fA θ l with
   | none => simp [hx, hl] at h
   | some r =>
    simp [hx, hl] at h; subst h
    obtain ⟨h1, h2⟩ := tK θ l r hl
    refine ⟨by simp [h1], fun j => ?_⟩
    cases j with
    | zero => exact hx
    | succ j => exact h2 j
theorem xR : ∀ (Hp : Nat → HS C) (ρ : List (Option Nat)) (l : List (HS C)), dC Hp ρ l → ρ.length = l.length ∧ (∀ j, j < ρ.length → ∃ d, ixL ρ j = some (some d)) ∧ ∀ j d, ixO ρ j = some d → Hp d = aS l j
 | Hp, [], [], _ => ⟨rfl, fun j h => by simp at h, fun j d h => by simp [ixO] at h⟩
 | Hp, [], _ :: _, h => by simp [dC] at h
 | Hp, none :: _, _, h => by simp [dC] at h
 | Hp, some d :: l, [], h => by simp [dC] at h
 | Hp, some d :: l, y :: m, h => by
  simp only [dC] at h
  obtain ⟨h1, h2, h3⟩ := xR Hp l m h.2
  refine ⟨by simp [h1], fun j hj => ?_, fun j e hj => ?_⟩
  ·cases j with
   | zero => exact ⟨d, rfl⟩
   | succ j => exact h2 j (by simpa using hj)
  ·cases j with
   | zero => simp [ixO] at hj; subst hj; exact h.1
   | succ j => exact h3 j e (by simpa [ixO] using hj)
theorem Gs {α : Type} : ∀ (l : List α) (j : Nat), ixL l j = none ↔ l.length ≤ j := by
 intro l j; rw [oP]; exact List.getElem?_eq_none_iff
theorem tQ : ∀ (n m j : Nat), ixO (eK n m) j = if j < n then some (m + j) else none
 | 0, m, j => by simp [eK, ixO]
 | n + 1, m, 0 => by simp [eK, ixO]
 | n + 1, m, j + 1 => by
  simp only [eK, ixO, tQ n (m + 1) j, Nat.add_lt_add_iff_right]
  split <;> simp; omega
theorem oD : ∀ (n m : Nat), (eK n m).length = n
 | 0, m => rfl
 | n + 1, m => by simp [eK, oD n]
theorem qN : ∀ (l m : List (Option Nat)) (j : Nat), ixO (l ++ m) j = if j < l.length then ixO l j else ixO m (j - l.length)
 | [], m, j => by simp
 | x :: l, m, 0 => by simp [ixO]
 | x :: l, m, j + 1 => by simp [ixO, qN l m j]
theorem uB : ∀ (l : List (HS C)) (c : Nat), l.length ≤ c → aS l c = .fresh
 | [], c, _ => rfl
 | x :: l, 0, h => by simp at h
 | x :: l, c + 1, h => uB l c (by simpa using h)
def Lx : List (Option Nat) → Nat → Nat
 | [], _ => 0
 | x :: l, c => if x = some c then 0 else Lx l c + 1
theorem cW : ∀ (θ : List (Option Nat)) (c : Nat), inO θ c = true → ixO θ (Lx θ c) = some c
 | [], c, h => by simp [inO] at h
 | none :: l, c, h => by
  simp only [Lx]
  rw [if_neg (by simp)]
  exact cW l c (by simpa [inO] using h)
 | some d :: l, c, h => by
  simp only [Lx, Option.some.injEq]
  by_cases hd : d = c
  ·rw [if_pos hd]; simp [ixO, hd]
  ·rw [if_neg hd]; simp only [inO, if_neg hd] at h; exact cW l c h
theorem Dl {XX : World → List Value → (Ending → World → Prop) → Prop} (hX : ∀ w vs (R R' : Ending → World → Prop), (∀ e w', R e w' → R' e w') → XX w vs R → XX w vs R') {args0 args : List (SV C)} {H0 H0' H1 H1' : List (HS C)} {Hf : Nat → HS C} {nw : Nat} {Ω : Ending → World → Env → Prop}
  (hM : ∀ w E (hm : ∀ c, H0.length ≤ c → E.β c = .fresh) vs, Sat D w E (aS H0) → DenA D w E args0 vs → XX w vs fun e w' => ∃ E', Ω e w' E' ∧ Sat D w' E' (aS H1) ∧ Fr ⟨w, E, fun b => ∃ c, E.β c = .loc b, H0.length, hm, [], false⟩ E' w') (ρ : List (Option Nat))
  (hargs : renL ρ args0 = some args) (hH0 : fA ρ H0 = some H0') (hat : dC Hf ρ H0') (θ : List (Option Nat)) (hθ : θ = ρ ++ eK (H1.length - H0.length) nw) (hfr : ∀ k, k < H1.length - H0.length → Hf (nw + k) = .fresh) (hnd : ndO θ = true) (hle : H0.length ≤ H1.length)
  (hH1 : fA θ H1 = some H1') : ∀ B σ df a w E, Rel D B E σ Hf df a w → ∀ vs, DenA D w E args vs → XX w vs fun e w' => ∃ e1 E1, Ω e w' e1 ∧ E1.F = e1.F ∧ (∀ j d, ixO θ j = some d → e1.β j = E1.β d) ∧ Rel D B E1 σ (kH Hf (wA θ H1')) df a w' := by
 intro B σ df a w E hR vs hd
 obtain ⟨hρl, hρs, hρh⟩ := xR Hf ρ H0' hat
 obtain ⟨hl0, hren0⟩ := tK ρ H0 H0' hH0
 obtain ⟨hl1, hren1⟩ := tK θ H1 H1' hH1
 have hρlen : ρ.length = H0.length := hρl.trans hl0.symm
 have hθlen : θ.length = H1.length := by rw [hθ, List.length_append, oD, hρlen]; omega
 have hθρ : ∀ j, j < H0.length → ixO θ j = ixO ρ j := fun j hj => by rw [hθ, qN, if_pos (by omega)]
 have hθn : ∀ j, H0.length ≤ j → j < H1.length → ixO θ j = some (nw + (j - H0.length)) := fun j h1 h2 => by
  rw [hθ, qN, if_neg (by omega), tQ, hρlen, if_pos (by omega)]
 have hfreshC : ∀ c j, H0.length ≤ j → j < H1.length → some (nw + (j - H0.length)) = some c → Hf c = .fresh := fun c j h1 h2 h3 => by injection h3 with h3; rw [← h3]; exact hfr _ (by omega)
 let e0 : Env := E.sub ρ
 have he0 : ∀ j d, ixO ρ j = some d → e0.β j = E.β d := fun j d hj => by simp [e0, Env.sub, hj]
 have hρlt : ∀ j d, ixO ρ j = some d → j < H0.length := fun j d h => by
  have h1 := (dV ρ j d).2 h
  by_cases hj : j < H0.length
  ·exact hj
  ·have h2 : ixL ρ j = none := (Gs ρ j).2 (by omega)
   rw [h2] at h1; cases h1
 have hθlt : ∀ j d, ixO θ j = some d → j < H1.length := fun j d h => by
  have h1 := (dV θ j d).2 h
  by_cases hj : j < H1.length
  ·exact hj
  ·have h2 : ixL θ j = none := (Gs θ j).2 (by omega)
   rw [h2] at h1; cases h1
 have he0n : ∀ c, H0.length ≤ c → e0.β c = .fresh := fun c hc => by
  have : ixO ρ c = none := by
   cases h : ixO ρ c with
   | none => rfl
   | some d => exact absurd (hρlt c d h) (by omega)
  simp [e0, Env.sub, this]
 have he0at : ∀ j b, e0.β j = .loc b → ∃ d, ixO ρ j = some d ∧ E.β d = .loc b := fun j b e => by
  cases h : ixO ρ j with
  | none => simp [e0, Env.sub, h] at e
  | some d => exact ⟨d, rfl, by rw [← he0 j d h]; exact e⟩
 have hndρ : ∀ j j' d, ixO ρ j = some d → ixO ρ j' = some d → j = j' := fun j j' d h h' =>
  tI θ hnd j j' d (by rw [hθρ j (hρlt j d h)]; exact h) (by rw [hθρ j' (hρlt j' d h')]; exact h')
 have hsat0 : Sat D w e0 (aS H0) := by
  refine ⟨fun j => ?_, fun j b e => ?_, fun j j' b e e' => ?_, hR.sat.F, hR.sat.glob.mono fun b hb => ⟨hb, rfl⟩⟩
  ·by_cases hj : j < H0.length
   ·obtain ⟨d, hd⟩ := hρs j (by omega)
    have hd' := (dV ρ j d).1 hd
    rw [he0 j d hd']
    have hok := hR.sat.ok d
    rw [hρh j d hd'] at hok
    exact (Qb (D := D) (w := w) (E := E) (E' := e0) rfl he0 (hren0 j) _).1 hok
   ·rw [he0n j (by omega), uB H0 j (by omega)]; rfl
  ·obtain ⟨d, _, hd⟩ := he0at j b e
   exact hR.sat.own d b hd
  ·obtain ⟨d, h1, hd⟩ := he0at j b e
   obtain ⟨d', h1', hd'⟩ := he0at j' b e'
   have := hR.sat.inj d d' b hd hd'
   subst this
   exact hndρ j j' d h1 h1'
 have hd0 : DenA D w e0 args0 vs := (ren_denA (D := D) (w := w) (E := E) (E' := e0) rfl he0 args0 args vs hargs).1 hd
 refine hX _ _ _ _ ?_ (hM w e0 he0n vs hsat0 hd0)
 rintro e w' ⟨e1, hΩ, hs1, hf1⟩
 let E1 : Env := { F := e1.F, β := fun c => if inO θ c = true then e1.β (Lx θ c) else E.β c }
 have hE1 : ∀ j d, ixO θ j = some d → e1.β j = E1.β d := fun j d hj => by
  have hin := xS θ j d hj
  have := tI θ hnd _ _ d (cW θ d hin) hj
  simp [E1, hin, this]
 have hE1n : ∀ c, inO θ c = false → E1.β c = E.β c := fun c hc => by simp [E1, hc]
 have hin_of : ∀ j d, ixO ρ j = some d → inO θ d = true := fun j d h => xS θ j d (by rw [hθρ j (hρlt j d h)]; exact h)
 have hforeign : ∀ c b, inO θ c = false → E.β c = .loc b → ¬ ∃ j, e0.β j = .loc b := fun c b hc hb ⟨j, hj⟩ => by
  obtain ⟨d, h1, h2⟩ := he0at j b hj
  have := hR.sat.inj d c b h2 hb
  subst this
  rw [hin_of j d h1] at hc; cases hc
 have hL : cI w E w' E1 := by
  refine ⟨fun b hb => hf1.late.F b hb, fun c => ?_, fun c b e1' e2 cs T hcs => ?_⟩
  ·cases hc : inO θ c with
   | false => exact .inl (hE1n c hc)
   | true =>
    have hp := cW θ c hc
    rw [← hE1 _ c hp]
    by_cases hj : Lx θ c < H0.length
    ·have hp' := hp
     rw [hθρ _ hj] at hp'
     rcases hf1.late.β (Lx θ c) with h | h | h
     ·exact .inl (by rw [h]; exact he0 _ c hp')
     ·exact .inr (.inl h)
     ·exact .inr (.inr (by rw [← he0 _ c hp']; exact h))
    ·have hp' := hp
     rw [hθn _ (by omega) (hθlt _ _ hp)] at hp'
     have hge : Hf c = .fresh := hfreshC c _ (by omega) (hθlt _ _ hp) hp'
     have hok := hR.sat.ok c
     rw [hge] at hok
     exact .inr (.inr (jHβ hR.sat hge))
  ·cases hc : inO θ c with
   | false =>
    have hlt := (hR.sat.own c b e1').1
    exact ⟨cs, T, Row.of (hf1.same b hlt (hforeign c b hc e1')) hcs, rfl⟩
   | true =>
    have hp := cW θ c hc
    rw [← hE1 _ c hp] at e2
    by_cases hj : Lx θ c < H0.length
    ·have hp' := hp
     rw [hθρ _ hj] at hp'
     exact hf1.late.size (Lx θ c) b (by rw [← e1']; exact he0 _ c hp') e2 cs T hcs
    ·have hp' := hp
     rw [hθn _ (by omega) (hθlt _ _ hp)] at hp'
     have hge : Hf c = .fresh := hfreshC c _ (by omega) (hθlt _ _ hp) hp'
     rw [jHβ hR.sat hge] at e1'; cases e1'
 have hθall : ∀ j, j < θ.length → ∃ d, ixL θ j = some (some d) := fun j hj => by
  by_cases h : j < H0.length
  ·obtain ⟨d, hd⟩ := hρs j (by omega)
   exact ⟨d, (dV θ j d).2 (by rw [hθρ j h]; exact (dV ρ j d).1 hd)⟩
  ·exact ⟨_, (dV θ j _).2 (hθn j (by omega) (by omega))⟩
 obtain ⟨hz1, hz2⟩ := Fw θ H1' (Hf) hnd (by omega) hθall
 have hsatE : Sat D w' E1 (kH (Hf) (wA θ H1')) := by
  refine ⟨fun c => ?_, fun c b e => ?_, fun c c' b e e' => ?_, hs1.F, hs1.glob.mono fun b hb => ⟨hb, rfl⟩⟩
  ·cases hc : inO θ c with
   | false =>
    rw [hz2 c hc, hE1n c hc]
    exact HS.ok_mono hL (hR.sat.ok c) fun b hb => hf1.same b (hR.sat.own c b hb).1 (hforeign c b hc hb)
   | true =>
    have hp := cW θ c hc
    rw [hz1 _ c hp, ← hE1 _ c hp]
    exact (Qb (D := D) (w := w') (E := E1) (E' := e1) rfl hE1 (hren1 _) _).2 (hs1.ok _)
  ·cases hc : inO θ c with
   | false =>
    rw [hE1n c hc] at e
    have hlt := (hR.sat.own c b e).1
    refine ⟨Nat.lt_of_lt_of_le hlt hf1.size, fun hF => ?_⟩
    rcases hf1.newF b hF with h | h | h
    ·exact (hR.sat.own c b e).2 h
    ·exact hforeign c b hc e h
    ·exact absurd hlt (Nat.not_lt.2 h)
   | true =>
    have hp := cW θ c hc
    rw [← hE1 _ c hp] at e
    exact hs1.own _ b e
  ·have mixed : ∀ c c' b, inO θ c = true → inO θ c' = false → E1.β c = .loc b → E1.β c' = .loc b → False := fun c c' b hc hc' e e' => by
    have hp := cW θ c hc
    rw [← hE1 _ c hp] at e
    rw [hE1n c' hc'] at e'
    rcases hf1.newO _ b e with h | h
    ·exact hforeign c' b hc' e' h
    ·exact absurd (hR.sat.own c' b e').1 (Nat.not_lt.2 h)
   cases hc : inO θ c with
   | false =>
    cases hc' : inO θ c' with
    | false => rw [hE1n c hc] at e; rw [hE1n c' hc'] at e'; exact hR.sat.inj c c' b e e'
    | true => exact (mixed c' c b hc' hc e' e).elim
   | true =>
    cases hc' : inO θ c' with
    | false => exact (mixed c c' b hc hc' e e').elim
    | true =>
     have hp := cW θ c hc
     have hp' := cW θ c' hc'
     rw [← hE1 _ c hp] at e
     rw [← hE1 _ c' hp'] at e'
     have := hs1.inj _ _ b e e'
     rw [this, hp'] at hp
     simpa using hp.symm
 have hO : ∀ b, (∃ j, e0.β j = .loc b) → B.O b ∨ B.w0.heap.size ≤ b := fun b ⟨j, hj⟩ => by
  obtain ⟨d, _, h2⟩ := he0at j b hj
  exact hR.fr.newO d b h2
 have hfrE : Fr B E1 w' := by
  refine ⟨hf1.os.trans hR.fr.os, hf1.tape.trans hR.fr.tape, hf1.output.trans hR.fr.output, Nat.le_trans hR.fr.size hf1.size, fun b hb ho => ?_, hR.fr.late.trans hL, fun b hF => ?_, fun c b e => ?_⟩
  ·have h1 : ¬ ∃ j, e0.β j = .loc b := fun h => by
    rcases hO b h with h2 | h2
    ·exact ho h2
    ·omega
   exact (hf1.same b (Nat.lt_of_lt_of_le hb hR.fr.size) h1).trans (hR.fr.same b hb ho)
  ·rcases hf1.newF b hF with h | h | h
   ·exact hR.fr.newF b h
   ·exact .inr (hO b h)
   ·exact .inr (.inr (Nat.le_trans hR.fr.size h))
  ·cases hc : inO θ c with
   | false => rw [hE1n c hc] at e; exact hR.fr.newO c b e
   | true =>
    have hp := cW θ c hc
    rw [← hE1 _ c hp] at e
    rcases hf1.newO _ b e with h | h
    ·exact hO b h
    ·exact .inr (Nat.le_trans hR.fr.size h)
 exact ⟨e1, E1, hΩ, rfl, hE1, hR.later hL hsatE hfrE⟩
theorem Ih {f : FuncId} {args0 args : List (SV C)} {H0 H0' H1 H1' : List (HS C)} {Hf : Nat → HS C} {nw : Nat} {Ω : Ending → World → Env → Prop}
  (hM : ∀ w E (hm : ∀ c, H0.length ≤ c → E.β c = .fresh) vs, Sat D w E (aS H0) → DenA D w E args0 vs → CallsIn (Fc none) 0 P f vs.toArray w fun e w' => ∃ E', Ω e w' E' ∧ Sat D w' E' (aS H1) ∧ Fr ⟨w, E, fun b => ∃ c, E.β c = .loc b, H0.length, hm, [], false⟩ E' w') (ρ : List (Option Nat))
  (hargs : renL ρ args0 = some args) (hH0 : fA ρ H0 = some H0') (hat : dC Hf ρ H0') (θ : List (Option Nat)) (hθ : θ = ρ ++ eK (H1.length - H0.length) nw) (hfr : ∀ k, k < H1.length - H0.length → Hf (nw + k) = .fresh) (hnd : ndO θ = true) (hle : H0.length ≤ H1.length)
  (hH1 : fA θ H1 = some H1') : ∀ B σ df a w E, Rel D B E σ Hf df a w → ∀ vs, DenA D w E args vs → CallsIn (Fc none) 0 P f vs.toArray w fun e w' => ∃ e1 E1, Ω e w' e1 ∧ E1.F = e1.F ∧ (∀ j d, ixO θ j = some d → e1.β j = E1.β d) ∧ Rel D B E1 σ (kH Hf (wA θ H1')) df a w' :=
 Dl (XX := fun w vs R => CallsIn (Fc none) 0 P f vs.toArray w R) (fun _ _ _ _ hm h => h.mono hm) hM ρ hargs hH0 hat θ hθ hfr hnd hle hH1
theorem fQ {f : FuncId} {args0 args : List (SV C)} {H0 H0' H1 H1' : List (HS C)} {ret0 ret : SV C} {Hf : Nat → HS C} {nw : Nat} (hM : aG P D f args0 H0 ret0 H1) (ρ : List (Option Nat))
  (hargs : renL ρ args0 = some args) (hH0 : fA ρ H0 = some H0') (hat : dC Hf ρ H0') (θ : List (Option Nat)) (hθ : θ = ρ ++ eK (H1.length - H0.length) nw) (hfr : ∀ k, k < H1.length - H0.length → Hf (nw + k) = .fresh) (hnd : ndO θ = true) (hle : H0.length ≤ H1.length)
  (hH1 : fA θ H1 = some H1') (hret : jO θ ret0 = some ret) : wV P D f args (Hf) ret (wA θ H1') := by
 refine ⟨.inl ⟨hM.enter, fun B σ df a w E hR vs hd => ?_⟩⟩
 refine (Ih (Ω := fun e w' E' => ∃ v, e = .returned v ∧ Den D w' E' ret0 v) (fun w E hm vs hs hd => (hM.calls w E hm vs hs hd).mono fun e w' ⟨v, E', h1, h2, h3, h4⟩ => ⟨E', ⟨v, h1, h2⟩, h3, h4⟩) ρ hargs hH0 hat θ hθ hfr hnd hle hH1 B σ df a w E hR vs hd).mono ?_
 rintro e w' ⟨e1, E1, ⟨v, h1, h2⟩, hF, hE1, hRel⟩
 exact ⟨v, E1, h1, (lJ (D := D) (w := w') (E := E1) (E' := e1) hF.symm hE1 ret0 ret v hret).2 h2, hRel⟩
theorem kV {f : FuncId} {args0 args : List (SV C)} {H0 H0' H1 H1' : List (HS C)} {ret0 ret : SV C} {Hp : List (HS C)} (hM : aG P D f args0 H0 ret0 H1) (ρ : List (Option Nat))
  (hargs : renL ρ args0 = some args) (hH0 : fA ρ H0 = some H0') (hat : dC (aS Hp) ρ H0') (θ : List (Option Nat)) (hθ : θ = ρ ++ eK (H1.length - H0.length) (hlen Hp)) (hnd : ndO θ = true) (hle : H0.length ≤ H1.length)
  (hH1 : fA θ H1 = some H1') (hret : jO θ ret0 = some ret) : wV P D f args (aS Hp) ret (wA θ H1') :=
 fQ hM ρ hargs hH0 hat θ hθ (fun k _ => uB Hp _ (by rw [← qZ]; omega)) hnd hle hH1 hret
def Q0 (θ : List (Option Nat)) : List Nat := θ.filterMap id
theorem rG {H H' : Nat → HS C} : ∀ (ρ : List (Option Nat)) (l : List (HS C)), (∀ c ∈ Q0 ρ, H' c = H c) → dC H ρ l → dC H' ρ l
 | [], [], _, h => h
 | [], _ :: _, _, h => h.elim
 | none :: _, _, _, h => by simp [dC] at h
 | some d :: l, [], _, h => by simp [dC] at h
 | some d :: l, y :: m, hc, h => by
  simp only [dC] at h ⊢
  exact ⟨(hc d (by simp [Q0])).trans h.1, rG l m (fun c hcc => hc c (by simp only [Q0, List.filterMap_cons, id]; exact List.mem_cons_of_mem _ hcc)) h.2⟩
theorem vO (l m : List (Option Nat)) : Q0 (l ++ m) = Q0 l ++ Q0 m := List.filterMap_append
theorem Bt : ∀ (n m k : Nat), k < n → m + k ∈ Q0 (eK n m)
 | 0, m, k, h => by omega
 | n + 1, m, 0, _ => by simp [Q0, eK]
 | n + 1, m, k + 1, h => by
  have := Bt n (m + 1) k (by omega)
  simp only [Q0, eK, List.filterMap_cons, id]
  rw [show m + (k + 1) = m + 1 + k by omega]
  exact List.mem_cons_of_mem _ this
theorem mO {f : FuncId} {args0 args : List (SV C)} {H0 H0' H1 H1' : List (HS C)} {ret0 ret : SV C} {Hp : List (HS C)} (hM : aG P D f args0 H0 ret0 H1) (ρ : List (Option Nat))
  (hargs : renL ρ args0 = some args) (hH0 : fA ρ H0 = some H0') (hat : dC (aS Hp) ρ H0') (θ : List (Option Nat)) (hθ : θ = ρ ++ eK (H1.length - H0.length) (hlen Hp)) (hnd : ndO θ = true) (hle : H0.length ≤ H1.length)
  (hH1 : fA θ H1 = some H1') (hret : jO θ ret0 = some ret) : Ti P D f args (aS Hp) (Q0 θ) ret (wA θ H1') :=
 ⟨fun H hH => fQ hM ρ hargs hH0 (rG ρ H0' (fun c hc => hH c (by rw [hθ, vO]; simp [hc])) hat) θ hθ (fun k hk => (hH _ (by rw [hθ, vO]; exact List.mem_append_right _ (Bt _ _ _ hk))).trans (uB Hp _ (by rw [← qZ]; omega))) hnd hle hH1 hret⟩
theorem W4 {f : FuncId} {args : List (SV C)} {ret : SV C} (hM : aG P D f args [] ret []) (hargs : renL [] args = some args) (hret : jO [] ret = some ret) (H : List (HS C)) : wV P D f args (aS H) ret [] := by
 have := kV (Hp := H) hM [] hargs rfl trivial [] rfl rfl (Nat.le_refl _) rfl hret
 simpa [wA] using this
theorem Cn {next : DK C} {f : FuncId} {args : List (SV C)} {ret : SV C} {dst : Option Nat} {fs fc : List Nat} {tr : List Ent} {T : List (SV C)} {Hp : List (HS C)} (hM : aG P D f args [] ret [])
  (hargs : renL [] args = some args) (hret : jO [] ret = some ret) (h : next (⟨dst, fs, fc ++ [], []⟩ :: tr) (iV T dst ret) Hp) : zA P D next f args dst fs fc tr T Hp :=
 ⟨ret, [], [], ⟨fun H _ => by
  have := fQ (Hf := H) (nw := 0) hM [] hargs rfl trivial [] rfl (fun k hk => by simp at hk) rfl (Nat.le_refl _) rfl hret
  simpa [wA] using this⟩, h⟩
theorem Ct {next : DK C} {f : FuncId} {args0 args : List (SV C)} {H0 H0' H1 H1' : List (HS C)} {ret0 ret : SV C} {dst : Option Nat} {fs fc : List Nat} {tr : List Ent} {T : List (SV C)} {Hp : List (HS C)}
  (ρ : List (Option Nat)) (hM : aG P D f args0 H0 ret0 H1) (hargs : renL ρ args0 = some args) (hH0 : fA ρ H0 = some H0') (hat : dC (aS Hp) ρ H0') (θ : List (Option Nat)) (hθ : θ = ρ ++ eK (H1.length - H0.length) (hlen Hp)) (hnd : ndO θ = true)
  (hle : H0.length ≤ H1.length) (hH1 : fA θ H1 = some H1') (hret : jO θ ret0 = some ret) (h : next (⟨dst, fs, fc ++ Q0 θ, mJ (wA θ H1')⟩ :: tr) (iV T dst ret) (dR Hp (wA θ H1'))) : zA P D next f args dst fs fc tr T Hp :=
 ⟨ret, _, _, mO hM ρ hargs hH0 hat θ hθ hnd hle hH1 hret, h⟩
end
end Go.SX
namespace Go.SX
variable {C : Cod}
def pB : PV C → Value → Bool
 | .int k n, .int k' n' => decide (k = k') && decide (n = n')
 | .bool b, .bool b' => b == b'
 | .str l, .string s => decide (l = s.data.toList)
 | .lit (.slice none 0 0), .slice none 0 0 => true
 | .lit (.pointer none), .pointer none => true
 | .lit (.map none), .map none => true
 | .lit .nilFunc, .nilFunc => true
 | .lit .nilIface, .nilIface => true
 | _, _ => false
def pLB : List (PV C) → List Value → Option (List Value)
 | [], vs => some vs
 | x :: l, v :: vs => if pB x v then pLB l vs else none
 | _ :: _, [] => none
def kJ (D : aL C) : List (SV C) → List Value → Bool
 | [], [] => true
 | .p x :: l, v :: vs => pB x v && kJ D l vs
 | .arr u N xs :: l, vs => decide (xs.length = N) && (match pLB (xs.flatMap (D.enc u)) vs with
  | some r => kJ D l r
  | none => false)
 | _, _ => false
def Rj (P : Program) (size : Nat) : TK → TypeDesc → Bool
 | .int k, .int k' => decide (k' = k)
 | .bool, .bool => true
 | .str, .string => true
 | .struct fs, .struct F => decide (F.toList.map (fun f => (f.offset, f.type)) = fs) && fs.all fun f => (P.info? f.2).isSome
 | .arr n e, .array n' e' => decide (n' = n) && decide (e' = e) && (match P.info? e with | some ie => decide (size = n * ie.size) | none => false)
 | .slice e, .slice e' => decide (e' = e)
 | .ptr e, .pointer e' => decide (e' = e)
 | .uptr, .unsafePointer => true
 | .ifc, .interface _ => true
 | .map k e, .map kt e' => decide (e' = e) && (match P.underlying kt with | some d => (match k, d with | .int q, .int q' => decide (q' = q) | .str, .string => true | _, _ => false) | none => false)
 | .mapg ks e, .map kt e' => decide (e' = e) && ckB P 64 kt ks && Qf P kt
 | .other, d => match d with | .struct _ | .array _ _ => false | _ => true
 | _, _ => false
def zbB (P : Program) (t : TypeId) : TK → Bool
 | .bool => match P.info? t with
  | some info => match info.zero with
   | some (.bool false) => true
   | _ => false
  | none => false
 | _ => true
def tyB (P : Program) (D : aL C) (t : TypeId) (i : TI C) : Bool :=
  (match P.info? t with
    | some info => decide (info.size = i.size) && decide (info.bytes = i.bytes) && (match info.zero with
      | some z => decide (z.cells.size = i.size) && kJ D i.zero z.cells.toList
      | none => false)
    | none => false) &&
  (match P.underlying t with
    | some d => Rj P i.size i.kind d
    | none => false) &&
  decide (0 < i.size) && (match i.code with
    | some u => decide (C.n u = i.size) && (match C.ty u with
      | some t' => decide (t' = t)
      | none => true)
    | none => true) && (match i.typed with
    | true => liesAt P P.depth t (i.size / P.cellsOf t) 0 t 1
    | false => true) && (match i.cks with
    | [] => true
    | l => i.kind.agg && ckB P 64 t l && !P.eqGuardType P.depth t) && zbB P t i.kind
section
variable {P : Program} {D : aL C} {w : World} {E : Env}
theorem Xf {x : PV C} {v : Value} (h : pB x v = true) {F : Nat → Prop} : eM D w F x v := by
 unfold pB at h
 split at h
 ·simp at h; obtain ⟨rfl, rfl⟩ := h; exact .int _ _
 ·simp at h; subst h; exact .bool _
 ·simp at h; subst h; rename_i s; obtain ⟨⟨l⟩⟩ := s; exact .str _
 ·exact .lit _ rfl
 ·exact .lit _ rfl
 ·exact .lit _ rfl
 ·exact .lit _ rfl
 ·exact .lit _ rfl
 ·cases h
theorem Ph {F : Nat → Prop} : ∀ (l : List (PV C)) (vs r : List Value), pLB l vs = some r → ∃ v1, vs = v1 ++ r ∧ bE D w F l v1
 | [], vs, r, h => by simp [pLB] at h; subst h; exact ⟨[], rfl, rfl, fun j pv v hp _ => by simp at hp⟩
 | x :: l, [], r, h => by simp [pLB] at h
 | x :: l, v :: vs, r, h => by
  simp only [pLB] at h
  split at h
  ·rename_i hb
   obtain ⟨v1, rfl, h1⟩ := Ph (F := F) l vs r h
   refine ⟨v :: v1, rfl, by simp [h1.1], fun j pv u hp hu => ?_⟩
   cases j with
   | zero => simp at hp hu; subst hp; subst hu; exact Xf hb
   | succ j => exact h1.2 j pv u (by simpa using hp) (by simpa using hu)
  ·cases h
theorem zJ : ∀ (l : List (SV C)) (vs : List Value), kJ D l vs = true → DenC D w E l vs
 | [], [], _ => by simp only [DenC]
 | [], _ :: _, h => by simp [kJ] at h
 | .p x :: l, [], h => by simp [kJ] at h
 | .p x :: l, v :: vs, h => by
  simp only [kJ, Bool.and_eq_true] at h
  have h1 : eM D w E.F x v := Xf h.1
  simp only [DenC, Den]
  exact ⟨v, vs, rfl, h1.oneCell, h1, zJ l vs h.2⟩
 | .arr u N xs :: l, vs, h => by
  have h' : xs.length = N ∧ (match pLB (xs.flatMap (D.enc u)) vs with | some r => kJ D l r | none => false) = true := by
   cases vs <;> simpa [kJ] using h
  obtain ⟨h1, h2⟩ := h'
  cases hp : pLB (xs.flatMap (D.enc u)) vs with
  | none => rw [hp] at h2; cases h2
  | some r =>
   rw [hp] at h2
   obtain ⟨v1, e, h3⟩ := Ph (D := D) (w := w) (F := E.F) _ vs r hp
   simp only [DenC]
   exact ⟨h1, v1, r, e, h3, zJ l r h2⟩
 | .any :: l, vs, h => by cases vs <;> simp [kJ] at h
 | .ptr _ _ :: l, vs, h => by cases vs <;> simp [kJ] at h
 | .eptr _ _ _ _ _ :: l, vs, h => by cases vs <;> simp [kJ] at h
 | .dptr _ _ :: l, vs, h => by cases vs <;> simp [kJ] at h
 | .slice _ _ _ _ _ :: l, vs, h => by cases vs <;> simp [kJ] at h
 | .agg _ :: l, vs, h => by cases vs <;> simp [kJ] at h
 | .fn _ _ _ :: l, vs, h => by cases vs <;> simp [kJ] at h
 | .iface _ _ :: l, vs, h => by cases vs <;> simp [kJ] at h
 | .tuple _ :: l, vs, h => by cases vs <;> simp [kJ] at h
theorem Mt {size : Nat} {k : TK} {d : TypeDesc} (h : Rj P size k d = true) : iG P size k d := by
 unfold Rj at h
 split at h
 ·simp at h; subst h; rfl
 ·rfl
 ·rfl
 ·simp at h
  exact ⟨_, rfl, h.1, fun f hf => by
   have := h.2 f.1 f.2 hf
   simpa [Option.isSome_iff_ne_none] using this⟩
 ·simp at h
  obtain ⟨⟨rfl, rfl⟩, h2⟩ := h
  split at h2
  ·rename_i ie hie
   exact ⟨rfl, ie, hie, by simpa using h2⟩
  ·cases h2
 ·simp at h; subst h; rfl
 ·simp at h; subst h; rfl
 ·rfl
 ·exact ⟨_, rfl⟩
 ·simp only [Bool.and_eq_true, decide_eq_true_eq] at h
  obtain ⟨rfl, h2⟩ := h
  refine ⟨_, rfl, ?_⟩
  split at h2
  ·rename_i d hd
   split at h2
   ·simp at h2; subst h2; exact hd
   ·exact hd
   ·cases h2
  ·cases h2
 ·simp only [Bool.and_eq_true, decide_eq_true_eq] at h
  obtain ⟨⟨rfl, h2⟩, h3⟩ := h
  exact ⟨_, rfl, h2, h3⟩
 ·simp only [iG]
  exact h
 ·cases h
theorem Wf {t : TypeId} {i : TI C} (h : tyB P D t i = true) : rY P D t i := by
 simp only [tyB, Bool.and_eq_true, decide_eq_true_eq] at h
 obtain ⟨⟨⟨⟨⟨⟨h1, h2⟩, h3⟩, h4⟩, h6⟩, h5⟩, h8⟩ := h
 refine ⟨?_, ?_, h3, fun u hu => ?_, fun u t' hu ht => ?_, fun ht => ?_, fun hk => ?_, fun hc => ?_⟩
 ·split at h1
  ·rename_i info hinfo
   simp only [Bool.and_eq_true, decide_eq_true_eq] at h1
   obtain ⟨⟨h5, h6⟩, h7⟩ := h1
   split at h7
   ·rename_i z hz
    simp only [Bool.and_eq_true, decide_eq_true_eq] at h7
    exact ⟨info, z, hinfo, h5, h6, hz, h7.1, fun w E => zJ _ _ h7.2⟩
   ·cases h7
  ·cases h1
 ·split at h2
  ·rename_i d hd; exact ⟨d, hd, Mt h2⟩
  ·cases h2
 ·rw [hu] at h4; simp only [Bool.and_eq_true, decide_eq_true_eq] at h4; exact h4.1
 ·rw [hu] at h4; simp only [Bool.and_eq_true, decide_eq_true_eq] at h4; rw [ht] at h4; simpa using h4.2
 ·rw [ht] at h6; exact h6
 ·rw [hk] at h8
  simp only [zbB] at h8
  split at h8
  ·rename_i info hi
   split at h8
   ·rename_i hz; exact ⟨info, hi, hz⟩
   ·cases h8
  ·cases h8
 ·split at h5
  ·rename_i h; exact (hc h).elim
  ·simp only [Bool.and_eq_true, Bool.not_eq_true'] at h5
   exact ⟨h5.1.1, h5.1.2, h5.2⟩
end
end Go.SX
namespace Go.SX
structure A5 where
 a : Int
 b : Int
 c : Int
 d : Int
 e : Int
deriving DecidableEq
structure A4 where
 a : Int
 b : Int
 c : Int
 d : Int
deriving DecidableEq
structure A3 where
 a : Int
 b : Int
 c : Int
deriving DecidableEq
structure Us where
 from_ : Int
 to_ : Int
deriving DecidableEq
structure Zi where
 x : Int
 y : Int
deriving DecidableEq
structure aK where
 kind : Int
 rows : List Int
 from_ : Int
 to_ : Int
 low : Int
 high : Int
 clear : Bool
 days : Int
 times : Int
 within : Int
 cents : List Int
 kids : List aK
structure Te where
 id : Int
 owner : Int
 goal : aK
 price : Int
 group : Int
 urgent : Bool
 known : Int
 due : Int
structure aD where
 kind : Int
 at_ : Int
 image : Int
 rows : List Int
 sun : Int
 look : Int
 clear : Bool
deriving DecidableEq
structure Evs where
 l : List aD
deriving DecidableEq
structure Nd where
 ev : Int
 no : Int
 yes : Int
deriving DecidableEq
inductive U where
 | int | bool | str | u8 | u32 | u64 | arr5 | arr4 | arr3 | spell | cell | goal | order | event | evs | node
deriving DecidableEq
@[reducible] def U.El : U → Type
 | .int => Int
 | .bool => Bool
 | .str => List UInt8
 | .u8 => Int
 | .u32 => Int
 | .u64 => Int
 | .arr5 => A5
 | .arr4 => A4
 | .arr3 => A3
 | .spell => Us
 | .cell => Zi
 | .goal => aK
 | .order => Te
 | .event => aD
 | .evs => Evs
 | .node => Nd
def U.dflt : (u : U) → u.El
 | .int => (0 : Int)
 | .bool => false
 | .str => ([] : List UInt8)
 | .u8 => (0 : Int)
 | .u32 => (0 : Int)
 | .u64 => (0 : Int)
 | .arr5 => (⟨0, 0, 0, 0, 0⟩ : A5)
 | .arr4 => (⟨0, 0, 0, 0⟩ : A4)
 | .arr3 => (⟨0, 0, 0⟩ : A3)
 | .spell => (⟨0, 0⟩ : Us)
 | .cell => (⟨0, 0⟩ : Zi)
 | .goal => (⟨0, [], 0, 0, 0, 0, false, 0, 0, 0, [], []⟩ : aK)
 | .order => (⟨0, 0, (⟨0, [], 0, 0, 0, 0, false, 0, 0, 0, [], []⟩), 0, 0, false, 0, 0⟩ : Te)
 | .event => (⟨0, 0, 0, [], 0, 0, false⟩ : aD)
 | .evs => (⟨[]⟩ : Evs)
 | .node => (⟨0, 0, 0⟩ : Nd)
def U.n : U → Nat
 | .int => 1
 | .bool => 1
 | .str => 1
 | .u8 => 1
 | .u32 => 1
 | .u64 => 1
 | .arr5 => 5
 | .arr4 => 4
 | .arr3 => 3
 | .spell => 2
 | .cell => 2
 | .goal => 12
 | .order => 19
 | .event => 7
 | .evs => 1
 | .node => 3
def U.glob : Nat → List Value
 | 1 => [.int .u8 0, .int .u8 1, .int .u8 56, .int .u8 2, .int .u8 57, .int .u8 49, .int .u8 28, .int .u8 3, .int .u8 61, .int .u8 58, .int .u8 42, .int .u8 50, .int .u8 38, .int .u8 29, .int .u8 17, .int .u8 4, .int .u8 62, .int .u8 47, .int .u8 59, .int .u8 36, .int .u8 45, .int .u8 43, .int .u8 51, .int .u8 22, .int .u8 53, .int .u8 39, .int .u8 33, .int .u8 30, .int .u8 24, .int .u8 18, .int .u8 12, .int .u8 5, .int .u8 63, .int .u8 55, .int .u8 48, .int .u8 27, .int .u8 60, .int .u8 41, .int .u8 37, .int .u8 16, .int .u8 46, .int .u8 35, .int .u8 44, .int .u8 21, .int .u8 52, .int .u8 32, .int .u8 23, .int .u8 11, .int .u8 54, .int .u8 26, .int .u8 40, .int .u8 15, .int .u8 34, .int .u8 20, .int .u8 31, .int .u8 10, .int .u8 25, .int .u8 14, .int .u8 19, .int .u8 9, .int .u8 13, .int .u8 8, .int .u8 7, .int .u8 6]
 | _ => []
def U.gifc : Nat → Bool
 | _ => false
def U.ty : U → Option TypeId
 | .u8 => some 5
 | _ => none
@[reducible] def Cd : Cod := { U := U, El := U.El, dflt := U.dflt, n := U.n, glob := U.glob, ty := U.ty, gifc := U.gifc }
def W6 : (u : U) → u.El → List (PV Cd)
 | .int, x => [.int .i64 x]
 | .bool, x => [.bool x]
 | .str, x => [.str x]
 | .u8, x => [.int .u8 x]
 | .u32, x => [.int .u32 x]
 | .u64, x => [.int .u64 x]
 | .arr5, x => [.int .i64 x.a, .int .i64 x.b, .int .i64 x.c, .int .i64 x.d, .int .i64 x.e]
 | .arr4, x => [.int .i64 x.a, .int .i64 x.b, .int .i64 x.c, .int .i64 x.d]
 | .arr3, x => [.int .i64 x.a, .int .i64 x.b, .int .i64 x.c]
 | .spell, x => [.int .i64 x.from_, .int .i64 x.to_]
 | .cell, x => [.int .i64 x.x, .int .i64 x.y]
 | .goal, x => [.int .i64 x.kind, .dsl U.int x.rows, .int .i64 x.from_, .int .i64 x.to_, .int .i64 x.low, .int .i64 x.high, .bool x.clear, .int .i64 x.days, .int .i64 x.times, .int .i64 x.within, .dsl U.int x.cents, .dsl U.goal x.kids]
 | .order, x => [.int .i64 x.id, .int .i64 x.owner, .int .i64 x.goal.kind, .dsl U.int x.goal.rows, .int .i64 x.goal.from_, .int .i64 x.goal.to_, .int .i64 x.goal.low, .int .i64 x.goal.high, .bool x.goal.clear, .int .i64 x.goal.days, .int .i64 x.goal.times, .int .i64 x.goal.within, .dsl U.int x.goal.cents, .dsl U.goal x.goal.kids, .int .i64 x.price, .int .i64 x.group, .bool x.urgent, .int .i64 x.known, .int .i64 x.due]
 | .event, x => [.int .i64 x.kind, .int .i64 x.at_, .int .i64 x.image, .dsl U.int x.rows, .int .i64 x.sun, .int .i64 x.look, .bool x.clear]
 | .evs, x => [.dsl U.event x.l]
 | .node, x => [.int .i64 x.ev, .int .i64 x.no, .int .i64 x.yes]
def q0d : (u : U) → List (PV Cd) → Option u.El
 | .int, [.int .i64 a0] => some a0
 | .bool, [.bool a0] => some a0
 | .str, [.str a0] => some a0
 | .u8, [.int .u8 a0] => some a0
 | .u32, [.int .u32 a0] => some a0
 | .u64, [.int .u64 a0] => some a0
 | .arr5, [.int .i64 a0, .int .i64 a1, .int .i64 a2, .int .i64 a3, .int .i64 a4] => some (⟨a0, a1, a2, a3, a4⟩ : A5)
 | .arr4, [.int .i64 a0, .int .i64 a1, .int .i64 a2, .int .i64 a3] => some (⟨a0, a1, a2, a3⟩ : A4)
 | .arr3, [.int .i64 a0, .int .i64 a1, .int .i64 a2] => some (⟨a0, a1, a2⟩ : A3)
 | .spell, [.int .i64 a0, .int .i64 a1] => some (⟨a0, a1⟩ : Us)
 | .cell, [.int .i64 a0, .int .i64 a1] => some (⟨a0, a1⟩ : Zi)
 | .goal, [.int .i64 a0, .dsl U.int a1, .int .i64 a2, .int .i64 a3, .int .i64 a4, .int .i64 a5, .bool a6, .int .i64 a7, .int .i64 a8, .int .i64 a9, .dsl U.int a10, .dsl U.goal a11] => some (⟨a0, a1, a2, a3, a4, a5, a6, a7, a8, a9, a10, a11⟩ : aK)
 | .order, [.int .i64 a0, .int .i64 a1, .int .i64 a2, .dsl U.int a3, .int .i64 a4, .int .i64 a5, .int .i64 a6, .int .i64 a7, .bool a8, .int .i64 a9, .int .i64 a10, .int .i64 a11, .dsl U.int a12, .dsl U.goal a13, .int .i64 a14, .int .i64 a15, .bool a16, .int .i64 a17, .int .i64 a18] => some (⟨a0, a1, ⟨a2, a3, a4, a5, a6, a7, a8, a9, a10, a11, a12, a13⟩, a14, a15, a16, a17, a18⟩ : Te)
 | .event, [.int .i64 a0, .int .i64 a1, .int .i64 a2, .dsl U.int a3, .int .i64 a4, .int .i64 a5, .bool a6] => some (⟨a0, a1, a2, a3, a4, a5, a6⟩ : aD)
 | .evs, [.dsl U.event a0] => some (⟨a0⟩ : Evs)
 | .node, [.int .i64 a0, .int .i64 a1, .int .i64 a2] => some (⟨a0, a1, a2⟩ : Nd)
 | _, _ => none
theorem Ru (u : U) (l : List (PV Cd)) (x : u.El) (h : q0d u l = some x) : W6 u x = l := by
 unfold q0d at h
 split at h <;> first | (injection h with h; subst h; rfl) | (injection h)
def Dc : aL Cd where
 enc := W6
 dec := q0d
 dec_ok := Ru
 enc_len := by intro u x; cases u <;> rfl
 n_pos := by intro u; cases u <;> decide
def Ui : (u u' : U) → List u'.El → Option (List u.El)
 | .int, .int, l => some l
 | .bool, .bool, l => some l
 | .str, .str, l => some l
 | .u8, .u8, l => some l
 | .u32, .u32, l => some l
 | .u64, .u64, l => some l
 | .arr5, .arr5, l => some l
 | .arr4, .arr4, l => some l
 | .arr3, .arr3, l => some l
 | .spell, .spell, l => some l
 | .cell, .cell, l => some l
 | .goal, .goal, l => some l
 | .order, .order, l => some l
 | .event, .event, l => some l
 | .evs, .evs, l => some l
 | .node, .node, l => some l
 | _, _, _ => none
theorem Lt (u u' : U) (ys : List u'.El) (zs : List u.El) (h : Ui u u' ys = some zs) : zs.map (W6 u) = ys.map (W6 u') ∧ u.n = u'.n := by
 unfold Ui at h
 split at h <;> first | (injection h with h; subst h; exact ⟨rfl, rfl⟩) | (injection h)
def ckU : U → List CK
 | .int => [.int .i64]
 | .bool => [.bool]
 | .str => [.str]
 | .u8 => [.int .u8]
 | .u32 => [.int .u32]
 | .u64 => [.int .u64]
 | .arr5 => [.int .i64, .int .i64, .int .i64, .int .i64, .int .i64]
 | .arr4 => [.int .i64, .int .i64, .int .i64, .int .i64]
 | .arr3 => [.int .i64, .int .i64, .int .i64]
 | .spell => [.int .i64, .int .i64]
 | .cell => [.int .i64, .int .i64]
 | .node => [.int .i64, .int .i64, .int .i64]
 | _ => []
theorem Wi (u : U) (h : ckU u ≠ []) (x : u.El) : (W6 u x).map Em = (ckU u).map some := by
 cases u <;> first | rfl | exact (h rfl).elim
theorem Mz (u : U) (h : ckU u ≠ []) (x y : u.El) (e : W6 u x = W6 u y) : x = y := by
 cases u <;> first | exact (h rfl).elim | (simp [W6] at e; first | exact e | (cases x; cases y; simp_all))
theorem vF {α β : Type} (f : α → List β) (n : Nat) (hn : 0 < n) (hf : ∀ x, (f x).length = n) (hi : ∀ x y, f x = f y → x = y) : ∀ xs ys : List α, xs.flatMap f = ys.flatMap f → xs = ys
 | [], [], _ => rfl
 | [], y :: ys, h => by have := congrArg List.length h; simp [hf] at this; omega
 | x :: xs, [], h => by have := congrArg List.length h; simp [hf] at this; omega
 | x :: xs, y :: ys, h => by
  simp only [List.flatMap_cons] at h
  have h1 := List.append_inj h (by rw [hf, hf])
  rw [hi x y h1.1, vF f n hn hf hi xs ys h1.2]
def eqU : (u u' : U) → List u.El → List u'.El → Option Bool
 | .int, .int, xs, ys => some (decide (xs = ys))
 | .bool, .bool, xs, ys => some (decide (xs = ys))
 | .str, .str, xs, ys => some (decide (xs = ys))
 | .u8, .u8, xs, ys => some (decide (xs = ys))
 | .u32, .u32, xs, ys => some (decide (xs = ys))
 | .u64, .u64, xs, ys => some (decide (xs = ys))
 | .arr5, .arr5, xs, ys => some (decide (xs = ys))
 | .arr4, .arr4, xs, ys => some (decide (xs = ys))
 | .arr3, .arr3, xs, ys => some (decide (xs = ys))
 | .spell, .spell, xs, ys => some (decide (xs = ys))
 | .cell, .cell, xs, ys => some (decide (xs = ys))
 | .node, .node, xs, ys => some (decide (xs = ys))
 | _, _, _, _ => none
theorem nJ {α β : Type} (f : α → β) : ∀ xs : List α, (xs.flatMap fun x => [f x]) = xs.map f
 | [] => rfl
 | x :: xs => by rw [List.flatMap_cons, nJ f xs]; rfl
def Ji : (u : U) → List UInt8 → Option (List u.El)
 | .u8, l => some (l.map fun b => (b.toNat : Int))
 | _, _ => none
theorem Id (u : U) (l : List UInt8) (xs : List u.El) (h : Ji u l = some xs) : U.n u = 1 ∧ xs.flatMap (W6 u) = l.map (fun b => PV.int .u8 b.toNat) := by
 unfold Ji at h
 split at h
 ·injection h with h; subst h
  refine ⟨rfl, ?_⟩
  have h1 := nJ (fun n : Int => (PV.int .u8 n : PV Cd)) (l.map fun b => (b.toNat : Int))
  rw [List.map_map] at h1
  exact h1
 ·cases h
def Zy : (u : U) → List u.El → Option (List UInt8)
 | .u8, xs => some (xs.map fun n : Int => UInt8.ofNat n.toNat)
 | _, _ => none
theorem Rs (u : U) (xs : List u.El) (l : List UInt8) (h : Zy u xs = some l) : U.n u = 1 ∧ ∃ ns : List Int, xs.flatMap (W6 u) = ns.map (PV.int .u8) ∧ l = ns.map (fun n => UInt8.ofNat n.toNat) := by
 unfold Zy at h
 split at h
 ·injection h with h; subst h
  exact ⟨rfl, _, nJ (fun n : Int => (PV.int .u8 n : PV Cd)) _, rfl⟩
 ·cases h
theorem Xs (u u' : U) (xs : List u.El) (ys : List u'.El) (b : Bool) (h : eqU u u' xs ys = some b) : ckU u ≠ [] ∧ ckU u' ≠ [] ∧ (b = true ↔ xs.flatMap (W6 u) = ys.flatMap (W6 u')) := by
 have key : ∀ (u : U) (hu : ckU u ≠ []) (xs ys : List u.El), (xs = ys ↔ xs.flatMap (W6 u) = ys.flatMap (W6 u)) := fun u hu xs ys =>
  ⟨fun e => by rw [e], vF (W6 u) u.n (Dc.n_pos u) (fun x => Dc.enc_len u x) (Mz u hu) xs ys⟩
 unfold eqU at h
 split at h
 all_goals first
  | (injection h with h; subst h; refine ⟨by decide, by decide, ?_⟩; rw [decide_eq_true_iff]; exact key _ (by decide) _ _)
  | (injection h)
def Ax : Aux Cd Dc where
 castL := Ui
 castL_ok := Lt
 ckA := ckU
 ckA_ok := Wi
 eqA := eqU
 eqA_ok := Xs
 ofBytes := Ji
 ofBytes_ok := Id
 toBytes := Zy
 toBytes_ok := Rs
theorem nI {n : Int} (h1 : -9223372036854775808 ≤ n) (h2 : n ≤ 9223372036854775807) : InR .i64 n := by
 show IntKind.i64.wrap n = n
 exact IntWalk.i64_in n ⟨h1, h2⟩
end Go.SX
