/-
  SX, part P: one state seen as another: numbers renamed, what is dropped becomes persistent.
-/
import Derived.Test.YtdaghncicimipaaGreatDoorSxO
set_option linter.unusedVariables false
set_option linter.unusedSimpArgs false
namespace Go.SX
open Go.RowKit
variable {C : Cod}

def inO : List (Option Nat) → Nat → Bool
  | [], _ => false
  | none :: l, c => inO l c
  | some d :: l, c => if d = c then true else inO l c

/-- how a slice of a dropped chunk is seen: as persistent data -/
def FrozenAs (Hp : List (HS C)) (θ : List (Option Nat)) (c o n off len : Nat) (u : C.U) (ys : List (C.El u)) : Prop :=
  ∃ xs, getC Hp c = .rows u xs ∧ o = 0 ∧ n = C.n u ∧ off + len ≤ xs.length ∧ ys = (xs.drop off).take len ∧ inO θ c = false

/-- one cell of a variable, seen as persistent data -/
def ViewP (Hp : List (HS C)) (θ : List (Option Nat)) : SV C → PV C → Prop
  | .slice c o n off len, .dsl u ys => FrozenAs Hp θ c o n off len u ys
  | .p (.lit (.slice none 0 0)), .dsl _ ys => ys = []
  | .p x, y => x = y
  | _, _ => False
def ViewPs (Hp : List (HS C)) (θ : List (Option Nat)) : List (SV C) → List (PV C) → Prop
  | [], [] => True
  | x :: l, y :: m => ViewP Hp θ x y ∧ ViewPs Hp θ l m
  | _, _ => False
/-- a pointer into a dropped variable: into persistent cells -/
def FrozenVar (Hp : List (HS C)) (θ : List (Option Nat)) (c : Nat) (cells : List (PV C)) : Prop :=
  ∃ t vs, getC Hp c = .vart t vs ∧ ViewPs Hp θ vs cells ∧ inO θ c = false
mutual
def View (Hp : List (HS C)) (θ : List (Option Nat)) : SV C → SV C → Prop
  | .arr _ _ _, .any => False
  | _, .any => True
  | .agg vs, .agg ws => ViewL Hp θ vs ws
  | .tuple vs, .tuple ws => ViewL Hp θ vs ws
  | .fn f a b, .fn f' a' b' => f' = f ∧ ViewL Hp θ a a' ∧ ViewL Hp θ b b'
  | .ptr c o, .dptr cells f => f = o ∧ FrozenVar Hp θ c cells
  | .slice c o n off len, .p (.dsl u ys) => FrozenAs Hp θ c o n off len u ys
  | .p (.lit (.slice none 0 0)), .p (.dsl _ ys) => ys = []
  | .p (.lit (.slice none 0 0)), .slice j _ _ _ len => ixL θ j = some none ∧ len = 0
  | .p x, .p y => x = y
  | x, y => renS θ y = some x
def ViewL (Hp : List (HS C)) (θ : List (Option Nat)) : List (SV C) → List (SV C) → Prop
  | [], [] => True
  | x :: l, y :: m => View Hp θ x y ∧ ViewL Hp θ l m
  | _, _ => False
end
def ViewH (Hp : List (HS C)) (θ : List (Option Nat)) : HS C → HS C → Prop
  | _, .dead => True
  | .vart t vs, .vart t' ws => t' = t ∧ ViewL Hp θ vs ws
  | .rows u xs, .rows v ys => (.rows v ys : HS C) = .rows u xs
  | .obj o, .obj o' => o' = o
  | _, _ => False
def ViewHs (Hp : List (HS C)) (θ : List (Option Nat)) : List (Option Nat) → List (HS C) → Prop
  | [], [] => True
  | some d :: l, h :: m => ViewH Hp θ (getC Hp d) h ∧ ViewHs Hp θ l m
  | none :: l, h :: m => (∃ u, h = .rows u []) ∧ ViewHs Hp θ l m
  | _, _ => False

/-- the first m numbers stay -/
def idO : Nat → Nat → List (Option Nat) → Bool
  | 0, _, _ => true
  | m + 1, k, some d :: l => if d = k then idO m (k + 1) l else false
  | _, _, _ => false
/-- no number twice -/
def ndO : List (Option Nat) → Bool
  | [] => true
  | none :: l => ndO l
  | some d :: l => match inO l d with
    | true => false
    | false => ndO l

section
variable {P : Program} {D : Codec C} {B : Base} {E : Env} {df : List Deferred} {a : Act} {w : World}

theorem ixO_in : ∀ (θ : List (Option Nat)) (j d : Nat), ixO θ j = some d → inO θ d = true
  | [], j, d, h => by simp [ixO] at h
  | x :: l, 0, d, h => by simp [ixO] at h; subst h; simp [inO]
  | x :: l, j + 1, d, h => by
    have ih := ixO_in l j d (by simpa [ixO] using h)
    cases x with
    | none => simpa [inO] using ih
    | some e => simp only [inO]; split <;> first | rfl | exact ih
theorem ndO_inj : ∀ (θ : List (Option Nat)), ndO θ = true → ∀ j j' d, ixO θ j = some d → ixO θ j' = some d → j = j'
  | [], _, j, j', d, h, _ => by simp [ixO] at h
  | x :: l, hn, j, j', d, h, h' => by
    cases x with
    | none =>
      cases j with
      | zero => simp [ixO] at h
      | succ j =>
        cases j' with
        | zero => simp [ixO] at h'
        | succ j' => rw [ndO_inj l (by simpa [ndO] using hn) j j' d (by simpa [ixO] using h) (by simpa [ixO] using h')]
    | some e =>
      simp only [ndO] at hn
      cases hi : inO l e with
      | true => rw [hi] at hn; simp at hn
      | false =>
        rw [hi] at hn
        cases j with
        | zero =>
          simp [ixO] at h; subst h
          cases j' with
          | zero => rfl
          | succ j' => have := ixO_in l j' e (by simpa [ixO] using h'); rw [hi] at this; cases this
        | succ j =>
          cases j' with
          | zero => simp [ixO] at h'; subst h'; have := ixO_in l j e (by simpa [ixO] using h); rw [hi] at this; cases this
          | succ j' => rw [ndO_inj l hn j j' d (by simpa [ixO] using h) (by simpa [ixO] using h')]
theorem idO_spec : ∀ (m k : Nat) (θ : List (Option Nat)), idO m k θ = true → ∀ c, c < m → ixO θ c = some (k + c)
  | 0, _, _, _, c, hc => absurd hc (Nat.not_lt_zero _)
  | m + 1, k, [], h, c, hc => by simp [idO] at h
  | m + 1, k, none :: l, h, c, hc => by simp [idO] at h
  | m + 1, k, some d :: l, h, c, hc => by
    simp only [idO] at h
    split at h
    · rename_i hd
      subst hd
      cases c with
      | zero => simp [ixO]
      | succ c =>
        have := idO_spec m (d + 1) l h c (by omega)
        simp only [ixO, this]
        congr 1
        omega
    · cases h

theorem ixO_of_ixL (θ : List (Option Nat)) (j d : Nat) : ixL θ j = some (some d) ↔ ixO θ j = some d := by
  induction θ generalizing j with
  | nil => simp [ixL, ixO]
  | cons x l ih => cases j with
    | zero => simp [ixL, ixO]
    | succ j => simpa [ixL, ixO] using ih j

theorem viewHs_get : ∀ (Hp : List (HS C)) (θ l : List (Option Nat)) (m : List (HS C)), ViewHs Hp θ l m → l.length = m.length ∧
    (∀ j d, ixL l j = some (some d) → ViewH Hp θ (getC Hp d) (getC m j)) ∧ (∀ j, ixL l j = some none → ∃ u, getC m j = .rows u []) ∧ (∀ j, ixL l j = none → getC m j = .fresh)
  | Hp, θ, [], [], h => ⟨rfl, fun j d h => by simp [ixL] at h, fun j h => by simp [ixL] at h, fun j _ => rfl⟩
  | Hp, θ, [], _ :: _, h => by simp [ViewHs] at h
  | Hp, θ, some d :: l, [], h => by simp [ViewHs] at h
  | Hp, θ, none :: l, [], h => by simp [ViewHs] at h
  | Hp, θ, some d :: l, y :: m, h => by
    simp only [ViewHs] at h
    obtain ⟨h1, h2, h3, h4⟩ := viewHs_get Hp θ l m h.2
    refine ⟨by simp [h1], fun j e hj => ?_, fun j hj => ?_, fun j hj => ?_⟩
    · cases j with
      | zero => simp [ixL] at hj; subst hj; exact h.1
      | succ j => exact h2 j e (by simpa [ixL] using hj)
    · cases j with
      | zero => simp [ixL] at hj
      | succ j => exact h3 j (by simpa [ixL] using hj)
    · cases j with
      | zero => simp [ixL] at hj
      | succ j => exact h4 j (by simpa [ixL] using hj)
  | Hp, θ, none :: l, y :: m, h => by
    simp only [ViewHs] at h
    obtain ⟨h1, h2, h3, h4⟩ := viewHs_get Hp θ l m h.2
    refine ⟨by simp [h1], fun j e hj => ?_, fun j hj => ?_, fun j hj => ?_⟩
    · cases j with
      | zero => simp [ixL] at hj
      | succ j => exact h2 j e (by simpa [ixL] using hj)
    · cases j with
      | zero => exact h.1
      | succ j => exact h3 j (by simpa [ixL] using hj)
    · cases j with
      | zero => simp [ixL] at hj
      | succ j => exact h4 j (by simpa [ixL] using hj)

/-- what is asked of the new environment -/
structure EnvView (w : World) (E E' : Env) (θ : List (Option Nat)) : Prop where
  F : ∀ b, E.F b → E'.F b
  β : ∀ j d, ixO θ j = some d → E'.β j = E.β d ∨ E'.β j = .dead
  virt : ∀ j, ixL θ j = some none → E'.β j = .virt ∨ E'.β j = .dead
  drop : ∀ c b, inO θ c = false → E.β c = .loc b → E'.F b

def Env.sub (E : Env) (θ : List (Option Nat)) : Env := { F := E.F, β := fun j => match ixO θ j with | some d => E.β d | none => .fresh }

theorem view_ren {E' : Env} {θ : List (Option Nat)} (hV : EnvView w E E' θ) {x y : SV C} {v : Value} (h : renS θ y = some x) (hd : Den D w E x v) : Den D w E' y v := by
  have h1 := (ren_den (D := D) (w := w) (E := E) (E' := E.sub θ) rfl (fun j d hj => by simp [Env.sub, hj]) y x v h).1 hd
  have hL : Later w (E.sub θ) w E' := by
    refine ⟨fun b hb => ⟨hV.F b hb, rfl⟩, fun j => ?_, fun _ _ _ _ cs T hc => ⟨cs, T, hc, rfl⟩⟩
    cases hj : ixO θ j with
    | none => exact .inr (.inr (by simp [Env.sub, hj]))
    | some d =>
      rcases hV.β j d hj with e | e
      · exact .inl (by simp [Env.sub, hj, e])
      · exact .inr (.inl e)
  exact Den.mono hL y v h1

theorem view_arr {Hp : List (HS C)} {θ : List (Option Nat)} {u : C.U} {N : Nat} {xs : List (C.El u)} {y : SV C} (h : View Hp θ (.arr u N xs) y) : y = .arr u N xs := by
  have key : ∀ z : SV C, renS θ z = some (.arr u N xs) → z = .arr u N xs := fun z hz => by
    have h1 := renS_isArr hz
    have h2 : z.isArr = true := by rw [← h1]; rfl
    obtain ⟨u', N', xs', rfl⟩ := SV.arr_of h2
    simpa [renS] using hz
  cases y with
  | any => simp only [View] at h
  | _ => exact key _ (by simpa only [View] using h)

theorem view_frozen {E' : Env} {θ : List (Option Nat)} {Hp : List (HS C)} (hs : Sat D w E (getC Hp)) (hV : EnvView w E E' θ) {c o n off len : Nat} {u : C.U} {ys : List (C.El u)} {v : Value}
    (h : FrozenAs Hp θ c o n off len u ys) (hd : Den D w E (.slice c o n off len) v) : PDen D w E'.F (.dsl u ys) v := by
  obtain ⟨xs, h1, rfl, rfl, h2, rfl, h3⟩ := h
  have hl : (getC Hp c).live = true := by rw [h1]; rfl
  have hylen : ((xs.drop off).take len).length = len := by simp; omega
  rcases slice_live hs hl hd with ⟨rfl, hn⟩ | ⟨b, cap, cs, T, hb, e, hlc, hcs, hsz⟩
  · simp only [List.take_zero]
    rcases hn with ⟨ad, e, _⟩ | ⟨ad, b, e, _⟩
    · rw [e]; exact .dslNil u _ _
    · rw [e]; exact .dslNil u _ _
  · have hok := hs.ok c
    rw [hb, h1] at hok
    obtain ⟨cs', T', hcs', hz1, hz2⟩ := hok
    obtain ⟨rfl, rfl⟩ := hcs.inj hcs'.1
    have hsq : SqOK D w E b 0 (.some u xs) := ⟨cs, T, hcs, by omega, by simpa using hz2⟩
    have hF' : E'.F b := hV.drop c b h3 hb
    -- the cells, chosen
    have hcell : ∀ (i : Nat) (x : C.El u), ((xs.drop off).take len)[i]? = some x → ∀ (j : Nat) (pv : PV C), (D.enc u x)[j]? = some pv →
        ∃ v, w.cell? ⟨b, 0 + off * C.n u + i * C.n u + j, none⟩ = some v ∧ PDen D w E.F pv v := by
      intro i x hx j pv hp
      rw [List.getElem?_take] at hx
      split at hx
      · rename_i hi
        rw [List.getElem?_drop] at hx
        have hlt : off + i < xs.length := (List.getElem?_eq_some_iff.1 hx).1
        have hg : xs.getD (off + i) (C.dflt u) = x := by simp [List.getD_eq_getElem?_getD, hx]
        obtain ⟨v, h4, h5⟩ := sq_cells hsq hlt j pv (by rw [hg]; exact hp)
        refine ⟨v, ?_, h5⟩
        rw [show 0 + off * C.n u + i * C.n u + j = 0 + (off + i) * C.n u + j by rw [Nat.add_mul]; omega]
        exact h4
      · cases hx
    rw [e]
    have hfin := PDen.dsl (D := D) (w := w) (F := E'.F) u ((xs.drop off).take len) b (0 + off * C.n u) cap (fun i j => (w.cell? ⟨b, 0 + off * C.n u + i * C.n u + j, none⟩).getD undef) (fun _ => hF') (by rw [hylen]; exact hlc)
      (fun i x hx j pv hp => by obtain ⟨v, h4, _⟩ := hcell i x hx j pv hp; rw [h4]; rfl)
      (fun i x hx j pv hp => by
        obtain ⟨v, h4, h5⟩ := hcell i x hx j pv hp
        simp only [h4, Option.getD_some]
        exact h5.mono fun b hb => ⟨hV.F b hb, rfl⟩)
    rw [hylen] at hfin
    exact hfin

theorem viewP_den {E' : Env} {θ : List (Option Nat)} {Hp : List (HS C)} (hs : Sat D w E (getC Hp)) (hV : EnvView w E E' θ) {x : SV C} {y : PV C} {v : Value} (h : ViewP Hp θ x y) (hd : Den D w E x v) : PDen D w E'.F y v := by
  have key : ∀ z, x = .p z → z = y → PDen D w E'.F y v := fun z e e' => by
    subst e; subst e'
    simp only [Den] at hd
    exact hd.mono fun b hb => ⟨hV.F b hb, rfl⟩
  unfold ViewP at h
  split at h
  · exact view_frozen hs hV h hd
  · subst h; rw [den_lit hd]; exact .dslNil _ _ _
  · exact key _ rfl h
  · exact h.elim
theorem viewPs_den {E' : Env} {θ : List (Option Nat)} {Hp : List (HS C)} (hs : Sat D w E (getC Hp)) (hV : EnvView w E E' θ) : ∀ (l : List (SV C)) (m : List (PV C)) (vs : List Value), ViewPs Hp θ l m → DenC D w E l vs →
    ∀ (j : Nat) (pv : PV C), m[j]? = some pv → ∃ cv : Value, vs[j]? = some cv ∧ PDen D w E'.F pv cv
  | [], [], vs, h, hd, j, pv, hp => by simp at hp
  | [], _ :: _, vs, h, hd, j, pv, hp => by simp only [ViewPs] at h
  | _ :: _, [], vs, h, hd, j, pv, hp => by simp at hp
  | x :: l, y :: m, vs, h, hd, j, pv, hp => by
    simp only [ViewPs] at h
    have hx : x.isArr = false := by
      cases hx : x.isArr with
      | false => rfl
      | true =>
        obtain ⟨u, N, xs, rfl⟩ := SV.arr_of hx
        have := h.1
        simp [ViewP] at this
    rw [DenC_cons hx] at hd
    obtain ⟨v, v2, rfl, _, h2, h3⟩ := hd
    cases j with
    | zero =>
      simp at hp; subst hp
      exact ⟨v, rfl, viewP_den hs hV h.1 h2⟩
    | succ j => exact viewPs_den hs hV l m v2 h.2 h3 j pv (by simpa using hp)
theorem view_var {E' : Env} {θ : List (Option Nat)} {Hp : List (HS C)} (hs : Sat D w E (getC Hp)) (hV : EnvView w E E' θ) {c o f : Nat} {cells : List (PV C)} {v : Value} (h : f = o ∧ FrozenVar Hp θ c cells) (hd : Den D w E (.ptr c o) v) : Den D w E' (.dptr cells f) v := by
  obtain ⟨rfl, t, vs, h1, h2, h3⟩ := h
  obtain ⟨b, cs, T, hb, hrow, hden⟩ := var_at hs h1
  have e := ptr_den hd hb
  have hF' : E'.F b := hV.drop c b h3 hb
  simp only [Den]
  refine ⟨b, 0, by rw [e, Nat.zero_add], fun j pv hp => ⟨hF', ?_⟩⟩
  obtain ⟨cv, h4, h5⟩ := viewPs_den hs hV vs cells _ h2 hden j pv hp
  exact ⟨cv, by rw [Nat.zero_add, cells_cell hrow.1]; exact h4, h5⟩

mutual
theorem view_den {E' : Env} {θ : List (Option Nat)} {Hp : List (HS C)} (hs : Sat D w E (getC Hp)) (hV : EnvView w E E' θ) : ∀ (x y : SV C) (v : Value), View Hp θ x y → Den D w E x v → Den D w E' y v
  | .agg vs, y, v, h, hd => by
    cases y with
    | any => trivial
    | agg ws =>
      simp only [View] at h
      simp only [Den] at hd ⊢
      obtain ⟨cs, e, hc⟩ := hd
      exact ⟨cs, e, view_denC hs hV vs ws _ h hc⟩
    | _ => exact view_ren hV (by simpa only [View] using h) hd
  | .tuple vs, y, v, h, hd => by
    cases y with
    | any => trivial
    | tuple ws =>
      simp only [View] at h
      simp only [Den] at hd ⊢
      obtain ⟨cs, e, hc⟩ := hd
      exact ⟨cs, e, view_denA hs hV vs ws _ h hc⟩
    | _ => exact view_ren hV (by simpa only [View] using h) hd
  | .slice c o n off len, y, v, h, hd => by
    cases y with
    | any => trivial
    | p pv =>
      cases pv with
      | dsl u ys => simp only [View] at h; simp only [Den]; exact view_frozen hs hV h hd
      | _ => exact view_ren hV (by simpa only [View] using h) hd
    | _ => exact view_ren hV (by simpa only [View] using h) hd
  | .p x, y, v, h, hd => by
    have key : ∀ z, x = z → Den D w E' (.p z) v := fun z e => by
      subst e
      simp only [Den] at hd ⊢
      exact hd.mono fun b hb => ⟨hV.F b hb, rfl⟩
    by_cases hx : x = .lit (.slice none 0 0)
    · subst hx
      have e := den_lit hd
      cases y with
      | any => trivial
      | p pv =>
        cases pv with
        | dsl u ys => simp only [View] at h; subst h; simp only [Den]; rw [e]; exact .dslNil u _ _
        | _ => exact key _ (by simpa only [View] using h)
      | slice j o n off len =>
        simp only [View] at h
        obtain ⟨h1, h2⟩ := h
        simp only [Den]
        rcases hV.virt j h1 with h3 | h3
        · rw [h3]; exact ⟨none, e, h2⟩
        · rw [h3, e]; rfl
      | _ => exact view_ren hV (by simpa only [View] using h) hd
    · cases y with
      | any => trivial
      | p pv =>
        have hv : View Hp θ (.p x) (.p pv) = (x = pv) := by
          unfold View
          split <;> simp_all
        rw [hv] at h
        exact key _ h
      | slice j o n off len =>
        have hv : View Hp θ (.p x) (.slice j o n off len) = (renS θ (.slice j o n off len) = some (.p x)) := by
          unfold View
          split <;> simp_all
        rw [hv] at h
        exact view_ren hV h hd
      | _ => exact view_ren hV (by simpa only [View] using h) hd
  | .any, y, v, h, hd => by
    cases y with
    | any => trivial
    | _ => exact view_ren hV (by simpa only [View] using h) hd
  | .ptr c o, y, v, h, hd => by
    cases y with
    | any => trivial
    | dptr cells f => exact view_var hs hV (by simpa only [View] using h) hd
    | _ => exact view_ren hV (by simpa only [View] using h) hd
  | .eptr c o n i f, y, v, h, hd => by
    cases y with
    | any => trivial
    | _ => exact view_ren hV (by simpa only [View] using h) hd
  | .dptr cells f, y, v, h, hd => by
    cases y with
    | any => trivial
    | _ => exact view_ren hV (by simpa only [View] using h) hd
  | .arr u N xs, y, v, h, hd => by simp only [Den] at hd
  | .fn f p q, y, v, h, hd => by
    cases y with
    | any => trivial
    | fn f' p' q' =>
      simp only [View] at h
      obtain ⟨rfl, h1, h2⟩ := h
      simp only [Den] at hd ⊢
      obtain ⟨xs, ys, e, h3, h4⟩ := hd
      exact ⟨xs, ys, e, view_denA hs hV p p' _ h1 h3, view_denA hs hV q q' _ h2 h4⟩
    | _ => exact view_ren hV (by simpa only [View] using h) hd
  | .iface t z, y, v, h, hd => by
    cases y with
    | any => trivial
    | _ => exact view_ren hV (by simpa only [View] using h) hd
  | .yieldv c, y, v, h, hd => by
    cases y with
    | any => trivial
    | _ => exact view_ren hV (by simpa only [View] using h) hd
  | .mapp c, y, v, h, hd => by
    cases y with
    | any => trivial
    | _ => exact view_ren hV (by simpa only [View] using h) hd
theorem view_denC {E' : Env} {θ : List (Option Nat)} {Hp : List (HS C)} (hs : Sat D w E (getC Hp)) (hV : EnvView w E E' θ) : ∀ (l m : List (SV C)) (vs : List Value), ViewL Hp θ l m → DenC D w E l vs → DenC D w E' m vs
  | [], m, vs, h, hd => by
    cases m with
    | nil => simp only [DenC] at hd ⊢; exact hd
    | cons y m => simp only [ViewL] at h
  | x :: l, [], vs, h, hd => by simp only [ViewL] at h
  | x :: l, y :: m, vs, h, hd => by
    simp only [ViewL] at h
    cases hxa : x.isArr with
    | true =>
      obtain ⟨u, N, xs, rfl⟩ := SV.arr_of hxa
      have hy := view_arr h.1
      subst hy
      simp only [DenC] at hd ⊢
      obtain ⟨h1, v1, v2, h2, h3, h4⟩ := hd
      exact ⟨h1, v1, v2, h2, h3.mono fun b hb => ⟨hV.F b hb, rfl⟩, view_denC hs hV l m v2 h.2 h4⟩
    | false =>
      rw [DenC_cons hxa] at hd
      obtain ⟨v, v2, rfl, h2, h3, h4⟩ := hd
      have ih := view_denC hs hV l m v2 h.2 h4
      have hden := view_den hs hV x y v h.1 h3
      cases hya : y.isArr with
      | false => rw [DenC_cons hya]; exact ⟨v, v2, rfl, h2, hden, ih⟩
      | true =>
        obtain ⟨u, N, xs, rfl⟩ := SV.arr_of hya
        simp only [Den] at hden
theorem view_denA {E' : Env} {θ : List (Option Nat)} {Hp : List (HS C)} (hs : Sat D w E (getC Hp)) (hV : EnvView w E E' θ) : ∀ (l m : List (SV C)) (vs : List Value), ViewL Hp θ l m → DenA D w E l vs → DenA D w E' m vs
  | [], m, vs, h, hd => by
    cases m with
    | nil => simp only [DenA] at hd ⊢; exact hd
    | cons y m => simp only [ViewL] at h
  | x :: l, [], vs, h, hd => by simp only [ViewL] at h
  | x :: l, y :: m, vs, h, hd => by
    simp only [ViewL] at h
    simp only [DenA] at hd ⊢
    obtain ⟨v, v2, rfl, h2, h3⟩ := hd
    exact ⟨v, v2, rfl, view_den hs hV x y v h.1 h2, view_denA hs hV l m v2 h.2 h3⟩
end

end
end Go.SX
