/-
  SX, part P: one state seen as another: numbers renamed, what is dropped becomes persistent.
-/
import Derived.Test.YtfbicphocelpeaaGreatDoorSxM
import Derived.RangeFuncNested
set_option linter.unusedVariables false
set_option linter.unusedSimpArgs false
namespace Go.SX
open Go.RowKit
variable {C : Cod}
def inO : List (Option Nat) → Nat → Bool
 | [], _ => false
 | none :: l, c => inO l c
 | some d :: l, c => if d = c then true else inO l c
def uX (Hp : List (HS C)) (θ : List (Option Nat)) (c o n off len : Nat) (u : C.U) (ys : List (C.El u)) : Prop :=
 ∃ xs, aR Hp c = .rows u xs ∧ o = 0 ∧ n = C.n u ∧ off + len ≤ xs.length ∧ ys = (xs.drop off).take len ∧ inO θ c = false
def Xk (Hp : List (HS C)) (θ : List (Option Nat)) : SV C → PV C → Prop
 | .slice c o n off len, .dsl u ys => uX Hp θ c o n off len u ys
 | .p (.lit (.slice none 0 0)), .dsl _ ys => ys = []
 | .p x, y => x = y
 | _, _ => False
def R5 (Hp : List (HS C)) (θ : List (Option Nat)) : List (SV C) → List (PV C) → Prop
 | [], [] => True
 | x :: l, y :: m => Xk Hp θ x y ∧ R5 Hp θ l m
 | _, _ => False
def A1 (Hp : List (HS C)) (θ : List (Option Nat)) (c : Nat) (cells : List (PV C)) : Prop :=
 ∃ t vs, aR Hp c = .vart t vs ∧ R5 Hp θ vs cells ∧ inO θ c = false
mutual
def nS (Hp : List (HS C)) (θ : List (Option Nat)) : SV C → SV C → Prop
 | .arr _ _ _, .any => False
 | _, .any => True
 | .agg vs, .agg ws => ViewL Hp θ vs ws
 | .tuple vs, .tuple ws => ViewL Hp θ vs ws
 | .fn f a b, .fn f' a' b' => f' = f ∧ ViewL Hp θ a a' ∧ ViewL Hp θ b b'
 | .ptr c o, .dptr cells f => f = o ∧ A1 Hp θ c cells
 | .slice c o n off len, .p (.dsl u ys) => uX Hp θ c o n off len u ys
 | .p (.lit (.slice none 0 0)), .p (.dsl _ ys) => ys = []
 | .p (.lit (.slice none 0 0)), .slice j _ _ _ len => ixL θ j = some none ∧ len = 0
 | .p x, .p y => x = y
 | x, y => nJ θ y = some x
def ViewL (Hp : List (HS C)) (θ : List (Option Nat)) : List (SV C) → List (SV C) → Prop
 | [], [] => True
 | x :: l, y :: m => nS Hp θ x y ∧ ViewL Hp θ l m
 | _, _ => False
end
def D0 (Hp : List (HS C)) (θ : List (Option Nat)) : HS C → HS C → Prop
 | _, .dead => True
 | .vart t vs, .vart t' ws => t' = t ∧ ViewL Hp θ vs ws
 | .rows u xs, .rows v ys => (.rows v ys : HS C) = .rows u xs
 | .obj o, .obj o' => o' = o
 | _, _ => False
def gI (Hp : List (HS C)) (θ : List (Option Nat)) : List (Option Nat) → List (HS C) → Prop
 | [], [] => True
 | some d :: l, h :: m => D0 Hp θ (aR Hp d) h ∧ gI Hp θ l m
 | none :: l, h :: m => (∃ u, h = .rows u []) ∧ gI Hp θ l m
 | _, _ => False
def idO : Nat → Nat → List (Option Nat) → Bool
 | 0, _, _ => true
 | m + 1, k, some d :: l => if d = k then idO m (k + 1) l else false
 | _, _, _ => false
def ndO : List (Option Nat) → Bool
 | [] => true
 | none :: l => ndO l
 | some d :: l => match inO l d with
  | true => false
  | false => ndO l
section
variable {P : Program} {D : aJ C} {B : dP} {E : Env} {df : List Deferred} {a : Act} {w : World}
theorem R0 : ∀ (θ : List (Option Nat)) (j d : Nat), ixO θ j = some d → inO θ d = true
 | [], j, d, h => by simp [ixO] at h
 | x :: l, 0, d, h => by simp [ixO] at h; subst h; simp [inO]
 | x :: l, j + 1, d, h => by
  have ih := R0 l j d (by simpa [ixO] using h);cases x with
  | none => simpa [inO] using ih
  | some e => simp only [inO]; split <;> first | rfl | exact ih
theorem zO : ∀ (θ : List (Option Nat)), ndO θ = true → ∀ j j' d, ixO θ j = some d → ixO θ j' = some d → j = j'
 | [], _, j, j', d, h, _ => by simp [ixO] at h
 | x :: l, hn, j, j', d, h, h' => by
  cases x with
  | none =>
   cases j with
   | zero => simp [ixO] at h
   | succ j =>
    cases j' with
    | zero => simp [ixO] at h'
    | succ j' => rw [zO l (by simpa [ndO] using hn) j j' d (by simpa [ixO] using h) (by simpa [ixO] using h')]
  | some e =>
   simp only [ndO] at hn;cases hi : inO l e with
   | true => rw [hi] at hn; simp at hn
   | false =>
    rw [hi] at hn;cases j with
    | zero =>
     simp [ixO] at h; subst h;cases j' with
     | zero => rfl
     | succ j' => have := R0 l j' e (by simpa [ixO] using h'); rw [hi] at this; cases this
    | succ j =>
     cases j' with
     | zero => simp [ixO] at h'; subst h'; have := R0 l j e (by simpa [ixO] using h); rw [hi] at this; cases this
     | succ j' => rw [zO l hn j j' d (by simpa [ixO] using h) (by simpa [ixO] using h')]
theorem Aa : ∀ (m k : Nat) (θ : List (Option Nat)), idO m k θ = true → ∀ c, c < m → ixO θ c = some (k + c)
 | 0, _, _, _, c, hc => absurd hc (Nat.not_lt_zero _)
 | m + 1, k, [], h, c, hc => by simp [idO] at h
 | m + 1, k, none :: l, h, c, hc => by simp [idO] at h
 | m + 1, k, some d :: l, h, c, hc => by
  simp only [idO] at h;split at h
  ·rename_i hd;subst hd;cases c with
   | zero => simp [ixO]
   | succ c =>
    have := Aa m (d + 1) l h c (by omega);simp only [ixO, this];congr 1;omega
  ·cases h
theorem gJ (θ : List (Option Nat)) (j d : Nat) : ixL θ j = some (some d) ↔ ixO θ j = some d := by
 induction θ generalizing j with
 | nil => simp [ixL, ixO]
 | cons x l ih => cases j with
  | zero => simp [ixL, ixO]
  | succ j => simpa [ixL, ixO] using ih j
theorem wH : ∀ (Hp : List (HS C)) (θ l : List (Option Nat)) (m : List (HS C)), gI Hp θ l m → l.length = m.length ∧
  (∀ j d, ixL l j = some (some d) → D0 Hp θ (aR Hp d) (aR m j)) ∧ (∀ j, ixL l j = some none → ∃ u, aR m j = .rows u []) ∧ (∀ j, ixL l j = none → aR m j = .fresh)
 | Hp, θ, [], [], h => ⟨rfl, fun j d h => by simp [ixL] at h, fun j h => by simp [ixL] at h, fun j _ => rfl⟩
 | Hp, θ, [], _ :: _, h => by simp [gI] at h
 | Hp, θ, some d :: l, [], h => by simp [gI] at h
 | Hp, θ, none :: l, [], h => by simp [gI] at h
 | Hp, θ, some d :: l, y :: m, h => by
  simp only [gI] at h;obtain ⟨h1, h2, h3, h4⟩ := wH Hp θ l m h.2;refine ⟨by simp [h1], fun j e hj => ?_, fun j hj => ?_, fun j hj => ?_⟩
  ·cases j with
   | zero => simp [ixL] at hj; subst hj; exact h.1
   | succ j => exact h2 j e (by simpa [ixL] using hj)
  ·cases j with
   | zero => simp [ixL] at hj
   | succ j => exact h3 j (by simpa [ixL] using hj)
  ·cases j with
   | zero => simp [ixL] at hj
   | succ j => exact h4 j (by simpa [ixL] using hj)
 | Hp, θ, none :: l, y :: m, h => by
  simp only [gI] at h;obtain ⟨h1, h2, h3, h4⟩ := wH Hp θ l m h.2;refine ⟨by simp [h1], fun j e hj => ?_, fun j hj => ?_, fun j hj => ?_⟩
  ·cases j with
   | zero => simp [ixL] at hj
   | succ j => exact h2 j e (by simpa [ixL] using hj)
  ·cases j with
   | zero => exact h.1
   | succ j => exact h3 j (by simpa [ixL] using hj)
  ·cases j with
   | zero => simp [ixL] at hj
   | succ j => exact h4 j (by simpa [ixL] using hj)
structure mC (w : World) (E E' : Env) (θ : List (Option Nat)) : Prop where
 F : ∀ b, E.F b → E'.F b
 β : ∀ j d, ixO θ j = some d → E'.β j = E.β d ∨ E'.β j = .dead
 virt : ∀ j, ixL θ j = some none → E'.β j = .virt ∨ E'.β j = .dead
 drop : ∀ c b, inO θ c = false → E.β c = .loc b → E'.F b
def Env.sub (E : Env) (θ : List (Option Nat)) : Env := { F := E.F, β := fun j => match ixO θ j with | some d => E.β d | none => .fresh }
theorem eE {E' : Env} {θ : List (Option Nat)} (hV : mC w E E' θ) {x y : SV C} {v : Value} (h : nJ θ y = some x) (hd : Den D w E x v) : Den D w E' y v := by
 have h1 := (pN (D := D) (w := w) (E := E) (E' := E.sub θ) rfl (fun j d hj => by simp [Env.sub, hj]) y x v h).1 hd;have hL : dW w (E.sub θ) w E' := by
  refine ⟨fun b hb => ⟨hV.F b hb, rfl⟩, fun j => ?_, fun _ _ _ _ cs T hc => ⟨cs, T, hc, rfl⟩⟩;cases hj : ixO θ j with
  | none => exact .inr (.inr (by simp [Env.sub, hj]))
  | some d =>
   rcases hV.β j d hj with e | e
   ·exact .inl (by simp [Env.sub, hj, e])
   ·exact .inr (.inl e)
 exact Den.mono hL y v h1
theorem Xi {Hp : List (HS C)} {θ : List (Option Nat)} {u : C.U} {N : Nat} {xs : List (C.El u)} {y : SV C} (h : nS Hp θ (.arr u N xs) y) : y = .arr u N xs := by
 have key : ∀ z : SV C, nJ θ z = some (.arr u N xs) → z = .arr u N xs := fun z hz => by
  have h1 := Q2 hz;have h2 : z.isArr = true := by rw [← h1]; rfl
  obtain ⟨u', N', xs', rfl⟩ := SV.arr_of h2;simpa [nJ] using hz
 cases y with
 | any => simp only [nS] at h
 | _ => exact key _ (by simpa only [nS] using h)
theorem zP {E' : Env} {θ : List (Option Nat)} {Hp : List (HS C)} (hs : Sat D w E (aR Hp)) (hV : mC w E E' θ) {c o n off len : Nat} {u : C.U} {ys : List (C.El u)} {v : Value}
  (h : uX Hp θ c o n off len u ys) (hd : Den D w E (.slice c o n off len) v) : iV D w E'.F (.dsl u ys) v := by
 obtain ⟨xs, h1, rfl, rfl, h2, rfl, h3⟩ := h;have hl : (aR Hp c).live = true := by rw [h1]; rfl
 have hylen : ((xs.drop off).take len).length = len := by simp; omega
 rcases cR hs hl hd with ⟨rfl, hn⟩ | ⟨b, cap, cs, T, hb, e, hlc, hcs, hsz⟩
 ·simp only [List.take_zero];rcases hn with ⟨ad, e, _⟩ | ⟨ad, b, e, _⟩
  ·rw [e]; exact .dslNil u _ _
  ·rw [e]; exact .dslNil u _ _
 ·have hok := hs.ok c;rw [hb, h1] at hok;obtain ⟨cs', T', hcs', hz1, hz2⟩ := hok;obtain ⟨rfl, rfl⟩ := hcs.inj hcs'.1;have hsq : q83 D w E b 0 (.some u xs) := ⟨cs, T, hcs, by omega, by simpa using hz2⟩;have hF' : E'.F b := hV.drop c b h3 hb;have hcell : ∀ (i : Nat) (x : C.El u), ((xs.drop off).take len)[i]? = some x → ∀ (j : Nat) (pv : PV C), (D.enc u x)[j]? = some pv →
    ∃ v, w.cell? ⟨b, 0 + off * C.n u + i * C.n u + j, none⟩ = some v ∧ iV D w E.F pv v := by
   intro i x hx j pv hp;rw [List.getElem?_take] at hx;split at hx
   ·rename_i hi;rw [List.getElem?_drop] at hx;have hlt : off + i < xs.length := (List.getElem?_eq_some_iff.1 hx).1;have hg : xs.getD (off + i) (C.dflt u) = x := by simp [List.getD_eq_getElem?_getD, hx]
    obtain ⟨v, h4, h5⟩ := V3 hsq hlt j pv (by rw [hg]; exact hp);refine ⟨v, ?_, h5⟩;rw [show 0 + off * C.n u + i * C.n u + j = 0 + (off + i) * C.n u + j by rw [Nat.add_mul]; omega];exact h4
   ·cases hx
  rw [e];have hfin := iV.dsl (D := D) (w := w) (F := E'.F) u ((xs.drop off).take len) b (0 + off * C.n u) cap (fun i j => (w.cell? ⟨b, 0 + off * C.n u + i * C.n u + j, none⟩).getD undef) (fun _ => hF') (by rw [hylen]; exact hlc)
   (fun i x hx j pv hp => by obtain ⟨v, h4, _⟩ := hcell i x hx j pv hp; rw [h4]; rfl)
   (fun i x hx j pv hp => by
    obtain ⟨v, h4, h5⟩ := hcell i x hx j pv hp;simp only [h4, Option.getD_some];exact h5.mono fun b hb => ⟨hV.F b hb, rfl⟩)
  rw [hylen] at hfin;exact hfin
theorem Qk {E' : Env} {θ : List (Option Nat)} {Hp : List (HS C)} (hs : Sat D w E (aR Hp)) (hV : mC w E E' θ) {x : SV C} {y : PV C} {v : Value} (h : Xk Hp θ x y) (hd : Den D w E x v) : iV D w E'.F y v := by
 have key : ∀ z, x = .p z → z = y → iV D w E'.F y v := fun z e e' => by
  subst e; subst e';simp only [Den] at hd;exact hd.mono fun b hb => ⟨hV.F b hb, rfl⟩
 unfold Xk at h;split at h
 ·exact zP hs hV h hd
 ·subst h; rw [cK hd]; exact .dslNil _ _ _
 ·exact key _ rfl h
 ·exact h.elim
theorem M0 {E' : Env} {θ : List (Option Nat)} {Hp : List (HS C)} (hs : Sat D w E (aR Hp)) (hV : mC w E E' θ) : ∀ (l : List (SV C)) (m : List (PV C)) (vs : List Value), R5 Hp θ l m → DenC D w E l vs →
  ∀ (j : Nat) (pv : PV C), m[j]? = some pv → ∃ cv : Value, vs[j]? = some cv ∧ iV D w E'.F pv cv
 | [], [], vs, h, hd, j, pv, hp => by simp at hp
 | [], _ :: _, vs, h, hd, j, pv, hp => by simp only [R5] at h
 | _ :: _, [], vs, h, hd, j, pv, hp => by simp at hp
 | x :: l, y :: m, vs, h, hd, j, pv, hp => by
  simp only [R5] at h;have hx : x.isArr = false := by
   cases hx : x.isArr with
   | false => rfl
   | true =>
    obtain ⟨u, N, xs, rfl⟩ := SV.arr_of hx;have := h.1;simp [Xk] at this
  rw [bT hx] at hd;obtain ⟨v, v2, rfl, _, h2, h3⟩ := hd;cases j with
  | zero =>
   simp at hp; subst hp;exact ⟨v, rfl, Qk hs hV h.1 h2⟩
  | succ j => exact M0 hs hV l m v2 h.2 h3 j pv (by simpa using hp)
theorem Xo {E' : Env} {θ : List (Option Nat)} {Hp : List (HS C)} (hs : Sat D w E (aR Hp)) (hV : mC w E E' θ) {c o f : Nat} {cells : List (PV C)} {v : Value} (h : f = o ∧ A1 Hp θ c cells) (hd : Den D w E (.ptr c o) v) : Den D w E' (.dptr cells f) v := by
 obtain ⟨rfl, t, vs, h1, h2, h3⟩ := h;obtain ⟨b, cs, T, hb, hrow, hden⟩ := Ea hs h1;have e := iE hd hb;have hF' : E'.F b := hV.drop c b h3 hb;simp only [Den];refine ⟨b, 0, by rw [e, Nat.zero_add], fun j pv hp => ⟨hF', ?_⟩⟩;obtain ⟨cv, h4, h5⟩ := M0 hs hV vs cells _ h2 hden j pv hp;exact ⟨cv, by rw [Nat.zero_add, kA hrow.1]; exact h4, h5⟩
mutual
theorem nT {E' : Env} {θ : List (Option Nat)} {Hp : List (HS C)} (hs : Sat D w E (aR Hp)) (hV : mC w E E' θ) : ∀ (x y : SV C) (v : Value), nS Hp θ x y → Den D w E x v → Den D w E' y v
 | .agg vs, y, v, h, hd => by
  cases y with
  | any => trivial
  | agg ws =>
   simp only [nS] at h;simp only [Den] at hd ⊢;obtain ⟨cs, e, hc⟩ := hd;exact ⟨cs, e, view_denC hs hV vs ws _ h hc⟩
  | _ => exact eE hV (by simpa only [nS] using h) hd
 | .tuple vs, y, v, h, hd => by
  cases y with
  | any => trivial
  | tuple ws =>
   simp only [nS] at h;simp only [Den] at hd ⊢;obtain ⟨cs, e, hc⟩ := hd;exact ⟨cs, e, view_denA hs hV vs ws _ h hc⟩
  | _ => exact eE hV (by simpa only [nS] using h) hd
 | .slice c o n off len, y, v, h, hd => by
  cases y with
  | any => trivial
  | p pv =>
   cases pv with
   | dsl u ys => simp only [nS] at h; simp only [Den]; exact zP hs hV h hd
   | _ => exact eE hV (by simpa only [nS] using h) hd
  | _ => exact eE hV (by simpa only [nS] using h) hd
 | .p x, y, v, h, hd => by
  have key : ∀ z, x = z → Den D w E' (.p z) v := fun z e => by
   subst e;simp only [Den] at hd ⊢;exact hd.mono fun b hb => ⟨hV.F b hb, rfl⟩
  by_cases hx : x = .lit (.slice none 0 0)
  ·subst hx;have e := cK hd;cases y with
   | any => trivial
   | p pv =>
    cases pv with
    | dsl u ys => simp only [nS] at h; subst h; simp only [Den]; rw [e]; exact .dslNil u _ _
    | _ => exact key _ (by simpa only [nS] using h)
   | slice j o n off len =>
    simp only [nS] at h;obtain ⟨h1, h2⟩ := h;simp only [Den];rcases hV.virt j h1 with h3 | h3
    ·rw [h3]; exact ⟨none, e, h2⟩
    ·rw [h3, e]; rfl
   | _ => exact eE hV (by simpa only [nS] using h) hd
  ·cases y with
   | any => trivial
   | p pv =>
    have hv : nS Hp θ (.p x) (.p pv) = (x = pv) := by
     unfold nS;split <;> simp_all
    rw [hv] at h;exact key _ h
   | slice j o n off len =>
    have hv : nS Hp θ (.p x) (.slice j o n off len) = (nJ θ (.slice j o n off len) = some (.p x)) := by
     unfold nS;split <;> simp_all
    rw [hv] at h;exact eE hV h hd
   | _ => exact eE hV (by simpa only [nS] using h) hd
 | .any, y, v, h, hd => by
  cases y with
  | any => trivial
  | _ => exact eE hV (by simpa only [nS] using h) hd
 | .ptr c o, y, v, h, hd => by
  cases y with
  | any => trivial
  | dptr cells f => exact Xo hs hV (by simpa only [nS] using h) hd
  | _ => exact eE hV (by simpa only [nS] using h) hd
 | .eptr c o n i f, y, v, h, hd => by
  cases y with
  | any => trivial
  | _ => exact eE hV (by simpa only [nS] using h) hd
 | .dptr cells f, y, v, h, hd => by
  cases y with
  | any => trivial
  | _ => exact eE hV (by simpa only [nS] using h) hd
 | .arr u N xs, y, v, h, hd => by simp only [Den] at hd
 | .fn f p q, y, v, h, hd => by
  cases y with
  | any => trivial
  | fn f' p' q' =>
   simp only [nS] at h;obtain ⟨rfl, h1, h2⟩ := h;simp only [Den] at hd ⊢;obtain ⟨xs, ys, e, h3, h4⟩ := hd;exact ⟨xs, ys, e, view_denA hs hV p p' _ h1 h3, view_denA hs hV q q' _ h2 h4⟩
  | _ => exact eE hV (by simpa only [nS] using h) hd
 | .iface t z, y, v, h, hd => by
  cases y with
  | any => trivial
  | _ => exact eE hV (by simpa only [nS] using h) hd
 | .yieldv c, y, v, h, hd => by
  cases y with
  | any => trivial
  | _ => exact eE hV (by simpa only [nS] using h) hd
 | .mapp c, y, v, h, hd => by
  cases y with
  | any => trivial
  | _ => exact eE hV (by simpa only [nS] using h) hd
theorem view_denC {E' : Env} {θ : List (Option Nat)} {Hp : List (HS C)} (hs : Sat D w E (aR Hp)) (hV : mC w E E' θ) : ∀ (l m : List (SV C)) (vs : List Value), ViewL Hp θ l m → DenC D w E l vs → DenC D w E' m vs
 | [], m, vs, h, hd => by
  cases m with
  | nil => simp only [DenC] at hd ⊢; exact hd
  | cons y m => simp only [ViewL] at h
 | x :: l, [], vs, h, hd => by simp only [ViewL] at h
 | x :: l, y :: m, vs, h, hd => by
  simp only [ViewL] at h;cases hxa : x.isArr with
  | true =>
   obtain ⟨u, N, xs, rfl⟩ := SV.arr_of hxa;have hy := Xi h.1;subst hy;simp only [DenC] at hd ⊢;obtain ⟨h1, v1, v2, h2, h3, h4⟩ := hd;exact ⟨h1, v1, v2, h2, h3.mono fun b hb => ⟨hV.F b hb, rfl⟩, view_denC hs hV l m v2 h.2 h4⟩
  | false =>
   rw [bT hxa] at hd;obtain ⟨v, v2, rfl, h2, h3, h4⟩ := hd;have ih := view_denC hs hV l m v2 h.2 h4;have hden := nT hs hV x y v h.1 h3;cases hya : y.isArr with
   | false => rw [bT hya]; exact ⟨v, v2, rfl, h2, hden, ih⟩
   | true =>
    obtain ⟨u, N, xs, rfl⟩ := SV.arr_of hya;simp only [Den] at hden
theorem view_denA {E' : Env} {θ : List (Option Nat)} {Hp : List (HS C)} (hs : Sat D w E (aR Hp)) (hV : mC w E E' θ) : ∀ (l m : List (SV C)) (vs : List Value), ViewL Hp θ l m → DenA D w E l vs → DenA D w E' m vs
 | [], m, vs, h, hd => by
  cases m with
  | nil => simp only [DenA] at hd ⊢; exact hd
  | cons y m => simp only [ViewL] at h
 | x :: l, [], vs, h, hd => by simp only [ViewL] at h
 | x :: l, y :: m, vs, h, hd => by
  simp only [ViewL] at h;simp only [DenA] at hd ⊢;obtain ⟨v, v2, rfl, h2, h3⟩ := hd;exact ⟨v, v2, rfl, nT hs hV x y v h.1 h2, view_denA hs hV l m v2 h.2 h3⟩
end
end
end Go.SX
namespace Go.SX
open Go.RowKit
variable {C : Cod}
section
variable {P : Program} {D : aJ C} {tab : Tab C} {B : dP} {E : Env} {df : List Deferred} {a : Act} {w : World}
def sA : HS C → Bool
 | .dead => true
 | _ => false
def Env.view (E : Env) (θ : List (Option Nat)) (Hp' : List (HS C)) : Env :=
  { F := fun b => E.F b ∨ ∃ c, inO θ c = false ∧ E.β c = .loc b,
    β := fun j => match sA (aR Hp' j) with
      | true => .dead
      | false => match ixL θ j with
        | some (some d) => E.β d
        | some none => .virt
        | none => .fresh }
structure uG (Hp : List (HS C)) (θ : List (Option Nat)) (Hp' : List (HS C)) (m0 : Nat) : Prop where
 H : gI Hp θ θ Hp'
 id : idO m0 0 θ = true
 nd : ndO θ = true
theorem Ox {Hp : List (HS C)} {θ : List (Option Nat)} {x y : HS C} (h : D0 Hp θ x y) (hy : sA y = false) :
  (∃ t vs ws, x = .vart t vs ∧ y = .vart t ws ∧ ViewL Hp θ vs ws) ∨ (∃ u xs, x = .rows u xs ∧ y = .rows u xs) ∨ ∃ o, x = .obj o ∧ y = .obj o := by
 cases y with
 | obj o =>
  cases x with
  | obj o' => simp only [D0] at h; subst h; exact .inr (.inr ⟨_, rfl, rfl⟩)
  | _ => simp [D0] at h
 | fresh => cases x <;> simp [D0] at h
 | dead => simp [sA] at hy
 | vart t' ws =>
  cases x with
  | vart t vs => simp only [D0] at h; obtain ⟨rfl, h⟩ := h; exact .inl ⟨_, vs, ws, rfl, rfl, h⟩
  | _ => simp [D0] at h
 | rows v ys =>
  cases x with
  | rows u xs => simp only [D0] at h; exact .inr (.inl ⟨u, xs, rfl, h⟩)
  | _ => simp [D0] at h
theorem gU {Hp Hp' : List (HS C)} {θ : List (Option Nat)} (hs : Sat D w E (aR Hp)) (hf : Fr B E w) (hv : uG Hp θ Hp' B.m0) :
  mC w E (E.view θ Hp') θ ∧ Sat D w (E.view θ Hp') (aR Hp') ∧ Fr B (E.view θ Hp') w := by
 obtain ⟨hlen, hsome, hnone, hout⟩ := wH Hp θ θ Hp' hv.H;have hβ : ∀ j, (E.view θ Hp').β j = match sA (aR Hp' j) with | true => .dead | false => match ixL θ j with | some (some d) => E.β d | some none => .virt | none => .fresh := fun j => rfl
 have hEV : mC w E (E.view θ Hp') θ := by
  refine ⟨fun b hb => .inl hb, fun j d hj => ?_, fun j hj => ?_, fun c b hc hb => .inr ⟨c, hc, hb⟩⟩
  ·rw [hβ, (gJ θ j d).2 hj];cases sA (aR Hp' j)
   ·exact .inl rfl
   ·exact .inr rfl
  ·rw [hβ, hj];cases sA (aR Hp' j)
   ·exact .inl rfl
   ·exact .inr rfl
 have hat : ∀ j b, (E.view θ Hp').β j = .loc b → ∃ d, ixO θ j = some d ∧ E.β d = .loc b ∧ sA (aR Hp' j) = false := by
  intro j b e;rw [hβ] at e;cases hd : sA (aR Hp' j) with
  | true => rw [hd] at e; cases e
  | false =>
   rw [hd] at e;cases hj : ixL θ j with
   | none => rw [hj] at e; cases e
   | some q =>
    cases q with
    | none => rw [hj] at e; cases e
    | some d => rw [hj] at e; exact ⟨d, (gJ θ j d).1 hj, e, rfl⟩
 refine ⟨hEV, ⟨fun j => ?_, fun j b e => ?_, fun j j' b e e' => ?_, ?_, hs.glob.mono fun b hb => ⟨hEV.F b hb, rfl⟩⟩, ?_⟩
 ·
  rw [hβ];cases hd : sA (aR Hp' j) with
  | true =>
   cases hg : aR Hp' j <;> rw [hg] at hd <;> simp [sA] at hd
   rfl
  | false =>
   cases hj : ixL θ j with
   | none => exact hout j hj
   | some q =>
    cases q with
    | none => exact hnone j hj
    | some d =>
     have hok := hs.ok d;simp only;rcases Ox (hsome j d hj) hd with ⟨ty, vs, ws, e1, e2, hl⟩ | ⟨u, xs, e1, e2⟩ | ⟨ob, e1, e2⟩
     ·rw [e1] at hok;rw [e2];cases hb : E.β d with
      | fresh => rw [hb] at hok; simp [HS.ok] at hok
      | dead => rw [hb] at hok; simp [HS.ok] at hok
      | virt => rw [hb] at hok; simp [HS.ok] at hok
      | loc b =>
       rw [hb] at hok;obtain ⟨cs, T, h1, h2⟩ := hok;exact ⟨cs, T, h1, view_denC hs hEV vs ws _ hl h2⟩
     ·rw [e1] at hok;rw [e2];cases hb : E.β d with
      | fresh => rw [hb] at hok; simp [HS.ok] at hok
      | dead => rw [hb] at hok; simp [HS.ok] at hok
      | virt => rw [hb] at hok; exact hok
      | loc b =>
       rw [hb] at hok;obtain ⟨cs, T, h1, h2, h3⟩ := hok;exact ⟨cs, T, h1, h2, h3.mono fun b hb => ⟨.inl hb, rfl⟩⟩
     ·rw [e1] at hok;rw [e2];cases hb : E.β d with
      | fresh => rw [hb] at hok; simp [HS.ok] at hok
      | dead => rw [hb] at hok; simp [HS.ok] at hok
      | virt => rw [hb] at hok; simp [HS.ok] at hok
      | loc b =>
       rw [hb] at hok;exact hok
 ·obtain ⟨d, hd, e1, _⟩ := hat j b e;refine ⟨(hs.own d b e1).1, ?_⟩;rintro (hF | ⟨c, hc, hb⟩)
  ·exact (hs.own d b e1).2 hF
  ·have := hs.inj c d b hb e1;subst this;have := R0 θ j c hd;rw [hc] at this; cases this
 ·obtain ⟨d, hd, e1, _⟩ := hat j b e;obtain ⟨d', hd', e1', _⟩ := hat j' b e';have := hs.inj d d' b e1 e1';subst this;exact zO θ hv.nd j j' d hd hd'
 ·rintro b (hF | ⟨c, _, hb⟩)
  ·exact hs.F b hF
  ·exact (hs.own c b hb).1
 ·refine ⟨hf.os, hf.tape, hf.output, hf.size, hf.same, ⟨fun b hb => ⟨.inl (hf.late.F b hb).1, (hf.late.F b hb).2⟩, fun c => ?_, fun c b e1 e2 cs T hcs => ?_⟩, ?_, fun j b e => ?_⟩
  ·by_cases hc : c < B.m0
   ·have h1 := Aa B.m0 0 θ hv.id c hc;rw [Nat.zero_add] at h1;rcases hEV.β c c h1 with e | e
    ·rw [e]; exact hf.late.β c
    ·exact .inr (.inl e)
   ·exact .inr (.inr (B.hm0 c (by omega)))
  ·by_cases hc : c < B.m0
   ·have h1 := Aa B.m0 0 θ hv.id c hc;rw [Nat.zero_add] at h1;have e3 : E.β c = .loc b := by
     rcases hEV.β c c h1 with e | e
     ·rw [← e]; exact e2
     ·rw [e] at e2; cases e2
    exact hf.late.size c b e1 e3 cs T hcs
   ·rw [B.hm0 c (by omega)] at e1; cases e1
  ·rintro b (hF | ⟨c, _, hb⟩)
   ·exact hf.newF b hF
   ·rcases hf.newO c b hb with h | h
    ·exact .inr (.inl h)
    ·exact .inr (.inr h)
  ·obtain ⟨d, _, e1, _⟩ := hat j b e;exact hf.newO d b e1
theorem Sn {m0 : Nat} {T T' : List (SV C)} {Hp Hp' : List (HS C)} (θ : List (Option Nat)) (hT : ViewL Hp θ T T') (hv : uG Hp θ Hp' m0) : q5k D m0 T Hp T' Hp' := by
 rintro B df a w rfl ⟨E, hR, hsz⟩;obtain ⟨h1, h2, h3⟩ := gU hR.sat hR.fr hv;have hlen : ∀ (l m : List (SV C)), ViewL Hp θ l m → l.length = m.length := by
  intro l
  induction l with
  | nil => intro m h; cases m with
   | nil => rfl
   | cons y m => simp [ViewL] at h
  | cons x l ih => intro m h; cases m with
   | nil => simp [ViewL] at h
   | cons y m => simp only [ViewL] at h; simp [ih m h.2]
 have hget : ∀ (l m : List (SV C)) (i : Nat) (v : Value), ViewL Hp θ l m → Den D w E (bX l i) v → Den D w (E.view θ Hp') (bX m i) v := by
  intro l
  induction l with
  | nil => intro m i v h _; cases m with
   | nil => trivial
   | cons y m => simp [ViewL] at h
  | cons x l ih => intro m i v h hd; cases m with
   | nil => simp [ViewL] at h
   | cons y m =>
    simp only [ViewL] at h;cases i with
    | zero => exact nT hR.sat h1 x y v h.1 hd
    | succ i => exact ih m i v h.2 hd
 exact ⟨_, ⟨fun i => hget T T' i _ hT (hR.den i), h2, h3, hR.defers, hR.marks.mono fun b hb => ⟨h1.F b hb, rfl⟩⟩, by rw [hsz, hlen T T' hT]⟩
structure aF (P : Program) (D : aJ C) (f : FuncId) (args : List (SV C)) (H0 : List (HS C)) (ret : SV C) (H1 : List (HS C)) : Prop where
 enter : ∀ args w, (callFunc f args).run P w = .ok (.enter f args) w
 calls : ∀ w E (hm : ∀ c, H0.length ≤ c → E.β c = .fresh) vs, Sat D w E (aR H0) → DenA D w E args vs →
  CallsIn (Fc none) 0 P f vs.toArray w fun e w' => ∃ v E', e = .returned v ∧ Den D w' E' ret v ∧ Sat D w' E' (aR H1) ∧ Fr ⟨w, E, fun b => ∃ c, E.β c = .loc b, H0.length, hm, [], false⟩ E' w'
def jD (D : aJ C) (tab : Tab C) (T : List (SV C)) (Hp : List (HS C)) : List ResultVar → Option (List (SV C))
 | [] => some []
 | .tmp t :: r => match jD D tab T Hp r with
  | some l => some (bX T t :: l)
  | none => none
 | .cell t ty :: r => match sC D tab ty (bX T t) (rC Hp [bX T t]) with
  | .val v => match jD D tab T Hp r with
   | some l => some (v :: l)
   | none => none
  | _ => none
def xU : List (SV C) → SV C
 | [x] => x
 | l => .tuple l
def wQ (D : aJ C) (tab : Tab C) (rs : List ResultVar) (m0 : Nat) (ret : SV C) (H1 : List (HS C)) : J9 C := fun e T Hp =>
 (e = .normal ∨ e = .ret) ∧ ∃ θ l, jD D tab T Hp rs = some l ∧ nS Hp θ (xU l) ret ∧ uG Hp θ H1 m0
def xR : Nat → List (SV C)
 | 0 => []
 | n + 1 => .any :: xR n
theorem oK : ∀ n, (xR n : List (SV C)).length = n
 | 0 => rfl
 | n + 1 => by simp [xR, oK n]
theorem mM : ∀ n i, bX (xR n : List (SV C)) i = .any
 | 0, i => rfl
 | n + 1, 0 => rfl
 | n + 1, i + 1 => mM n i
theorem sE : ∀ (l m : List (SV C)) (i : Nat), bX (l ++ m) i = if i < l.length then bX l i else bX m (i - l.length)
 | [], m, i => by simp
 | x :: l, m, 0 => by simp [bX]
 | x :: l, m, i + 1 => by simp [bX, sE l m i]
theorem nZ : ∀ (l : List (SV C)) (vs : List Value), DenA D w E l vs → l.length = vs.length
 | [], vs, h => by simp only [DenA] at h; subst h; rfl
 | x :: l, vs, h => by simp only [DenA] at h; obtain ⟨v, v2, rfl, _, h2⟩ := h; simp [nZ l v2 h2]
theorem H4 : ∀ (l : List (SV C)) (vs : List Value), DenA D w E l vs → ∀ i, i < l.length → Den D w E (bX l i) (vs.getD i undef)
 | [], vs, _, i, h => by simp at h
 | x :: l, vs, h, i, hi => by
  simp only [DenA] at h;obtain ⟨v, v2, rfl, h1, h2⟩ := h;cases i with
  | zero => simpa [bX] using h1
  | succ i => simpa [bX] using H4 l v2 h2 i (by simpa using hi)
def q5p (tmps : Array Value) : ResultVar → Sem Value
 | .tmp t => pure (tmps.getD t undef)
 | .cell q t => do loadVar t (← asAddr (tmps.getD q undef))
theorem Vm {t q : Nat} {u : Value} (h : (Instr.loadAt t (a.tmps.getD q undef)).run P w = .ok u w) : (q5p a.tmps (.cell q t)).run P w = .ok u w := by
 simp only [q5p];unfold Instr.loadAt at h;generalize a.tmps.getD q undef = v at h ⊢;cases v with
 | pointer ad =>
  cases ad with
  | none => simp [Instr.sureAddr] at h
  | some ad => simpa [Instr.sureAddr, asAddr] using h
 | _ => simp [Instr.sureAddr] at h
theorem Z7 (hT : bZ P D tab) {T : List (SV C)} {Hp : List (HS C)} (hR : Rel D B E (bX T) (aR Hp) df a w) : ∀ (rs : List ResultVar) (l : List (SV C)), jD D tab T Hp rs = some l →
  ∃ vs, (rs.mapM (q5p a.tmps)).run P w = .ok vs w ∧ DenA D w E l vs
 | [], l, h => by
  simp only [jD, Option.some.injEq] at h; subst h;exact ⟨[], by simp, by simp only [DenA]⟩
 | .tmp t :: r, l, h => by
  simp only [jD] at h;cases hr : jD D tab T Hp r with
  | none => simp [hr] at h
  | some l' =>
   simp [hr] at h; subst h;obtain ⟨vs, h1, h2⟩ := Z7 hT hR r l' hr;refine ⟨a.tmps.getD t undef :: vs, by simp [List.mapM_cons, h1, q5p], ?_⟩;simp only [DenA];exact ⟨_, _, rfl, hR.den t, h2⟩
 | .cell q t :: r, l, h => by
  simp only [jD] at h;have hload := Dm (P := P) (t := t) hT hR.sat (hR.den q) (hs := rC Hp [bX T q]) (fun c hc => vX Hp [bX T q] _ (by simp) c hc);cases hd : sC D tab t (bX T q) (rC Hp [bX T q]) with
  | val v =>
   rw [hd] at hload h;simp only at hload h;obtain ⟨u, h3, h4⟩ := hload;cases hr : jD D tab T Hp r with
   | none => simp [hr] at h
   | some l' =>
    simp [hr] at h; subst h;obtain ⟨vs, h1, h2⟩ := Z7 hT hR r l' hr;refine ⟨u :: vs, by simp [List.mapM_cons, h1, Vm h3], ?_⟩;simp only [DenA];exact ⟨_, _, rfl, h4, h2⟩
  | _ => rw [hd] at h; simp at h
theorem nN (hT : bZ P D tab) {T : List (SV C)} {Hp : List (HS C)} (hR : Rel D B E (bX T) (aR Hp) df a w) {fn : Func} {l : List (SV C)} (h : jD D tab T Hp fn.results.toList = some l) :
  ∃ v, (results fn a.tmps).run P w = .ok v w ∧ Den D w E (xU l) v := by
 obtain ⟨vs, h1, h2⟩ := Z7 (P := P) hT hR _ _ h;have h3 : (fn.results.mapM (q5p a.tmps)).run P w = .ok vs.toArray w := by
  rw [Array.mapM_eq_mapM_toList];simp [h1]
 have h4 : (results fn a.tmps).run P w = .ok (if h : vs.toArray.size = 1 then vs.toArray[0] else .tuple vs.toArray) w := by
  have e : results fn a.tmps = (fn.results.mapM (q5p a.tmps) >>= fun vs => pure (if h : vs.size = 1 then vs[0] else .tuple vs)) := by
   unfold results;congr 1
  rw [e, Sem.run_bind, h3];rfl
 refine ⟨_, h4, ?_⟩;cases l with
 | nil => simp only [DenA] at h2; subst h2; simp only [xU, Den, DenA]; exact ⟨_, by simp, rfl⟩
 | cons x l =>
  cases l with
  | nil =>
   simp only [DenA] at h2;obtain ⟨v, v2, rfl, h5, rfl⟩ := h2;simpa [xU] using h5
  | cons y l =>
   have h2' := h2;simp only [DenA] at h2;obtain ⟨v, v2, rfl, h5, v3, v4, rfl, h6, h7⟩ := h2;simp only [xU, Den];refine ⟨(v :: v3 :: v4).toArray, by simp, by simpa using h2'⟩
end
end Go.SX
namespace Go.SX
open Go.RowKit
variable {C : Cod}
def gL : Nat → Nat → List (Option Nat)
 | 0, _ => []
 | n + 1, m => some m :: gL n (m + 1)
def gR (θ : List (Option Nat)) : List (HS C) → Option (List (HS C))
 | [] => some []
 | x :: l => match Hl θ x with
  | some y => match gR θ l with
   | some r => some (y :: r)
   | none => none
  | none => none
def eA (H : Nat → HS C) : List (Option Nat) → List (HS C) → Prop
 | [], [] => True
 | some d :: l, h :: m => H d = h ∧ eA H l m
 | _, _ => False
def J6 : List (Option Nat) → List (HS C) → List (Nat × HS C)
 | some d :: l, h :: m => (d, h) :: J6 l m
 | _, _ => []
section
variable {P : Program} {D : aJ C} {tab : Tab C} {B : dP} {E : Env} {σ : Nat → SV C} {H : Nat → HS C} {df : List Deferred} {a : Act} {w : World}
theorem Uj : ∀ (θ : List (Option Nat)) (m : List (HS C)) (H : Nat → HS C), ndO θ = true → θ.length = m.length → (∀ j, j < θ.length → ∃ d, ixL θ j = some (some d)) →
    (∀ j d, ixO θ j = some d → rE H (J6 θ m) d = aR m j) ∧ (∀ c, inO θ c = false → rE H (J6 θ m) c = H c) := by
  intro θ
  induction θ with
  | nil => intro m H _ hl _; exact ⟨fun j d h => by simp [ixO] at h, fun c _ => rfl⟩
  | cons x l ih =>
    intro m H hn hl hall;cases m with
    | nil => simp at hl
    | cons y m =>
      cases x with
      | none => obtain ⟨d, hd⟩ := hall 0 (by simp); simp [ixL] at hd
      | some d =>
        simp only [ndO] at hn;cases hi : inO l d with
        | true => rw [hi] at hn; simp at hn
        | false =>
          rw [hi] at hn;obtain ⟨h1, h2⟩ := ih m (upH H d y) hn (by simpa using hl) (fun j hj => by
            obtain ⟨e, he⟩ := hall (j + 1) (by simpa using hj);exact ⟨e, by simpa [ixL] using he⟩)
          simp only [J6, rE];refine ⟨fun j e hj => ?_, fun c hc => ?_⟩
          · cases j with
            | zero =>
              simp [ixO] at hj; subst hj;rw [h2 d hi]; simp [upH, aR]
            | succ j => exact h1 j e (by simpa [ixO] using hj)
          · simp only [inO] at hc;split at hc
            · cases hc
            · rename_i hdc;rw [h2 c hc];simp [upH, Ne.symm hdc]
theorem zA : ∀ (θ : List (Option Nat)) (l m : List (HS C)), gR θ l = some m → l.length = m.length ∧ ∀ j, Hl θ (aR l j) = some (aR m j)
 | θ, [], m, h => by simp only [gR, Option.some.injEq] at h; subst h; exact ⟨rfl, fun j => rfl⟩
 | θ, x :: l, m, h => by
  simp only [gR] at h;cases hx : Hl θ x with
  | none => simp [hx] at h
  | some y =>
   cases hl : gR θ l with
   | none => simp [hx, hl] at h
   | some r =>
    simp [hx, hl] at h; subst h;obtain ⟨h1, h2⟩ := zA θ l r hl;refine ⟨by simp [h1], fun j => ?_⟩;cases j with
    | zero => exact hx
    | succ j => exact h2 j
theorem N8 : ∀ (Hp : Nat → HS C) (ρ : List (Option Nat)) (l : List (HS C)), eA Hp ρ l → ρ.length = l.length ∧ (∀ j, j < ρ.length → ∃ d, ixL ρ j = some (some d)) ∧ ∀ j d, ixO ρ j = some d → Hp d = aR l j
 | Hp, [], [], _ => ⟨rfl, fun j h => by simp at h, fun j d h => by simp [ixO] at h⟩
 | Hp, [], _ :: _, h => by simp [eA] at h
 | Hp, none :: _, _, h => by simp [eA] at h
 | Hp, some d :: l, [], h => by simp [eA] at h
 | Hp, some d :: l, y :: m, h => by
  simp only [eA] at h;obtain ⟨h1, h2, h3⟩ := N8 Hp l m h.2;refine ⟨by simp [h1], fun j hj => ?_, fun j e hj => ?_⟩
  ·cases j with
   | zero => exact ⟨d, rfl⟩
   | succ j => exact h2 j (by simpa using hj)
  ·cases j with
   | zero => simp [ixO] at hj; subst hj; exact h.1
   | succ j => exact h3 j e (by simpa [ixO] using hj)
theorem Rz {α : Type} : ∀ (l : List α) (j : Nat), ixL l j = none ↔ l.length ≤ j := by
 intro l j; rw [tW]; exact List.getElem?_eq_none_iff
theorem zL : ∀ (n m j : Nat), ixO (gL n m) j = if j < n then some (m + j) else none
 | 0, m, j => by simp [gL, ixO]
 | n + 1, m, 0 => by simp [gL, ixO]
 | n + 1, m, j + 1 => by
  simp only [gL, ixO, zL n (m + 1) j, Nat.add_lt_add_iff_right];split <;> simp; omega
theorem tT : ∀ (n m : Nat), (gL n m).length = n
 | 0, m => rfl
 | n + 1, m => by simp [gL, tT n]
theorem vV : ∀ (l m : List (Option Nat)) (j : Nat), ixO (l ++ m) j = if j < l.length then ixO l j else ixO m (j - l.length)
 | [], m, j => by simp
 | x :: l, m, 0 => by simp [ixO]
 | x :: l, m, j + 1 => by simp [ixO, vV l m j]
theorem qA : ∀ (l : List (HS C)) (c : Nat), l.length ≤ c → aR l c = .fresh
 | [], c, _ => rfl
 | x :: l, 0, h => by simp at h
 | x :: l, c + 1, h => qA l c (by simpa using h)
def Xy : List (Option Nat) → Nat → Nat
 | [], _ => 0
 | x :: l, c => if x = some c then 0 else Xy l c + 1
theorem eZ : ∀ (θ : List (Option Nat)) (c : Nat), inO θ c = true → ixO θ (Xy θ c) = some c
 | [], c, h => by simp [inO] at h
 | none :: l, c, h => by
  simp only [Xy];rw [if_neg (by simp)];exact eZ l c (by simpa [inO] using h)
 | some d :: l, c, h => by
  simp only [Xy, Option.some.injEq]
  by_cases hd : d = c
  ·rw [if_pos hd]; simp [ixO, hd]
  ·rw [if_neg hd]; simp only [inO, if_neg hd] at h; exact eZ l c h
theorem L9 {XX : World → List Value → (Ending → World → Prop) → Prop} (hX : ∀ w vs (R R' : Ending → World → Prop), (∀ e w', R e w' → R' e w') → XX w vs R → XX w vs R') {args0 args : List (SV C)} {H0 H0' H1 H1' : List (HS C)} {Hf : Nat → HS C} {nw : Nat} {Ω : Ending → World → Env → Prop}
  (hM : ∀ w E (hm : ∀ c, H0.length ≤ c → E.β c = .fresh) vs, Sat D w E (aR H0) → DenA D w E args0 vs → XX w vs fun e w' => ∃ E', Ω e w' E' ∧ Sat D w' E' (aR H1) ∧ Fr ⟨w, E, fun b => ∃ c, E.β c = .loc b, H0.length, hm, [], false⟩ E' w') (ρ : List (Option Nat))
  (hargs : renL ρ args0 = some args) (hH0 : gR ρ H0 = some H0') (hat : eA Hf ρ H0') (θ : List (Option Nat)) (hθ : θ = ρ ++ gL (H1.length - H0.length) nw) (hfr : ∀ k, k < H1.length - H0.length → Hf (nw + k) = .fresh) (hnd : ndO θ = true) (hle : H0.length ≤ H1.length)
  (hH1 : gR θ H1 = some H1') : ∀ B σ df a w E, Rel D B E σ Hf df a w → ∀ vs, DenA D w E args vs → XX w vs fun e w' => ∃ e1 E1, Ω e w' e1 ∧ E1.F = e1.F ∧ (∀ j d, ixO θ j = some d → e1.β j = E1.β d) ∧ Rel D B E1 σ (rE Hf (J6 θ H1')) df a w' := by
 intro B σ df a w E hR vs hd;obtain ⟨hρl, hρs, hρh⟩ := N8 Hf ρ H0' hat;obtain ⟨hl0, hren0⟩ := zA ρ H0 H0' hH0;obtain ⟨hl1, hren1⟩ := zA θ H1 H1' hH1;have hρlen : ρ.length = H0.length := hρl.trans hl0.symm;have hθlen : θ.length = H1.length := by rw [hθ, List.length_append, tT, hρlen]; omega
 have hθρ : ∀ j, j < H0.length → ixO θ j = ixO ρ j := fun j hj => by rw [hθ, vV, if_pos (by omega)]
 have hθn : ∀ j, H0.length ≤ j → j < H1.length → ixO θ j = some (nw + (j - H0.length)) := fun j h1 h2 => by
  rw [hθ, vV, if_neg (by omega), zL, hρlen, if_pos (by omega)]
 have hfreshC : ∀ c j, H0.length ≤ j → j < H1.length → some (nw + (j - H0.length)) = some c → Hf c = .fresh := fun c j h1 h2 h3 => by injection h3 with h3; rw [← h3]; exact hfr _ (by omega)
 let e0 : Env := E.sub ρ
 have he0 : ∀ j d, ixO ρ j = some d → e0.β j = E.β d := fun j d hj => by simp [e0, Env.sub, hj]
 have hρlt : ∀ j d, ixO ρ j = some d → j < H0.length := fun j d h => by
  have h1 := (gJ ρ j d).2 h
  by_cases hj : j < H0.length
  ·exact hj
  ·have h2 : ixL ρ j = none := (Rz ρ j).2 (by omega);rw [h2] at h1; cases h1
 have hθlt : ∀ j d, ixO θ j = some d → j < H1.length := fun j d h => by
  have h1 := (gJ θ j d).2 h
  by_cases hj : j < H1.length
  ·exact hj
  ·have h2 : ixL θ j = none := (Rz θ j).2 (by omega);rw [h2] at h1; cases h1
 have he0n : ∀ c, H0.length ≤ c → e0.β c = .fresh := fun c hc => by
  have : ixO ρ c = none := by
   cases h : ixO ρ c with
   | none => rfl
   | some d => exact absurd (hρlt c d h) (by omega)
  simp [e0, Env.sub, this]
 have he0at : ∀ j b, e0.β j = .loc b → ∃ d, ixO ρ j = some d ∧ E.β d = .loc b := fun j b e => by
  cases h : ixO ρ j with
  | none => simp [e0, Env.sub, h] at e
  | some d => exact ⟨d, rfl, by rw [← he0 j d h]; exact e⟩
 have hndρ : ∀ j j' d, ixO ρ j = some d → ixO ρ j' = some d → j = j' := fun j j' d h h' =>
  zO θ hnd j j' d (by rw [hθρ j (hρlt j d h)]; exact h) (by rw [hθρ j' (hρlt j' d h')]; exact h')
 have hsat0 : Sat D w e0 (aR H0) := by
  refine ⟨fun j => ?_, fun j b e => ?_, fun j j' b e e' => ?_, hR.sat.F, hR.sat.glob.mono fun b hb => ⟨hb, rfl⟩⟩
  ·by_cases hj : j < H0.length
   ·obtain ⟨d, hd⟩ := hρs j (by omega);have hd' := (gJ ρ j d).1 hd;rw [he0 j d hd'];have hok := hR.sat.ok d;rw [hρh j d hd'] at hok;exact (q1t (D := D) (w := w) (E := E) (E' := e0) rfl he0 (hren0 j) _).1 hok
   ·rw [he0n j (by omega), qA H0 j (by omega)]; rfl
  ·obtain ⟨d, _, hd⟩ := he0at j b e;exact hR.sat.own d b hd
  ·obtain ⟨d, h1, hd⟩ := he0at j b e;obtain ⟨d', h1', hd'⟩ := he0at j' b e';have := hR.sat.inj d d' b hd hd';subst this;exact hndρ j j' d h1 h1'
 have hd0 : DenA D w e0 args0 vs := (ren_denA (D := D) (w := w) (E := E) (E' := e0) rfl he0 args0 args vs hargs).1 hd;refine hX _ _ _ _ ?_ (hM w e0 he0n vs hsat0 hd0);rintro e w' ⟨e1, hΩ, hs1, hf1⟩
 let E1 : Env := { F := e1.F, β := fun c => if inO θ c = true then e1.β (Xy θ c) else E.β c }
 have hE1 : ∀ j d, ixO θ j = some d → e1.β j = E1.β d := fun j d hj => by
  have hin := R0 θ j d hj;have := zO θ hnd _ _ d (eZ θ d hin) hj;simp [E1, hin, this]
 have hE1n : ∀ c, inO θ c = false → E1.β c = E.β c := fun c hc => by simp [E1, hc]
 have hin_of : ∀ j d, ixO ρ j = some d → inO θ d = true := fun j d h => R0 θ j d (by rw [hθρ j (hρlt j d h)]; exact h);have hforeign : ∀ c b, inO θ c = false → E.β c = .loc b → ¬ ∃ j, e0.β j = .loc b := fun c b hc hb ⟨j, hj⟩ => by
  obtain ⟨d, h1, h2⟩ := he0at j b hj;have := hR.sat.inj d c b h2 hb;subst this;rw [hin_of j d h1] at hc; cases hc
 have hL : dW w E w' E1 := by
  refine ⟨fun b hb => hf1.late.F b hb, fun c => ?_, fun c b e1' e2 cs T hcs => ?_⟩
  ·cases hc : inO θ c with
   | false => exact .inl (hE1n c hc)
   | true =>
    have hp := eZ θ c hc;rw [← hE1 _ c hp]
    by_cases hj : Xy θ c < H0.length
    ·have hp' := hp;rw [hθρ _ hj] at hp';rcases hf1.late.β (Xy θ c) with h | h | h
     ·exact .inl (by rw [h]; exact he0 _ c hp')
     ·exact .inr (.inl h)
     ·exact .inr (.inr (by rw [← he0 _ c hp']; exact h))
    ·have hp' := hp;rw [hθn _ (by omega) (hθlt _ _ hp)] at hp';have hge : Hf c = .fresh := hfreshC c _ (by omega) (hθlt _ _ hp) hp';have hok := hR.sat.ok c;rw [hge] at hok;exact .inr (.inr (nGβ hR.sat hge))
  ·cases hc : inO θ c with
   | false =>
    have hlt := (hR.sat.own c b e1').1;exact ⟨cs, T, Row.of (hf1.same b hlt (hforeign c b hc e1')) hcs, rfl⟩
   | true =>
    have hp := eZ θ c hc;rw [← hE1 _ c hp] at e2
    by_cases hj : Xy θ c < H0.length
    ·have hp' := hp;rw [hθρ _ hj] at hp';exact hf1.late.size (Xy θ c) b (by rw [← e1']; exact he0 _ c hp') e2 cs T hcs
    ·have hp' := hp;rw [hθn _ (by omega) (hθlt _ _ hp)] at hp';have hge : Hf c = .fresh := hfreshC c _ (by omega) (hθlt _ _ hp) hp';rw [nGβ hR.sat hge] at e1'; cases e1'
 have hθall : ∀ j, j < θ.length → ∃ d, ixL θ j = some (some d) := fun j hj => by
  by_cases h : j < H0.length
  ·obtain ⟨d, hd⟩ := hρs j (by omega);exact ⟨d, (gJ θ j d).2 (by rw [hθρ j h]; exact (gJ ρ j d).1 hd)⟩
  ·exact ⟨_, (gJ θ j _).2 (hθn j (by omega) (by omega))⟩
 obtain ⟨hz1, hz2⟩ := Uj θ H1' (Hf) hnd (by omega) hθall;have hsatE : Sat D w' E1 (rE (Hf) (J6 θ H1')) := by
  refine ⟨fun c => ?_, fun c b e => ?_, fun c c' b e e' => ?_, hs1.F, hs1.glob.mono fun b hb => ⟨hb, rfl⟩⟩
  ·cases hc : inO θ c with
   | false =>
    rw [hz2 c hc, hE1n c hc];exact HS.ok_mono hL (hR.sat.ok c) fun b hb => hf1.same b (hR.sat.own c b hb).1 (hforeign c b hc hb)
   | true =>
    have hp := eZ θ c hc;rw [hz1 _ c hp, ← hE1 _ c hp];exact (q1t (D := D) (w := w') (E := E1) (E' := e1) rfl hE1 (hren1 _) _).2 (hs1.ok _)
  ·cases hc : inO θ c with
   | false =>
    rw [hE1n c hc] at e;have hlt := (hR.sat.own c b e).1;refine ⟨Nat.lt_of_lt_of_le hlt hf1.size, fun hF => ?_⟩;rcases hf1.newF b hF with h | h | h
    ·exact (hR.sat.own c b e).2 h
    ·exact hforeign c b hc e h
    ·exact absurd hlt (Nat.not_lt.2 h)
   | true =>
    have hp := eZ θ c hc;rw [← hE1 _ c hp] at e;exact hs1.own _ b e
  ·have mixed : ∀ c c' b, inO θ c = true → inO θ c' = false → E1.β c = .loc b → E1.β c' = .loc b → False := fun c c' b hc hc' e e' => by
    have hp := eZ θ c hc;rw [← hE1 _ c hp] at e;rw [hE1n c' hc'] at e';rcases hf1.newO _ b e with h | h
    ·exact hforeign c' b hc' e' h
    ·exact absurd (hR.sat.own c' b e').1 (Nat.not_lt.2 h)
   cases hc : inO θ c with
   | false =>
    cases hc' : inO θ c' with
    | false => rw [hE1n c hc] at e; rw [hE1n c' hc'] at e'; exact hR.sat.inj c c' b e e'
    | true => exact (mixed c' c b hc' hc e' e).elim
   | true =>
    cases hc' : inO θ c' with
    | false => exact (mixed c c' b hc hc' e e').elim
    | true =>
     have hp := eZ θ c hc;have hp' := eZ θ c' hc';rw [← hE1 _ c hp] at e;rw [← hE1 _ c' hp'] at e';have := hs1.inj _ _ b e e';rw [this, hp'] at hp;simpa using hp.symm
 have hO : ∀ b, (∃ j, e0.β j = .loc b) → B.O b ∨ B.w0.heap.size ≤ b := fun b ⟨j, hj⟩ => by
  obtain ⟨d, _, h2⟩ := he0at j b hj;exact hR.fr.newO d b h2
 have hfrE : Fr B E1 w' := by
  refine ⟨hf1.os.trans hR.fr.os, hf1.tape.trans hR.fr.tape, hf1.output.trans hR.fr.output, Nat.le_trans hR.fr.size hf1.size, fun b hb ho => ?_, hR.fr.late.trans hL, fun b hF => ?_, fun c b e => ?_⟩
  ·have h1 : ¬ ∃ j, e0.β j = .loc b := fun h => by
    rcases hO b h with h2 | h2
    ·exact ho h2
    ·omega
   exact (hf1.same b (Nat.lt_of_lt_of_le hb hR.fr.size) h1).trans (hR.fr.same b hb ho)
  ·rcases hf1.newF b hF with h | h | h
   ·exact hR.fr.newF b h
   ·exact .inr (hO b h)
   ·exact .inr (.inr (Nat.le_trans hR.fr.size h))
  ·cases hc : inO θ c with
   | false => rw [hE1n c hc] at e; exact hR.fr.newO c b e
   | true =>
    have hp := eZ θ c hc;rw [← hE1 _ c hp] at e;rcases hf1.newO _ b e with h | h
    ·exact hO b h
    ·exact .inr (Nat.le_trans hR.fr.size h)
 exact ⟨e1, E1, hΩ, rfl, hE1, hR.later hL hsatE hfrE⟩
theorem D4 {f : FuncId} {args0 args : List (SV C)} {H0 H0' H1 H1' : List (HS C)} {Hf : Nat → HS C} {nw : Nat} {Ω : Ending → World → Env → Prop}
  (hM : ∀ w E (hm : ∀ c, H0.length ≤ c → E.β c = .fresh) vs, Sat D w E (aR H0) → DenA D w E args0 vs → CallsIn (Fc none) 0 P f vs.toArray w fun e w' => ∃ E', Ω e w' E' ∧ Sat D w' E' (aR H1) ∧ Fr ⟨w, E, fun b => ∃ c, E.β c = .loc b, H0.length, hm, [], false⟩ E' w') (ρ : List (Option Nat))
  (hargs : renL ρ args0 = some args) (hH0 : gR ρ H0 = some H0') (hat : eA Hf ρ H0') (θ : List (Option Nat)) (hθ : θ = ρ ++ gL (H1.length - H0.length) nw) (hfr : ∀ k, k < H1.length - H0.length → Hf (nw + k) = .fresh) (hnd : ndO θ = true) (hle : H0.length ≤ H1.length)
  (hH1 : gR θ H1 = some H1') : ∀ B σ df a w E, Rel D B E σ Hf df a w → ∀ vs, DenA D w E args vs → CallsIn (Fc none) 0 P f vs.toArray w fun e w' => ∃ e1 E1, Ω e w' e1 ∧ E1.F = e1.F ∧ (∀ j d, ixO θ j = some d → e1.β j = E1.β d) ∧ Rel D B E1 σ (rE Hf (J6 θ H1')) df a w' :=
 L9 (XX := fun w vs R => CallsIn (Fc none) 0 P f vs.toArray w R) (fun _ _ _ _ hm h => h.mono hm) hM ρ hargs hH0 hat θ hθ hfr hnd hle hH1
theorem jL {f : FuncId} {args0 args : List (SV C)} {H0 H0' H1 H1' : List (HS C)} {ret0 ret : SV C} {Hf : Nat → HS C} {nw : Nat} (hM : aF P D f args0 H0 ret0 H1) (ρ : List (Option Nat))
  (hargs : renL ρ args0 = some args) (hH0 : gR ρ H0 = some H0') (hat : eA Hf ρ H0') (θ : List (Option Nat)) (hθ : θ = ρ ++ gL (H1.length - H0.length) nw) (hfr : ∀ k, k < H1.length - H0.length → Hf (nw + k) = .fresh) (hnd : ndO θ = true) (hle : H0.length ≤ H1.length)
  (hH1 : gR θ H1 = some H1') (hret : nJ θ ret0 = some ret) : O2 P D f args (Hf) ret (J6 θ H1') := by
 refine ⟨.inl ⟨hM.enter, fun B σ df a w E hR vs hd => ?_⟩⟩;refine (D4 (Ω := fun e w' E' => ∃ v, e = .returned v ∧ Den D w' E' ret0 v) (fun w E hm vs hs hd => (hM.calls w E hm vs hs hd).mono fun e w' ⟨v, E', h1, h2, h3, h4⟩ => ⟨E', ⟨v, h1, h2⟩, h3, h4⟩) ρ hargs hH0 hat θ hθ hfr hnd hle hH1 B σ df a w E hR vs hd).mono ?_;rintro e w' ⟨e1, E1, ⟨v, h1, h2⟩, hF, hE1, hRel⟩;exact ⟨v, E1, h1, (pN (D := D) (w := w') (E := E1) (E' := e1) hF.symm hE1 ret0 ret v hret).2 h2, hRel⟩
theorem pI {f : FuncId} {args0 args : List (SV C)} {H0 H0' H1 H1' : List (HS C)} {ret0 ret : SV C} {Hp : List (HS C)} (hM : aF P D f args0 H0 ret0 H1) (ρ : List (Option Nat))
  (hargs : renL ρ args0 = some args) (hH0 : gR ρ H0 = some H0') (hat : eA (aR Hp) ρ H0') (θ : List (Option Nat)) (hθ : θ = ρ ++ gL (H1.length - H0.length) (hlen Hp)) (hnd : ndO θ = true) (hle : H0.length ≤ H1.length)
  (hH1 : gR θ H1 = some H1') (hret : nJ θ ret0 = some ret) : O2 P D f args (aR Hp) ret (J6 θ H1') :=
 jL hM ρ hargs hH0 hat θ hθ (fun k _ => qA Hp _ (by rw [← nR]; omega)) hnd hle hH1 hret
def Nf (θ : List (Option Nat)) : List Nat := θ.filterMap id
theorem xE {H H' : Nat → HS C} : ∀ (ρ : List (Option Nat)) (l : List (HS C)), (∀ c ∈ Nf ρ, H' c = H c) → eA H ρ l → eA H' ρ l
 | [], [], _, h => h
 | [], _ :: _, _, h => h.elim
 | none :: _, _, _, h => by simp [eA] at h
 | some d :: l, [], _, h => by simp [eA] at h
 | some d :: l, y :: m, hc, h => by
  simp only [eA] at h ⊢;exact ⟨(hc d (by simp [Nf])).trans h.1, xE l m (fun c hcc => hc c (by simp only [Nf, List.filterMap_cons, id]; exact List.mem_cons_of_mem _ hcc)) h.2⟩
theorem zW (l m : List (Option Nat)) : Nf (l ++ m) = Nf l ++ Nf m := List.filterMap_append
theorem Kq : ∀ (n m k : Nat), k < n → m + k ∈ Nf (gL n m)
 | 0, m, k, h => by omega
 | n + 1, m, 0, _ => by simp [Nf, gL]
 | n + 1, m, k + 1, h => by
  have := Kq n (m + 1) k (by omega);simp only [Nf, gL, List.filterMap_cons, id];rw [show m + (k + 1) = m + 1 + k by omega];exact List.mem_cons_of_mem _ this
theorem I5 {f : FuncId} {args0 args : List (SV C)} {H0 H0' H1 H1' : List (HS C)} {ret0 ret : SV C} {Hp : List (HS C)} (hM : aF P D f args0 H0 ret0 H1) (ρ : List (Option Nat))
  (hargs : renL ρ args0 = some args) (hH0 : gR ρ H0 = some H0') (hat : eA (aR Hp) ρ H0') (θ : List (Option Nat)) (hθ : θ = ρ ++ gL (H1.length - H0.length) (hlen Hp)) (hnd : ndO θ = true) (hle : H0.length ≤ H1.length)
  (hH1 : gR θ H1 = some H1') (hret : nJ θ ret0 = some ret) : q48 P D f args (aR Hp) (Nf θ) ret (J6 θ H1') :=
 ⟨fun H hH => jL hM ρ hargs hH0 (xE ρ H0' (fun c hc => hH c (by rw [hθ, zW]; simp [hc])) hat) θ hθ (fun k hk => (hH _ (by rw [hθ, zW]; exact List.mem_append_right _ (Kq _ _ _ hk))).trans (qA Hp _ (by rw [← nR]; omega))) hnd hle hH1 hret⟩
theorem Gj {f : FuncId} {args : List (SV C)} {ret : SV C} (hM : aF P D f args [] ret []) (hargs : renL [] args = some args) (hret : nJ [] ret = some ret) (H : List (HS C)) : O2 P D f args (aR H) ret [] := by
 have := pI (Hp := H) hM [] hargs rfl trivial [] rfl rfl (Nat.le_refl _) rfl hret;simpa [J6] using this
theorem Ow {next : DK C} {f : FuncId} {args : List (SV C)} {ret : SV C} {dst : Option Nat} {fs fc : List Nat} {tr : List Ent} {T : List (SV C)} {Hp : List (HS C)} (hM : aF P D f args [] ret [])
  (hargs : renL [] args = some args) (hret : nJ [] ret = some ret) (h : next (⟨dst, fs, fc ++ [], []⟩ :: tr) (mD T dst ret) Hp) : Y4 P D next f args dst fs fc tr T Hp :=
 ⟨ret, [], [], ⟨fun H _ => by
  have := jL (Hf := H) (nw := 0) hM [] hargs rfl trivial [] rfl (fun k hk => by simp at hk) rfl (Nat.le_refl _) rfl hret;simpa [J6] using this⟩, h⟩
theorem Od {next : DK C} {f : FuncId} {args0 args : List (SV C)} {H0 H0' H1 H1' : List (HS C)} {ret0 ret : SV C} {dst : Option Nat} {fs fc : List Nat} {tr : List Ent} {T : List (SV C)} {Hp : List (HS C)}
  (ρ : List (Option Nat)) (hM : aF P D f args0 H0 ret0 H1) (hargs : renL ρ args0 = some args) (hH0 : gR ρ H0 = some H0') (hat : eA (aR Hp) ρ H0') (θ : List (Option Nat)) (hθ : θ = ρ ++ gL (H1.length - H0.length) (hlen Hp)) (hnd : ndO θ = true)
  (hle : H0.length ≤ H1.length) (hH1 : gR θ H1 = some H1') (hret : nJ θ ret0 = some ret) (h : next (⟨dst, fs, fc ++ Nf θ, vY (J6 θ H1')⟩ :: tr) (mD T dst ret) (fS Hp (J6 θ H1'))) : Y4 P D next f args dst fs fc tr T Hp :=
 ⟨ret, _, _, I5 hM ρ hargs hH0 hat θ hθ hnd hle hH1 hret, h⟩
end
end Go.SX
namespace Go.SX
open Go.RowKit
variable {C : Cod}
structure Pq (w : World) (E : Env) (w' : World) (E' : Env) : Prop where
 F : ∀ b cs T z, w.heap[b]? = some (.cells cs T z) → w'.heap[b]? = some (.cells cs T z) ∧ (E.F b → E'.F b)
 β : E'.β = E.β
theorem Pq.cell {w w' : World} {E E' : Env} (h : Pq w E w' E') {b o : Nat} {v : Value} (hc : w.cell? ⟨b, o, none⟩ = some v) : w'.cell? ⟨b, o, none⟩ = some v ∧ (E.F b → E'.F b) := by
 obtain ⟨ob, h1, h2⟩ := cells_of_cell hc;cases ob with
 | cells cs T z =>
  obtain ⟨h3, h4⟩ := h.F b cs T z h1;exact ⟨(oC (h3.trans h1.symm)).trans hc, h4⟩
 | _ => simp [Obj.isCells] at h2
theorem Pq.row {w w' : World} {E E' : Env} (h : Pq w E w' E') {b : Nat} {cs : Array Value} {T : TypeId} (hr : Row w b cs T) : Row w' b cs T := by
 obtain ⟨z, h1, h2⟩ := hr;exact ⟨z, (h.F b cs T z h1).1, h2⟩
theorem Pq.glob {w w' : World} {E E' : Env} (h : Pq w E w' E') (hG : oW C w E) : oW C w' E' := by
 refine ⟨fun g hg => ?_, fun g hg => ?_⟩
 ·obtain ⟨h1, ⟨cs, T, z, h2, h3⟩, h4⟩ := hG.1 g hg;obtain ⟨h5, h6⟩ := h.F g cs T z h2;exact ⟨h6 h1, ⟨cs, T, z, h5, h3⟩, h4⟩
 ·obtain ⟨h1, v, T, z, h2, h3⟩ := hG.2 g hg;obtain ⟨h5, h6⟩ := h.F g _ T z h2;exact ⟨h6 h1, v, T, z, h5, h3⟩
theorem iV.shed {D : aJ C} {w w' : World} {E E' : Env} (hS : Pq w E w' E') {x : PV C} {v : Value} (h : iV D w E.F x v) : iV D w' E'.F x v := by
 induction h with
 | int k n => exact .int k n
 | bool b => exact .bool b
 | str l => exact .str l
 | lit v h => exact .lit v h
 | dslNil u a cap => exact .dslNil u a cap
 | dsl u xs b o cap cv hb hc hcell hden ih =>
  refine .dsl u xs b o cap cv (fun hx => ?_) hc (fun i x hx j pv hp => (hS.cell (hcell i x hx j pv hp)).1) ih;cases xs with
  | nil => exact absurd rfl hx
  | cons x r =>
   have hn : 0 < (D.enc u x).length := by rw [D.enc_len]; exact D.n_pos u
   exact (hS.cell (hcell 0 x rfl 0 _ (List.getElem?_eq_getElem hn))).2 (hb hx)
 | fds u xs a h ih => exact .fds u xs a ih
theorem cA.shed {D : aJ C} {w w' : World} {E E' : Env} (hS : Pq w E w' E') {l : List (PV C)} {vs : List Value} (h : cA D w E.F l vs) : cA D w' E'.F l vs :=
 ⟨h.1, fun j pv v hp hv => (h.2 j pv v hp hv).shed hS⟩
mutual
theorem Den.shed {D : aJ C} {w w' : World} {E E' : Env} (hS : Pq w E w' E') : ∀ (x : SV C) (v : Value), Den D w E x v → Den D w' E' x v
 | .p x, v, h => by simp only [Den] at *; exact h.shed hS
 | .any, _, _ => by simp only [Den]
 | .ptr c o, v, h => by simp only [Den, hS.β] at *; exact h
 | .eptr c o n i f, v, h => by simp only [Den, hS.β] at *; exact h
 | .yieldv c, v, h => by simp only [Den, hS.β] at *; exact h
 | .mapp c, v, h => by simp only [Den, hS.β] at *; exact h
 | .dptr cells f, v, h => by
  simp only [Den] at *;obtain ⟨b, o, rfl, hc⟩ := h;refine ⟨b, o, rfl, fun j pv hp => ?_⟩;obtain ⟨hb, cv, h1, h2⟩ := hc j pv hp;exact ⟨(hS.cell h1).2 hb, cv, (hS.cell h1).1, h2.shed hS⟩
 | .slice c o n off len, v, h => by
  simp only [Den, hS.β] at *;cases hb : E.β c with
  | loc b =>
   rw [hb] at h;rcases h with h | ⟨cap, cs, T, h1, h2, h3, h4⟩
   ·exact .inl h
   ·exact .inr ⟨cap, cs, T, h1, h2, hS.row h3, h4⟩
  | _ => rw [hb] at h; exact h
 | .arr _ _ _, _, h => by simp only [Den] at h
 | .agg vs, v, h => by
  simp only [Den] at *;obtain ⟨cs, h1, h2⟩ := h;exact ⟨cs, h1, DenC.shed hS vs _ h2⟩
 | .fn f first captured, v, h => by
  simp only [Den] at *;obtain ⟨xs, ys, h1, h2, h3⟩ := h;exact ⟨xs, ys, h1, DenA.shed hS first _ h2, DenA.shed hS captured _ h3⟩
 | .iface t x, v, h => by
  simp only [Den] at *;obtain ⟨u, h1, h2⟩ := h;exact ⟨u, h1, Den.shed hS x _ h2⟩
 | .tuple vs, v, h => by
  simp only [Den] at *;obtain ⟨xs, h1, h2⟩ := h;exact ⟨xs, h1, DenA.shed hS vs _ h2⟩
theorem DenC.shed {D : aJ C} {w w' : World} {E E' : Env} (hS : Pq w E w' E') : ∀ (l : List (SV C)) (vs : List Value), DenC D w E l vs → DenC D w' E' l vs
 | [], vs, h => by simp only [DenC] at *; exact h
 | x :: rest, vs, h => by
  have ih := DenC.shed (D := D) hS rest;cases x with
  | arr u N xs =>
   simp only [DenC] at *;obtain ⟨h0, v1, v2, h1, h2, h3⟩ := h;exact ⟨h0, v1, v2, h1, h2.shed hS, ih _ h3⟩
  | p y => simp only [DenC] at *; obtain ⟨v, v2, h1, h2, h3, h4⟩ := h; exact ⟨v, v2, h1, h2, Den.shed hS _ _ h3, ih _ h4⟩
  | any => simp only [DenC] at *; obtain ⟨v, v2, h1, h2, h3, h4⟩ := h; exact ⟨v, v2, h1, h2, Den.shed hS _ _ h3, ih _ h4⟩
  | ptr c o => simp only [DenC] at *; obtain ⟨v, v2, h1, h2, h3, h4⟩ := h; exact ⟨v, v2, h1, h2, Den.shed hS _ _ h3, ih _ h4⟩
  | eptr c o n i f => simp only [DenC] at *; obtain ⟨v, v2, h1, h2, h3, h4⟩ := h; exact ⟨v, v2, h1, h2, Den.shed hS _ _ h3, ih _ h4⟩
  | dptr c f => simp only [DenC] at *; obtain ⟨v, v2, h1, h2, h3, h4⟩ := h; exact ⟨v, v2, h1, h2, Den.shed hS _ _ h3, ih _ h4⟩
  | slice c o n off len => simp only [DenC] at *; obtain ⟨v, v2, h1, h2, h3, h4⟩ := h; exact ⟨v, v2, h1, h2, Den.shed hS _ _ h3, ih _ h4⟩
  | agg l => simp only [DenC] at *; obtain ⟨v, v2, h1, h2, h3, h4⟩ := h; exact ⟨v, v2, h1, h2, Den.shed hS (.agg l) _ h3, ih _ h4⟩
  | fn f a b => simp only [DenC] at *; obtain ⟨v, v2, h1, h2, h3, h4⟩ := h; exact ⟨v, v2, h1, h2, Den.shed hS (.fn f a b) _ h3, ih _ h4⟩
  | iface t y => simp only [DenC] at *; obtain ⟨v, v2, h1, h2, h3, h4⟩ := h; exact ⟨v, v2, h1, h2, Den.shed hS (.iface t y) _ h3, ih _ h4⟩
  | tuple l => simp only [DenC] at *; obtain ⟨v, v2, h1, h2, h3, h4⟩ := h; exact ⟨v, v2, h1, h2, Den.shed hS (.tuple l) _ h3, ih _ h4⟩
  | yieldv c => simp only [DenC] at *; obtain ⟨v, v2, h1, h2, h3, h4⟩ := h; exact ⟨v, v2, h1, h2, Den.shed hS _ _ h3, ih _ h4⟩
  | mapp c => simp only [DenC] at *; obtain ⟨v, v2, h1, h2, h3, h4⟩ := h; exact ⟨v, v2, h1, h2, Den.shed hS _ _ h3, ih _ h4⟩
theorem DenA.shed {D : aJ C} {w w' : World} {E E' : Env} (hS : Pq w E w' E') : ∀ (l : List (SV C)) (vs : List Value), DenA D w E l vs → DenA D w' E' l vs
 | [], vs, h => by simp only [DenA] at *; exact h
 | x :: rest, vs, h => by
  simp only [DenA] at *;obtain ⟨v, v2, h1, h2, h3⟩ := h;exact ⟨v, v2, h1, Den.shed hS x _ h2, DenA.shed hS rest _ h3⟩
end
section
variable {P : Program} {D : aJ C} {tab : Tab C} {B : dP} {E : Env} {σ : Nat → SV C} {H : Nat → HS C} {df : List Deferred} {a : Act} {w : World}
theorem Rel.takeMark {b : Nat} {bs : List Nat} (h : Rel D B E σ H (((b :: bs).map fun b => ⟨.collected b, #[]⟩) ++ B.ds) a w) :
  (Instr.takeDeferred b).run P w = .ok [] (w.putObj b (.deferred none)) ∧
  Rel D B { E with F := fun k => E.F k ∧ k ≠ b } σ H ((bs.map fun b => ⟨.collected b, #[]⟩) ++ B.ds) { a with defers := (bs.map fun b => ⟨.collected b, #[]⟩) ++ B.ds } (w.putObj b (.deferred none)) := by
 obtain ⟨bs', e, hnd, hm, hnm⟩ := h.marks;have hbs : bs' = b :: bs := (zJ _ _ (List.append_cancel_right e)).symm;subst hbs;obtain ⟨hF, hob, hge, hn0⟩ := hm b (by simp);have hlt : b < w.heap.size := h.sat.F b hF;have hoth : ∀ k, k ≠ b → (w.putObj b (.deferred none)).heap[k]? = w.heap[k]? := fun k hk => World.putObj_heap_other hk;have hS : Pq w E (w.putObj b (.deferred none)) { E with F := fun k => E.F k ∧ k ≠ b } := by
  refine ⟨fun k cs T z hk => ?_, rfl⟩;have hkb : k ≠ b := fun e => by rw [e, hob] at hk; cases hk
  exact ⟨(hoth k hkb).trans hk, fun hf => ⟨hf, hkb⟩⟩
 have hown : ∀ c k, E.β c = .loc k → k ≠ b := fun c k e ek => (h.sat.own c k e).2 (ek ▸ hF);refine ⟨run_takeDeferred hob, ⟨fun i => Den.shed hS _ _ (h.den i), ⟨fun c => ?_, fun c k e => ?_, h.sat.inj, fun k hk => ?_, hS.glob h.sat.glob⟩, ?_, rfl, bs, rfl, (List.nodup_cons.1 hnd).2, fun k hk => ?_, fun hn => by cases hnm hn⟩⟩
 ·have hok := h.sat.ok c;show HS.ok D _ _ (E.β c) _;cases hb : E.β c with
  | fresh => rw [hb] at hok; exact hok
  | dead => rw [hb] at hok; exact hok
  | virt => rw [hb] at hok; exact hok
  | loc k =>
   rw [hb] at hok;have hk := hown c k hb;simp only [HS.ok] at hok ⊢;cases hH : H c with
   | fresh => rw [hH] at hok; exact hok
   | dead => rw [hH] at hok; exact hok
   | vart _ vs => rw [hH] at hok; obtain ⟨cs, T, h1, h2⟩ := hok; exact ⟨cs, T, Wv.of (hoth k hk) h1, DenC.shed hS _ _ h2⟩
   | rows u xs => rw [hH] at hok; obtain ⟨cs, T, h1, h2, h3⟩ := hok; exact ⟨cs, T, Wv.of (hoth k hk) h1, h2, h3.shed hS⟩
   | obj o => rw [hH] at hok; obtain ⟨h1, h2⟩ := hok; exact ⟨(hoth k hk).trans h1, h2⟩
 ·have := h.sat.own c k e;exact ⟨by simpa using this.1, fun hf => this.2 hf.1⟩
 ·have := h.sat.F k hk.1; simpa using this
 ·refine ⟨h.fr.os, h.fr.tape, h.fr.output, by simpa using h.fr.size, fun k hk ho => (hoth k (by omega)).trans (h.fr.same k hk ho), ⟨fun k hk => ?_, h.fr.late.β, fun c k e1 e2 cs T hcs => ?_⟩, fun k hk => h.fr.newF k hk.1, h.fr.newO⟩
  ·have := h.fr.late.F k hk;have hkb : k ≠ b := fun e => hn0 (e ▸ hk);exact ⟨⟨this.1, hkb⟩, (hoth k hkb).trans this.2⟩
  ·obtain ⟨cs', T', h1, h2⟩ := h.fr.late.size c k e1 e2 cs T hcs;exact ⟨cs', T', Row.of (hoth k (hown c k e2)) h1, h2⟩
 ·have hk' := hm k (List.mem_cons_of_mem _ hk);have hkb : k ≠ b := fun e => (List.nodup_cons.1 hnd).1 (e ▸ hk);exact ⟨⟨hk'.1, hkb⟩, (hoth k hkb).trans hk'.2.1, hk'.2.2⟩
theorem tO {F : Fence} {n : Nat} {fn : Func} {R : Ending → World → Prop} {u : FrameMode} (hu : u ≠ .run) : ∀ (bs : List Nat) (a : Act) (w : World) (E : Env), Rel D B E σ H ((bs.map fun b => ⟨.collected b, #[]⟩) ++ B.ds) a w →
  (∀ w' E', Rel D B E' σ H B.ds { a with defers := B.ds } w' → LeavesInM F n P fn a.tmps R B.ds u w') →
  LeavesInM F n P fn a.tmps R ((bs.map fun b => ⟨.collected b, #[]⟩) ++ B.ds) u w
 | [], a, w, E, h, hK => by
  have hd := h.defers;exact hK w E ⟨h.den, h.sat, h.fr, rfl, sK.nil⟩
 | b :: bs, a, w, E, h, hK => by
  obtain ⟨h1, h2⟩ := h.takeMark (P := P);refine ⟨hu, .inl ⟨b, _, rfl, h1, ?_⟩⟩;exact tO hu bs { a with defers := (bs.map fun b => ⟨.collected b, #[]⟩) ++ B.ds } _ _ h2 hK
theorem nY {F : Fence} {n : Nat} {fn : Func} {R : Ending → World → Prop} {u : FrameMode} (hu : u ≠ .run) (h : Rel D B E σ H df a w)
  (hK : ∀ w' E', Rel D B E' σ H B.ds { a with defers := B.ds } w' → LeavesInM F n P fn a.tmps R B.ds u w') : LeavesInM F n P fn a.tmps R a.defers u w := by
 obtain ⟨bs, e, _⟩ := h.marks;rw [h.defers, e];subst e;exact tO hu bs a w E h hK
theorem qM {F : Fence} {n : Nat} {fn : Func} {R : Ending → World → Prop} (h : Rel D B E σ H df a w)
  (hK : ∀ w' E', Rel D B E' σ H [] { a with defers := [] } w' → ∃ v, (results fn a.tmps).run P w' = .ok v w' ∧ R (.returned v) w') (hds : B.ds = [] := by rfl) :
  LeavesInM F n P fn a.tmps R a.defers .returning w := by
 refine nY (by simp) h fun w' E' hR => ?_;rw [hds] at hR ⊢;exact hK w' E' hR
end
end Go.SX
namespace Go.SX
set_option linter.unusedSectionVars false
set_option maxHeartbeats 1000000
open Go.RowKit
variable {C : Cod}
def Yq : SV C := .p (.lit (.agg #[]))
def N5 : SV C → Bool
 | .p (.lit (.agg _)) => true
 | _ => false
def Iu (T : List (SV C)) : List Nat → Option Nat
 | [] => none
 | t :: l => match N5 (bX T t) with
  | true => some t
  | false => Iu T l
def rQ (P : Program) {D : aJ C} (A : Aux C D) (tab : Tab C) (K : DK C) (big : Nat) : List Oper → DK C
 | [] => K
 | ⟨dst, op, _, _, _, guard⟩ :: rest => fun tr T Hp => match Iu T (gN (aN op)) with
  | some t => rQ P A tab K big rest (⟨dst, [t], [], []⟩ :: tr) (mD T dst Yq) Hp
  | none => guard = none ∧ xG P A tab big (rQ P A tab K big rest) dst op [] tr T Hp
def noW : List Ent → Bool
 | [] => true
 | e :: l => match e.wc with
  | [] => noW l
  | _ :: _ => false
structure q9n (P : Program) (D : aJ C) (f : FuncId) (args : List (SV C)) (Hp : List (HS C)) (ch : List PanicEntry) (Hp' : List (HS C)) : Prop where
 run : (∀ args w, (callFunc f args).run P w = .ok (.enter f args) w) ∧ ∀ B σ df a w E, Rel D B E σ (aR Hp) df a w → ∀ vs, DenA D w E args vs →
  CallsIn (Fc none) 0 P f vs.toArray w fun e w' => ∃ E', e = .panicked ch ∧ Rel D B E' σ (aR Hp') df a w'
def Qf (all : List Oper) (dd : Nat) : DK C := fun tr T _ => N4 all tr.reverse = true ∧ noW tr = true ∧ N5 (bX T dd) = true
def q46 (P : Program) {D : aJ C} (A : Aux C D) (tab : Tab C) (R : kU C) (all : List Oper) (k : List (It C)) (big : Nat) : List Oper → DK C
 | ⟨some dd, op, _, _, _, none⟩ :: post => fun tr T Hp =>
  ∃ f args ch Hp', exec A tab op (bD T (aN op)) (rC Hp (bD T (aN op))) (hlen Hp) = .call f args ∧ q9n P D f args Hp ch Hp' ∧ R (.die ch :: k) (xR T.length) Hp' ∧
   rQ P A tab (Qf all dd) big post (⟨some dd, gN (aN op), [], []⟩ :: tr) (wK T dd Yq) Hp
 | _ => fun _ _ _ => False
def Rg (P : Program) {D : aJ C} (A : Aux C D) (tab : Tab C) (R : kU C) (ops : List Oper) (k : List (It C)) (T : List (SV C)) (Hp : List (HS C)) : Prop :=
 P.follows .mixedOrders = true ∧ ∃ i, rQ P A tab (q46 P A tab R ops k (hlen Hp + 1000) (ops.drop i)) (hlen Hp + 1000) (ops.take i) [] T Hp
section
variable {P : Program} {D : aJ C} {tab : Tab C} {B : dP} {E : Env} {σ : Nat → SV C} {H : Nat → HS C} {df : List Deferred} {a : Act} {w : World} {o : Oper} {r : Option Nat}
theorem N1 {x : SV C} (h : N5 x = true) {v : Value} (hd : Den D w E x v) : False := by
 unfold N5 at h;split at h
 ·simp only [Den] at hd;cases hd with
  | lit _ h => simp [Value.oneCell'] at h
 ·cases h
theorem Dt {T : List (SV C)} : ∀ {l : List Nat} {t : Nat}, Iu T l = some t → t ∈ l ∧ N5 (bX T t) = true
 | [], t, h => by simp [Iu] at h
 | s :: l, t, h => by
  simp only [Iu] at h;split at h
  ·rename_i hp;injection h with h;subst h;exact ⟨by simp, hp⟩
  ·obtain ⟨h1, h2⟩ := Dt h;exact ⟨List.mem_cons_of_mem _ h1, h2⟩
theorem Vh : ∀ {l : List Ent}, noW l = true → ∀ e ∈ l, e.wc = []
 | [], _, e, he => by simp at he
 | x :: l, h, e, he => by
  simp only [noW] at h;split at h
  ·rename_i hx;rcases List.mem_cons.1 he with rfl | he
   ·exact hx
   ·exact Vh h e he
  ·cases h
theorem pP (A : Aux C D) (hT : bZ P D tab) {all : List Oper} {Q : Exit → Act → World → Prop} {N : Nat} {big : Nat} {K : DK C} : ∀ (rest : List Oper) (i : Nat) (tr : List Ent) (T : List (SV C)) (Hp : List (HS C)),
  (∀ j, j < rest.length → rest[j]? = all[i + j]?) → T.length = N → rQ P A tab K big rest tr T Hp →
  ∃ (ss : List (Stp C)) (T' : List (SV C)) (Hp' : List (HS C)), ss.length = rest.length ∧ T'.length = N ∧ K ((ss.map (·.e)).reverse ++ tr) T' Hp' ∧
   (∀ j s, ss[j]? = some s → jO r P D B df Q N all (i + j) s (jJ N (bX T, aR Hp) (ss.take j))) ∧ jJ N (bX T, aR Hp) ss = (bX T', aR Hp')
 | [], i, tr, T, Hp, _, hN, h => ⟨[], T, Hp, rfl, hN, h, fun j s hs => by simp at hs, rfl⟩
 | o :: rest, i, tr, T, Hp, hall, hN, h => by
  have hi : all[i]? = some o := by have := hall 0 (by simp); simpa using this.symm
  have hrest : ∀ j, j < rest.length → rest[j]? = all[i + 1 + j]? := fun j hj => by
   have := hall (j + 1) (by simpa using hj);simp only [List.getElem?_cons_succ] at this;rw [this]; congr 1; omega
  have fin : (∃ s : Stp C, jO r P D B df Q N all i s (bX T, aR Hp) ∧ s.e.d = o.dst ∧ rQ P A tab K big rest (s.e :: tr) (mD T o.dst s.v) (fS Hp s.ws)) →
    ∃ (ss : List (Stp C)) (T' : List (SV C)) (Hp' : List (HS C)), ss.length = (o :: rest).length ∧ T'.length = N ∧ K ((ss.map (·.e)).reverse ++ tr) T' Hp' ∧
   (∀ j s, ss[j]? = some s → jO r P D B df Q N all (i + j) s (jJ N (bX T, aR Hp) (ss.take j))) ∧ jJ N (bX T, aR Hp) ss = (bX T', aR Hp') := by
   rintro ⟨s, h1, h2, h3⟩;obtain ⟨ss, T', Hp', g1, g2, g3, g4, g5⟩ := pP A hT rest (i + 1) _ _ _ hrest (by rw [gA, hN]) h3;have happ : s.app N (bX T, aR Hp) = (bX (mD T o.dst s.v), aR (fS Hp s.ws)) := by
    simp only [Stp.app, h2, gT, eO, hN]
   refine ⟨s :: ss, T', Hp', by simp [g1], g2, by simpa using g3, fun j u hu => ?_, by rw [jJ, happ]; exact g5⟩;cases j with
   | zero => simp at hu; subst hu; exact h1
   | succ j =>
    have := g4 j u (by simpa using hu);rw [show i + (j + 1) = i + 1 + j by omega, List.take_succ_cons, jJ, happ];exact this
  apply fin;obtain ⟨dst, op, ty, pos, after, guard⟩ := o;simp only [rQ] at h;split at h
  ·rename_i t ht;obtain ⟨_, hp⟩ := Dt ht;refine ⟨⟨⟨dst, [t], [], []⟩, Yq, [], rfl⟩, fun x' hfs _ a w K hok _ => ?_, rfl, h⟩;obtain ⟨E, hR, _⟩ := hok;have hd := hR.den t;rw [hfs t (by simp)] at hd;exact (N1 hp hd).elim
  ·obtain ⟨rfl, h⟩ := h;exact pO A hT hi (gs := []) (fun x' _ a w _ => gB rfl) h
theorem Ka {N : Nat} {s : Stp C} {x : ST C} (h : s.e.wc = []) : (s.app N x).2 = x.2 := by
 have : s.ws = [] := by have := s.hw; rw [h] at this; simpa using this
 simp only [Stp.app, this, rE]
theorem L6 {N : Nat} : ∀ (ss : List (Stp C)) (x : ST C), (∀ s ∈ ss, s.e.wc = []) → (jJ N x ss).2 = x.2
 | [], x, _ => rfl
 | s :: l, x, h => by rw [jJ, L6 l _ fun u hu => h u (by simp [hu]), Ka (h s (by simp))]
theorem Px {A : Aux C D} {R : kU C} {all : List Oper} {k : List (It C)} {big : Nat} {tr : List Ent} {T : List (SV C)} {Hp : List (HS C)} : ∀ l : List Oper, q46 P A tab R all k big l tr T Hp → ∃ dd op ty pos after post, l = ⟨some dd, op, ty, pos, after, none⟩ :: post ∧
  ∃ f args ch Hp', exec A tab op (bD T (aN op)) (rC Hp (bD T (aN op))) (hlen Hp) = .call f args ∧ q9n P D f args Hp ch Hp' ∧ R (.die ch :: k) (xR T.length) Hp' ∧
   rQ P A tab (Qf all dd) big post (⟨some dd, gN (aN op), [], []⟩ :: tr) (wK T dd Yq) Hp
 | [], h => h.elim
 | ⟨none, _, _, _, _, _⟩ :: _, h => h.elim
 | ⟨some _, _, _, _, _, some _⟩ :: _, h => h.elim
 | ⟨some dd, op, ty, pos, after, none⟩ :: post, h => ⟨dd, op, ty, pos, after, post, rfl, h⟩
theorem W7 (A : Aux C D) (hT : bZ P D tab) {R : kU C} {id : Nat} {ops : List Oper} {k : List (It C)} {T : List (SV C)} {Hp : List (HS C)} {Q : Exit → Act → World → Prop} (h : Rg P A tab R ops k T Hp)
  (hR : An D B df T Hp a w) (hQ : ∀ ch T' Hp' a' w', R (.die ch :: k) T' Hp' → An D B df T' Hp' a' w' → Q (.panic ch) a' w') : (Code.region id ops.toArray true).wpIn (Fc r) 0 P Q a w := by
 obtain ⟨hmix, i0, hgo⟩ := h;obtain ⟨E, hR', hsz⟩ := hR;refine wpIn_region_any hmix ?_;obtain ⟨ss1, T1, Hp1, g1, g2, g3, g4, g5⟩ := pP A hT (r := r) (Q := Q) (B := B) (df := df) (N := T.length) (all := ops) (ops.take i0) 0 [] T Hp (fun j hj => by
  rw [Nat.zero_add, List.getElem?_take];rw [List.length_take] at hj;rw [if_pos (by omega)]) rfl hgo
 simp only [List.append_nil] at g3;obtain ⟨dd, op, ty, pos, after, post, hdrop, g3⟩ := Px _ g3;obtain ⟨f, args, ch, Hp', hex, hdie, hRk, hpost⟩ := g3;have hi0 : i0 < ops.length := by
  rcases Nat.lt_or_ge i0 ops.length with h | h
  ·exact h
  ·rw [List.drop_eq_nil_of_le h] at hdrop; cases hdrop
 have hl1 : ss1.length = i0 := by rw [g1, List.length_take]; omega
 have hop : ops[i0]? = some ⟨some dd, op, ty, pos, after, none⟩ := by
  have : (ops.drop i0)[0]? = some ⟨some dd, op, ty, pos, after, none⟩ := by rw [hdrop]; rfl
  rwa [List.getElem?_drop, Nat.add_zero] at this
 have hpo : ∀ j, post[j]? = ops[i0 + 1 + j]? := fun j => by
  have : (ops.drop i0)[j + 1]? = post[j]? := by rw [hdrop]; rfl
  rw [← this, List.getElem?_drop]; congr 1; omega
 have hlen1 : ops.length = i0 + 1 + post.length := by
  have : (ops.drop i0).length = post.length + 1 := by rw [hdrop]; rfl
  rw [List.length_drop] at this; omega
 obtain ⟨ss2, T2, Hp2, e1, e2, e3, e4, e5⟩ := pP A hT (r := r) (Q := Q) (B := B) (df := df) (N := T.length) (all := ops) post (i0 + 1) _ _ _ (fun j _ => hpo j) (by rw [iO, g2]) hpost;obtain ⟨htr, hno, hpz⟩ := e3
 let sd : Stp C := ⟨⟨some dd, gN (aN op), [], []⟩, Yq, [], rfl⟩
 let dflt : Stp C := ⟨⟨none, [], [], []⟩, .any, [], rfl⟩
 obtain ⟨ss, hss⟩ : ∃ ss, ss = ss1 ++ sd :: ss2 := ⟨_, rfl⟩;have hsl : ss.length = ops.length := by rw [hss]; simp [hl1, e1]; omega
 have hmap : ((ss2.map (·.e)).reverse ++ (⟨some dd, gN (aN op), [], []⟩ :: (ss1.map (·.e)).reverse)).reverse = ss.map (·.e) := by rw [hss]; simp [sd]
 rw [hmap] at htr;have hnw : ∀ s ∈ ss, s.e.wc = [] := fun s hs => Vh hno s.e (by
  rw [← List.mem_reverse, hmap];exact List.mem_map.2 ⟨s, hs, rfl⟩)
 simp only [N4, Bool.and_eq_true] at htr;have hfold1 : jJ T.length (bX T, aR Hp) ss1 = (bX T1, aR Hp1) := g5;have hH1 : aR Hp1 = aR Hp := by
  have := L6 (N := T.length) ss1 (bX T, aR Hp) fun s hs => hnw s (by rw [hss]; simp [hs]);rw [hfold1] at this;exact this
 have hfoldd : sd.app T.length (bX T1, aR Hp1) = (bX (wK T1 dd Yq), aR Hp1) := by
  simp only [Stp.app, sd, rE];refine Prod.ext ?_ rfl;simp only;have := gT T1 (some dd) (Yq : SV C);rw [g2] at this;exact this.symm
 have hfin : jJ T.length (bX T, aR Hp) ss = (bX T2, aR Hp2) := by
  rw [hss, lT, hfold1, jJ, hfoldd];exact e5
 refine xJ (N := T.length) (x0 := (bX T, aR Hp)) (S := fun i => ss.getD i dflt) (Ok := fun x a w => OkS D B df T.length x a w ∧ x.2 = aR Hp) (n := ops.length) (by simp) ?_ ?_ ?_ ?_ _ _ a _ (by simp) ⟨fun k hk o ho e he hb => ?_⟩ ?_ ?_
 ·intro k o ho e he hb;have := wI ops 0 (ops := ops.toArray) (fun i => by simp) htr.1 k o (by simpa using ho) e he hb;simpa using this
 ·intro i j hij hj hc;have hj' : j < ss.length := by omega
  have hi' : i < ss.length := by omega
  have e1 : (ss.map (·.e))[i]? = some (ss.getD i dflt).e := by simp [hi']
  have e2 : (ss.map (·.e))[j]? = some (ss.getD j dflt).e := by simp [hj']
  have := oZ (ss.map (·.e)) 0 (fun q => by simp) htr.2 j i _ _ (by omega) e1 (by simpa using e2) e2 hc;rw [Nat.zero_add] at this;exact zN ops [] (ops := ops.toArray) (fun q => by simp) (fun k j h => by simp at h) j i this
 ·intro i hi x' h1 h2 a w K hok hK;have hi' : i < ss.length := by omega
  rw [pM (dflt := dflt) i (by omega)] at h1 h2;have hwi : (ss.getD i dflt).e.wc = [] := hnw _ (by rw [List.getD_eq_getElem?_getD, List.getElem?_eq_getElem hi']; exact List.getElem_mem hi');have hK' : ∀ a' w', OkS D B df T.length ((ss.getD i dflt).app T.length x') a' w' → K a' w' := fun a' w' ho => hK a' w' ⟨ho, (Ka hwi).trans hok.2⟩;rcases Nat.lt_trichotomy i i0 with hlt | rfl | hgt
  ·have hsi : ss1[i]? = some (ss.getD i dflt) := by
    rw [hss, List.getD_eq_getElem?_getD, List.getElem?_append_left (by omega)];simp [show i < ss1.length by omega]
   have := g4 i _ hsi;rw [Nat.zero_add] at this;rw [hss, List.take_append_of_le_length (by omega), ← hss] at h1 h2;exact this x' h1 h2 a w K hok.1 hK'
  ·have hsi : ss.getD i dflt = sd := by
    rw [hss, List.getD_eq_getElem?_getD, List.getElem?_append_right (by omega), hl1, Nat.sub_self]; rfl
   rw [hsi] at h1 h2;have htk : ss.take i = ss1 := by rw [hss, List.take_append_of_le_length (by omega), ← hl1, List.take_length]
   rw [htk, hfold1] at h1;obtain ⟨⟨E, hR, hsz⟩, hx2⟩ := hok;have hv : bD T1 (aN op) = (aN op).map (ev x'.1) := by
    rw [pE];exact (nK (σ := bX T1) (σ' := x'.1) _ fun t ht => h1 t ht).symm
   have hm' : x'.2 (hlen Hp1) = .fresh := by rw [hx2, ← hH1]; exact tL Hp1
   have hOK := V7 (o := ⟨some dd, op, ty, pos, after, none⟩) A hT hR hm' hv (hs := rC Hp1 (bD T1 (aN op))) (fun x hx c hc => (vX Hp1 _ x hx c hc).trans (by rw [hx2, hH1]));have hnd : ∀ c, op ≠ .defer c := H5 (o := ⟨some dd, op, ty, pos, after, none⟩) (m := hlen Hp1) (hs := rC Hp1 (bD T1 (aN op))) (vals := bD T1 (aN op)) A (by rw [hex]; simp);rw [hex] at hOK;unfold wpOpIn;simp only [List.getElem?_toArray, hop, gB (o := ⟨some dd, op, ty, pos, after, none⟩) rfl, if_true];refine ⟨fun _ _ => trivial, ?_⟩;obtain ⟨vs, hd, hrun⟩ := hOK E hR;obtain ⟨hc1, hc2⟩ := hdie.run;rw [show (Fc r).round = r from rfl, Oper.semAt_eq r _ _ hnd, hrun, hc1];refine ⟨fun h => by simp [Fc] at h, ?_⟩;rw [hx2, ← hH1] at hR;have hcalls := hc2 B _ df a w E hR vs hd;have hcalls' : CallsIn (Fc r) (0 - 1) P f vs.toArray w fun e w' => ∃ E', e = .panicked ch ∧ Rel D B E' x'.1 (aR Hp') df a w' := hcalls;refine hcalls'.mono ?_;rintro e w' ⟨E', rfl, hR'⟩;exact hQ ch _ _ a w' hRk ⟨E', ⟨fun i => by rw [mM]; simp [Den], hR'.sat, hR'.fr, hR'.defers, hR'.marks⟩, by rw [oK, g2]; exact hsz⟩
  ·have hsi : ss2[i - (i0 + 1)]? = some (ss.getD i dflt) := by
    rw [hss, List.getD_eq_getElem?_getD, List.getElem?_append_right (by omega), hl1, show i - i0 = (i - (i0 + 1)) + 1 by omega, List.getElem?_cons_succ];simp [show i - (i0 + 1) < ss2.length by omega]
   have := e4 _ _ hsi;rw [show i0 + 1 + (i - (i0 + 1)) = i by omega] at this;have htk : ss.take i = ss1 ++ sd :: ss2.take (i - (i0 + 1)) := by
    rw [hss, List.take_append, hl1, List.take_of_length_le (by omega), show i - i0 = (i - (i0 + 1)) + 1 by omega, List.take_succ_cons]
   rw [htk, lT, hfold1, jJ, hfoldd] at h1 h2;exact this x' h1 h2 a w K hok.1 hK'
 ·intro a w hok;rw [pM (dflt := dflt) _ (by omega), show ops.length = ss.length by omega, List.take_length, hfin] at hok;obtain ⟨⟨E, h1, h2⟩, _⟩ := hok;exact (N1 hpz (h1.den dd)).elim
 ·have ho' := ho;rw [Array.getElem?_eq_some_iff] at ho';obtain ⟨hlt, _⟩ := ho';simp at hlt;simp [hlt] at hk
 ·have : ∀ n, cnt (fun k => (Array.replicate ops.length false).getD k true) n ≤ n := by
   intro n
   induction n with
   | zero => exact Nat.le_refl _
   | succ n ih => simp only [cnt]; split <;> omega
  have := this ops.length;simpa using this
 ·have : ∀ n, n ≤ ops.length → stA T.length (bX T, aR Hp) (fun i => ss.getD i dflt) (fun k => (Array.replicate ops.toArray.size false).getD k true) n = (bX T, aR Hp) := by
   intro n
   induction n with
   | zero => intro _; rfl
   | succ n ih =>
    intro hn;have hf : (Array.replicate ops.toArray.size false).getD n true = false := by simp [show n < ops.length by omega]
    simp only [stA, hf, ih (by omega)]
  rw [this _ (Nat.le_refl _)];exact ⟨⟨E, hR'.drew, hsz⟩, rfl⟩
end
end Go.SX
