/-
  SX, part A: abstract values (persistent data, symbolic values), chunks, and what they denote in a world.
-/
import Derived.WalkKit
import Derived.RangeFuncRecord
import Derived.DeepKeys
set_option linter.unusedVariables false
set_option linter.unusedSimpArgs false
namespace Go.SX

/-- Codes of the element types of slices and arrays. -/
structure Cod where
 U : Type
 El : U → Type
 dflt : (u : U) → El u
 n : U → Nat
 /-- package variables that nothing writes: their cells; [] where nothing is known -/
 glob : Nat → List Value := fun _ => []
 /-- the type of the variables that rows of a code are made of, where it matters -/
 ty : U → Option TypeId := fun _ => none

/-- Persistent (never written) data. -/
inductive PV (C : Cod) where
 | int (k : IntKind) (n : Int)
 | bool (b : Bool)
 | str (l : List UInt8)
 | lit (v : Value)
 | dsl (u : C.U) (xs : List (C.El u))
 /-- a slice that has no room behind its elements -/
 | fds (u : C.U) (xs : List (C.El u))

structure Codec (C : Cod) where
 enc : (u : C.U) → C.El u → List (PV C)
 dec : (u : C.U) → List (PV C) → Option (C.El u)
 dec_ok : ∀ u l x, dec u l = some x → enc u x = l
 enc_len : ∀ u x, (enc u x).length = C.n u
 n_pos : ∀ u, 0 < C.n u

variable {C : Cod}

inductive PDen (D : Codec C) (w : World) (F : Nat → Prop) : PV C → Value → Prop
 | int (k : IntKind) (n : Int) : PDen D w F (.int k n) (.int k n)
 | bool (b : Bool) : PDen D w F (.bool b) (.bool b)
 | str (l : List UInt8) : PDen D w F (.str l) (.string ⟨⟨l⟩⟩)
 | lit (v : Value) (h : v.oneCell' = true) : PDen D w F (.lit v) v
 | dslNil (u : C.U) (a : Option Addr) (cap : Nat) : PDen D w F (.dsl u []) (.slice a 0 cap)
 | dsl (u : C.U) (xs : List (C.El u)) (b o cap : Nat) (cv : Nat → Nat → Value) (hF : xs ≠ [] → F b) (hc : xs.length ≤ cap)
   (hcell : ∀ (i : Nat) (x : C.El u), xs[i]? = some x → ∀ (j : Nat) (pv : PV C), (D.enc u x)[j]? = some pv → w.cell? ⟨b, o + i * C.n u + j, none⟩ = some (cv i j))
   (hden : ∀ (i : Nat) (x : C.El u), xs[i]? = some x → ∀ (j : Nat) (pv : PV C), (D.enc u x)[j]? = some pv → PDen D w F pv (cv i j)) :
   PDen D w F (.dsl u xs) (.slice (some ⟨b, o, none⟩) xs.length cap)
 | fds (u : C.U) (xs : List (C.El u)) (a : Option Addr) (h : PDen D w F (.dsl u xs) (.slice a xs.length xs.length)) : PDen D w F (.fds u xs) (.slice a xs.length xs.length)

theorem cell_of_block {w w' : World} {b o : Nat} (h : w'.heap[b]? = w.heap[b]?) : w'.cell? ⟨b, o, none⟩ = w.cell? ⟨b, o, none⟩ := by
 simp [World.cell?, h]

theorem PDen.mono {D : Codec C} {w w' : World} {F F' : Nat → Prop} {x : PV C} {v : Value} (h : PDen D w F x v)
  (hF : ∀ b, F b → F' b ∧ w'.heap[b]? = w.heap[b]?) : PDen D w' F' x v := by
 induction h with
 | int k n => exact .int k n
 | bool b => exact .bool b
 | str l => exact .str l
 | lit v h => exact .lit v h
 | dslNil u a cap => exact .dslNil u a cap
 | dsl u xs b o cap cv hb hc hcell hden ih =>
  exact .dsl u xs b o cap cv (fun hx => (hF b (hb hx)).1) hc (fun i x hx j pv hp => (cell_of_block (hF b (hb fun e => by rw [e] at hx; simp at hx)).2).trans (hcell i x hx j pv hp)) ih
 | fds u xs a h ih => exact .fds u xs a ih

theorem PDen.oneCell {D : Codec C} {w : World} {F : Nat → Prop} {x : PV C} {v : Value} (h : PDen D w F x v) : v.oneCell' = true := by
 cases h <;> first | rfl | assumption

def PDenL (D : Codec C) (w : World) (F : Nat → Prop) (l : List (PV C)) (vs : List Value) : Prop :=
 l.length = vs.length ∧ ∀ (j : Nat) (pv : PV C) (v : Value), l[j]? = some pv → vs[j]? = some v → PDen D w F pv v

theorem PDenL.mono {D : Codec C} {w w' : World} {F F' : Nat → Prop} {l : List (PV C)} {vs : List Value} (h : PDenL D w F l vs)
  (hF : ∀ b, F b → F' b ∧ w'.heap[b]? = w.heap[b]?) : PDenL D w' F' l vs :=
 ⟨h.1, fun j pv v hp hv => (h.2 j pv v hp hv).mono hF⟩

theorem PDenL.oneCell {D : Codec C} {w : World} {F : Nat → Prop} {l : List (PV C)} {vs : List Value} (h : PDenL D w F l vs) : ∀ v ∈ vs, v.oneCell' = true := by
 intro v hv
 obtain ⟨j, hj, e⟩ := List.getElem_of_mem hv
 have hl : j < l.length := h.1 ▸ hj
 exact (h.2 j l[j] v (List.getElem?_eq_getElem hl) (by rw [List.getElem?_eq_getElem hj, e])).oneCell

/-- Symbolic values. -/
inductive SV (C : Cod) where
 | p (x : PV C)
 | any
 | ptr (c o : Nat)
 | eptr (c o n i f : Nat)
 | dptr (cells : List (PV C)) (f : Nat)
 | slice (c o n off len : Nat)
 | arr (u : C.U) (N : Nat) (xs : List (C.El u))
 | agg (vs : List (SV C))
 | fn (f : Fn) (first captured : List (SV C))
 | iface (t : TypeId) (v : SV C)
 | tuple (vs : List (SV C))
 | yieldv (c : Nat)
 | mapp (c : Nat)

/-- no cell of a block of n cells is frozen -/
def Thaw (z : Nat × Nat) (n : Nat) : Prop := ∀ o, o < n → z.1 ≤ o → o < z.2 → False
/-- a block of cells that may be written -/
def Row (w : World) (b : Nat) (cs : Array Value) (T : TypeId) : Prop := ∃ z, w.heap[b]? = some (.cells cs T z) ∧ Thaw z cs.size
/-- .. of variables of a type -/
def RowT (o : Option TypeId) (w : World) (b : Nat) (cs : Array Value) (T : TypeId) : Prop := Row w b cs T ∧ ∀ t, o = some t → T = t
theorem Thaw.zero (n : Nat) : Thaw (0, 0) n := fun o _ _ h => by simp at h
theorem Row.of {w w' : World} {b : Nat} {cs : Array Value} {T : TypeId} (h : w'.heap[b]? = w.heap[b]?) (hr : Row w b cs T) : Row w' b cs T := by
 obtain ⟨z, h1, h2⟩ := hr; exact ⟨z, h.trans h1, h2⟩
theorem Row.new {w : World} {b : Nat} {cs : Array Value} {T : TypeId} (h : w.heap[b]? = some (.cells cs T (0, 0))) : Row w b cs T := ⟨(0, 0), h, Thaw.zero _⟩
theorem Row.lt {w : World} {b : Nat} {cs : Array Value} {T : TypeId} (h : Row w b cs T) : b < w.heap.size := by
 obtain ⟨z, h1, _⟩ := h; exact (Array.getElem?_eq_some_iff.1 h1).1
theorem Row.inj {w : World} {b : Nat} {cs cs' : Array Value} {T T' : TypeId} (h : Row w b cs T) (h' : Row w b cs' T') : cs = cs' ∧ T = T' := by
 obtain ⟨z, h1, _⟩ := h; obtain ⟨z', h1', _⟩ := h'
 rw [h1] at h1'; injection h1' with h1'; injection h1' with e1 e2 e3; exact ⟨e1, e2⟩

theorem RowT.of {o : Option TypeId} {w w' : World} {b : Nat} {cs : Array Value} {T : TypeId} (h : w'.heap[b]? = w.heap[b]?) (hr : RowT o w b cs T) : RowT o w' b cs T := ⟨hr.1.of h, hr.2⟩

/-- What has become of a chunk's number: not given out; given up; an owned slice that may still be nil; in a block. -/
inductive BS where
 | fresh | dead | virt | loc (b : Nat)

structure Env where
 F : Nat → Prop
 β : Nat → BS

mutual
def Den (D : Codec C) (w : World) (E : Env) : SV C → Value → Prop
 | .p x, v => PDen D w E.F x v
 | .any, _ => True
 | .ptr c o, v => match E.β c with
  | .dead => v.oneCell' = true
  | .loc b => v = .pointer (some ⟨b, o, none⟩)
  | _ => False
 | .eptr c o n i f, v => match E.β c with
  | .dead => v.oneCell' = true
  | .loc b => v = .pointer (some ⟨b, o + i * n + f, none⟩)
  | _ => False
 | .dptr cells f, v => ∃ b o, v = .pointer (some ⟨b, o + f, none⟩) ∧
   ∀ (j : Nat) (pv : PV C), cells[j]? = some pv → E.F b ∧ ∃ cv, w.cell? ⟨b, o + j, none⟩ = some cv ∧ PDen D w E.F pv cv
 | .slice c o n off len, v => match E.β c with
  | .dead => v.oneCell' = true
  | .fresh => False
  | .virt => ∃ a, v = .slice a 0 0 ∧ len = 0
  | .loc b => (len = 0 ∧ ∃ a, v = .slice a 0 0) ∨
   ∃ cap cs T, v = .slice (some ⟨b, o + off * n, none⟩) len cap ∧ len ≤ cap ∧ Row w b cs T ∧ o + (off + cap) * n ≤ cs.size
 | .arr _ _ _, _ => False
 | .agg vs, v => ∃ cs, v = .agg cs ∧ DenC D w E vs cs.toList
 | .fn f first captured, v => ∃ xs ys, v = .func f xs ys ∧ DenA D w E first xs.toList ∧ DenA D w E captured ys.toList
 | .iface t x, v => ∃ u, v = .iface t u ∧ Den D w E x u
 | .tuple vs, v => ∃ xs, v = .tuple xs ∧ DenA D w E vs xs.toList
 | .yieldv c, v => match E.β c with
  | .dead => v.oneCell' = true
  | .loc b => v = .func (.yield b) #[] #[]
  | _ => False
 | .mapp c, v => match E.β c with
  | .dead => v.oneCell' = true
  | .loc b => v = .map (some b)
  | _ => False
/-- the cells of an aggregate: one value a cell, but a group 'arr' stands for many -/
def DenC (D : Codec C) (w : World) (E : Env) : List (SV C) → List Value → Prop
 | [], vs => vs = []
 | .arr u N xs :: rest, vs => xs.length = N ∧ ∃ v1 v2, vs = v1 ++ v2 ∧ PDenL D w E.F (xs.flatMap (D.enc u)) v1 ∧ DenC D w E rest v2
 | x :: rest, vs => ∃ v v2, vs = v :: v2 ∧ v.oneCell' = true ∧ Den D w E x v ∧ DenC D w E rest v2
def DenA (D : Codec C) (w : World) (E : Env) : List (SV C) → List Value → Prop
 | [], vs => vs = []
 | x :: rest, vs => ∃ v v2, vs = v :: v2 ∧ Den D w E x v ∧ DenA D w E rest v2
end

theorem Den.one_ptr {D : Codec C} {w : World} {E : Env} {c o : Nat} {v : Value} (h : Den D w E (.ptr c o) v) : v.oneCell' = true := by
 simp only [Den] at h
 split at h
 ·exact h
 ·rw [h]; rfl
 ·exact h.elim
theorem Den.one_eptr {D : Codec C} {w : World} {E : Env} {c o n i f : Nat} {v : Value} (h : Den D w E (.eptr c o n i f) v) : v.oneCell' = true := by
 simp only [Den] at h
 split at h
 ·exact h
 ·rw [h]; rfl
 ·exact h.elim
theorem Den.one_yieldv {D : Codec C} {w : World} {E : Env} {c : Nat} {v : Value} (h : Den D w E (.yieldv c) v) : v.oneCell' = true := by
 simp only [Den] at h
 split at h
 ·exact h
 ·rw [h]; rfl
 ·exact h.elim
theorem Den.one_mapp {D : Codec C} {w : World} {E : Env} {c : Nat} {v : Value} (h : Den D w E (.mapp c) v) : v.oneCell' = true := by
 simp only [Den] at h
 split at h
 ·exact h
 ·rw [h]; rfl
 ·exact h.elim
theorem Den.one_slice {D : Codec C} {w : World} {E : Env} {c o n off len : Nat} {v : Value} (h : Den D w E (.slice c o n off len) v) : v.oneCell' = true := by
 simp only [Den] at h
 split at h
 ·exact h
 ·exact h.elim
 ·obtain ⟨a, h, _⟩ := h; rw [h]; rfl
 ·rcases h with ⟨_, ad, h⟩ | ⟨cap, cs, T, h, _⟩
  ·rw [h]; rfl
  ·rw [h]; rfl

/-- 'later': what was known of E in w holds of E' in w'. -/
structure Later (w : World) (E : Env) (w' : World) (E' : Env) : Prop where
 F : ∀ b, E.F b → E'.F b ∧ w'.heap[b]? = w.heap[b]?
 β : ∀ c, E'.β c = E.β c ∨ E'.β c = .dead ∨ E.β c = .fresh
 size : ∀ c b, E.β c = .loc b → E'.β c = .loc b → ∀ cs T, Row w b cs T → ∃ cs' T', Row w' b cs' T' ∧ cs'.size = cs.size

theorem Later.refl (w : World) (E : Env) : Later w E w E :=
 ⟨fun _ h => ⟨h, rfl⟩, fun _ => .inl rfl, fun _ _ _ _ cs T h => ⟨cs, T, h, rfl⟩⟩

theorem Later.trans {w w' w'' : World} {E E' E'' : Env} (h : Later w E w' E') (k : Later w' E' w'' E'') : Later w E w'' E'' where
 F := fun b hb => ⟨(k.F b (h.F b hb).1).1, (k.F b (h.F b hb).1).2.trans (h.F b hb).2⟩
 β := fun c => by
  rcases h.β c with e | e | e
  ·rcases k.β c with e' | e' | e'
   ·exact .inl (e'.trans e)
   ·exact .inr (.inl e')
   ·exact .inr (.inr (e ▸ e'))
  ·rcases k.β c with e' | e' | e'
   ·exact .inr (.inl (e'.trans e))
   ·exact .inr (.inl e')
   ·rw [e] at e'; cases e'
  ·exact .inr (.inr e)
 size := fun c b e1 e2 cs T hcs => by
  have e3 : E'.β c = .loc b := by
   rcases h.β c with e | e | e
   ·exact e.trans e1
   ·rcases k.β c with e' | e' | e'
    ·rw [e', e] at e2; cases e2
    ·rw [e'] at e2; cases e2
    ·rw [e] at e'; cases e'
   ·rw [e] at e1; cases e1
  obtain ⟨cs', T', h1, h2⟩ := h.size c b e1 e3 cs T hcs
  obtain ⟨cs'', T'', h3, h4⟩ := k.size c b e3 e2 cs' T' h1
  exact ⟨cs'', T'', h3, h4.trans h2⟩

mutual
theorem Den.mono {D : Codec C} {w w' : World} {E E' : Env} (hL : Later w E w' E') : ∀ (x : SV C) (v : Value), Den D w E x v → Den D w' E' x v
 | .p x, v, h => by simp only [Den] at *; exact h.mono hL.F
 | .any, _, _ => by simp only [Den]
 | .ptr c o, v, h => by
  have h1 := Den.one_ptr h
  simp only [Den] at *
  rcases hL.β c with e | e | e
  ·rw [e]; exact h
  ·rw [e]; exact h1
  ·rw [e] at h; exact h.elim
 | .eptr c o n i f, v, h => by
  have h1 := Den.one_eptr h
  simp only [Den] at *
  rcases hL.β c with e | e | e
  ·rw [e]; exact h
  ·rw [e]; exact h1
  ·rw [e] at h; exact h.elim
 | .dptr cells f, v, h => by
  simp only [Den] at *
  obtain ⟨b, o, rfl, hc⟩ := h
  refine ⟨b, o, rfl, fun j pv hp => ?_⟩
  obtain ⟨hb, cv, h1, h2⟩ := hc j pv hp
  exact ⟨(hL.F b hb).1, cv, (cell_of_block (hL.F b hb).2).trans h1, h2.mono hL.F⟩
 | .slice c o n off len, v, h => by
  have h1 := Den.one_slice h
  simp only [Den] at *
  rcases hL.β c with e | e | e
  ·rw [e]
   cases hb : E.β c with
   | fresh => rw [hb] at h; exact h
   | dead => exact h1
   | virt => rw [hb] at h; exact h
   | loc b =>
    rw [hb] at h
    rcases h with h | ⟨cap, cs, T, h1, h2, h3, h4⟩
    ·exact .inl h
    ·obtain ⟨cs', T', h5, h6⟩ := hL.size c b hb (e.trans hb) cs T h3
     exact .inr ⟨cap, cs', T', h1, h2, h5, by omega⟩
  ·rw [e]; exact h1
  ·rw [e] at h; exact h.elim
 | .arr _ _ _, _, h => by simp only [Den] at h
 | .agg vs, v, h => by
  simp only [Den] at *
  obtain ⟨cs, h1, h2⟩ := h
  exact ⟨cs, h1, DenC.mono hL vs _ h2⟩
 | .fn f first captured, v, h => by
  simp only [Den] at *
  obtain ⟨xs, ys, h1, h2, h3⟩ := h
  exact ⟨xs, ys, h1, DenA.mono hL first _ h2, DenA.mono hL captured _ h3⟩
 | .iface t x, v, h => by
  simp only [Den] at *
  obtain ⟨u, h1, h2⟩ := h
  exact ⟨u, h1, Den.mono hL x _ h2⟩
 | .tuple vs, v, h => by
  simp only [Den] at *
  obtain ⟨xs, h1, h2⟩ := h
  exact ⟨xs, h1, DenA.mono hL vs _ h2⟩
 | .yieldv c, v, h => by
  have h1 := Den.one_yieldv h
  simp only [Den] at *
  rcases hL.β c with e | e | e
  ·rw [e]; exact h
  ·rw [e]; exact h1
  ·rw [e] at h; exact h.elim
 | .mapp c, v, h => by
  have h1 := Den.one_mapp h
  simp only [Den] at *
  rcases hL.β c with e | e | e
  ·rw [e]; exact h
  ·rw [e]; exact h1
  ·rw [e] at h; exact h.elim
theorem DenC.mono {D : Codec C} {w w' : World} {E E' : Env} (hL : Later w E w' E') : ∀ (l : List (SV C)) (vs : List Value), DenC D w E l vs → DenC D w' E' l vs
 | [], vs, h => by simp only [DenC] at *; exact h
 | x :: rest, vs, h => by
  have ih := DenC.mono (D := D) hL rest
  cases x with
  | arr u N xs =>
   simp only [DenC] at *
   obtain ⟨h0, v1, v2, h1, h2, h3⟩ := h
   exact ⟨h0, v1, v2, h1, h2.mono hL.F, ih _ h3⟩
  | p y => simp only [DenC] at *; obtain ⟨v, v2, h1, h2, h3, h4⟩ := h; exact ⟨v, v2, h1, h2, Den.mono hL _ _ h3, ih _ h4⟩
  | any => simp only [DenC] at *; obtain ⟨v, v2, h1, h2, h3, h4⟩ := h; exact ⟨v, v2, h1, h2, Den.mono hL _ _ h3, ih _ h4⟩
  | ptr c o => simp only [DenC] at *; obtain ⟨v, v2, h1, h2, h3, h4⟩ := h; exact ⟨v, v2, h1, h2, Den.mono hL _ _ h3, ih _ h4⟩
  | eptr c o n i f => simp only [DenC] at *; obtain ⟨v, v2, h1, h2, h3, h4⟩ := h; exact ⟨v, v2, h1, h2, Den.mono hL _ _ h3, ih _ h4⟩
  | dptr c f => simp only [DenC] at *; obtain ⟨v, v2, h1, h2, h3, h4⟩ := h; exact ⟨v, v2, h1, h2, Den.mono hL _ _ h3, ih _ h4⟩
  | slice c o n off len => simp only [DenC] at *; obtain ⟨v, v2, h1, h2, h3, h4⟩ := h; exact ⟨v, v2, h1, h2, Den.mono hL _ _ h3, ih _ h4⟩
  | agg l => simp only [DenC] at *; obtain ⟨v, v2, h1, h2, h3, h4⟩ := h; exact ⟨v, v2, h1, h2, Den.mono hL (.agg l) _ h3, ih _ h4⟩
  | fn f a b => simp only [DenC] at *; obtain ⟨v, v2, h1, h2, h3, h4⟩ := h; exact ⟨v, v2, h1, h2, Den.mono hL (.fn f a b) _ h3, ih _ h4⟩
  | iface t y => simp only [DenC] at *; obtain ⟨v, v2, h1, h2, h3, h4⟩ := h; exact ⟨v, v2, h1, h2, Den.mono hL (.iface t y) _ h3, ih _ h4⟩
  | tuple l => simp only [DenC] at *; obtain ⟨v, v2, h1, h2, h3, h4⟩ := h; exact ⟨v, v2, h1, h2, Den.mono hL (.tuple l) _ h3, ih _ h4⟩
  | yieldv c => simp only [DenC] at *; obtain ⟨v, v2, h1, h2, h3, h4⟩ := h; exact ⟨v, v2, h1, h2, Den.mono hL _ _ h3, ih _ h4⟩
  | mapp c => simp only [DenC] at *; obtain ⟨v, v2, h1, h2, h3, h4⟩ := h; exact ⟨v, v2, h1, h2, Den.mono hL _ _ h3, ih _ h4⟩
theorem DenA.mono {D : Codec C} {w w' : World} {E E' : Env} (hL : Later w E w' E') : ∀ (l : List (SV C)) (vs : List Value), DenA D w E l vs → DenA D w' E' l vs
 | [], vs, h => by simp only [DenA] at *; exact h
 | x :: rest, vs, h => by
  simp only [DenA] at *
  obtain ⟨v, v2, h1, h2, h3⟩ := h
  exact ⟨v, v2, h1, Den.mono hL x _ h2, DenA.mono hL rest _ h3⟩
end

end Go.SX

/-
 SX, part B: chunks, the heap's meaning, the frame's meaning; how each change of the world carries them on.
-/
namespace Go.SX
open Go.RowKit
variable {C : Cod}

/-- A chunk's abstract content. -/
inductive HS (C : Cod) where
 | fresh
 | dead
 | vart (t : Option TypeId) (vs : List (SV C))
 | rows (u : C.U) (xs : List (C.El u))
 | obj (o : Obj)

@[reducible] def HS.var (vs : List (SV C)) : HS C := .vart none vs
def HS.at (D : Codec C) (w : World) (E : Env) (b : Nat) : HS C → Prop
 | .fresh => False
 | .dead => False
 | .vart t vs => ∃ cs T, RowT t w b cs T ∧ DenC D w E vs cs.toList
 | .rows u xs => ∃ cs T, RowT (C.ty u) w b cs T ∧ xs.length * C.n u ≤ cs.size ∧ PDenL D w E.F (xs.flatMap (D.enc u)) (cs.toList.take (xs.length * C.n u))
 | .obj o => w.heap[b]? = some o ∧ ∀ cs T z, o ≠ .cells cs T z

def HS.ok (D : Codec C) (w : World) (E : Env) : BS → HS C → Prop
 | .fresh, h => h = .fresh
 | .dead, h => h = .dead
 | .virt, h => ∃ u, h = .rows u []
 | .loc b, h => h.at D w E b

/-- a cell of a package variable, as persistent data -/
def pvOf : Value → PV C
 | .int k n => .int k n
 | .bool b => .bool b
 | .string s => .str s.data.toList
 | v => .lit v
/-- the package variables that are known lie there, and persist -/
def GlobOK (C : Cod) (w : World) (E : Env) : Prop := ∀ g, C.glob g ≠ [] → E.F g ∧ (∃ cs T z, w.heap[g]? = some (.cells cs T z) ∧ cs.toList = C.glob g) ∧ ∀ v ∈ C.glob g, v.oneCell' = true
theorem GlobOK.mono {w w' : World} {E E' : Env} (h : GlobOK C w E) (hF : ∀ b, E.F b → E'.F b ∧ w'.heap[b]? = w.heap[b]?) : GlobOK C w' E' := fun g hg => by
 obtain ⟨h1, ⟨cs, T, z, h2, h3⟩, h4⟩ := h g hg
 exact ⟨(hF g h1).1, ⟨cs, T, z, (hF g h1).2.trans h2, h3⟩, h4⟩

structure Sat (D : Codec C) (w : World) (E : Env) (H : Nat → HS C) : Prop where
 ok : ∀ c, (H c).ok D w E (E.β c)
 own : ∀ c b, E.β c = .loc b → b < w.heap.size ∧ ¬ E.F b
 inj : ∀ c c' b, E.β c = .loc b → E.β c' = .loc b → c = c'
 F : ∀ b, E.F b → b < w.heap.size
 glob : GlobOK C w E

/-- Where the function began: its world, what was persistent, which blocks it owns. -/
structure Base where
 w0 : World
 E0 : Env
 O : Nat → Prop
 m0 : Nat
 hm0 : ∀ c, m0 ≤ c → E0.β c = .fresh

structure Fr (B : Base) (E : Env) (w : World) : Prop where
 os : w.os = B.w0.os
 tape : w.tape = B.w0.tape
 output : w.output = B.w0.output
 size : B.w0.heap.size ≤ w.heap.size
 same : ∀ b, b < B.w0.heap.size → ¬ B.O b → w.heap[b]? = B.w0.heap[b]?
 late : Later B.w0 B.E0 w E
 newF : ∀ b, E.F b → B.E0.F b ∨ B.O b ∨ B.w0.heap.size ≤ b
 newO : ∀ c b, E.β c = .loc b → B.O b ∨ B.w0.heap.size ≤ b

/-- the marks that ranges over functions have left among the deferred calls -/
def Marks (B : Base) (E : Env) (w : World) (df : List Deferred) : Prop :=
 ∃ bs : List Nat, df = bs.map (fun b => ⟨.collected b, #[]⟩) ∧ bs.Nodup ∧ ∀ b ∈ bs, E.F b ∧ w.heap[b]? = some (.deferred (some [])) ∧ B.w0.heap.size ≤ b ∧ ¬ B.E0.F b
theorem Marks.nil {B : Base} {E : Env} {w : World} : Marks B E w [] := ⟨[], rfl, List.nodup_nil, fun b h => by simp at h⟩
theorem Marks.mono {B : Base} {E E' : Env} {w w' : World} {df : List Deferred} (h : Marks B E w df) (hF : ∀ b, E.F b → E'.F b ∧ w'.heap[b]? = w.heap[b]?) : Marks B E' w' df := by
 obtain ⟨bs, h1, h2, h3⟩ := h
 exact ⟨bs, h1, h2, fun b hb => ⟨(hF b (h3 b hb).1).1, (hF b (h3 b hb).1).2.trans (h3 b hb).2.1, (h3 b hb).2.2⟩⟩

structure Rel (D : Codec C) (B : Base) (E : Env) (σ : Nat → SV C) (H : Nat → HS C) (df : List Deferred) (a : Act) (w : World) : Prop where
 den : ∀ i, Den D w E (σ i) (a.tmps.getD i undef)
 sat : Sat D w E H
 fr : Fr B E w
 defers : a.defers = df
 marks : Marks B E w df

/-- put into a slot: nothing where there is no such slot -/
def upT (nt : Nat) (σ : Nat → SV C) (d : Option Nat) (x : SV C) : Nat → SV C :=
 match d with
 | none => σ
 | some d => fun i => if i = d ∧ d < nt then x else σ i
def upH (H : Nat → HS C) (c : Nat) (h : HS C) : Nat → HS C := fun i => if i = c then h else H i
def upHs (H : Nat → HS C) : List (Nat × HS C) → Nat → HS C
 | [] => H
 | (c, h) :: l => upHs (upH H c h) l

theorem getD_put (a : Act) (d : Option Nat) (v : Value) (i : Nat) :
  (a.put d v).tmps.getD i undef = match d with | none => a.tmps.getD i undef | some d => if i = d ∧ d < a.tmps.size then v else a.tmps.getD i undef := by
 cases d with
 | none => rfl
 | some d =>
  simp only [Act.put, Array.getD_eq_getD_getElem?, Array.getElem?_setIfInBounds]
  by_cases h : d = i
  ·subst h
   by_cases h2 : d < a.tmps.size <;> simp [h2]
  ·simp [h, Ne.symm h]

theorem size_put (a : Act) (d : Option Nat) (v : Value) : (a.put d v).tmps.size = a.tmps.size := by
 cases d <;> simp [Act.put]

theorem Rel.put {D : Codec C} {B : Base} {E : Env} {σ : Nat → SV C} {H : Nat → HS C} {df : List Deferred} {a : Act} {w : World}
  (h : Rel D B E σ H df a w) {nt : Nat} (hnt : a.tmps.size = nt) (d : Option Nat) {x : SV C} {v : Value} (hx : d = none ∨ Den D w E x v) :
  Rel D B E (upT nt σ d x) H df (a.put d v) w := by
 refine ⟨fun i => ?_, h.sat, h.fr, ?_, h.marks⟩
 ·rw [getD_put]
  cases d with
  | none => exact h.den i
  | some d =>
   simp only [upT]
   by_cases hi : i = d ∧ d < nt
   ·rw [if_pos hi, if_pos (hnt ▸ hi)]
    exact hx.resolve_left (by simp)
   ·rw [if_neg hi, if_neg (hnt ▸ hi)]
    exact h.den i
 ·cases d <;> exact h.defers

/-- The world and the environment have changed; the slots have not. -/
theorem Rel.later {D : Codec C} {B : Base} {E E' : Env} {σ : Nat → SV C} {H H' : Nat → HS C} {df : List Deferred} {a : Act} {w w' : World}
  (h : Rel D B E σ H df a w) (hL : Later w E w' E') (hs : Sat D w' E' H') (hf : Fr B E' w') : Rel D B E' σ H' df a w' :=
 ⟨fun i => Den.mono hL _ _ (h.den i), hs, hf, h.defers, h.marks.mono hL.F⟩

theorem HS.ok_mono {D : Codec C} {w w' : World} {E E' : Env} (hL : Later w E w' E') {s : BS} {h : HS C} (hok : h.ok D w E s)
  (hb : ∀ b, s = .loc b → w'.heap[b]? = w.heap[b]?) : h.ok D w' E' s := by
 cases s with
 | fresh => exact hok
 | dead => exact hok
 | virt => exact hok
 | loc b =>
  simp only [HS.ok] at *
  cases h with
  | fresh => exact hok
  | dead => exact hok
  | vart t vs =>
   obtain ⟨cs, T, h1, h2⟩ := hok
   exact ⟨cs, T, RowT.of (hb b rfl) h1, DenC.mono hL _ _ h2⟩
  | rows u xs =>
   obtain ⟨cs, T, h1, h2, h3⟩ := hok
   exact ⟨cs, T, RowT.of (hb b rfl) h1, h2, h3.mono hL.F⟩
  | obj o =>
   obtain ⟨h1, h2⟩ := hok
   exact ⟨(hb b rfl).trans h1, h2⟩

/-- a world that differs in no block -/
theorem Later.same {w w' : World} {E : Env} (h : ∀ b, b < w.heap.size → w'.heap[b]? = w.heap[b]?) (hF : ∀ b, E.F b → b < w.heap.size) : Later w E w' E where
 F := fun b hb => ⟨hb, h b (hF b hb)⟩
 β := fun _ => .inl rfl
 size := fun c b _ _ cs T hc => ⟨cs, T, Row.of (h b hc.lt) hc, rfl⟩

theorem Sat.same {D : Codec C} {w w' : World} {E : Env} {H : Nat → HS C} (hs : Sat D w E H) (h : ∀ b, b < w.heap.size → w'.heap[b]? = w.heap[b]?) (hz : w.heap.size ≤ w'.heap.size) : Sat D w' E H where
 ok := fun c => HS.ok_mono (Later.same h hs.F) (hs.ok c) (fun b e => h b (hs.own c b e).1)
 own := fun c b e => ⟨Nat.lt_of_lt_of_le (hs.own c b e).1 hz, (hs.own c b e).2⟩
 inj := hs.inj
 F := fun b hb => Nat.lt_of_lt_of_le (hs.F b hb) hz
 glob := hs.glob.mono fun b hb => ⟨hb, h b (hs.F b hb)⟩

theorem Fr.on {B : Base} {E : Env} {w w' : World} (hf : Fr B E w) (hF : ∀ b, E.F b → b < w.heap.size) (h : ∀ b, b < w.heap.size → w'.heap[b]? = w.heap[b]?) (hz : w.heap.size ≤ w'.heap.size)
  (h1 : w'.os = w.os) (h2 : w'.tape = w.tape) (h3 : w'.output = w.output) : Fr B E w' :=
 ⟨h1.trans hf.os, h2.trans hf.tape, h3.trans hf.output, Nat.le_trans hf.size hz, fun b hb ho => (h b (Nat.lt_of_lt_of_le hb hf.size)).trans (hf.same b hb ho), hf.late.trans (Later.same h hF), hf.newF, hf.newO⟩

theorem Rel.drew {D : Codec C} {B : Base} {E : Env} {σ : Nat → SV C} {H : Nat → HS C} {df : List Deferred} {a : Act} {w : World}
  (h : Rel D B E σ H df a w) : Rel D B E σ H df a w.drew :=
 h.later (Later.same (fun _ _ => rfl) h.sat.F) (h.sat.same (fun _ _ => rfl) (Nat.le_refl _)) (h.fr.on h.sat.F (fun _ _ => rfl) (Nat.le_refl _) rfl rfl rfl)

/-- the environment with a number's place changed -/
def Env.up (E : Env) (c : Nat) (s : BS) : Env := { E with β := fun i => if i = c then s else E.β i }

theorem Env.up_same (E : Env) (c : Nat) (s : BS) : (E.up c s).β c = s := by simp [Env.up]
theorem Env.up_other (E : Env) {c i : Nat} (s : BS) (h : i ≠ c) : (E.up c s).β i = E.β i := by simp [Env.up, h]

/-- A new block for a fresh number. -/
theorem later_alloc {w : World} {E : Env} {c : Nat} (hc : E.β c = .fresh) (o : Obj) (hF : ∀ b, E.F b → b < w.heap.size) :
  Later w E (w.alloc o) (E.up c (.loc w.heap.size)) where
 F := fun b hb => ⟨hb, Below.heap_alloc w o b (hF b hb)⟩
 β := fun i => by
  by_cases h : i = c
  ·subst h; exact .inr (.inr hc)
  ·exact .inl (Env.up_other E _ h)
 size := fun i b _ _ cs T hcs => ⟨cs, T, Row.of (Below.heap_alloc w o b hcs.lt) hcs, rfl⟩

theorem Rel.allocO {D : Codec C} {B : Base} {E : Env} {σ : Nat → SV C} {H : Nat → HS C} {df : List Deferred} {a : Act} {w : World}
  (h : Rel D B E σ H df a w) {c : Nat} (hc : H c = .fresh) (o : Obj) {hs : HS C}
  (hcs : hs.at D (w.alloc o) (E.up c (.loc w.heap.size)) w.heap.size) :
  Rel D B (E.up c (.loc w.heap.size)) σ (upH H c hs) df a (w.alloc o) := by
 have hβ : E.β c = .fresh := by
  have := h.sat.ok c
  rw [hc] at this
  cases hb : E.β c with
  | fresh => rfl
  | dead => rw [hb] at this; simp [HS.ok] at this
  | virt => rw [hb] at this; simp [HS.ok] at this
  | loc b => rw [hb] at this; simp [HS.ok, HS.at] at this
 have hL := later_alloc hβ o h.sat.F
 refine h.later hL ?_ ?_
 ·refine ⟨fun i => ?_, fun i b e => ?_, fun i i' b e e' => ?_, fun b hb => ?_, h.sat.glob.mono hL.F⟩
  ·by_cases hi : i = c
   ·subst hi; rw [Env.up_same]; simp only [upH, if_true]; exact hcs
   ·rw [Env.up_other E _ hi]; simp only [upH, if_neg hi]
    exact HS.ok_mono hL (h.sat.ok i) (fun b e => Below.heap_alloc w _ b (h.sat.own i b e).1)
  ·by_cases hi : i = c
   ·subst hi; rw [Env.up_same] at e; cases e
    exact ⟨by simp, fun hF => absurd (h.sat.F _ hF) (by omega)⟩
   ·rw [Env.up_other E _ hi] at e
    exact ⟨by have := (h.sat.own i b e).1; simp; omega, (h.sat.own i b e).2⟩
  ·by_cases hi : i = c <;> by_cases hi' : i' = c
   ·rw [hi, hi']
   ·subst hi; rw [Env.up_same] at e; rw [Env.up_other E _ hi'] at e'
    cases e; exact absurd (h.sat.own i' _ e').1 (by omega)
   ·subst hi'; rw [Env.up_same] at e'; rw [Env.up_other E _ hi] at e
    cases e'; exact absurd (h.sat.own i _ e).1 (by omega)
   ·rw [Env.up_other E _ hi] at e; rw [Env.up_other E _ hi'] at e'
    exact h.sat.inj i i' b e e'
  ·have := h.sat.F b hb; simp; omega
 ·refine ⟨h.fr.os, h.fr.tape, h.fr.output, by have := h.fr.size; simp; omega, fun b hb ho => ?_, h.fr.late.trans hL, h.fr.newF, fun i b e => ?_⟩
  ·exact (Below.heap_alloc w _ b (Nat.lt_of_lt_of_le hb h.fr.size)).trans (h.fr.same b hb ho)
  ·by_cases hi : i = c
   ·subst hi; rw [Env.up_same] at e; cases e; exact .inr h.fr.size
   ·rw [Env.up_other E _ hi] at e; exact h.fr.newO i b e

theorem Rel.alloc {D : Codec C} {B : Base} {E : Env} {σ : Nat → SV C} {H : Nat → HS C} {df : List Deferred} {a : Act} {w : World}
  (h : Rel D B E σ H df a w) {c : Nat} (hc : H c = .fresh) (cs : Array Value) (T : TypeId) {hs : HS C}
  (hcs : hs.at D (w.alloc (.cells cs T)) (E.up c (.loc w.heap.size)) w.heap.size) :
  Rel D B (E.up c (.loc w.heap.size)) σ (upH H c hs) df a (w.alloc (.cells cs T)) := h.allocO hc _ hcs

/-- An owned block that holds no cells is put another object. -/
theorem Rel.putO {D : Codec C} {B : Base} {E : Env} {σ : Nat → SV C} {H : Nat → HS C} {df : List Deferred} {a : Act} {w : World}
    (h : Rel D B E σ H df a w) {c b : Nat} {o : Obj} (hb : E.β c = .loc b) (hH : H c = .obj o) {o' : Obj} (ho : ∀ cs T z, o' ≠ .cells cs T z) :
    Rel D B E σ (upH H c (.obj o')) df a (w.putObj b o') ∧ Later w E (w.putObj b o') E := by
  have hat := h.sat.ok c
  rw [hb, hH] at hat
  obtain ⟨h1, h2⟩ := hat
  have hlt : b < w.heap.size := (h.sat.own c b hb).1
  have hnF : ¬ E.F b := (h.sat.own c b hb).2
  have hoth : ∀ k, k ≠ b → (w.putObj b o').heap[k]? = w.heap[k]? := fun k hk => World.putObj_heap_other hk
  have hL : Later w E (w.putObj b o') E := by
    refine ⟨fun k hk => ⟨hk, hoth k (fun e => hnF (e ▸ hk))⟩, fun _ => .inl rfl, fun i k _ _ ds T' hds => ?_⟩
    by_cases hk : k = b
    · subst hk
      obtain ⟨z, hds, _⟩ := hds
      rw [h1] at hds; cases hds; exact absurd rfl (h2 _ _ _)
    · exact ⟨ds, T', Row.of (hoth k hk) hds, rfl⟩
  refine ⟨h.later hL ?_ ?_, hL⟩
  · refine ⟨fun i => ?_, fun i k e => ⟨by have := (h.sat.own i k e).1; simpa using this, (h.sat.own i k e).2⟩, h.sat.inj, fun k hk => by have := h.sat.F k hk; simpa using this, h.sat.glob.mono hL.F⟩
    by_cases hi : i = c
    · subst hi; rw [hb]; simp only [upH, if_true]; exact ⟨World.putObj_heap_same hlt, ho⟩
    · simp only [upH, if_neg hi]
      exact HS.ok_mono hL (h.sat.ok i) (fun k e => hoth k (fun ek => hi (h.sat.inj i c b (ek ▸ e) hb)))
  · have hO := h.fr.newO c b hb
    exact ⟨h.fr.os, h.fr.tape, h.fr.output, by simpa using h.fr.size,
      fun k hk ho => (hoth k (fun e => by subst e; rcases hO with hO | hO; exact ho hO; omega)).trans (h.fr.same k hk ho), h.fr.late.trans hL, h.fr.newF, h.fr.newO⟩

theorem Row.set {w : World} {b : Nat} {cs cs' : Array Value} {T : TypeId} (h : Row w b cs T) (hz : cs'.size = cs.size) : Row (w.setRow b cs') b cs' T := by
 obtain ⟨z, h1, h2⟩ := h
 exact ⟨z, setRow_heap w b cs _ T _ h1, by rw [hz]; exact h2⟩

/-- A write into an owned block that keeps its size. -/
theorem Rel.setRow {D : Codec C} {B : Base} {E : Env} {σ : Nat → SV C} {H : Nat → HS C} {df : List Deferred} {a : Act} {w : World}
    (h : Rel D B E σ H df a w) {c b : Nat} (hb : E.β c = .loc b) {cs cs' : Array Value} {T : TypeId} (hcs : Row w b cs T) (hz : cs'.size = cs.size) {hs : HS C}
    (hok : Later w E (w.setRow b cs') E → hs.at D (w.setRow b cs') E b) :
    Rel D B E σ (upH H c hs) df a (w.setRow b cs') := by
  have hnF : ¬ E.F b := (h.sat.own c b hb).2
  have hoth : ∀ k, k ≠ b → (w.setRow b cs').heap[k]? = w.heap[k]? := fun k hk => setRow_other w b k _ hk
  have hL : Later w E (w.setRow b cs') E := by
    refine ⟨fun k hk => ⟨hk, hoth k (fun e => hnF (e ▸ hk))⟩, fun _ => .inl rfl, fun i k _ _ ds T' hds => ?_⟩
    by_cases hk : k = b
    · subst hk
      obtain ⟨rfl, rfl⟩ := hcs.inj hds
      obtain ⟨z, h1, h2⟩ := hcs
      exact ⟨cs', T, ⟨z, setRow_heap w k cs _ T _ h1, by rw [hz]; exact h2⟩, hz⟩
    · exact ⟨ds, T', Row.of (hoth k hk) hds, rfl⟩
  refine h.later hL ?_ ?_
  · refine ⟨fun i => ?_, fun i k e => ⟨by have := (h.sat.own i k e).1; simpa using this, (h.sat.own i k e).2⟩, h.sat.inj, fun k hk => by have := h.sat.F k hk; simpa using this, h.sat.glob.mono hL.F⟩
    by_cases hi : i = c
    · subst hi; rw [hb]; simp only [upH, if_true]; exact hok hL
    · simp only [upH, if_neg hi]
      exact HS.ok_mono hL (h.sat.ok i) (fun k e => hoth k (fun ek => hi (h.sat.inj i c b (ek ▸ e) hb)))
  · have hO := h.fr.newO c b hb
    exact ⟨h.fr.os, h.fr.tape, h.fr.output, by simpa using h.fr.size,
      fun k hk ho => (hoth k (fun e => by subst e; rcases hO with hO | hO; exact ho hO; omega)).trans (h.fr.same k hk ho), h.fr.late.trans hL, h.fr.newF, h.fr.newO⟩

/-- A number is given up. -/
theorem Rel.kill {D : Codec C} {B : Base} {E : Env} {σ : Nat → SV C} {H : Nat → HS C} {df : List Deferred} {a : Act} {w : World}
  (h : Rel D B E σ H df a w) (c : Nat) : Rel D B (E.up c .dead) σ (upH H c .dead) df a w := by
 have hL : Later w E w (E.up c .dead) := ⟨fun b hb => ⟨hb, rfl⟩, fun i => by
  by_cases hi : i = c
  ·subst hi; exact .inr (.inl (Env.up_same E _ _))
  ·exact .inl (Env.up_other E _ hi), fun _ _ _ _ cs T hc => ⟨cs, T, hc, rfl⟩⟩
 have key : ∀ i b, (E.up c .dead).β i = .loc b → E.β i = .loc b := fun i b e => by
  by_cases hi : i = c
  ·subst hi; rw [Env.up_same] at e; cases e
  ·rwa [Env.up_other E _ hi] at e
 refine h.later hL ⟨fun i => ?_, fun i b e => h.sat.own i b (key i b e), fun i i' b e e' => h.sat.inj i i' b (key i b e) (key i' b e'), h.sat.F, h.sat.glob.mono hL.F⟩
  ⟨h.fr.os, h.fr.tape, h.fr.output, h.fr.size, h.fr.same, h.fr.late.trans hL, h.fr.newF, fun i b e => h.fr.newO i b (key i b e)⟩
 by_cases hi : i = c
 ·subst hi; rw [Env.up_same]; simp [upH, HS.ok]
 ·rw [Env.up_other E _ hi]; simp only [upH, if_neg hi]
  exact HS.ok_mono hL (h.sat.ok i) (fun _ _ => rfl)

/-- An owned chunk becomes persistent. -/
theorem Rel.freeze {D : Codec C} {B : Base} {E : Env} {σ : Nat → SV C} {H : Nat → HS C} {df : List Deferred} {a : Act} {w : World}
  (h : Rel D B E σ H df a w) {c b : Nat} (hb : E.β c = .loc b) :
  Rel D B { F := fun k => E.F k ∨ k = b, β := (E.up c .dead).β } σ (upH H c .dead) df a w := by
 have hL : Later w E w { F := fun k => E.F k ∨ k = b, β := (E.up c .dead).β } := ⟨fun b hb => ⟨.inl hb, rfl⟩, fun i => by
  by_cases hi : i = c
  ·subst hi; exact .inr (.inl (Env.up_same E _ _))
  ·exact .inl (Env.up_other E _ hi), fun _ _ _ _ cs T hc => ⟨cs, T, hc, rfl⟩⟩
 have key : ∀ i b, (E.up c .dead).β i = .loc b → i ≠ c ∧ E.β i = .loc b := fun i b e => by
  by_cases hi : i = c
  ·subst hi; rw [Env.up_same] at e; cases e
  ·rw [Env.up_other E _ hi] at e; exact ⟨hi, e⟩
 refine h.later hL ⟨fun i => ?_, fun i k e => ⟨(h.sat.own i k (key i k e).2).1, ?_⟩, fun i i' k e e' => h.sat.inj i i' k (key i k e).2 (key i' k e').2, ?_, h.sat.glob.mono hL.F⟩
  ⟨h.fr.os, h.fr.tape, h.fr.output, h.fr.size, h.fr.same, h.fr.late.trans hL, ?_, fun i k e => h.fr.newO i k (key i k e).2⟩
 ·by_cases hi : i = c
  ·subst hi; simp [upH, HS.ok, Env.up]
  ·show HS.ok D w _ ((E.up c .dead).β i) _
   rw [Env.up_other E _ hi]; simp only [upH, if_neg hi]
   exact HS.ok_mono hL (h.sat.ok i) (fun _ _ => rfl)
 ·rintro (hF | rfl)
  ·exact (h.sat.own i k (key i k e).2).2 hF
  ·exact (key i k e).1 (h.sat.inj i c k (key i k e).2 hb)
 ·rintro k (hF | rfl)
  ·exact h.sat.F k hF
  ·exact (h.sat.own c k hb).1
 ·rintro k (hF | rfl)
  ·exact h.fr.newF k hF
  ·rcases h.fr.newO c k hb with h1 | h1
   ·exact .inr (.inl h1)
   ·exact .inr (.inr h1)

end Go.SX

/-
 SX, part Eq: == on structs and arrays of integers, bools and strings.
-/
namespace Go.SX

inductive CK where
 | int (k : IntKind)
 | bool
 | str
deriving DecidableEq
def ckDesc : CK → TypeDesc
 | .int k => .int k
 | .bool => .bool
 | .str => .string
def CK.is : CK → Value → Bool
 | .int k, .int k' _ => decide (k' = k)
 | .bool, .bool _ => true
 | .str, .string _ => true
 | _, _ => false
def Kd : List CK → List Value → Prop
 | [], [] => True
 | c :: l, v :: vs => c.is v = true ∧ Kd l vs
 | _, _ => False
def sl {α : Type} (l : List α) (o n : Nat) : List α := (l.drop o).take n

def ckB (P : Program) : Nat → TypeId → List CK → Bool
 | 0, _, _ => false
 | d + 1, t, l => match P.underlying t with
  | some .bool => decide (l = [.bool])
  | some (.int k) => decide (l = [.int k])
  | some .string => decide (l = [.str])
  | some (.array n e) => decide (l.length = P.cellsOf t) && decide (l.length = n * P.cellsOf e) && decide (0 < P.cellsOf e) && (P.info? e).isSome && (List.range n).all fun i => ckB P d e (sl l (i * P.cellsOf e) (P.cellsOf e))
  | some (.struct fs) => !P.stoodInHeld t && decide (l.length = P.cellsOf t) && (fs.toList.all fun f => f.name != "_" && decide (f.offset + P.cellsOf f.type ≤ l.length) && ckB P d f.type (sl l f.offset (P.cellsOf f.type))) &&
   (List.range l.length).all fun j => fs.toList.any fun f => decide (f.offset ≤ j) && decide (j < f.offset + P.cellsOf f.type)
  | _ => false

theorem Kd.length : ∀ {l : List CK} {vs : List Value}, Kd l vs → l.length = vs.length
 | [], [], _ => rfl
 | [], _ :: _, h => h.elim
 | _ :: _, [], h => h.elim
 | _ :: l, _ :: vs, h => by simp [Kd.length h.2]
theorem Kd.drop : ∀ {l : List CK} {vs : List Value} (n : Nat), Kd l vs → Kd (l.drop n) (vs.drop n)
 | _, _, 0, h => h
 | [], [], _ + 1, h => h
 | [], _ :: _, _ + 1, h => h.elim
 | _ :: _, [], _ + 1, h => h.elim
 | _ :: l, _ :: vs, n + 1, h => Kd.drop n h.2
theorem Kd.take : ∀ {l : List CK} {vs : List Value} (n : Nat), Kd l vs → Kd (l.take n) (vs.take n)
 | _, _, 0, _ => trivial
 | [], [], _ + 1, h => h
 | [], _ :: _, _ + 1, h => h.elim
 | _ :: _, [], _ + 1, h => h.elim
 | _ :: l, _ :: vs, n + 1, h => ⟨h.1, Kd.take n h.2⟩
theorem Kd.sl {l : List CK} {vs : List Value} (o n : Nat) (h : Kd l vs) : Kd (sl l o n) (sl vs o n) := (h.drop o).take n

section
open Classical
variable {P : Program}
/-- a is the value of type t with the cells cs -/
def Vof (P : Program) (t : TypeId) (a : Value) (cs : List Value) : Prop := match P.underlying t with
 | some (.struct _) => a = .agg cs.toArray
 | some (.array _ _) => a = .agg cs.toArray
 | _ => cs = [a]

def EqF (P : Program) (d : Nat) (t : TypeId) (l : List CK) : Prop := ∀ w a b cs ds, Vof P t a cs → Vof P t b ds → Kd l cs → Kd l ds → (Op.equalIn d t a b).run P w = .ok (decide (cs = ds)) w

theorem part_of {e : TypeId} {d : Nat} {l : List CK} (hc : ckB P d e l = true) {xs : Array Value} {off : Nat} (hk : Kd l (sl xs.toList off (P.cellsOf e))) (hl : l.length = P.cellsOf e) (w : World) :
  ∃ a, (part e xs off).run P w = .ok a w ∧ Vof P e a (sl xs.toList off (P.cellsOf e)) := by
 cases d with
 | zero => simp [ckB] at hc
 | succ d =>
  unfold ckB at hc
  have plain : P.plainKey e = true → l.length = 1 → (match P.underlying e with | some (.struct _) => False | some (.array _ _) => False | _ => True) → ∃ a, (part e xs off).run P w = .ok a w ∧ Vof P e a (sl xs.toList off (P.cellsOf e)) := by
   intro hp h1 hm
   have hlen := hk.length
   have hs : ∃ a, sl xs.toList off (P.cellsOf e) = [a] := List.length_eq_one_iff.1 (by omega)
   obtain ⟨a, ha⟩ := hs
   have hx : xs[off]? = some a := by
    have : (sl xs.toList off (P.cellsOf e))[0]? = some a := by rw [ha]; rfl
    unfold sl at this
    rw [List.getElem?_take, List.getElem?_drop] at this
    split at this
    ·simpa using this
    ·cases this
   refine ⟨a, run_part_plain w hp hx, ?_⟩
   unfold Vof
   split
   ·rename_i h; rw [h] at hm; exact hm.elim
   ·rename_i h; rw [h] at hm; exact hm.elim
   ·exact ha
  have agg : (P.info? e).isSome → (∃ n e', P.underlying e = some (.array n e')) ∨ (∃ fs, P.underlying e = some (.struct fs)) → ∃ a, (part e xs off).run P w = .ok a w ∧ Vof P e a (sl xs.toList off (P.cellsOf e)) := by
   intro hi hk
   obtain ⟨i, hi⟩ := Option.isSome_iff_exists.1 hi
   have hl : (xs.extract off (off + P.cellsOf e)).toList = sl xs.toList off (P.cellsOf e) := by
    rw [Array.toList_extract]; simp [sl, List.extract]
   refine ⟨.agg (xs.extract off (off + P.cellsOf e)), ?_, ?_⟩
   ·rcases hk with ⟨n, e', hu⟩ | ⟨fs, hu⟩ <;> simp [part, isAgg, run_underlying hu, run_sizeOf w hi]
   ·rcases hk with ⟨n, e', hu⟩ | ⟨fs, hu⟩ <;> simp only [Vof, hu] <;> rw [← hl]
  cases hu : P.underlying e with
  | none => simp [hu] at hc
  | some k =>
   have hinfo : (P.info? e).isSome := by obtain ⟨i, hi⟩ := info_of_underlying hu; rw [hi]; rfl
   cases k
   case bool => simp only [hu, decide_eq_true_eq] at hc; exact plain (by simp [Program.plainKey, hu]) (by simp [hc]) (by simp [hu])
   case int q => simp only [hu, decide_eq_true_eq] at hc; exact plain (by simp [Program.plainKey, hu]) (by simp [hc]) (by simp [hu])
   case string => simp only [hu, decide_eq_true_eq] at hc; exact plain (by simp [Program.plainKey, hu]) (by simp [hc]) (by simp [hu])
   case array n e' => exact agg hinfo (.inl ⟨n, e', hu⟩)
   case struct fs => exact agg hinfo (.inr ⟨fs, hu⟩)
   all_goals (simp [hu] at hc; done)

theorem eqFields_of (d : Nat) {l : List CK} {xs ys : Array Value} (hx : Kd l xs.toList) (hy : Kd l ys.toList) {dd : Nat} : ∀ (fs : List Field), (∀ f ∈ fs, f.name ≠ "_" ∧ f.offset + P.cellsOf f.type ≤ l.length ∧ ckB P dd f.type (sl l f.offset (P.cellsOf f.type)) = true ∧ EqF P d f.type (sl l f.offset (P.cellsOf f.type))) → ∀ w,
  (Op.eqFields d xs ys fs).run P w = .ok (decide (∀ f ∈ fs, sl xs.toList f.offset (P.cellsOf f.type) = sl ys.toList f.offset (P.cellsOf f.type))) w
 | [], _, w => by simp [Op.eqFields]
 | f :: fs, h, w => by
  obtain ⟨h1, h2, h3, h4⟩ := h f (by simp)
  have hlen : (sl l f.offset (P.cellsOf f.type)).length = P.cellsOf f.type := by simp [sl]; omega
  obtain ⟨a, pa, va⟩ := part_of h3 (hx.sl _ _) hlen w
  obtain ⟨b, pb, vb⟩ := part_of h3 (hy.sl _ _) hlen w
  have he := h4 w a b _ _ va vb (hx.sl _ _) (hy.sl _ _)
  have ih := eqFields_of d hx hy fs (fun g hg => h g (by simp [hg])) w
  simp only [Op.eqFields, h1, ne_eq, not_false_eq_true, if_true, Sem.run_bind, pa, pb, he, Result.andThen_ok]
  by_cases hc : sl xs.toList f.offset (P.cellsOf f.type) = sl ys.toList f.offset (P.cellsOf f.type)
  ·simp [hc, ih]
  ·simp [hc]

theorem eqItems_of (d : Nat) {e : TypeId} {l : List CK} {xs ys : Array Value} (hx : Kd l xs.toList) (hy : Kd l ys.toList) {dd : Nat} : ∀ (is : List Nat), (∀ i ∈ is, i * P.cellsOf e + P.cellsOf e ≤ l.length ∧ ckB P dd e (sl l (i * P.cellsOf e) (P.cellsOf e)) = true ∧ EqF P d e (sl l (i * P.cellsOf e) (P.cellsOf e))) → ∀ w,
  (Op.eqItems d e (P.cellsOf e) xs ys is).run P w = .ok (decide (∀ i ∈ is, sl xs.toList (i * P.cellsOf e) (P.cellsOf e) = sl ys.toList (i * P.cellsOf e) (P.cellsOf e))) w
 | [], _, w => by simp [Op.eqItems]
 | i :: is, h, w => by
  obtain ⟨h2, h3, h4⟩ := h i (by simp)
  have hlen : (sl l (i * P.cellsOf e) (P.cellsOf e)).length = P.cellsOf e := by simp [sl]; omega
  obtain ⟨a, pa, va⟩ := part_of h3 (hx.sl _ _) hlen w
  obtain ⟨b, pb, vb⟩ := part_of h3 (hy.sl _ _) hlen w
  have he := h4 w a b _ _ va vb (hx.sl _ _) (hy.sl _ _)
  have ih := eqItems_of d hx hy is (fun g hg => h g (by simp [hg])) w
  simp only [Op.eqItems, Sem.run_bind, pa, pb, he, Result.andThen_ok]
  by_cases hc : sl xs.toList (i * P.cellsOf e) (P.cellsOf e) = sl ys.toList (i * P.cellsOf e) (P.cellsOf e)
  ·simp [hc, ih]
  ·simp [hc]

theorem sl_get {α : Type} {l : List α} {o n j : Nat} (h1 : o ≤ j) (h2 : j < o + n) : (sl l o n)[j - o]? = l[j]? := by
 unfold sl
 rw [List.getElem?_take, if_pos (by omega), List.getElem?_drop]
 congr 1; omega

theorem ck_one {c : CK} {cs : List Value} (h : Kd [c] cs) : ∃ v, cs = [v] ∧ c.is v = true := by
 cases cs with
 | nil => exact h.elim
 | cons v vs => cases vs with
  | nil => exact ⟨v, rfl, h.1⟩
  | cons _ _ => exact h.2.elim

theorem eqF_of (d : Nat) : ∀ (m : Nat) (t : TypeId) (l : List CK), ckB P m t l = true → EqF P (d + m) t l
  | 0, _, _, h => by simp [ckB] at h
  | m + 1, t, l, h => by
    intro w a b cs ds ha hb hka hkb
    unfold ckB at h
    cases hu : P.underlying t with
    | none => simp [hu] at h
    | some k =>
      cases k
      case bool =>
        simp only [hu, decide_eq_true_eq] at h; subst h
        obtain ⟨v, rfl, hv⟩ := ck_one hka
        obtain ⟨u, rfl, hu'⟩ := ck_one hkb
        simp only [Vof, hu, List.cons.injEq, and_true] at ha hb
        subst ha; subst hb
        cases v <;> simp [CK.is] at hv
        cases u <;> simp [CK.is] at hu'
        rw [show d + (m + 1) = (d + m) + 1 from rfl, run_equalIn_bool' w (d + m) t _ _ hu]
        congr 1; simp [Bool.beq_eq_decide_eq]
      case int q =>
        simp only [hu, decide_eq_true_eq] at h; subst h
        obtain ⟨v, rfl, hv⟩ := ck_one hka
        obtain ⟨u, rfl, hu'⟩ := ck_one hkb
        simp only [Vof, hu, List.cons.injEq, and_true] at ha hb
        subst ha; subst hb
        cases v <;> simp [CK.is] at hv
        cases u <;> simp [CK.is] at hu'
        subst hv; subst hu'
        rw [show d + (m + 1) = (d + m) + 1 from rfl, run_equalIn_int w (d + m) t _ _ _ _ hu]
        congr 1; rw [Bool.eq_iff_iff]; simp
      case string =>
        simp only [hu, decide_eq_true_eq] at h; subst h
        obtain ⟨v, rfl, hv⟩ := ck_one hka
        obtain ⟨u, rfl, hu'⟩ := ck_one hkb
        simp only [Vof, hu, List.cons.injEq, and_true] at ha hb
        subst ha; subst hb
        cases v <;> simp [CK.is] at hv
        cases u <;> simp [CK.is] at hu'
        rw [show d + (m + 1) = (d + m) + 1 from rfl, run_equalIn_string w (d + m) t _ _ hu]
        congr 1; rw [Bool.eq_iff_iff]; simp [ByteArray.toList_eq]
        rename_i x y
        obtain ⟨⟨x⟩⟩ := x; obtain ⟨⟨y⟩⟩ := y
        simp
      case array n e =>
        simp only [hu, Bool.and_eq_true, decide_eq_true_eq, List.all_eq_true, List.mem_range] at h
        obtain ⟨⟨⟨⟨h1, h2⟩, h3⟩, h4⟩, h5⟩ := h
        simp only [Vof, hu] at ha hb
        subst ha; subst hb
        obtain ⟨i, hi⟩ := Option.isSome_iff_exists.1 h4
        rw [show d + (m + 1) = (d + m) + 1 from rfl, run_equalIn_array w (d + m) _ _ hu hi, eqItems_of (d + m) (l := l) hka hkb (dd := m) (List.range n) (fun i hi => by
          rw [List.mem_range] at hi
          refine ⟨?_, h5 i hi, eqF_of d m _ _ (h5 i hi)⟩
          rw [h2, ← Nat.succ_mul]; exact Nat.mul_le_mul_right _ hi) w]
        congr 1
        simp only [decide_eq_decide, List.mem_range]
        refine ⟨fun hall => List.ext_getElem? fun j => ?_, fun e i _ => by rw [e]⟩
        by_cases hj : j < l.length
        · have hlt : j / P.cellsOf e < n := by rw [Nat.div_lt_iff_lt_mul h3, ← h2]; exact hj
          have hd1 : j / P.cellsOf e * P.cellsOf e ≤ j := Nat.div_mul_le_self _ _
          have hd2 : j < j / P.cellsOf e * P.cellsOf e + P.cellsOf e := by have h6 := Nat.div_add_mod j (P.cellsOf e); have h7 := Nat.mod_lt j h3; rw [Nat.mul_comm] at h6; omega
          rw [← sl_get (l := cs) hd1 hd2, ← sl_get (l := ds) hd1 hd2]
          rw [hall _ hlt]
        · rw [List.getElem?_eq_none (by rw [← hka.length]; omega), List.getElem?_eq_none (by rw [← hkb.length]; omega)]
      case struct fs =>
        simp only [hu, Bool.and_eq_true, Bool.not_eq_true', decide_eq_true_eq, List.all_eq_true, List.mem_range, List.any_eq_true, bne_iff_ne, ne_eq] at h
        obtain ⟨⟨⟨h1, h2⟩, h3⟩, h4⟩ := h
        simp only [Vof, hu] at ha hb
        subst ha; subst hb
        have hfs : P.fieldsOf t = fs := by simp [Program.fieldsOf, hu]
        rw [show d + (m + 1) = (d + m) + 1 from rfl, run_equalIn_struct w (d + m) t _ _ (by rw [hfs]; exact hu) h1, hfs, eqFields_of (d + m) (l := l) hka hkb (dd := m) fs.toList (fun f hf => by
          obtain ⟨⟨g1, g2⟩, g3⟩ := h3 f hf
          exact ⟨g1, g2, g3, eqF_of d m _ _ g3⟩) w]
        congr 1
        simp only [decide_eq_decide]
        refine ⟨fun hall => List.ext_getElem? fun j => ?_, fun e i _ => by rw [e]⟩
        by_cases hj : j < l.length
        · obtain ⟨f, hf, g1, g2⟩ := h4 j hj
          rw [← sl_get (l := cs) g1 g2, ← sl_get (l := ds) g1 g2]
          rw [hall f hf]
        · rw [List.getElem?_eq_none (by rw [← hka.length]; omega), List.getElem?_eq_none (by rw [← hkb.length]; omega)]
      all_goals (simp [hu] at h; done)
end
end Go.SX
