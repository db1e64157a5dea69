/-
  SX, part A: abstract values (persistent data, symbolic values), chunks, and what they denote in a world.
-/
import Derived.WalkKit
set_option linter.unusedVariables false
set_option linter.unusedSimpArgs false
namespace Go.SX

/-- Codes of the element types of slices and arrays. -/
structure Cod where
  U : Type
  El : U → Type
  dflt : (u : U) → El u
  n : U → Nat
  /-- package variables that nothing writes: their cells; [] where nothing is known -/
  glob : Nat → List Value := fun _ => []
  /-- the type of the variables that rows of a code are made of, where it matters -/
  ty : U → Option TypeId := fun _ => none

/-- Persistent (never written) data. -/
inductive PV (C : Cod) where
  | int (k : IntKind) (n : Int)
  | bool (b : Bool)
  | str (l : List UInt8)
  | lit (v : Value)
  | dsl (u : C.U) (xs : List (C.El u))
  /-- a slice that has no room behind its elements -/
  | fds (u : C.U) (xs : List (C.El u))

structure Codec (C : Cod) where
  enc : (u : C.U) → C.El u → List (PV C)
  dec : (u : C.U) → List (PV C) → Option (C.El u)
  dec_ok : ∀ u l x, dec u l = some x → enc u x = l
  enc_len : ∀ u x, (enc u x).length = C.n u
  n_pos : ∀ u, 0 < C.n u

variable {C : Cod}

inductive PDen (D : Codec C) (w : World) (F : Nat → Prop) : PV C → Value → Prop
  | int (k : IntKind) (n : Int) : PDen D w F (.int k n) (.int k n)
  | bool (b : Bool) : PDen D w F (.bool b) (.bool b)
  | str (l : List UInt8) : PDen D w F (.str l) (.string ⟨⟨l⟩⟩)
  | lit (v : Value) (h : v.oneCell' = true) : PDen D w F (.lit v) v
  | dslNil (u : C.U) (a : Option Addr) (cap : Nat) : PDen D w F (.dsl u []) (.slice a 0 cap)
  | dsl (u : C.U) (xs : List (C.El u)) (b o cap : Nat) (cv : Nat → Nat → Value) (hF : xs ≠ [] → F b) (hc : xs.length ≤ cap)
      (hcell : ∀ (i : Nat) (x : C.El u), xs[i]? = some x → ∀ (j : Nat) (pv : PV C), (D.enc u x)[j]? = some pv → w.cell? ⟨b, o + i * C.n u + j, none⟩ = some (cv i j))
      (hden : ∀ (i : Nat) (x : C.El u), xs[i]? = some x → ∀ (j : Nat) (pv : PV C), (D.enc u x)[j]? = some pv → PDen D w F pv (cv i j)) :
      PDen D w F (.dsl u xs) (.slice (some ⟨b, o, none⟩) xs.length cap)
  | fds (u : C.U) (xs : List (C.El u)) (a : Option Addr) (h : PDen D w F (.dsl u xs) (.slice a xs.length xs.length)) : PDen D w F (.fds u xs) (.slice a xs.length xs.length)

theorem cell_of_block {w w' : World} {b o : Nat} (h : w'.heap[b]? = w.heap[b]?) : w'.cell? ⟨b, o, none⟩ = w.cell? ⟨b, o, none⟩ := by
  simp [World.cell?, h]

theorem PDen.mono {D : Codec C} {w w' : World} {F F' : Nat → Prop} {x : PV C} {v : Value} (h : PDen D w F x v)
    (hF : ∀ b, F b → F' b ∧ w'.heap[b]? = w.heap[b]?) : PDen D w' F' x v := by
  induction h with
  | int k n => exact .int k n
  | bool b => exact .bool b
  | str l => exact .str l
  | lit v h => exact .lit v h
  | dslNil u a cap => exact .dslNil u a cap
  | dsl u xs b o cap cv hb hc hcell hden ih =>
    exact .dsl u xs b o cap cv (fun hx => (hF b (hb hx)).1) hc (fun i x hx j pv hp => (cell_of_block (hF b (hb fun e => by rw [e] at hx; simp at hx)).2).trans (hcell i x hx j pv hp)) ih
  | fds u xs a h ih => exact .fds u xs a ih

theorem PDen.oneCell {D : Codec C} {w : World} {F : Nat → Prop} {x : PV C} {v : Value} (h : PDen D w F x v) : v.oneCell' = true := by
  cases h <;> first | rfl | assumption

def PDenL (D : Codec C) (w : World) (F : Nat → Prop) (l : List (PV C)) (vs : List Value) : Prop :=
  l.length = vs.length ∧ ∀ (j : Nat) (pv : PV C) (v : Value), l[j]? = some pv → vs[j]? = some v → PDen D w F pv v

theorem PDenL.mono {D : Codec C} {w w' : World} {F F' : Nat → Prop} {l : List (PV C)} {vs : List Value} (h : PDenL D w F l vs)
    (hF : ∀ b, F b → F' b ∧ w'.heap[b]? = w.heap[b]?) : PDenL D w' F' l vs :=
  ⟨h.1, fun j pv v hp hv => (h.2 j pv v hp hv).mono hF⟩

theorem PDenL.oneCell {D : Codec C} {w : World} {F : Nat → Prop} {l : List (PV C)} {vs : List Value} (h : PDenL D w F l vs) : ∀ v ∈ vs, v.oneCell' = true := by
  intro v hv
  obtain ⟨j, hj, e⟩ := List.getElem_of_mem hv
  have hl : j < l.length := h.1 ▸ hj
  exact (h.2 j l[j] v (List.getElem?_eq_getElem hl) (by rw [List.getElem?_eq_getElem hj, e])).oneCell

/-- Symbolic values. -/
inductive SV (C : Cod) where
  | p (x : PV C)
  | any
  | ptr (c o : Nat)
  | eptr (c o n i f : Nat)
  | dptr (cells : List (PV C)) (f : Nat)
  | slice (c o n off len : Nat)
  | arr (u : C.U) (N : Nat) (xs : List (C.El u))
  | agg (vs : List (SV C))
  | fn (f : Fn) (first captured : List (SV C))
  | iface (t : TypeId) (v : SV C)
  | tuple (vs : List (SV C))
  | yieldv (c : Nat)
  | mapp (c : Nat)

/-- no cell of a block of n cells is frozen -/
def Thaw (z : Nat × Nat) (n : Nat) : Prop := ∀ o, o < n → z.1 ≤ o → o < z.2 → False
/-- a block of cells that may be written -/
def Row (w : World) (b : Nat) (cs : Array Value) (T : TypeId) : Prop := ∃ z, w.heap[b]? = some (.cells cs T z) ∧ Thaw z cs.size
/-- .. of variables of a type -/
def RowT (o : Option TypeId) (w : World) (b : Nat) (cs : Array Value) (T : TypeId) : Prop := Row w b cs T ∧ ∀ t, o = some t → T = t
theorem Thaw.zero (n : Nat) : Thaw (0, 0) n := fun o _ _ h => by simp at h
theorem Row.of {w w' : World} {b : Nat} {cs : Array Value} {T : TypeId} (h : w'.heap[b]? = w.heap[b]?) (hr : Row w b cs T) : Row w' b cs T := by
  obtain ⟨z, h1, h2⟩ := hr; exact ⟨z, h.trans h1, h2⟩
theorem Row.new {w : World} {b : Nat} {cs : Array Value} {T : TypeId} (h : w.heap[b]? = some (.cells cs T (0, 0))) : Row w b cs T := ⟨(0, 0), h, Thaw.zero _⟩
theorem Row.lt {w : World} {b : Nat} {cs : Array Value} {T : TypeId} (h : Row w b cs T) : b < w.heap.size := by
  obtain ⟨z, h1, _⟩ := h; exact (Array.getElem?_eq_some_iff.1 h1).1
theorem Row.inj {w : World} {b : Nat} {cs cs' : Array Value} {T T' : TypeId} (h : Row w b cs T) (h' : Row w b cs' T') : cs = cs' ∧ T = T' := by
  obtain ⟨z, h1, _⟩ := h; obtain ⟨z', h1', _⟩ := h'
  rw [h1] at h1'; injection h1' with h1'; injection h1' with e1 e2 e3; exact ⟨e1, e2⟩

theorem RowT.of {o : Option TypeId} {w w' : World} {b : Nat} {cs : Array Value} {T : TypeId} (h : w'.heap[b]? = w.heap[b]?) (hr : RowT o w b cs T) : RowT o w' b cs T := ⟨hr.1.of h, hr.2⟩

/-- What has become of a chunk's number: not given out; given up; an owned slice that may still be nil; in a block. -/
inductive BS where
  | fresh | dead | virt | loc (b : Nat)

structure Env where
  F : Nat → Prop
  β : Nat → BS

mutual
def Den (D : Codec C) (w : World) (E : Env) : SV C → Value → Prop
  | .p x, v => PDen D w E.F x v
  | .any, _ => True
  | .ptr c o, v => match E.β c with
    | .dead => v.oneCell' = true
    | .loc b => v = .pointer (some ⟨b, o, none⟩)
    | _ => False
  | .eptr c o n i f, v => match E.β c with
    | .dead => v.oneCell' = true
    | .loc b => v = .pointer (some ⟨b, o + i * n + f, none⟩)
    | _ => False
  | .dptr cells f, v => ∃ b o, v = .pointer (some ⟨b, o + f, none⟩) ∧
      ∀ (j : Nat) (pv : PV C), cells[j]? = some pv → E.F b ∧ ∃ cv, w.cell? ⟨b, o + j, none⟩ = some cv ∧ PDen D w E.F pv cv
  | .slice c o n off len, v => match E.β c with
    | .dead => v.oneCell' = true
    | .fresh => False
    | .virt => ∃ a, v = .slice a 0 0 ∧ len = 0
    | .loc b => (len = 0 ∧ ∃ a, v = .slice a 0 0) ∨
      ∃ cap cs T, v = .slice (some ⟨b, o + off * n, none⟩) len cap ∧ len ≤ cap ∧ Row w b cs T ∧ o + (off + cap) * n ≤ cs.size
  | .arr _ _ _, _ => False
  | .agg vs, v => ∃ cs, v = .agg cs ∧ DenC D w E vs cs.toList
  | .fn f first captured, v => ∃ xs ys, v = .func f xs ys ∧ DenA D w E first xs.toList ∧ DenA D w E captured ys.toList
  | .iface t x, v => ∃ u, v = .iface t u ∧ Den D w E x u
  | .tuple vs, v => ∃ xs, v = .tuple xs ∧ DenA D w E vs xs.toList
  | .yieldv c, v => match E.β c with
    | .dead => v.oneCell' = true
    | .loc b => v = .func (.yield b) #[] #[]
    | _ => False
  | .mapp c, v => match E.β c with
    | .dead => v.oneCell' = true
    | .loc b => v = .map (some b)
    | _ => False
/-- the cells of an aggregate: one value a cell, but a group 'arr' stands for many -/
def DenC (D : Codec C) (w : World) (E : Env) : List (SV C) → List Value → Prop
  | [], vs => vs = []
  | .arr u N xs :: rest, vs => xs.length = N ∧ ∃ v1 v2, vs = v1 ++ v2 ∧ PDenL D w E.F (xs.flatMap (D.enc u)) v1 ∧ DenC D w E rest v2
  | x :: rest, vs => ∃ v v2, vs = v :: v2 ∧ v.oneCell' = true ∧ Den D w E x v ∧ DenC D w E rest v2
def DenA (D : Codec C) (w : World) (E : Env) : List (SV C) → List Value → Prop
  | [], vs => vs = []
  | x :: rest, vs => ∃ v v2, vs = v :: v2 ∧ Den D w E x v ∧ DenA D w E rest v2
end

theorem Den.one_ptr {D : Codec C} {w : World} {E : Env} {c o : Nat} {v : Value} (h : Den D w E (.ptr c o) v) : v.oneCell' = true := by
  simp only [Den] at h
  split at h
  · exact h
  · rw [h]; rfl
  · exact h.elim
theorem Den.one_eptr {D : Codec C} {w : World} {E : Env} {c o n i f : Nat} {v : Value} (h : Den D w E (.eptr c o n i f) v) : v.oneCell' = true := by
  simp only [Den] at h
  split at h
  · exact h
  · rw [h]; rfl
  · exact h.elim
theorem Den.one_yieldv {D : Codec C} {w : World} {E : Env} {c : Nat} {v : Value} (h : Den D w E (.yieldv c) v) : v.oneCell' = true := by
  simp only [Den] at h
  split at h
  · exact h
  · rw [h]; rfl
  · exact h.elim
theorem Den.one_mapp {D : Codec C} {w : World} {E : Env} {c : Nat} {v : Value} (h : Den D w E (.mapp c) v) : v.oneCell' = true := by
  simp only [Den] at h
  split at h
  · exact h
  · rw [h]; rfl
  · exact h.elim
theorem Den.one_slice {D : Codec C} {w : World} {E : Env} {c o n off len : Nat} {v : Value} (h : Den D w E (.slice c o n off len) v) : v.oneCell' = true := by
  simp only [Den] at h
  split at h
  · exact h
  · exact h.elim
  · obtain ⟨a, h, _⟩ := h; rw [h]; rfl
  · rcases h with ⟨_, ad, h⟩ | ⟨cap, cs, T, h, _⟩
    · rw [h]; rfl
    · rw [h]; rfl

/-- 'later': what was known of E in w holds of E' in w'. -/
structure Later (w : World) (E : Env) (w' : World) (E' : Env) : Prop where
  F : ∀ b, E.F b → E'.F b ∧ w'.heap[b]? = w.heap[b]?
  β : ∀ c, E'.β c = E.β c ∨ E'.β c = .dead ∨ E.β c = .fresh
  size : ∀ c b, E.β c = .loc b → E'.β c = .loc b → ∀ cs T, Row w b cs T → ∃ cs' T', Row w' b cs' T' ∧ cs'.size = cs.size

theorem Later.refl (w : World) (E : Env) : Later w E w E :=
  ⟨fun _ h => ⟨h, rfl⟩, fun _ => .inl rfl, fun _ _ _ _ cs T h => ⟨cs, T, h, rfl⟩⟩

theorem Later.trans {w w' w'' : World} {E E' E'' : Env} (h : Later w E w' E') (k : Later w' E' w'' E'') : Later w E w'' E'' where
  F := fun b hb => ⟨(k.F b (h.F b hb).1).1, (k.F b (h.F b hb).1).2.trans (h.F b hb).2⟩
  β := fun c => by
    rcases h.β c with e | e | e
    · rcases k.β c with e' | e' | e'
      · exact .inl (e'.trans e)
      · exact .inr (.inl e')
      · exact .inr (.inr (e ▸ e'))
    · rcases k.β c with e' | e' | e'
      · exact .inr (.inl (e'.trans e))
      · exact .inr (.inl e')
      · rw [e] at e'; cases e'
    · exact .inr (.inr e)
  size := fun c b e1 e2 cs T hcs => by
    have e3 : E'.β c = .loc b := by
      rcases h.β c with e | e | e
      · exact e.trans e1
      · rcases k.β c with e' | e' | e'
        · rw [e', e] at e2; cases e2
        · rw [e'] at e2; cases e2
        · rw [e] at e'; cases e'
      · rw [e] at e1; cases e1
    obtain ⟨cs', T', h1, h2⟩ := h.size c b e1 e3 cs T hcs
    obtain ⟨cs'', T'', h3, h4⟩ := k.size c b e3 e2 cs' T' h1
    exact ⟨cs'', T'', h3, h4.trans h2⟩

mutual
theorem Den.mono {D : Codec C} {w w' : World} {E E' : Env} (hL : Later w E w' E') : ∀ (x : SV C) (v : Value), Den D w E x v → Den D w' E' x v
  | .p x, v, h => by simp only [Den] at *; exact h.mono hL.F
  | .any, _, _ => by simp only [Den]
  | .ptr c o, v, h => by
    have h1 := Den.one_ptr h
    simp only [Den] at *
    rcases hL.β c with e | e | e
    · rw [e]; exact h
    · rw [e]; exact h1
    · rw [e] at h; exact h.elim
  | .eptr c o n i f, v, h => by
    have h1 := Den.one_eptr h
    simp only [Den] at *
    rcases hL.β c with e | e | e
    · rw [e]; exact h
    · rw [e]; exact h1
    · rw [e] at h; exact h.elim
  | .dptr cells f, v, h => by
    simp only [Den] at *
    obtain ⟨b, o, rfl, hc⟩ := h
    refine ⟨b, o, rfl, fun j pv hp => ?_⟩
    obtain ⟨hb, cv, h1, h2⟩ := hc j pv hp
    exact ⟨(hL.F b hb).1, cv, (cell_of_block (hL.F b hb).2).trans h1, h2.mono hL.F⟩
  | .slice c o n off len, v, h => by
    have h1 := Den.one_slice h
    simp only [Den] at *
    rcases hL.β c with e | e | e
    · rw [e]
      cases hb : E.β c with
      | fresh => rw [hb] at h; exact h
      | dead => exact h1
      | virt => rw [hb] at h; exact h
      | loc b =>
        rw [hb] at h
        rcases h with h | ⟨cap, cs, T, h1, h2, h3, h4⟩
        · exact .inl h
        · obtain ⟨cs', T', h5, h6⟩ := hL.size c b hb (e.trans hb) cs T h3
          exact .inr ⟨cap, cs', T', h1, h2, h5, by omega⟩
    · rw [e]; exact h1
    · rw [e] at h; exact h.elim
  | .arr _ _ _, _, h => by simp only [Den] at h
  | .agg vs, v, h => by
    simp only [Den] at *
    obtain ⟨cs, h1, h2⟩ := h
    exact ⟨cs, h1, DenC.mono hL vs _ h2⟩
  | .fn f first captured, v, h => by
    simp only [Den] at *
    obtain ⟨xs, ys, h1, h2, h3⟩ := h
    exact ⟨xs, ys, h1, DenA.mono hL first _ h2, DenA.mono hL captured _ h3⟩
  | .iface t x, v, h => by
    simp only [Den] at *
    obtain ⟨u, h1, h2⟩ := h
    exact ⟨u, h1, Den.mono hL x _ h2⟩
  | .tuple vs, v, h => by
    simp only [Den] at *
    obtain ⟨xs, h1, h2⟩ := h
    exact ⟨xs, h1, DenA.mono hL vs _ h2⟩
  | .yieldv c, v, h => by
    have h1 := Den.one_yieldv h
    simp only [Den] at *
    rcases hL.β c with e | e | e
    · rw [e]; exact h
    · rw [e]; exact h1
    · rw [e] at h; exact h.elim
  | .mapp c, v, h => by
    have h1 := Den.one_mapp h
    simp only [Den] at *
    rcases hL.β c with e | e | e
    · rw [e]; exact h
    · rw [e]; exact h1
    · rw [e] at h; exact h.elim
theorem DenC.mono {D : Codec C} {w w' : World} {E E' : Env} (hL : Later w E w' E') : ∀ (l : List (SV C)) (vs : List Value), DenC D w E l vs → DenC D w' E' l vs
  | [], vs, h => by simp only [DenC] at *; exact h
  | x :: rest, vs, h => by
    have ih := DenC.mono (D := D) hL rest
    cases x with
    | arr u N xs =>
      simp only [DenC] at *
      obtain ⟨h0, v1, v2, h1, h2, h3⟩ := h
      exact ⟨h0, v1, v2, h1, h2.mono hL.F, ih _ h3⟩
    | p y => simp only [DenC] at *; obtain ⟨v, v2, h1, h2, h3, h4⟩ := h; exact ⟨v, v2, h1, h2, Den.mono hL _ _ h3, ih _ h4⟩
    | any => simp only [DenC] at *; obtain ⟨v, v2, h1, h2, h3, h4⟩ := h; exact ⟨v, v2, h1, h2, Den.mono hL _ _ h3, ih _ h4⟩
    | ptr c o => simp only [DenC] at *; obtain ⟨v, v2, h1, h2, h3, h4⟩ := h; exact ⟨v, v2, h1, h2, Den.mono hL _ _ h3, ih _ h4⟩
    | eptr c o n i f => simp only [DenC] at *; obtain ⟨v, v2, h1, h2, h3, h4⟩ := h; exact ⟨v, v2, h1, h2, Den.mono hL _ _ h3, ih _ h4⟩
    | dptr c f => simp only [DenC] at *; obtain ⟨v, v2, h1, h2, h3, h4⟩ := h; exact ⟨v, v2, h1, h2, Den.mono hL _ _ h3, ih _ h4⟩
    | slice c o n off len => simp only [DenC] at *; obtain ⟨v, v2, h1, h2, h3, h4⟩ := h; exact ⟨v, v2, h1, h2, Den.mono hL _ _ h3, ih _ h4⟩
    | agg l => simp only [DenC] at *; obtain ⟨v, v2, h1, h2, h3, h4⟩ := h; exact ⟨v, v2, h1, h2, Den.mono hL (.agg l) _ h3, ih _ h4⟩
    | fn f a b => simp only [DenC] at *; obtain ⟨v, v2, h1, h2, h3, h4⟩ := h; exact ⟨v, v2, h1, h2, Den.mono hL (.fn f a b) _ h3, ih _ h4⟩
    | iface t y => simp only [DenC] at *; obtain ⟨v, v2, h1, h2, h3, h4⟩ := h; exact ⟨v, v2, h1, h2, Den.mono hL (.iface t y) _ h3, ih _ h4⟩
    | tuple l => simp only [DenC] at *; obtain ⟨v, v2, h1, h2, h3, h4⟩ := h; exact ⟨v, v2, h1, h2, Den.mono hL (.tuple l) _ h3, ih _ h4⟩
    | yieldv c => simp only [DenC] at *; obtain ⟨v, v2, h1, h2, h3, h4⟩ := h; exact ⟨v, v2, h1, h2, Den.mono hL _ _ h3, ih _ h4⟩
    | mapp c => simp only [DenC] at *; obtain ⟨v, v2, h1, h2, h3, h4⟩ := h; exact ⟨v, v2, h1, h2, Den.mono hL _ _ h3, ih _ h4⟩
theorem DenA.mono {D : Codec C} {w w' : World} {E E' : Env} (hL : Later w E w' E') : ∀ (l : List (SV C)) (vs : List Value), DenA D w E l vs → DenA D w' E' l vs
  | [], vs, h => by simp only [DenA] at *; exact h
  | x :: rest, vs, h => by
    simp only [DenA] at *
    obtain ⟨v, v2, h1, h2, h3⟩ := h
    exact ⟨v, v2, h1, Den.mono hL x _ h2, DenA.mono hL rest _ h3⟩
end

end Go.SX
