/-
  SX, part B: chunks, the heap's meaning, the frame's meaning; how each change of the world carries them on.
-/
import Derived.Test.YtdaghncicimipaaGreatDoorSxA
import Derived.RangeFuncRecord
set_option linter.unusedVariables false
set_option linter.unusedSimpArgs false
namespace Go.SX
open Go.RowKit
variable {C : Cod}

/-- A chunk's abstract content. -/
inductive HS (C : Cod) where
  | fresh
  | dead
  | vart (t : Option TypeId) (vs : List (SV C))
  | rows (u : C.U) (xs : List (C.El u))
  | obj (o : Obj)

@[reducible] def HS.var (vs : List (SV C)) : HS C := .vart none vs
def HS.at (D : Codec C) (w : World) (E : Env) (b : Nat) : HS C → Prop
  | .fresh => False
  | .dead => False
  | .vart t vs => ∃ cs T, RowT t w b cs T ∧ DenC D w E vs cs.toList
  | .rows u xs => ∃ cs T, RowT (C.ty u) w b cs T ∧ xs.length * C.n u ≤ cs.size ∧ PDenL D w E.F (xs.flatMap (D.enc u)) (cs.toList.take (xs.length * C.n u))
  | .obj o => w.heap[b]? = some o ∧ ∀ cs T z, o ≠ .cells cs T z

def HS.ok (D : Codec C) (w : World) (E : Env) : BS → HS C → Prop
  | .fresh, h => h = .fresh
  | .dead, h => h = .dead
  | .virt, h => ∃ u, h = .rows u []
  | .loc b, h => h.at D w E b

/-- a cell of a package variable, as persistent data -/
def pvOf : Value → PV C
  | .int k n => .int k n
  | .bool b => .bool b
  | .string s => .str s.data.toList
  | v => .lit v
/-- the package variables that are known lie there, and persist -/
def GlobOK (C : Cod) (w : World) (E : Env) : Prop := ∀ g, C.glob g ≠ [] → E.F g ∧ (∃ cs T z, w.heap[g]? = some (.cells cs T z) ∧ cs.toList = C.glob g) ∧ ∀ v ∈ C.glob g, v.oneCell' = true
theorem GlobOK.mono {w w' : World} {E E' : Env} (h : GlobOK C w E) (hF : ∀ b, E.F b → E'.F b ∧ w'.heap[b]? = w.heap[b]?) : GlobOK C w' E' := fun g hg => by
  obtain ⟨h1, ⟨cs, T, z, h2, h3⟩, h4⟩ := h g hg
  exact ⟨(hF g h1).1, ⟨cs, T, z, (hF g h1).2.trans h2, h3⟩, h4⟩

structure Sat (D : Codec C) (w : World) (E : Env) (H : Nat → HS C) : Prop where
  ok : ∀ c, (H c).ok D w E (E.β c)
  own : ∀ c b, E.β c = .loc b → b < w.heap.size ∧ ¬ E.F b
  inj : ∀ c c' b, E.β c = .loc b → E.β c' = .loc b → c = c'
  F : ∀ b, E.F b → b < w.heap.size
  glob : GlobOK C w E

/-- Where the function began: its world, what was persistent, which blocks it owns. -/
structure Base where
  w0 : World
  E0 : Env
  O : Nat → Prop
  m0 : Nat
  hm0 : ∀ c, m0 ≤ c → E0.β c = .fresh

structure Fr (B : Base) (E : Env) (w : World) : Prop where
  os : w.os = B.w0.os
  tape : w.tape = B.w0.tape
  output : w.output = B.w0.output
  size : B.w0.heap.size ≤ w.heap.size
  same : ∀ b, b < B.w0.heap.size → ¬ B.O b → w.heap[b]? = B.w0.heap[b]?
  late : Later B.w0 B.E0 w E
  newF : ∀ b, E.F b → B.E0.F b ∨ B.O b ∨ B.w0.heap.size ≤ b
  newO : ∀ c b, E.β c = .loc b → B.O b ∨ B.w0.heap.size ≤ b

/-- the marks that ranges over functions have left among the deferred calls -/
def Marks (B : Base) (E : Env) (w : World) (df : List Deferred) : Prop :=
  ∃ bs : List Nat, df = bs.map (fun b => ⟨.collected b, #[]⟩) ∧ bs.Nodup ∧ ∀ b ∈ bs, E.F b ∧ w.heap[b]? = some (.deferred (some [])) ∧ B.w0.heap.size ≤ b ∧ ¬ B.E0.F b
theorem Marks.nil {B : Base} {E : Env} {w : World} : Marks B E w [] := ⟨[], rfl, List.nodup_nil, fun b h => by simp at h⟩
theorem Marks.mono {B : Base} {E E' : Env} {w w' : World} {df : List Deferred} (h : Marks B E w df) (hF : ∀ b, E.F b → E'.F b ∧ w'.heap[b]? = w.heap[b]?) : Marks B E' w' df := by
  obtain ⟨bs, h1, h2, h3⟩ := h
  exact ⟨bs, h1, h2, fun b hb => ⟨(hF b (h3 b hb).1).1, (hF b (h3 b hb).1).2.trans (h3 b hb).2.1, (h3 b hb).2.2⟩⟩

structure Rel (D : Codec C) (B : Base) (E : Env) (σ : Nat → SV C) (H : Nat → HS C) (df : List Deferred) (a : Act) (w : World) : Prop where
  den : ∀ i, Den D w E (σ i) (a.tmps.getD i undef)
  sat : Sat D w E H
  fr : Fr B E w
  defers : a.defers = df
  marks : Marks B E w df

/-- put into a slot: nothing where there is no such slot -/
def upT (nt : Nat) (σ : Nat → SV C) (d : Option Nat) (x : SV C) : Nat → SV C :=
  match d with
  | none => σ
  | some d => fun i => if i = d ∧ d < nt then x else σ i
def upH (H : Nat → HS C) (c : Nat) (h : HS C) : Nat → HS C := fun i => if i = c then h else H i
def upHs (H : Nat → HS C) : List (Nat × HS C) → Nat → HS C
  | [] => H
  | (c, h) :: l => upHs (upH H c h) l

theorem getD_put (a : Act) (d : Option Nat) (v : Value) (i : Nat) :
    (a.put d v).tmps.getD i undef = match d with | none => a.tmps.getD i undef | some d => if i = d ∧ d < a.tmps.size then v else a.tmps.getD i undef := by
  cases d with
  | none => rfl
  | some d =>
    simp only [Act.put, Array.getD_eq_getD_getElem?, Array.getElem?_setIfInBounds]
    by_cases h : d = i
    · subst h
      by_cases h2 : d < a.tmps.size <;> simp [h2]
    · simp [h, Ne.symm h]

theorem size_put (a : Act) (d : Option Nat) (v : Value) : (a.put d v).tmps.size = a.tmps.size := by
  cases d <;> simp [Act.put]

theorem Rel.put {D : Codec C} {B : Base} {E : Env} {σ : Nat → SV C} {H : Nat → HS C} {df : List Deferred} {a : Act} {w : World}
    (h : Rel D B E σ H df a w) {nt : Nat} (hnt : a.tmps.size = nt) (d : Option Nat) {x : SV C} {v : Value} (hx : d = none ∨ Den D w E x v) :
    Rel D B E (upT nt σ d x) H df (a.put d v) w := by
  refine ⟨fun i => ?_, h.sat, h.fr, ?_, h.marks⟩
  · rw [getD_put]
    cases d with
    | none => exact h.den i
    | some d =>
      simp only [upT]
      by_cases hi : i = d ∧ d < nt
      · rw [if_pos hi, if_pos (hnt ▸ hi)]
        exact hx.resolve_left (by simp)
      · rw [if_neg hi, if_neg (hnt ▸ hi)]
        exact h.den i
  · cases d <;> exact h.defers

/-- The world and the environment have changed; the slots have not. -/
theorem Rel.later {D : Codec C} {B : Base} {E E' : Env} {σ : Nat → SV C} {H H' : Nat → HS C} {df : List Deferred} {a : Act} {w w' : World}
    (h : Rel D B E σ H df a w) (hL : Later w E w' E') (hs : Sat D w' E' H') (hf : Fr B E' w') : Rel D B E' σ H' df a w' :=
  ⟨fun i => Den.mono hL _ _ (h.den i), hs, hf, h.defers, h.marks.mono hL.F⟩

theorem HS.ok_mono {D : Codec C} {w w' : World} {E E' : Env} (hL : Later w E w' E') {s : BS} {h : HS C} (hok : h.ok D w E s)
    (hb : ∀ b, s = .loc b → w'.heap[b]? = w.heap[b]?) : h.ok D w' E' s := by
  cases s with
  | fresh => exact hok
  | dead => exact hok
  | virt => exact hok
  | loc b =>
    simp only [HS.ok] at *
    cases h with
    | fresh => exact hok
    | dead => exact hok
    | vart t vs =>
      obtain ⟨cs, T, h1, h2⟩ := hok
      exact ⟨cs, T, RowT.of (hb b rfl) h1, DenC.mono hL _ _ h2⟩
    | rows u xs =>
      obtain ⟨cs, T, h1, h2, h3⟩ := hok
      exact ⟨cs, T, RowT.of (hb b rfl) h1, h2, h3.mono hL.F⟩
    | obj o =>
      obtain ⟨h1, h2⟩ := hok
      exact ⟨(hb b rfl).trans h1, h2⟩

/-- a world that differs in no block -/
theorem Later.same {w w' : World} {E : Env} (h : ∀ b, b < w.heap.size → w'.heap[b]? = w.heap[b]?) (hF : ∀ b, E.F b → b < w.heap.size) : Later w E w' E where
  F := fun b hb => ⟨hb, h b (hF b hb)⟩
  β := fun _ => .inl rfl
  size := fun c b _ _ cs T hc => ⟨cs, T, Row.of (h b hc.lt) hc, rfl⟩

theorem Sat.same {D : Codec C} {w w' : World} {E : Env} {H : Nat → HS C} (hs : Sat D w E H) (h : ∀ b, b < w.heap.size → w'.heap[b]? = w.heap[b]?) (hz : w.heap.size ≤ w'.heap.size) : Sat D w' E H where
  ok := fun c => HS.ok_mono (Later.same h hs.F) (hs.ok c) (fun b e => h b (hs.own c b e).1)
  own := fun c b e => ⟨Nat.lt_of_lt_of_le (hs.own c b e).1 hz, (hs.own c b e).2⟩
  inj := hs.inj
  F := fun b hb => Nat.lt_of_lt_of_le (hs.F b hb) hz
  glob := hs.glob.mono fun b hb => ⟨hb, h b (hs.F b hb)⟩

theorem Fr.on {B : Base} {E : Env} {w w' : World} (hf : Fr B E w) (hF : ∀ b, E.F b → b < w.heap.size) (h : ∀ b, b < w.heap.size → w'.heap[b]? = w.heap[b]?) (hz : w.heap.size ≤ w'.heap.size)
    (h1 : w'.os = w.os) (h2 : w'.tape = w.tape) (h3 : w'.output = w.output) : Fr B E w' :=
  ⟨h1.trans hf.os, h2.trans hf.tape, h3.trans hf.output, Nat.le_trans hf.size hz, fun b hb ho => (h b (Nat.lt_of_lt_of_le hb hf.size)).trans (hf.same b hb ho), hf.late.trans (Later.same h hF), hf.newF, hf.newO⟩

theorem Rel.drew {D : Codec C} {B : Base} {E : Env} {σ : Nat → SV C} {H : Nat → HS C} {df : List Deferred} {a : Act} {w : World}
    (h : Rel D B E σ H df a w) : Rel D B E σ H df a w.drew :=
  h.later (Later.same (fun _ _ => rfl) h.sat.F) (h.sat.same (fun _ _ => rfl) (Nat.le_refl _)) (h.fr.on h.sat.F (fun _ _ => rfl) (Nat.le_refl _) rfl rfl rfl)

/-- the environment with a number's place changed -/
def Env.up (E : Env) (c : Nat) (s : BS) : Env := { E with β := fun i => if i = c then s else E.β i }

theorem Env.up_same (E : Env) (c : Nat) (s : BS) : (E.up c s).β c = s := by simp [Env.up]
theorem Env.up_other (E : Env) {c i : Nat} (s : BS) (h : i ≠ c) : (E.up c s).β i = E.β i := by simp [Env.up, h]

/-- A new block for a fresh number. -/
theorem later_alloc {w : World} {E : Env} {c : Nat} (hc : E.β c = .fresh) (o : Obj) (hF : ∀ b, E.F b → b < w.heap.size) :
    Later w E (w.alloc o) (E.up c (.loc w.heap.size)) where
  F := fun b hb => ⟨hb, Below.heap_alloc w o b (hF b hb)⟩
  β := fun i => by
    by_cases h : i = c
    · subst h; exact .inr (.inr hc)
    · exact .inl (Env.up_other E _ h)
  size := fun i b _ _ cs T hcs => ⟨cs, T, Row.of (Below.heap_alloc w o b hcs.lt) hcs, rfl⟩

theorem Rel.allocO {D : Codec C} {B : Base} {E : Env} {σ : Nat → SV C} {H : Nat → HS C} {df : List Deferred} {a : Act} {w : World}
    (h : Rel D B E σ H df a w) {c : Nat} (hc : H c = .fresh) (o : Obj) {hs : HS C}
    (hcs : hs.at D (w.alloc o) (E.up c (.loc w.heap.size)) w.heap.size) :
    Rel D B (E.up c (.loc w.heap.size)) σ (upH H c hs) df a (w.alloc o) := by
  have hβ : E.β c = .fresh := by
    have := h.sat.ok c
    rw [hc] at this
    cases hb : E.β c with
    | fresh => rfl
    | dead => rw [hb] at this; simp [HS.ok] at this
    | virt => rw [hb] at this; simp [HS.ok] at this
    | loc b => rw [hb] at this; simp [HS.ok, HS.at] at this
  have hL := later_alloc hβ o h.sat.F
  refine h.later hL ?_ ?_
  · refine ⟨fun i => ?_, fun i b e => ?_, fun i i' b e e' => ?_, fun b hb => ?_, h.sat.glob.mono hL.F⟩
    · by_cases hi : i = c
      · subst hi; rw [Env.up_same]; simp only [upH, if_true]; exact hcs
      · rw [Env.up_other E _ hi]; simp only [upH, if_neg hi]
        exact HS.ok_mono hL (h.sat.ok i) (fun b e => Below.heap_alloc w _ b (h.sat.own i b e).1)
    · by_cases hi : i = c
      · subst hi; rw [Env.up_same] at e; cases e
        exact ⟨by simp, fun hF => absurd (h.sat.F _ hF) (by omega)⟩
      · rw [Env.up_other E _ hi] at e
        exact ⟨by have := (h.sat.own i b e).1; simp; omega, (h.sat.own i b e).2⟩
    · by_cases hi : i = c <;> by_cases hi' : i' = c
      · rw [hi, hi']
      · subst hi; rw [Env.up_same] at e; rw [Env.up_other E _ hi'] at e'
        cases e; exact absurd (h.sat.own i' _ e').1 (by omega)
      · subst hi'; rw [Env.up_same] at e'; rw [Env.up_other E _ hi] at e
        cases e'; exact absurd (h.sat.own i _ e).1 (by omega)
      · rw [Env.up_other E _ hi] at e; rw [Env.up_other E _ hi'] at e'
        exact h.sat.inj i i' b e e'
    · have := h.sat.F b hb; simp; omega
  · refine ⟨h.fr.os, h.fr.tape, h.fr.output, by have := h.fr.size; simp; omega, fun b hb ho => ?_, h.fr.late.trans hL, h.fr.newF, fun i b e => ?_⟩
    · exact (Below.heap_alloc w _ b (Nat.lt_of_lt_of_le hb h.fr.size)).trans (h.fr.same b hb ho)
    · by_cases hi : i = c
      · subst hi; rw [Env.up_same] at e; cases e; exact .inr h.fr.size
      · rw [Env.up_other E _ hi] at e; exact h.fr.newO i b e

theorem Rel.alloc {D : Codec C} {B : Base} {E : Env} {σ : Nat → SV C} {H : Nat → HS C} {df : List Deferred} {a : Act} {w : World}
    (h : Rel D B E σ H df a w) {c : Nat} (hc : H c = .fresh) (cs : Array Value) (T : TypeId) {hs : HS C}
    (hcs : hs.at D (w.alloc (.cells cs T)) (E.up c (.loc w.heap.size)) w.heap.size) :
    Rel D B (E.up c (.loc w.heap.size)) σ (upH H c hs) df a (w.alloc (.cells cs T)) := h.allocO hc _ hcs

/-- An owned block that holds no cells is put another object. -/
theorem Rel.putO {D : Codec C} {B : Base} {E : Env} {σ : Nat → SV C} {H : Nat → HS C} {df : List Deferred} {a : Act} {w : World}
    (h : Rel D B E σ H df a w) {c b : Nat} {o : Obj} (hb : E.β c = .loc b) (hH : H c = .obj o) {o' : Obj} (ho : ∀ cs T z, o' ≠ .cells cs T z) :
    Rel D B E σ (upH H c (.obj o')) df a (w.putObj b o') ∧ Later w E (w.putObj b o') E := by
  have hat := h.sat.ok c
  rw [hb, hH] at hat
  obtain ⟨h1, h2⟩ := hat
  have hlt : b < w.heap.size := (h.sat.own c b hb).1
  have hnF : ¬ E.F b := (h.sat.own c b hb).2
  have hoth : ∀ k, k ≠ b → (w.putObj b o').heap[k]? = w.heap[k]? := fun k hk => World.putObj_heap_other hk
  have hL : Later w E (w.putObj b o') E := by
    refine ⟨fun k hk => ⟨hk, hoth k (fun e => hnF (e ▸ hk))⟩, fun _ => .inl rfl, fun i k _ _ ds T' hds => ?_⟩
    by_cases hk : k = b
    · subst hk
      obtain ⟨z, hds, _⟩ := hds
      rw [h1] at hds; cases hds; exact absurd rfl (h2 _ _ _)
    · exact ⟨ds, T', Row.of (hoth k hk) hds, rfl⟩
  refine ⟨h.later hL ?_ ?_, hL⟩
  · refine ⟨fun i => ?_, fun i k e => ⟨by have := (h.sat.own i k e).1; simpa using this, (h.sat.own i k e).2⟩, h.sat.inj, fun k hk => by have := h.sat.F k hk; simpa using this, h.sat.glob.mono hL.F⟩
    by_cases hi : i = c
    · subst hi; rw [hb]; simp only [upH, if_true]; exact ⟨World.putObj_heap_same hlt, ho⟩
    · simp only [upH, if_neg hi]
      exact HS.ok_mono hL (h.sat.ok i) (fun k e => hoth k (fun ek => hi (h.sat.inj i c b (ek ▸ e) hb)))
  · have hO := h.fr.newO c b hb
    exact ⟨h.fr.os, h.fr.tape, h.fr.output, by simpa using h.fr.size,
      fun k hk ho => (hoth k (fun e => by subst e; rcases hO with hO | hO; exact ho hO; omega)).trans (h.fr.same k hk ho), h.fr.late.trans hL, h.fr.newF, h.fr.newO⟩

theorem Row.set {w : World} {b : Nat} {cs cs' : Array Value} {T : TypeId} (h : Row w b cs T) (hz : cs'.size = cs.size) : Row (w.setRow b cs') b cs' T := by
  obtain ⟨z, h1, h2⟩ := h
  exact ⟨z, setRow_heap w b cs _ T _ h1, by rw [hz]; exact h2⟩

/-- A write into an owned block that keeps its size. -/
theorem Rel.setRow {D : Codec C} {B : Base} {E : Env} {σ : Nat → SV C} {H : Nat → HS C} {df : List Deferred} {a : Act} {w : World}
    (h : Rel D B E σ H df a w) {c b : Nat} (hb : E.β c = .loc b) {cs cs' : Array Value} {T : TypeId} (hcs : Row w b cs T) (hz : cs'.size = cs.size) {hs : HS C}
    (hok : Later w E (w.setRow b cs') E → hs.at D (w.setRow b cs') E b) :
    Rel D B E σ (upH H c hs) df a (w.setRow b cs') := by
  have hnF : ¬ E.F b := (h.sat.own c b hb).2
  have hoth : ∀ k, k ≠ b → (w.setRow b cs').heap[k]? = w.heap[k]? := fun k hk => setRow_other w b k _ hk
  have hL : Later w E (w.setRow b cs') E := by
    refine ⟨fun k hk => ⟨hk, hoth k (fun e => hnF (e ▸ hk))⟩, fun _ => .inl rfl, fun i k _ _ ds T' hds => ?_⟩
    by_cases hk : k = b
    · subst hk
      obtain ⟨rfl, rfl⟩ := hcs.inj hds
      obtain ⟨z, h1, h2⟩ := hcs
      exact ⟨cs', T, ⟨z, setRow_heap w k cs _ T _ h1, by rw [hz]; exact h2⟩, hz⟩
    · exact ⟨ds, T', Row.of (hoth k hk) hds, rfl⟩
  refine h.later hL ?_ ?_
  · refine ⟨fun i => ?_, fun i k e => ⟨by have := (h.sat.own i k e).1; simpa using this, (h.sat.own i k e).2⟩, h.sat.inj, fun k hk => by have := h.sat.F k hk; simpa using this, h.sat.glob.mono hL.F⟩
    by_cases hi : i = c
    · subst hi; rw [hb]; simp only [upH, if_true]; exact hok hL
    · simp only [upH, if_neg hi]
      exact HS.ok_mono hL (h.sat.ok i) (fun k e => hoth k (fun ek => hi (h.sat.inj i c b (ek ▸ e) hb)))
  · have hO := h.fr.newO c b hb
    exact ⟨h.fr.os, h.fr.tape, h.fr.output, by simpa using h.fr.size,
      fun k hk ho => (hoth k (fun e => by subst e; rcases hO with hO | hO; exact ho hO; omega)).trans (h.fr.same k hk ho), h.fr.late.trans hL, h.fr.newF, h.fr.newO⟩

/-- A number is given up. -/
theorem Rel.kill {D : Codec C} {B : Base} {E : Env} {σ : Nat → SV C} {H : Nat → HS C} {df : List Deferred} {a : Act} {w : World}
    (h : Rel D B E σ H df a w) (c : Nat) : Rel D B (E.up c .dead) σ (upH H c .dead) df a w := by
  have hL : Later w E w (E.up c .dead) := ⟨fun b hb => ⟨hb, rfl⟩, fun i => by
    by_cases hi : i = c
    · subst hi; exact .inr (.inl (Env.up_same E _ _))
    · exact .inl (Env.up_other E _ hi), fun _ _ _ _ cs T hc => ⟨cs, T, hc, rfl⟩⟩
  have key : ∀ i b, (E.up c .dead).β i = .loc b → E.β i = .loc b := fun i b e => by
    by_cases hi : i = c
    · subst hi; rw [Env.up_same] at e; cases e
    · rwa [Env.up_other E _ hi] at e
  refine h.later hL ⟨fun i => ?_, fun i b e => h.sat.own i b (key i b e), fun i i' b e e' => h.sat.inj i i' b (key i b e) (key i' b e'), h.sat.F, h.sat.glob.mono hL.F⟩
    ⟨h.fr.os, h.fr.tape, h.fr.output, h.fr.size, h.fr.same, h.fr.late.trans hL, h.fr.newF, fun i b e => h.fr.newO i b (key i b e)⟩
  by_cases hi : i = c
  · subst hi; rw [Env.up_same]; simp [upH, HS.ok]
  · rw [Env.up_other E _ hi]; simp only [upH, if_neg hi]
    exact HS.ok_mono hL (h.sat.ok i) (fun _ _ => rfl)

/-- An owned chunk becomes persistent. -/
theorem Rel.freeze {D : Codec C} {B : Base} {E : Env} {σ : Nat → SV C} {H : Nat → HS C} {df : List Deferred} {a : Act} {w : World}
    (h : Rel D B E σ H df a w) {c b : Nat} (hb : E.β c = .loc b) :
    Rel D B { F := fun k => E.F k ∨ k = b, β := (E.up c .dead).β } σ (upH H c .dead) df a w := by
  have hL : Later w E w { F := fun k => E.F k ∨ k = b, β := (E.up c .dead).β } := ⟨fun b hb => ⟨.inl hb, rfl⟩, fun i => by
    by_cases hi : i = c
    · subst hi; exact .inr (.inl (Env.up_same E _ _))
    · exact .inl (Env.up_other E _ hi), fun _ _ _ _ cs T hc => ⟨cs, T, hc, rfl⟩⟩
  have key : ∀ i b, (E.up c .dead).β i = .loc b → i ≠ c ∧ E.β i = .loc b := fun i b e => by
    by_cases hi : i = c
    · subst hi; rw [Env.up_same] at e; cases e
    · rw [Env.up_other E _ hi] at e; exact ⟨hi, e⟩
  refine h.later hL ⟨fun i => ?_, fun i k e => ⟨(h.sat.own i k (key i k e).2).1, ?_⟩, fun i i' k e e' => h.sat.inj i i' k (key i k e).2 (key i' k e').2, ?_, h.sat.glob.mono hL.F⟩
    ⟨h.fr.os, h.fr.tape, h.fr.output, h.fr.size, h.fr.same, h.fr.late.trans hL, ?_, fun i k e => h.fr.newO i k (key i k e).2⟩
  · by_cases hi : i = c
    · subst hi; simp [upH, HS.ok, Env.up]
    · show HS.ok D w _ ((E.up c .dead).β i) _
      rw [Env.up_other E _ hi]; simp only [upH, if_neg hi]
      exact HS.ok_mono hL (h.sat.ok i) (fun _ _ => rfl)
  · rintro (hF | rfl)
    · exact (h.sat.own i k (key i k e).2).2 hF
    · exact (key i k e).1 (h.sat.inj i c k (key i k e).2 hb)
  · rintro k (hF | rfl)
    · exact h.sat.F k hF
    · exact (h.sat.own c k hb).1
  · rintro k (hF | rfl)
    · exact h.fr.newF k hF
    · rcases h.fr.newO c k hb with h1 | h1
      · exact .inr (.inl h1)
      · exact .inr (.inr h1)

end Go.SX
