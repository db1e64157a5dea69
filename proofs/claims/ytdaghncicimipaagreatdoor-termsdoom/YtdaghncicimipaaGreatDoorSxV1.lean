/-
  SX, part V1: a function that has ranged over functions leaves: its marks are taken, their blocks shed.
-/
import Derived.Test.YtdaghncicimipaaGreatDoorSxR
import Derived.RangeFuncNested
set_option linter.unusedVariables false
set_option linter.unusedSimpArgs false
namespace Go.SX
open Go.RowKit
variable {C : Cod}

/-- What was known of E in w is known of E' in w', but for blocks that hold no cells. -/
structure Shed (w : World) (E : Env) (w' : World) (E' : Env) : Prop where
  F : ∀ b cs T z, w.heap[b]? = some (.cells cs T z) → w'.heap[b]? = some (.cells cs T z) ∧ (E.F b → E'.F b)
  β : E'.β = E.β

theorem Shed.cell {w w' : World} {E E' : Env} (h : Shed w E w' E') {b o : Nat} {v : Value} (hc : w.cell? ⟨b, o, none⟩ = some v) : w'.cell? ⟨b, o, none⟩ = some v ∧ (E.F b → E'.F b) := by
  obtain ⟨ob, h1, h2⟩ := cells_of_cell hc
  cases ob with
  | cells cs T z =>
    obtain ⟨h3, h4⟩ := h.F b cs T z h1
    exact ⟨(cell_of_block (h3.trans h1.symm)).trans hc, h4⟩
  | _ => simp [Obj.isCells] at h2

theorem Shed.row {w w' : World} {E E' : Env} (h : Shed w E w' E') {b : Nat} {cs : Array Value} {T : TypeId} (hr : Row w b cs T) : Row w' b cs T := by
  obtain ⟨z, h1, h2⟩ := hr
  exact ⟨z, (h.F b cs T z h1).1, h2⟩
theorem Shed.glob {w w' : World} {E E' : Env} (h : Shed w E w' E') (hG : GlobOK C w E) : GlobOK C w' E' := fun g hg => by
  obtain ⟨h1, ⟨cs, T, z, h2, h3⟩, h4⟩ := hG g hg
  obtain ⟨h5, h6⟩ := h.F g cs T z h2
  exact ⟨h6 h1, ⟨cs, T, z, h5, h3⟩, h4⟩

theorem PDen.shed {D : Codec C} {w w' : World} {E E' : Env} (hS : Shed w E w' E') {x : PV C} {v : Value} (h : PDen D w E.F x v) : PDen D w' E'.F x v := by
  induction h with
  | int k n => exact .int k n
  | bool b => exact .bool b
  | str l => exact .str l
  | lit v h => exact .lit v h
  | dslNil u a cap => exact .dslNil u a cap
  | dsl u xs b o cap cv hb hc hcell hden ih =>
    refine .dsl u xs b o cap cv (fun hx => ?_) hc (fun i x hx j pv hp => (hS.cell (hcell i x hx j pv hp)).1) ih
    cases xs with
    | nil => exact absurd rfl hx
    | cons x r =>
      have hn : 0 < (D.enc u x).length := by rw [D.enc_len]; exact D.n_pos u
      exact (hS.cell (hcell 0 x rfl 0 _ (List.getElem?_eq_getElem hn))).2 (hb hx)
  | fds u xs a h ih => exact .fds u xs a ih
theorem PDenL.shed {D : Codec C} {w w' : World} {E E' : Env} (hS : Shed w E w' E') {l : List (PV C)} {vs : List Value} (h : PDenL D w E.F l vs) : PDenL D w' E'.F l vs :=
  ⟨h.1, fun j pv v hp hv => (h.2 j pv v hp hv).shed hS⟩

mutual
theorem Den.shed {D : Codec C} {w w' : World} {E E' : Env} (hS : Shed w E w' E') : ∀ (x : SV C) (v : Value), Den D w E x v → Den D w' E' x v
  | .p x, v, h => by simp only [Den] at *; exact h.shed hS
  | .any, _, _ => by simp only [Den]
  | .ptr c o, v, h => by simp only [Den, hS.β] at *; exact h
  | .eptr c o n i f, v, h => by simp only [Den, hS.β] at *; exact h
  | .yieldv c, v, h => by simp only [Den, hS.β] at *; exact h
  | .mapp c, v, h => by simp only [Den, hS.β] at *; exact h
  | .dptr cells f, v, h => by
    simp only [Den] at *
    obtain ⟨b, o, rfl, hc⟩ := h
    refine ⟨b, o, rfl, fun j pv hp => ?_⟩
    obtain ⟨hb, cv, h1, h2⟩ := hc j pv hp
    exact ⟨(hS.cell h1).2 hb, cv, (hS.cell h1).1, h2.shed hS⟩
  | .slice c o n off len, v, h => by
    simp only [Den, hS.β] at *
    cases hb : E.β c with
    | loc b =>
      rw [hb] at h
      rcases h with h | ⟨cap, cs, T, h1, h2, h3, h4⟩
      · exact .inl h
      · exact .inr ⟨cap, cs, T, h1, h2, hS.row h3, h4⟩
    | _ => rw [hb] at h; exact h
  | .arr _ _ _, _, h => by simp only [Den] at h
  | .agg vs, v, h => by
    simp only [Den] at *
    obtain ⟨cs, h1, h2⟩ := h
    exact ⟨cs, h1, DenC.shed hS vs _ h2⟩
  | .fn f first captured, v, h => by
    simp only [Den] at *
    obtain ⟨xs, ys, h1, h2, h3⟩ := h
    exact ⟨xs, ys, h1, DenA.shed hS first _ h2, DenA.shed hS captured _ h3⟩
  | .iface t x, v, h => by
    simp only [Den] at *
    obtain ⟨u, h1, h2⟩ := h
    exact ⟨u, h1, Den.shed hS x _ h2⟩
  | .tuple vs, v, h => by
    simp only [Den] at *
    obtain ⟨xs, h1, h2⟩ := h
    exact ⟨xs, h1, DenA.shed hS vs _ h2⟩
theorem DenC.shed {D : Codec C} {w w' : World} {E E' : Env} (hS : Shed w E w' E') : ∀ (l : List (SV C)) (vs : List Value), DenC D w E l vs → DenC D w' E' l vs
  | [], vs, h => by simp only [DenC] at *; exact h
  | x :: rest, vs, h => by
    have ih := DenC.shed (D := D) hS rest
    cases x with
    | arr u N xs =>
      simp only [DenC] at *
      obtain ⟨h0, v1, v2, h1, h2, h3⟩ := h
      exact ⟨h0, v1, v2, h1, h2.shed hS, ih _ h3⟩
    | p y => simp only [DenC] at *; obtain ⟨v, v2, h1, h2, h3, h4⟩ := h; exact ⟨v, v2, h1, h2, Den.shed hS _ _ h3, ih _ h4⟩
    | any => simp only [DenC] at *; obtain ⟨v, v2, h1, h2, h3, h4⟩ := h; exact ⟨v, v2, h1, h2, Den.shed hS _ _ h3, ih _ h4⟩
    | ptr c o => simp only [DenC] at *; obtain ⟨v, v2, h1, h2, h3, h4⟩ := h; exact ⟨v, v2, h1, h2, Den.shed hS _ _ h3, ih _ h4⟩
    | eptr c o n i f => simp only [DenC] at *; obtain ⟨v, v2, h1, h2, h3, h4⟩ := h; exact ⟨v, v2, h1, h2, Den.shed hS _ _ h3, ih _ h4⟩
    | dptr c f => simp only [DenC] at *; obtain ⟨v, v2, h1, h2, h3, h4⟩ := h; exact ⟨v, v2, h1, h2, Den.shed hS _ _ h3, ih _ h4⟩
    | slice c o n off len => simp only [DenC] at *; obtain ⟨v, v2, h1, h2, h3, h4⟩ := h; exact ⟨v, v2, h1, h2, Den.shed hS _ _ h3, ih _ h4⟩
    | agg l => simp only [DenC] at *; obtain ⟨v, v2, h1, h2, h3, h4⟩ := h; exact ⟨v, v2, h1, h2, Den.shed hS (.agg l) _ h3, ih _ h4⟩
    | fn f a b => simp only [DenC] at *; obtain ⟨v, v2, h1, h2, h3, h4⟩ := h; exact ⟨v, v2, h1, h2, Den.shed hS (.fn f a b) _ h3, ih _ h4⟩
    | iface t y => simp only [DenC] at *; obtain ⟨v, v2, h1, h2, h3, h4⟩ := h; exact ⟨v, v2, h1, h2, Den.shed hS (.iface t y) _ h3, ih _ h4⟩
    | tuple l => simp only [DenC] at *; obtain ⟨v, v2, h1, h2, h3, h4⟩ := h; exact ⟨v, v2, h1, h2, Den.shed hS (.tuple l) _ h3, ih _ h4⟩
    | yieldv c => simp only [DenC] at *; obtain ⟨v, v2, h1, h2, h3, h4⟩ := h; exact ⟨v, v2, h1, h2, Den.shed hS _ _ h3, ih _ h4⟩
    | mapp c => simp only [DenC] at *; obtain ⟨v, v2, h1, h2, h3, h4⟩ := h; exact ⟨v, v2, h1, h2, Den.shed hS _ _ h3, ih _ h4⟩
theorem DenA.shed {D : Codec C} {w w' : World} {E E' : Env} (hS : Shed w E w' E') : ∀ (l : List (SV C)) (vs : List Value), DenA D w E l vs → DenA D w' E' l vs
  | [], vs, h => by simp only [DenA] at *; exact h
  | x :: rest, vs, h => by
    simp only [DenA] at *
    obtain ⟨v, v2, h1, h2, h3⟩ := h
    exact ⟨v, v2, h1, Den.shed hS x _ h2, DenA.shed hS rest _ h3⟩
end

section
variable {P : Program} {D : Codec C} {tab : Tab C} {B : Base} {E : Env} {σ : Nat → SV C} {H : Nat → HS C} {df : List Deferred} {a : Act} {w : World}

/-- one mark is taken -/
theorem Rel.takeMark {b : Nat} {bs : List Nat} (h : Rel D B E σ H ((b :: bs).map fun b => ⟨.collected b, #[]⟩) a w) :
    (Instr.takeDeferred b).run P w = .ok [] (w.putObj b (.deferred none)) ∧
    Rel D B { E with F := fun k => E.F k ∧ k ≠ b } σ H (bs.map fun b => ⟨.collected b, #[]⟩) { a with defers := bs.map fun b => ⟨.collected b, #[]⟩ } (w.putObj b (.deferred none)) := by
  obtain ⟨bs', e, hnd, hm⟩ := h.marks
  have hbs : bs' = b :: bs := by
    have inj : ∀ l m : List Nat, l.map (fun b => (⟨.collected b, #[]⟩ : Deferred)) = m.map (fun b => ⟨.collected b, #[]⟩) → l = m := by
      intro l
      induction l with
      | nil => intro m h; cases m with
        | nil => rfl
        | cons x m => simp at h
      | cons x l ih => intro m h; cases m with
        | nil => simp at h
        | cons y m => simp at h; rw [h.1, ih m (by simpa using h.2)]
    exact (inj _ _ e).symm
  subst hbs
  obtain ⟨hF, hob, hge, hn0⟩ := hm b (by simp)
  have hlt : b < w.heap.size := h.sat.F b hF
  have hoth : ∀ k, k ≠ b → (w.putObj b (.deferred none)).heap[k]? = w.heap[k]? := fun k hk => World.putObj_heap_other hk
  have hS : Shed w E (w.putObj b (.deferred none)) { E with F := fun k => E.F k ∧ k ≠ b } := by
    refine ⟨fun k cs T z hk => ?_, rfl⟩
    have hkb : k ≠ b := fun e => by rw [e, hob] at hk; cases hk
    exact ⟨(hoth k hkb).trans hk, fun hf => ⟨hf, hkb⟩⟩
  have hown : ∀ c k, E.β c = .loc k → k ≠ b := fun c k e ek => (h.sat.own c k e).2 (ek ▸ hF)
  refine ⟨run_takeDeferred hob, ⟨fun i => Den.shed hS _ _ (h.den i), ⟨fun c => ?_, fun c k e => ?_, h.sat.inj, fun k hk => ?_, hS.glob h.sat.glob⟩, ?_, rfl, bs, rfl, (List.nodup_cons.1 hnd).2, fun k hk => ?_⟩⟩
  · have hok := h.sat.ok c
    show HS.ok D _ _ (E.β c) _
    cases hb : E.β c with
    | fresh => rw [hb] at hok; exact hok
    | dead => rw [hb] at hok; exact hok
    | virt => rw [hb] at hok; exact hok
    | loc k =>
      rw [hb] at hok
      have hk := hown c k hb
      simp only [HS.ok] at hok ⊢
      cases hH : H c with
      | fresh => rw [hH] at hok; exact hok
      | dead => rw [hH] at hok; exact hok
      | vart _ vs => rw [hH] at hok; obtain ⟨cs, T, h1, h2⟩ := hok; exact ⟨cs, T, RowT.of (hoth k hk) h1, DenC.shed hS _ _ h2⟩
      | rows u xs => rw [hH] at hok; obtain ⟨cs, T, h1, h2, h3⟩ := hok; exact ⟨cs, T, RowT.of (hoth k hk) h1, h2, h3.shed hS⟩
      | obj o => rw [hH] at hok; obtain ⟨h1, h2⟩ := hok; exact ⟨(hoth k hk).trans h1, h2⟩
  · have := h.sat.own c k e
    exact ⟨by simpa using this.1, fun hf => this.2 hf.1⟩
  · have := h.sat.F k hk.1; simpa using this
  · refine ⟨h.fr.os, h.fr.tape, h.fr.output, by simpa using h.fr.size, fun k hk ho => (hoth k (by omega)).trans (h.fr.same k hk ho), ⟨fun k hk => ?_, h.fr.late.β, fun c k e1 e2 cs T hcs => ?_⟩, fun k hk => h.fr.newF k hk.1, h.fr.newO⟩
    · have := h.fr.late.F k hk
      have hkb : k ≠ b := fun e => hn0 (e ▸ hk)
      exact ⟨⟨this.1, hkb⟩, (hoth k hkb).trans this.2⟩
    · obtain ⟨cs', T', h1, h2⟩ := h.fr.late.size c k e1 e2 cs T hcs
      exact ⟨cs', T', Row.of (hoth k (hown c k e2)) h1, h2⟩
  · have hk' := hm k (List.mem_cons_of_mem _ hk)
    have hkb : k ≠ b := fun e => (List.nodup_cons.1 hnd).1 (e ▸ hk)
    exact ⟨⟨hk'.1, hkb⟩, (hoth k hkb).trans hk'.2.1, hk'.2.2⟩

/-- all marks are taken -/
theorem leaves_marks {F : Fence} {n : Nat} {fn : Func} {R : Ending → World → Prop} : ∀ (bs : List Nat) (a : Act) (w : World) (E : Env), Rel D B E σ H (bs.map fun b => ⟨.collected b, #[]⟩) a w →
    (∀ w' E', Rel D B E' σ H [] { a with defers := [] } w' → ∃ v, (results fn a.tmps).run P w' = .ok v w' ∧ R (.returned v) w') →
    LeavesInM F n P fn a.tmps R (bs.map fun b => ⟨.collected b, #[]⟩) .returning w
  | [], a, w, E, h, hK => by
    have hd := h.defers
    refine hK w E ⟨h.den, h.sat, h.fr, rfl, Marks.nil⟩
  | b :: bs, a, w, E, h, hK => by
    obtain ⟨h1, h2⟩ := h.takeMark (P := P)
    refine ⟨by simp, .inl ⟨b, _, rfl, h1, ?_⟩⟩
    exact leaves_marks bs { a with defers := bs.map fun b => ⟨.collected b, #[]⟩ } _ _ h2 hK

theorem leaves_rel {F : Fence} {n : Nat} {fn : Func} {R : Ending → World → Prop} (h : Rel D B E σ H df a w)
    (hK : ∀ w' E', Rel D B E' σ H [] { a with defers := [] } w' → ∃ v, (results fn a.tmps).run P w' = .ok v w' ∧ R (.returned v) w') :
    LeavesInM F n P fn a.tmps R a.defers .returning w := by
  obtain ⟨bs, e, _, _⟩ := h.marks
  rw [h.defers, e]
  subst e
  exact leaves_marks bs a w E h hK
end
end Go.SX
