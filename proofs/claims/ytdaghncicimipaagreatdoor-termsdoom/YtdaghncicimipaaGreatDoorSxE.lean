/-
  SX, part E: the operations' soundness, one by one.
-/
import Derived.Test.YtdaghncicimipaaGreatDoorSxEq2
set_option linter.unusedVariables false
set_option linter.unusedSimpArgs false
namespace Go.SX
open Go.RowKit
variable {C : Cod}

def KindOK (P : Program) (size : Nat) : TK → TypeDesc → Prop
  | .int k, d => d = .int k
  | .bool, d => d = .bool
  | .str, d => d = .string
  | .struct fs, d => ∃ F, d = .struct F ∧ F.toList.map (fun f => (f.offset, f.type)) = fs ∧ ∀ f ∈ fs, (P.info? f.2).isSome = true
  | .arr n e, d => d = .array n e ∧ ∃ ie, P.info? e = some ie ∧ size = n * ie.size
  | .slice e, d => d = .slice e
  | .ptr e, d => d = .pointer e
  | .uptr, d => d = .unsafePointer
  | .map k e, d => ∃ kt, d = .map kt e ∧ P.underlying kt = some (ckDesc k)
  | .other, d => (match d with | .struct _ | .array _ _ => false | _ => true) = true

structure TyOK (P : Program) (D : Codec C) (t : TypeId) (i : TI C) : Prop where
  info : ∃ info z, P.info? t = some info ∧ info.size = i.size ∧ info.bytes = i.bytes ∧ info.zero = some z ∧ z.cells.size = i.size ∧ ∀ w E, DenC D w E i.zero z.cells.toList
  und : ∃ d, P.underlying t = some d ∧ KindOK P i.size i.kind d
  pos : 0 < i.size
  code : ∀ u, i.code = some u → C.n u = i.size
  ctype : ∀ u t', i.code = some u → C.ty u = some t' → t' = t
  lies : i.typed = true → liesAt P P.depth t (i.size / P.cellsOf t) 0 t 1 = true
  zb : i.kind = .bool → ∃ info, P.info? t = some info ∧ info.zero = some (.bool false)
  eq : i.cks ≠ [] → i.kind.agg = true ∧ ckB P 64 t i.cks = true ∧ P.eqGuardType P.depth t = false

def TabOK (P : Program) (D : Codec C) (tab : Tab C) : Prop := ∀ t i, tab t = some i → TyOK P D t i

/-- what an operation's run has come to -/
def RunOK (P : Program) (D : Codec C) (B : Base) (σ : Nat → SV C) (H : Nat → HS C) (df : List Deferred) (a : Act) (w : World) (o : Oper) (v : SV C) (ws : List (Nat × HS C)) : Prop :=
  ∃ u w' E', ((execOp a.eval o).run P w = .ok (.value u) w' ∨ ((execOp a.eval o).run P w = .ok .skip w' ∧ u = undef)) ∧
    Rel D B E' σ (upHs H ws) df a w' ∧ Den D w' E' v u

section
variable {P : Program} {D : Codec C} {tab : Tab C} {B : Base} {E : Env} {σ : Nat → SV C} {H : Nat → HS C} {df : List Deferred} {a : Act} {w : World}

theorem oneV_eq (v : Value) : oneV v = v.oneCell' := by cases v <;> rfl

theorem ofCell_den (v : Value) : Den D w E (ofCell v) v := by
  cases v with
  | int k n => exact .int k n
  | bool b => exact .bool b
  | string s => obtain ⟨⟨l⟩⟩ := s; exact .str l
  | agg c => trivial
  | tuple c => trivial
  | func f x y =>
    simp only [ofCell]
    by_cases hx : x.size = 0
    · by_cases hy : y.size = 0
      · rw [if_pos hx, if_pos hy]
        have h1 : x = #[] := Array.eq_empty_of_size_eq_zero hx
        have h2 : y = #[] := Array.eq_empty_of_size_eq_zero hy
        subst h1; subst h2
        simp only [Den, DenA]
        exact ⟨_, _, rfl, rfl, rfl⟩
      · rw [if_pos hx, if_neg hy]; trivial
    · rw [if_neg hx]; trivial
  | _ => exact .lit _ rfl

theorem ofCell_isArr (v : Value) : (ofCell v : SV C).isArr = false := by
  cases v <;> try rfl
  simp only [ofCell]
  split
  · split <;> rfl
  · rfl

theorem ofCells_den : ∀ (l : List Value), allOne l = true → DenC D w E (ofCells l) l
  | [], _ => by simp [ofCells, DenC]
  | v :: l, h => by
    simp only [ofCells]
    simp only [allOne] at h
    cases hv : oneV v with
    | false => simp [hv] at h
    | true =>
      simp only [hv] at h
      rw [DenC_cons (ofCell_isArr v)]
      exact ⟨v, l, rfl, (oneV_eq v) ▸ hv, ofCell_den v, ofCells_den l h⟩

theorem ofV_den (v : Value) : Den D w E (ofV v) v := by
  cases v with
  | agg cs =>
    simp only [ofV]
    cases h : allOne cs.toList with
    | true => simp only [Den]; exact ⟨cs, rfl, ofCells_den _ h⟩
    | false => trivial
  | _ => simp only [ofV]; exact ofCell_den _

theorem pvOf_den {F : Nat → Prop} (v : Value) (h : v.oneCell' = true) : PDen D w F (pvOf v) v := by
  cases v with
  | int k n => exact .int k n
  | bool b => exact .bool b
  | string s => exact .str s.data.toList
  | _ => exact .lit _ h
theorem globS_den (hG : GlobOK C w E) (g : Nat) : Den D w E (globS g (C.glob g)) (.pointer (some ⟨g, 0, none⟩)) := by
  cases hc : C.glob g with
  | nil => exact trivial
  | cons v l =>
    obtain ⟨h1, ⟨cs, T, z, h2, h3⟩, h4⟩ := hG g (by rw [hc]; simp)
    rw [hc] at h3 h4
    simp only [globS, Den]
    refine ⟨g, 0, rfl, fun j pv hj => ⟨h1, ?_⟩⟩
    have hj' : ((v :: l).map pvOf)[j]? = some pv := hj
    rw [List.getElem?_map] at hj'
    obtain ⟨u, hu, rfl⟩ := Option.map_eq_some_iff.1 hj'
    refine ⟨u, ?_, pvOf_den u (h4 u (List.mem_of_getElem? hu))⟩
    rw [Nat.zero_add, cell_of_row w g j cs T z h2, ← Array.getElem?_toList, h3, hu]
theorem ev_den (h : Rel D B E σ H df a w) (x : Operand) : Den D w E (ev σ x) (a.eval x) := by
  cases x with
  | tmp t => exact h.den t
  | const v => exact ofV_den v
  | global g => exact globS_den h.sat.glob g
  | func f => simp only [ev, Act.eval, Den, DenA]; exact ⟨_, _, rfl, rfl, rfl⟩

theorem agg_isAgg {t : TypeId} {i : TI C} (ht : TyOK P D t i) : (isAgg t).run P w = .ok i.kind.agg w := by
  obtain ⟨d, hu, hk⟩ := ht.und
  unfold isAgg
  rw [Sem.run_bind, run_underlying hu w]
  cases hkk : i.kind <;> rw [hkk] at hk <;> simp only [KindOK] at hk
  · subst hk; rfl
  · subst hk; rfl
  · subst hk; rfl
  · obtain ⟨F, rfl, _, _⟩ := hk; rfl
  · obtain ⟨rfl, _⟩ := hk; rfl
  · subst hk; rfl
  · subst hk; rfl
  · obtain ⟨kt, rfl, _⟩ := hk; rfl
  · subst hk; rfl
  · cases d <;> simp_all [TK.agg]

theorem run_sizeOf {t : TypeId} {i : TI C} (ht : TyOK P D t i) : (sizeOf t).run P w = .ok i.size w := by
  obtain ⟨info, z, h1, h2, _⟩ := ht.info
  simp [sizeOf, typeInfo, h1, h2]

theorem run_loadVar_agg {t : TypeId} {i : TI C} (ht : TyOK P D t i) (hg : i.kind.agg = true) (ad : Addr) (l : List Value) (hl : l.length = i.size)
    (hc : ∀ j v, l[j]? = some v → w.cell? (ad.add j) = some v) : (loadVar t ad).run P w = .ok (.agg l.toArray) w := by
  have := run_loadCells_list (P := P) w ad l hc
  simp [loadVar, agg_isAgg ht, hg, run_sizeOf ht, ← hl, this]

theorem run_loadVar_one {t : TypeId} {i : TI C} (ht : TyOK P D t i) (hg : i.kind.agg = false) (ad : Addr) (v : Value) (hc : w.cell? ad = some v) :
    (loadVar t ad).run P w = .ok v w := by
  simp [loadVar, agg_isAgg ht, hg, run_load, hc]

theorem live_at (hs : Sat D w E H) {c : Nat} (hd : H c ≠ .dead) (hf : H c ≠ .fresh) : (E.β c = .virt ∧ ∃ u, H c = .rows u []) ∨ ∃ b, E.β c = .loc b ∧ (H c).at D w E b := by
  have := hs.ok c
  cases hb : E.β c with
  | fresh => rw [hb] at this; exact absurd this hf
  | dead => rw [hb] at this; exact absurd this hd
  | virt => rw [hb] at this; exact .inl ⟨rfl, this⟩
  | loc b => rw [hb] at this; exact .inr ⟨b, rfl, this⟩

theorem var_at (hs : Sat D w E H) {c : Nat} {ty : Option TypeId} {vs : List (SV C)} (hv : H c = .vart ty vs) : ∃ b cs T, E.β c = .loc b ∧ RowT ty w b cs T ∧ DenC D w E vs cs.toList := by
  rcases live_at hs (c := c) (by rw [hv]; simp) (by rw [hv]; simp) with ⟨_, u, h⟩ | ⟨b, hb, h⟩
  · rw [hv] at h; cases h
  · rw [hv] at h
    obtain ⟨cs, T, h1, h2⟩ := h
    exact ⟨b, cs, T, hb, h1, h2⟩

theorem ptr_den {c o b : Nat} {v : Value} (h : Den D w E (.ptr c o) v) (hb : E.β c = .loc b) : v = .pointer (some ⟨b, o, none⟩) := by
  simp only [Den, hb] at h; exact h
theorem eptr_den {c o n i f b : Nat} {v : Value} (h : Den D w E (.eptr c o n i f) v) (hb : E.β c = .loc b) : v = .pointer (some ⟨b, o + i * n + f, none⟩) := by
  simp only [Den, hb] at h; exact h

theorem cells_cell {b : Nat} {cs : Array Value} {T : TypeId} (h : Row w b cs T) (j : Nat) : w.cell? ⟨b, j, none⟩ = cs.toList[j]? := by
  obtain ⟨z, h, _⟩ := h
  rw [cell_of_row w b j cs T z h]; simp

/-- the sequence of elements at cell o of a chunk -/
def SqOK (D : Codec C) (w : World) (E : Env) (b : Nat) (o : Nat) : Sq C → Prop
  | .no => True
  | .some u xs => ∃ cs T, Row w b cs T ∧ o + xs.length * C.n u ≤ cs.size ∧ PDenL D w E.F (xs.flatMap (D.enc u)) ((cs.toList.drop o).take (xs.length * C.n u))

theorem seqAt_spec {h : HS C} {b o : Nat} (hh : h.at D w E b) : SqOK D w E b o (seqAt h o) := by
  cases h with
  | fresh => trivial
  | dead => trivial
  | obj o => trivial
  | rows u xs =>
    cases o with
    | zero =>
      obtain ⟨cs, T, h1, h2, h3⟩ := hh
      exact ⟨cs, T, h1.1, by omega, by simpa using h3⟩
    | succ o => trivial
  | vart _ vs =>
    obtain ⟨cs, T, ⟨h1, _⟩, h2⟩ := hh
    have := hitW_spec vs o cs.toList h2
    simp only [seqAt]
    cases hq : hitW vs o with
    | miss => trivial
    | cell x => trivial
    | elem u N xs k =>
      cases k with
      | succ k => trivial
      | zero =>
        rw [hq] at this
        obtain ⟨a1, a2, a3, a4, a5⟩ := this
        simp only [SqOK]
        refine ⟨cs, T, h1, by rw [a1]; simpa using a4, by rw [a1]; simpa using a5⟩

/-- element k of a sequence, cell by cell -/
theorem sq_cells {b o : Nat} {u : C.U} {xs : List (C.El u)} (h : SqOK D w E b o (.some u xs)) {k : Nat} (hk : k < xs.length) :
    ∀ j pv, (D.enc u (xs.getD k (C.dflt u)))[j]? = some pv → ∃ v, w.cell? ⟨b, o + k * C.n u + j, none⟩ = some v ∧ PDen D w E.F pv v := by
  obtain ⟨cs, T, h1, h2, h3⟩ := h
  intro j pv hp
  have hx : xs[k]? = some (xs.getD k (C.dflt u)) := by simp [List.getD_eq_getElem?_getD, List.getElem?_eq_getElem hk]
  have hj : j < C.n u := by
    have := (List.getElem?_eq_some_iff.1 hp).1
    rwa [D.enc_len] at this
  have hf := flatMap_get (D := D) u xs k j _ hx hj
  rw [hp] at hf
  have hlt : k * C.n u + j < xs.length * C.n u := by
    have : (k + 1) * C.n u ≤ xs.length * C.n u := Nat.mul_le_mul_right _ hk
    rw [Nat.add_mul] at this
    omega
  have hlt2 : o + k * C.n u + j < cs.toList.length := by simp; omega
  refine ⟨cs.toList[o + k * C.n u + j], ?_, ?_⟩
  · rw [cells_cell h1, List.getElem?_eq_getElem hlt2]
  · refine h3.2 _ _ _ hf ?_
    rw [List.getElem?_take, if_pos hlt, List.getElem?_drop, show o + (k * C.n u + j) = o + k * C.n u + j by omega, List.getElem?_eq_getElem hlt2]

theorem ixL_eq {α : Type} : ∀ (l : List α) (i : Nat), ixL l i = l[i]?
  | [], _ => by simp [ixL]
  | a :: l, 0 => by simp [ixL]
  | a :: l, i + 1 => by simp [ixL, ixL_eq l i]
theorem takeP_some {α : Type} : ∀ (l : List α) (i : Nat) (r : List α), takeP l i = some r → r = l.take i ∧ i ≤ l.length
  | l, 0, r, h => by cases l <;> (simp [takeP] at h; subst h; simp)
  | [], i + 1, r, h => by simp [takeP] at h
  | a :: l, i + 1, r, h => by
    simp only [takeP] at h
    cases ht : takeP l i with
    | none => simp [ht] at h
    | some q =>
      simp [ht] at h; subst h
      obtain ⟨h1, h2⟩ := takeP_some l i q ht
      subst h1
      simp; omega
theorem dropP_some {α : Type} : ∀ (l : List α) (i : Nat) (r : List α), dropP l i = some r → r = l.drop i ∧ i ≤ l.length
  | l, 0, r, h => by cases l <;> (simp [dropP] at h; subst h; simp)
  | [], i + 1, r, h => by simp [dropP] at h
  | a :: l, i + 1, r, h => by
    simp only [dropP] at h
    obtain ⟨h1, h2⟩ := dropP_some l i r h
    exact ⟨by simpa using h1, by simp; omega⟩

theorem pcells_den {l : List (PV C)} {vs : List Value} (hl : l.length = vs.length) (h : ∀ (j : Nat) (pv : PV C) (v : Value), l[j]? = some pv → vs[j]? = some v → PDen D w E.F pv v) :
    DenC D w E (pcells l) vs := by
  induction l generalizing vs with
  | nil =>
    have : vs = [] := List.eq_nil_of_length_eq_zero hl.symm
    simp [pcells, DenC, this]
  | cons x l ih =>
    cases vs with
    | nil => simp at hl
    | cons v vs =>
      have h0 : PDen D w E.F x v := h 0 x v (by simp) (by simp)
      simp only [pcells, List.map_cons, DenC, Den]
      exact ⟨v, vs, rfl, h0.oneCell, h0, ih (by simpa using hl) fun j pv u hp hu => h (j + 1) pv u (by simpa using hp) (by simpa using hu)⟩

/-- a load at cell f of a row of persistent cells that lies at b, o -/
theorem decAll_spec (u : C.U) : ∀ (k : Nat) (l : List (PV C)) (xs : List (C.El u)), decAll D u k l = some xs → xs.length = k ∧ xs.flatMap (D.enc u) = l.take (k * C.n u) ∧ k * C.n u ≤ l.length
  | 0, l, xs, h => by simp [decAll] at h; subst h; simp
  | k + 1, l, xs, h => by
    simp only [decAll] at h
    cases h1 : takeP l (C.n u) with
    | none => simp [h1] at h
    | some x =>
      cases h2 : dropP l (C.n u) with
      | none => simp [h1, h2] at h
      | some r =>
        cases h3 : D.dec u x with
        | none => simp [h1, h2, h3] at h
        | some y =>
          cases h4 : decAll D u k r with
          | none => simp [h1, h2, h3, h4] at h
          | some ys =>
            simp [h1, h2, h3, h4] at h
            subst h
            obtain ⟨e1, f1⟩ := takeP_some _ _ _ h1
            obtain ⟨e2, f2⟩ := dropP_some _ _ _ h2
            have e3 := D.dec_ok _ _ _ h3
            obtain ⟨g1, g2, g3⟩ := decAll_spec u k r ys h4
            subst e1; subst e2
            refine ⟨by simp [g1], ?_, ?_⟩
            · rw [List.flatMap_cons, e3, g2, Nat.add_mul, Nat.one_mul, Nat.add_comm, List.take_add]
            · simp at g3; rw [Nat.add_mul]; omega
theorem loadCellsAt_spec {t : TypeId} {i : TI C} (ht : TyOK P D t i) {cells : List (PV C)} {f b o : Nat} {sv : SV C} (h : loadCellsAt i cells f = some sv)
    (hc : ∀ j pv, cells[j]? = some pv → ∃ v, w.cell? ⟨b, o + j, none⟩ = some v ∧ PDen D w E.F pv v) :
    ∃ v, (loadVar t ⟨b, o + f, none⟩).run P w = .ok v w ∧ Den D w E sv v := by
  unfold loadCellsAt at h
  cases hg : i.kind.agg with
  | true =>
    simp only [hg] at h
    cases hd : dropP cells f with
    | none => simp [hd] at h
    | some r =>
      cases htk : takeP r i.size with
      | none => simp [hd, htk] at h
      | some l =>
        simp [hd, htk] at h
        subst h
        obtain ⟨h1, h2⟩ := dropP_some _ _ _ hd
        obtain ⟨h3, h4⟩ := takeP_some _ _ _ htk
        subst h1
        have hlen : l.length = i.size := by rw [h3]; simp at h4 ⊢; omega
        have hl : ∀ j, j < l.length → l[j]? = cells[f + j]? := fun j hj => by
          rw [h3, List.getElem?_take, if_pos (by omega), List.getElem?_drop]
        have hcell : ∀ j (hj : j < l.length), ∃ v, w.cell? ⟨b, o + f + j, none⟩ = some v ∧ PDen D w E.F l[j] v := fun j hj => by
          have := hc (f + j) l[j] (by rw [← hl j hj, List.getElem?_eq_getElem hj])
          rwa [← Nat.add_assoc] at this
        let vs : List Value := List.ofFn (n := l.length) fun j => (hcell j.1 j.2).choose
        have hvl : vs.length = l.length := by simp [vs]
        have hv : ∀ j (hj : j < l.length), vs[j]? = some (hcell j hj).choose := fun j hj => by
          simp [vs, hj]
        refine ⟨.agg vs.toArray, ?_, ?_⟩
        · refine run_loadVar_agg ht hg _ vs (by omega) fun j v hjv => ?_
          have hj : j < l.length := hvl ▸ (List.getElem?_eq_some_iff.1 hjv).1
          rw [hv j hj] at hjv; cases hjv
          rw [Addr.add_lit]
          exact (hcell j hj).choose_spec.1
        · simp only [Den]
          refine ⟨_, rfl, pcells_den hvl.symm fun j pv v hp hjv => ?_⟩
          have hj : j < l.length := (List.getElem?_eq_some_iff.1 hp).1
          rw [List.getElem?_eq_getElem hj] at hp; cases hp
          simp only at hjv
          rw [hv j hj] at hjv; cases hjv
          exact (hcell j hj).choose_spec.2
  | false =>
    simp only [hg] at h
    rw [ixL_eq] at h
    cases hx : cells[f]? with
    | none => simp [hx] at h
    | some pv =>
      simp [hx] at h; subst h
      obtain ⟨v, h1, h2⟩ := hc f pv hx
      exact ⟨v, run_loadVar_one ht hg _ v h1, by simp only [Den]; exact h2⟩

theorem loadVarAt_spec {t : TypeId} {i : TI C} (ht : TyOK P D t i) {vs : List (SV C)} {b o : Nat} {cs : Array Value} {T : TypeId} {sv : SV C} (h : loadVarAt D i vs o = .val sv)
    (hcs : Row w b cs T) (hd : DenC D w E vs cs.toList) :
    ∃ v, (loadVar t ⟨b, o, none⟩).run P w = .ok v w ∧ Den D w E sv v := by
  unfold loadVarAt at h
  cases hg : i.kind.agg with
  | true =>
    simp only [hg] at h
    cases hdw : dropW vs o with
    | none => simp [hdw] at h
    | some r =>
      cases htw : takeW r i.size with
      | none => simp [hdw, htw] at h
      | some l =>
        simp [hdw, htw] at h; subst h
        obtain ⟨h1, h2⟩ := dropW_spec _ _ _ _ hdw hd
        obtain ⟨h3, h4⟩ := takeW_spec _ _ _ _ htw h1
        refine ⟨.agg ((cs.toList.drop o).take i.size).toArray, ?_, ?_⟩
        · refine run_loadVar_agg ht hg _ _ (by simp at h4 ⊢; omega) fun j v hj => ?_
          rw [Addr.add_lit, cells_cell hcs]
          rw [List.getElem?_take] at hj
          split at hj
          · rwa [List.getElem?_drop] at hj
          · cases hj
        · simp only [Den]; exact ⟨_, rfl, by simpa using h3⟩
  | false =>
    simp only [hg] at h
    have hh := hitW_spec vs o cs.toList hd
    cases hq : hitW vs o with
    | miss => simp [hq] at h
    | cell x =>
      simp [hq] at h; subst h
      rw [hq] at hh
      obtain ⟨v, h1, h2, h3⟩ := hh
      exact ⟨v, run_loadVar_one ht hg _ v (by rw [cells_cell hcs]; exact h1), h3⟩
    | elem u N xs k =>
      simp only [hq] at h
      rw [hq] at hh
      obtain ⟨a1, a2, a3, a4, a5⟩ := hh
      rw [ixL_eq] at h
      cases hx : (D.enc u (xs.getD (k / C.n u) (C.dflt u)))[k % C.n u]? with
      | none => rw [hx] at h; simp at h
      | some pv =>
        rw [hx] at h; simp at h; subst h
        have hkd : k / C.n u < xs.length := by rw [a1]; exact (Nat.div_lt_iff_lt_mul (D.n_pos u)).2 a2
        have hsq : SqOK D w E b (o - k) (.some u xs) := by
          refine ⟨cs, T, hcs, by rw [a1]; simpa using a4, by rw [a1]; exact a5⟩
        obtain ⟨v, h1, h2⟩ := sq_cells hsq hkd _ _ hx
        have e : o - k + k / C.n u * C.n u + k % C.n u = o := by
          have := Nat.div_add_mod k (C.n u)
          rw [Nat.mul_comm] at this
          omega
        rw [e] at h1
        exact ⟨v, run_loadVar_one ht hg _ v h1, by simp only [Den]; exact h2⟩

theorem load_core (hT : TabOK P D tab) (hs0 : Sat D w E H) {t : TypeId} {sx0 : SV C} {vx : Value} (hx : Den D w E sx0 vx) {hs : List (Nat × HS C)}
    (hhs : ∀ c, sx0.topId = some c → lk hs c = H c) :
    match doLoad D tab t sx0 hs with
    | .val v => ∃ u, (Instr.loadAt t vx).run P w = .ok u w ∧ Den D w E v u
    | .side p v => p → ∃ u, (Instr.loadAt t vx).run P w = .ok u w ∧ Den D w E v u
    | _ => True := by
  have key : ∀ (v : SV C), (∃ u, (Instr.loadAt t vx).run P w = .ok u w ∧ Den D w E v u) → (∃ u, (Instr.loadAt t vx).run P w = .ok u w ∧ Den D w E v u) := fun _ h => h
  unfold doLoad
  cases htab : tab t with
  | none => trivial
  | some i =>
    have ht := hT t i htab
    simp only
    generalize hsx : sx0 = sx at *
    cases sx with
    | ptr c o' =>
      simp only
      have hlk := hhs c rfl
      rw [hlk]
      cases hH : H c with
      | vart _ vs =>
        simp only
        obtain ⟨b, cs, T, hb, ⟨h1, _⟩, h2⟩ := var_at hs0 hH
        have e := ptr_den hx hb
        split <;> first | trivial | skip
        · rename_i v hv
          obtain ⟨u, h3, h4⟩ := loadVarAt_spec ht hv h1 h2
          exact key v ⟨u, by simp [Instr.loadAt, Instr.sureAddr, e, h3], h4⟩
        · rename_i p v hv
          exfalso
          unfold loadVarAt at hv
          revert hv
          (repeat' split) <;> simp
      | _ => trivial
    | eptr c o' n k f =>
      simp only
      have hlk := hhs c rfl
      rw [hlk]
      cases hsq : seqAt (H c) o' with
      | no => trivial
      | some u xs =>
        simp only
        unfold condSide
        cases hlc : loadCellsAt i (D.enc u (xs.getD k (C.dflt u))) f with
        | none => trivial
        | some v =>
          simp only
          rintro ⟨hk, hn⟩
          subst hn
          rcases live_at hs0 (c := c) (by intro e; rw [e] at hsq; cases hsq) (by intro e; rw [e] at hsq; cases hsq) with ⟨_, u', h⟩ | ⟨b, hb, hat⟩
          · rw [h] at hsq
            cases o' <;> simp [seqAt] at hsq
            obtain ⟨rfl, h2⟩ := hsq
            cases h2
            simp at hk
          · have e := eptr_den hx hb
            have hq := seqAt_spec (o := o') hat
            rw [hsq] at hq
            obtain ⟨v', h3, h4⟩ := loadCellsAt_spec ht hlc (sq_cells hq hk)
            exact key v ⟨v', by simp [Instr.loadAt, Instr.sureAddr, e, h3], h4⟩
    | dptr cells f =>
      simp only
      simp only [Den] at hx
      obtain ⟨b, o', e, hc⟩ := hx
      unfold loadSeqAt
      cases hsq : i.seq with
      | false =>
        cases hlc : loadCellsAt i cells f with
        | none => trivial
        | some v =>
          obtain ⟨v', h3, h4⟩ := loadCellsAt_spec ht hlc (fun j pv hp => (hc j pv hp).2)
          exact key v ⟨v', by simp [Instr.loadAt, Instr.sureAddr, e, h3], h4⟩
      | true =>
        cases hk : i.kind with
        | arr len el =>
          cases f with
          | succ f => trivial
          | zero =>
          cases hte : tab el with
          | none => simp only [hte]
          | some j =>
            cases hcode : j.code with
            | none => simp only [hte, hcode]
            | some u =>
              cases hda : decAll D u len cells with
              | none => simp only [hte, hcode, hda]
              | some xs =>
                simp only [hte, hcode, hda]
                obtain ⟨g1, g2, g3⟩ := decAll_spec u len cells xs hda
                have hn := (hT el j hte).code u hcode
                obtain ⟨d, _, hko⟩ := ht.und
                rw [hk] at hko
                obtain ⟨_, ie, hie, hsz⟩ := hko
                obtain ⟨info, _, hinfo, hisz, _⟩ := (hT el j hte).info
                rw [hie] at hinfo; cases hinfo
                have hisize : i.size = len * C.n u := by rw [hsz, hisz, hn]
                have hcell : ∀ q (hq : q < len * C.n u), ∃ v, w.cell? ⟨b, o' + q, none⟩ = some v ∧ PDen D w E.F (cells[q]'(by omega)) v := fun q hq =>
                  (hc q _ (List.getElem?_eq_getElem (by omega))).2
                let vs : List Value := List.ofFn (n := len * C.n u) fun q => (hcell q.1 q.2).choose
                have hvl : vs.length = len * C.n u := by simp [vs]
                have hv : ∀ q (hq : q < len * C.n u), vs[q]? = some (hcell q hq).choose := fun q hq => by simp [vs, hq]
                refine key _ ⟨.agg vs.toArray, ?_, ?_⟩
                · have hrun := run_loadVar_agg (w := w) ht (by rw [hk]; rfl) ⟨b, o', none⟩ vs (by omega) fun q v hqv => by
                    have hq : q < len * C.n u := hvl ▸ (List.getElem?_eq_some_iff.1 hqv).1
                    rw [hv q hq] at hqv; cases hqv
                    rw [Addr.add_lit]
                    exact (hcell q hq).choose_spec.1
                  simp [Instr.loadAt, Instr.sureAddr, e, hrun]
                · simp only [Den, DenC]
                  refine ⟨_, rfl, g1, vs, [], by simp, ?_, rfl⟩
                  rw [g2]
                  refine ⟨by rw [List.length_take, hvl, Nat.min_eq_left g3], fun q pv v hp hqv => ?_⟩
                  have hq : q < len * C.n u := hvl ▸ (List.getElem?_eq_some_iff.1 hqv).1
                  rw [hv q hq] at hqv; cases hqv
                  rw [List.getElem?_take, if_pos hq, List.getElem?_eq_getElem (by omega)] at hp
                  cases hp
                  exact (hcell q hq).choose_spec.2
        | _ => trivial
    | _ => trivial


theorem load_ok (hT : TabOK P D tab) (hR : Rel D B E σ H df a w) {o : Oper} {t : TypeId} {x : Operand} (ho : o.op = .load t x) {hs : List (Nat × HS C)}
    (hhs : ∀ c, (ev σ x).topId = some c → lk hs c = H c) :
    match doLoad D tab t (ev σ x) hs with
    | .val v => RunOK P D B σ H df a w o v []
    | .side p v => p → RunOK P D B σ H df a w o v []
    | _ => True := by
  have h := load_core (P := P) (t := t) hT hR.sat (ev_den hR x) hhs
  have key : ∀ (v : SV C), (∃ u, (Instr.loadAt t (a.eval x)).run P w = .ok u w ∧ Den D w E v u) → RunOK P D B σ H df a w o v [] := by
    rintro v ⟨u, h1, h2⟩
    exact ⟨u, w, E, .inl (by simp [execOp, ho, h1]), hR, h2⟩
  generalize doLoad D tab t (ev σ x) hs = out at *
  cases out with
  | val v => exact key v h
  | side p v => exact fun hp => key v (h hp)
  | _ => trivial

end
end Go.SX
