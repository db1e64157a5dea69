/-
  SX, part E: the operations' soundness, one by one.
-/
import Derived.Test.YtdaghncicimipaaGreatDoorSxC
set_option linter.unusedVariables false
set_option linter.unusedSimpArgs false
namespace Go.SX
open Go.RowKit
variable {C : Cod}

def KindOK (P : Program) (size : Nat) : TK → TypeDesc → Prop
 | .int k, d => d = .int k
 | .bool, d => d = .bool
 | .str, d => d = .string
 | .struct fs, d => ∃ F, d = .struct F ∧ F.toList.map (fun f => (f.offset, f.type)) = fs ∧ ∀ f ∈ fs, (P.info? f.2).isSome = true
 | .arr n e, d => d = .array n e ∧ ∃ ie, P.info? e = some ie ∧ size = n * ie.size
 | .slice e, d => d = .slice e
 | .ptr e, d => d = .pointer e
 | .uptr, d => d = .unsafePointer
 | .map k e, d => ∃ kt, d = .map kt e ∧ P.underlying kt = some (ckDesc k)
 | .other, d => (match d with | .struct _ | .array _ _ => false | _ => true) = true

structure TyOK (P : Program) (D : Codec C) (t : TypeId) (i : TI C) : Prop where
 info : ∃ info z, P.info? t = some info ∧ info.size = i.size ∧ info.bytes = i.bytes ∧ info.zero = some z ∧ z.cells.size = i.size ∧ ∀ w E, DenC D w E i.zero z.cells.toList
 und : ∃ d, P.underlying t = some d ∧ KindOK P i.size i.kind d
 pos : 0 < i.size
 code : ∀ u, i.code = some u → C.n u = i.size
 ctype : ∀ u t', i.code = some u → C.ty u = some t' → t' = t
 lies : i.typed = true → liesAt P P.depth t (i.size / P.cellsOf t) 0 t 1 = true
 zb : i.kind = .bool → ∃ info, P.info? t = some info ∧ info.zero = some (.bool false)
 eq : i.cks ≠ [] → i.kind.agg = true ∧ ckB P 64 t i.cks = true ∧ P.eqGuardType P.depth t = false

def TabOK (P : Program) (D : Codec C) (tab : Tab C) : Prop := ∀ t i, tab t = some i → TyOK P D t i

/-- what an operation's run has come to -/
def RunOK (P : Program) (D : Codec C) (B : Base) (σ : Nat → SV C) (H : Nat → HS C) (df : List Deferred) (a : Act) (w : World) (o : Oper) (v : SV C) (ws : List (Nat × HS C)) : Prop :=
 ∃ u w' E', ((execOp a.eval o).run P w = .ok (.value u) w' ∨ ((execOp a.eval o).run P w = .ok .skip w' ∧ u = undef)) ∧
  Rel D B E' σ (upHs H ws) df a w' ∧ Den D w' E' v u

section
variable {P : Program} {D : Codec C} {tab : Tab C} {B : Base} {E : Env} {σ : Nat → SV C} {H : Nat → HS C} {df : List Deferred} {a : Act} {w : World}

theorem oneV_eq (v : Value) : oneV v = v.oneCell' := by cases v <;> rfl

theorem ofCell_den (v : Value) : Den D w E (ofCell v) v := by
 cases v with
 | int k n => exact .int k n
 | bool b => exact .bool b
 | string s => obtain ⟨⟨l⟩⟩ := s; exact .str l
 | agg c => trivial
 | tuple c => trivial
 | func f x y =>
  simp only [ofCell]
  by_cases hx : x.size = 0
  ·by_cases hy : y.size = 0
   ·rw [if_pos hx, if_pos hy]
    have h1 : x = #[] := Array.eq_empty_of_size_eq_zero hx
    have h2 : y = #[] := Array.eq_empty_of_size_eq_zero hy
    subst h1; subst h2
    simp only [Den, DenA]
    exact ⟨_, _, rfl, rfl, rfl⟩
   ·rw [if_pos hx, if_neg hy]; trivial
  ·rw [if_neg hx]; trivial
 | _ => exact .lit _ rfl

theorem ofCell_isArr (v : Value) : (ofCell v : SV C).isArr = false := by
 cases v <;> try rfl
 simp only [ofCell]
 split
 ·split <;> rfl
 ·rfl

theorem ofCells_den : ∀ (l : List Value), allOne l = true → DenC D w E (ofCells l) l
 | [], _ => by simp [ofCells, DenC]
 | v :: l, h => by
  simp only [ofCells]
  simp only [allOne] at h
  cases hv : oneV v with
  | false => simp [hv] at h
  | true =>
   simp only [hv] at h
   rw [DenC_cons (ofCell_isArr v)]
   exact ⟨v, l, rfl, (oneV_eq v) ▸ hv, ofCell_den v, ofCells_den l h⟩

theorem ofV_den (v : Value) : Den D w E (ofV v) v := by
 cases v with
 | agg cs =>
  simp only [ofV]
  cases h : allOne cs.toList with
  | true => simp only [Den]; exact ⟨cs, rfl, ofCells_den _ h⟩
  | false => trivial
 | _ => simp only [ofV]; exact ofCell_den _

theorem pvOf_den {F : Nat → Prop} (v : Value) (h : v.oneCell' = true) : PDen D w F (pvOf v) v := by
 cases v with
 | int k n => exact .int k n
 | bool b => exact .bool b
 | string s => exact .str s.data.toList
 | _ => exact .lit _ h
theorem globS_den (hG : GlobOK C w E) (g : Nat) : Den D w E (globS g (C.glob g)) (.pointer (some ⟨g, 0, none⟩)) := by
 cases hc : C.glob g with
 | nil => exact trivial
 | cons v l =>
  obtain ⟨h1, ⟨cs, T, z, h2, h3⟩, h4⟩ := hG g (by rw [hc]; simp)
  rw [hc] at h3 h4
  simp only [globS, Den]
  refine ⟨g, 0, rfl, fun j pv hj => ⟨h1, ?_⟩⟩
  have hj' : ((v :: l).map pvOf)[j]? = some pv := hj
  rw [List.getElem?_map] at hj'
  obtain ⟨u, hu, rfl⟩ := Option.map_eq_some_iff.1 hj'
  refine ⟨u, ?_, pvOf_den u (h4 u (List.mem_of_getElem? hu))⟩
  rw [Nat.zero_add, cell_of_row w g j cs T z h2, ← Array.getElem?_toList, h3, hu]
theorem ev_den (h : Rel D B E σ H df a w) (x : Operand) : Den D w E (ev σ x) (a.eval x) := by
 cases x with
 | tmp t => exact h.den t
 | const v => exact ofV_den v
 | global g => exact globS_den h.sat.glob g
 | func f => simp only [ev, Act.eval, Den, DenA]; exact ⟨_, _, rfl, rfl, rfl⟩

theorem agg_isAgg {t : TypeId} {i : TI C} (ht : TyOK P D t i) : (isAgg t).run P w = .ok i.kind.agg w := by
 obtain ⟨d, hu, hk⟩ := ht.und
 unfold isAgg
 rw [Sem.run_bind, run_underlying hu w]
 cases hkk : i.kind <;> rw [hkk] at hk <;> simp only [KindOK] at hk
 ·subst hk; rfl
 ·subst hk; rfl
 ·subst hk; rfl
 ·obtain ⟨F, rfl, _, _⟩ := hk; rfl
 ·obtain ⟨rfl, _⟩ := hk; rfl
 ·subst hk; rfl
 ·subst hk; rfl
 ·obtain ⟨kt, rfl, _⟩ := hk; rfl
 ·subst hk; rfl
 ·cases d <;> simp_all [TK.agg]

theorem run_sizeOf {t : TypeId} {i : TI C} (ht : TyOK P D t i) : (sizeOf t).run P w = .ok i.size w := by
 obtain ⟨info, z, h1, h2, _⟩ := ht.info
 simp [sizeOf, typeInfo, h1, h2]

theorem run_loadVar_agg {t : TypeId} {i : TI C} (ht : TyOK P D t i) (hg : i.kind.agg = true) (ad : Addr) (l : List Value) (hl : l.length = i.size)
  (hc : ∀ j v, l[j]? = some v → w.cell? (ad.add j) = some v) : (loadVar t ad).run P w = .ok (.agg l.toArray) w := by
 have := run_loadCells_list (P := P) w ad l hc
 simp [loadVar, agg_isAgg ht, hg, run_sizeOf ht, ← hl, this]

theorem run_loadVar_one {t : TypeId} {i : TI C} (ht : TyOK P D t i) (hg : i.kind.agg = false) (ad : Addr) (v : Value) (hc : w.cell? ad = some v) :
  (loadVar t ad).run P w = .ok v w := by
 simp [loadVar, agg_isAgg ht, hg, run_load, hc]

theorem live_at (hs : Sat D w E H) {c : Nat} (hd : H c ≠ .dead) (hf : H c ≠ .fresh) : (E.β c = .virt ∧ ∃ u, H c = .rows u []) ∨ ∃ b, E.β c = .loc b ∧ (H c).at D w E b := by
 have := hs.ok c
 cases hb : E.β c with
 | fresh => rw [hb] at this; exact absurd this hf
 | dead => rw [hb] at this; exact absurd this hd
 | virt => rw [hb] at this; exact .inl ⟨rfl, this⟩
 | loc b => rw [hb] at this; exact .inr ⟨b, rfl, this⟩

theorem var_at (hs : Sat D w E H) {c : Nat} {ty : Option TypeId} {vs : List (SV C)} (hv : H c = .vart ty vs) : ∃ b cs T, E.β c = .loc b ∧ RowT ty w b cs T ∧ DenC D w E vs cs.toList := by
 rcases live_at hs (c := c) (by rw [hv]; simp) (by rw [hv]; simp) with ⟨_, u, h⟩ | ⟨b, hb, h⟩
 ·rw [hv] at h; cases h
 ·rw [hv] at h
  obtain ⟨cs, T, h1, h2⟩ := h
  exact ⟨b, cs, T, hb, h1, h2⟩

theorem ptr_den {c o b : Nat} {v : Value} (h : Den D w E (.ptr c o) v) (hb : E.β c = .loc b) : v = .pointer (some ⟨b, o, none⟩) := by
 simp only [Den, hb] at h; exact h
theorem eptr_den {c o n i f b : Nat} {v : Value} (h : Den D w E (.eptr c o n i f) v) (hb : E.β c = .loc b) : v = .pointer (some ⟨b, o + i * n + f, none⟩) := by
 simp only [Den, hb] at h; exact h

theorem cells_cell {b : Nat} {cs : Array Value} {T : TypeId} (h : Row w b cs T) (j : Nat) : w.cell? ⟨b, j, none⟩ = cs.toList[j]? := by
 obtain ⟨z, h, _⟩ := h
 rw [cell_of_row w b j cs T z h]; simp

/-- the sequence of elements at cell o of a chunk -/
def SqOK (D : Codec C) (w : World) (E : Env) (b : Nat) (o : Nat) : Sq C → Prop
 | .no => True
 | .some u xs => ∃ cs T, Row w b cs T ∧ o + xs.length * C.n u ≤ cs.size ∧ PDenL D w E.F (xs.flatMap (D.enc u)) ((cs.toList.drop o).take (xs.length * C.n u))

theorem seqAt_spec {h : HS C} {b o : Nat} (hh : h.at D w E b) : SqOK D w E b o (seqAt h o) := by
 cases h with
 | fresh => trivial
 | dead => trivial
 | obj o => trivial
 | rows u xs =>
  cases o with
  | zero =>
   obtain ⟨cs, T, h1, h2, h3⟩ := hh
   exact ⟨cs, T, h1.1, by omega, by simpa using h3⟩
  | succ o => trivial
 | vart _ vs =>
  obtain ⟨cs, T, ⟨h1, _⟩, h2⟩ := hh
  have := hitW_spec vs o cs.toList h2
  simp only [seqAt]
  cases hq : hitW vs o with
  | miss => trivial
  | cell x => trivial
  | elem u N xs k =>
   cases k with
   | succ k => trivial
   | zero =>
    rw [hq] at this
    obtain ⟨a1, a2, a3, a4, a5⟩ := this
    simp only [SqOK]
    refine ⟨cs, T, h1, by rw [a1]; simpa using a4, by rw [a1]; simpa using a5⟩

/-- element k of a sequence, cell by cell -/
theorem sq_cells {b o : Nat} {u : C.U} {xs : List (C.El u)} (h : SqOK D w E b o (.some u xs)) {k : Nat} (hk : k < xs.length) :
  ∀ j pv, (D.enc u (xs.getD k (C.dflt u)))[j]? = some pv → ∃ v, w.cell? ⟨b, o + k * C.n u + j, none⟩ = some v ∧ PDen D w E.F pv v := by
 obtain ⟨cs, T, h1, h2, h3⟩ := h
 intro j pv hp
 have hx : xs[k]? = some (xs.getD k (C.dflt u)) := by simp [List.getD_eq_getElem?_getD, List.getElem?_eq_getElem hk]
 have hj : j < C.n u := by
  have := (List.getElem?_eq_some_iff.1 hp).1
  rwa [D.enc_len] at this
 have hf := flatMap_get (D := D) u xs k j _ hx hj
 rw [hp] at hf
 have hlt : k * C.n u + j < xs.length * C.n u := by
  have : (k + 1) * C.n u ≤ xs.length * C.n u := Nat.mul_le_mul_right _ hk
  rw [Nat.add_mul] at this
  omega
 have hlt2 : o + k * C.n u + j < cs.toList.length := by simp; omega
 refine ⟨cs.toList[o + k * C.n u + j], ?_, ?_⟩
 ·rw [cells_cell h1, List.getElem?_eq_getElem hlt2]
 ·refine h3.2 _ _ _ hf ?_
  rw [List.getElem?_take, if_pos hlt, List.getElem?_drop, show o + (k * C.n u + j) = o + k * C.n u + j by omega, List.getElem?_eq_getElem hlt2]

theorem ixL_eq {α : Type} : ∀ (l : List α) (i : Nat), ixL l i = l[i]?
 | [], _ => by simp [ixL]
 | a :: l, 0 => by simp [ixL]
 | a :: l, i + 1 => by simp [ixL, ixL_eq l i]
theorem takeP_some {α : Type} : ∀ (l : List α) (i : Nat) (r : List α), takeP l i = some r → r = l.take i ∧ i ≤ l.length
 | l, 0, r, h => by cases l <;> (simp [takeP] at h; subst h; simp)
 | [], i + 1, r, h => by simp [takeP] at h
 | a :: l, i + 1, r, h => by
  simp only [takeP] at h
  cases ht : takeP l i with
  | none => simp [ht] at h
  | some q =>
   simp [ht] at h; subst h
   obtain ⟨h1, h2⟩ := takeP_some l i q ht
   subst h1
   simp; omega
theorem dropP_some {α : Type} : ∀ (l : List α) (i : Nat) (r : List α), dropP l i = some r → r = l.drop i ∧ i ≤ l.length
 | l, 0, r, h => by cases l <;> (simp [dropP] at h; subst h; simp)
 | [], i + 1, r, h => by simp [dropP] at h
 | a :: l, i + 1, r, h => by
  simp only [dropP] at h
  obtain ⟨h1, h2⟩ := dropP_some l i r h
  exact ⟨by simpa using h1, by simp; omega⟩

theorem pcells_den {l : List (PV C)} {vs : List Value} (hl : l.length = vs.length) (h : ∀ (j : Nat) (pv : PV C) (v : Value), l[j]? = some pv → vs[j]? = some v → PDen D w E.F pv v) :
  DenC D w E (pcells l) vs := by
 induction l generalizing vs with
 | nil =>
  have : vs = [] := List.eq_nil_of_length_eq_zero hl.symm
  simp [pcells, DenC, this]
 | cons x l ih =>
  cases vs with
  | nil => simp at hl
  | cons v vs =>
   have h0 : PDen D w E.F x v := h 0 x v (by simp) (by simp)
   simp only [pcells, List.map_cons, DenC, Den]
   exact ⟨v, vs, rfl, h0.oneCell, h0, ih (by simpa using hl) fun j pv u hp hu => h (j + 1) pv u (by simpa using hp) (by simpa using hu)⟩

/-- a load at cell f of a row of persistent cells that lies at b, o -/
theorem decAll_spec (u : C.U) : ∀ (k : Nat) (l : List (PV C)) (xs : List (C.El u)), decAll D u k l = some xs → xs.length = k ∧ xs.flatMap (D.enc u) = l.take (k * C.n u) ∧ k * C.n u ≤ l.length
 | 0, l, xs, h => by simp [decAll] at h; subst h; simp
 | k + 1, l, xs, h => by
  simp only [decAll] at h
  cases h1 : takeP l (C.n u) with
  | none => simp [h1] at h
  | some x =>
   cases h2 : dropP l (C.n u) with
   | none => simp [h1, h2] at h
   | some r =>
    cases h3 : D.dec u x with
    | none => simp [h1, h2, h3] at h
    | some y =>
     cases h4 : decAll D u k r with
     | none => simp [h1, h2, h3, h4] at h
     | some ys =>
      simp [h1, h2, h3, h4] at h
      subst h
      obtain ⟨e1, f1⟩ := takeP_some _ _ _ h1
      obtain ⟨e2, f2⟩ := dropP_some _ _ _ h2
      have e3 := D.dec_ok _ _ _ h3
      obtain ⟨g1, g2, g3⟩ := decAll_spec u k r ys h4
      subst e1; subst e2
      refine ⟨by simp [g1], ?_, ?_⟩
      ·rw [List.flatMap_cons, e3, g2, Nat.add_mul, Nat.one_mul, Nat.add_comm, List.take_add]
      ·simp at g3; rw [Nat.add_mul]; omega
theorem loadCellsAt_spec {t : TypeId} {i : TI C} (ht : TyOK P D t i) {cells : List (PV C)} {f b o : Nat} {sv : SV C} (h : loadCellsAt i cells f = some sv)
  (hc : ∀ j pv, cells[j]? = some pv → ∃ v, w.cell? ⟨b, o + j, none⟩ = some v ∧ PDen D w E.F pv v) :
  ∃ v, (loadVar t ⟨b, o + f, none⟩).run P w = .ok v w ∧ Den D w E sv v := by
 unfold loadCellsAt at h
 cases hg : i.kind.agg with
 | true =>
  simp only [hg] at h
  cases hd : dropP cells f with
  | none => simp [hd] at h
  | some r =>
   cases htk : takeP r i.size with
   | none => simp [hd, htk] at h
   | some l =>
    simp [hd, htk] at h
    subst h
    obtain ⟨h1, h2⟩ := dropP_some _ _ _ hd
    obtain ⟨h3, h4⟩ := takeP_some _ _ _ htk
    subst h1
    have hlen : l.length = i.size := by rw [h3]; simp at h4 ⊢; omega
    have hl : ∀ j, j < l.length → l[j]? = cells[f + j]? := fun j hj => by
     rw [h3, List.getElem?_take, if_pos (by omega), List.getElem?_drop]
    have hcell : ∀ j (hj : j < l.length), ∃ v, w.cell? ⟨b, o + f + j, none⟩ = some v ∧ PDen D w E.F l[j] v := fun j hj => by
     have := hc (f + j) l[j] (by rw [← hl j hj, List.getElem?_eq_getElem hj])
     rwa [← Nat.add_assoc] at this
    let vs : List Value := List.ofFn (n := l.length) fun j => (hcell j.1 j.2).choose
    have hvl : vs.length = l.length := by simp [vs]
    have hv : ∀ j (hj : j < l.length), vs[j]? = some (hcell j hj).choose := fun j hj => by
     simp [vs, hj]
    refine ⟨.agg vs.toArray, ?_, ?_⟩
    ·refine run_loadVar_agg ht hg _ vs (by omega) fun j v hjv => ?_
     have hj : j < l.length := hvl ▸ (List.getElem?_eq_some_iff.1 hjv).1
     rw [hv j hj] at hjv; cases hjv
     rw [Addr.add_lit]
     exact (hcell j hj).choose_spec.1
    ·simp only [Den]
     refine ⟨_, rfl, pcells_den hvl.symm fun j pv v hp hjv => ?_⟩
     have hj : j < l.length := (List.getElem?_eq_some_iff.1 hp).1
     rw [List.getElem?_eq_getElem hj] at hp; cases hp
     simp only at hjv
     rw [hv j hj] at hjv; cases hjv
     exact (hcell j hj).choose_spec.2
 | false =>
  simp only [hg] at h
  rw [ixL_eq] at h
  cases hx : cells[f]? with
  | none => simp [hx] at h
  | some pv =>
   simp [hx] at h; subst h
   obtain ⟨v, h1, h2⟩ := hc f pv hx
   exact ⟨v, run_loadVar_one ht hg _ v h1, by simp only [Den]; exact h2⟩

theorem loadVarAt_spec {t : TypeId} {i : TI C} (ht : TyOK P D t i) {vs : List (SV C)} {b o : Nat} {cs : Array Value} {T : TypeId} {sv : SV C} (h : loadVarAt D i vs o = .val sv)
  (hcs : Row w b cs T) (hd : DenC D w E vs cs.toList) :
  ∃ v, (loadVar t ⟨b, o, none⟩).run P w = .ok v w ∧ Den D w E sv v := by
 unfold loadVarAt at h
 cases hg : i.kind.agg with
 | true =>
  simp only [hg] at h
  cases hdw : dropW vs o with
  | none => simp [hdw] at h
  | some r =>
   cases htw : takeW r i.size with
   | none => simp [hdw, htw] at h
   | some l =>
    simp [hdw, htw] at h; subst h
    obtain ⟨h1, h2⟩ := dropW_spec _ _ _ _ hdw hd
    obtain ⟨h3, h4⟩ := takeW_spec _ _ _ _ htw h1
    refine ⟨.agg ((cs.toList.drop o).take i.size).toArray, ?_, ?_⟩
    ·refine run_loadVar_agg ht hg _ _ (by simp at h4 ⊢; omega) fun j v hj => ?_
     rw [Addr.add_lit, cells_cell hcs]
     rw [List.getElem?_take] at hj
     split at hj
     ·rwa [List.getElem?_drop] at hj
     ·cases hj
    ·simp only [Den]; exact ⟨_, rfl, by simpa using h3⟩
 | false =>
  simp only [hg] at h
  have hh := hitW_spec vs o cs.toList hd
  cases hq : hitW vs o with
  | miss => simp [hq] at h
  | cell x =>
   simp [hq] at h; subst h
   rw [hq] at hh
   obtain ⟨v, h1, h2, h3⟩ := hh
   exact ⟨v, run_loadVar_one ht hg _ v (by rw [cells_cell hcs]; exact h1), h3⟩
  | elem u N xs k =>
   simp only [hq] at h
   rw [hq] at hh
   obtain ⟨a1, a2, a3, a4, a5⟩ := hh
   rw [ixL_eq] at h
   cases hx : (D.enc u (xs.getD (k / C.n u) (C.dflt u)))[k % C.n u]? with
   | none => rw [hx] at h; simp at h
   | some pv =>
    rw [hx] at h; simp at h; subst h
    have hkd : k / C.n u < xs.length := by rw [a1]; exact (Nat.div_lt_iff_lt_mul (D.n_pos u)).2 a2
    have hsq : SqOK D w E b (o - k) (.some u xs) := by
     refine ⟨cs, T, hcs, by rw [a1]; simpa using a4, by rw [a1]; exact a5⟩
    obtain ⟨v, h1, h2⟩ := sq_cells hsq hkd _ _ hx
    have e : o - k + k / C.n u * C.n u + k % C.n u = o := by
     have := Nat.div_add_mod k (C.n u)
     rw [Nat.mul_comm] at this
     omega
    rw [e] at h1
    exact ⟨v, run_loadVar_one ht hg _ v h1, by simp only [Den]; exact h2⟩

theorem load_core (hT : TabOK P D tab) (hs0 : Sat D w E H) {t : TypeId} {sx0 : SV C} {vx : Value} (hx : Den D w E sx0 vx) {hs : List (Nat × HS C)}
  (hhs : ∀ c, sx0.topId = some c → lk hs c = H c) :
  match doLoad D tab t sx0 hs with
  | .val v => ∃ u, (Instr.loadAt t vx).run P w = .ok u w ∧ Den D w E v u
  | .side p v => p → ∃ u, (Instr.loadAt t vx).run P w = .ok u w ∧ Den D w E v u
  | _ => True := by
 have key : ∀ (v : SV C), (∃ u, (Instr.loadAt t vx).run P w = .ok u w ∧ Den D w E v u) → (∃ u, (Instr.loadAt t vx).run P w = .ok u w ∧ Den D w E v u) := fun _ h => h
 unfold doLoad
 cases htab : tab t with
 | none => trivial
 | some i =>
  have ht := hT t i htab
  simp only
  generalize hsx : sx0 = sx at *
  cases sx with
  | ptr c o' =>
   simp only
   have hlk := hhs c rfl
   rw [hlk]
   cases hH : H c with
   | vart _ vs =>
    simp only
    obtain ⟨b, cs, T, hb, ⟨h1, _⟩, h2⟩ := var_at hs0 hH
    have e := ptr_den hx hb
    split <;> first | trivial | skip
    ·rename_i v hv
     obtain ⟨u, h3, h4⟩ := loadVarAt_spec ht hv h1 h2
     exact key v ⟨u, by simp [Instr.loadAt, Instr.sureAddr, e, h3], h4⟩
    ·rename_i p v hv
     exfalso
     unfold loadVarAt at hv
     revert hv
     (repeat' split) <;> simp
   | _ => trivial
  | eptr c o' n k f =>
   simp only
   have hlk := hhs c rfl
   rw [hlk]
   cases hsq : seqAt (H c) o' with
   | no => trivial
   | some u xs =>
    simp only
    unfold condSide
    cases hlc : loadCellsAt i (D.enc u (xs.getD k (C.dflt u))) f with
    | none => trivial
    | some v =>
     simp only
     rintro ⟨hk, hn⟩
     subst hn
     rcases live_at hs0 (c := c) (by intro e; rw [e] at hsq; cases hsq) (by intro e; rw [e] at hsq; cases hsq) with ⟨_, u', h⟩ | ⟨b, hb, hat⟩
     ·rw [h] at hsq
      cases o' <;> simp [seqAt] at hsq
      obtain ⟨rfl, h2⟩ := hsq
      cases h2
      simp at hk
     ·have e := eptr_den hx hb
      have hq := seqAt_spec (o := o') hat
      rw [hsq] at hq
      obtain ⟨v', h3, h4⟩ := loadCellsAt_spec ht hlc (sq_cells hq hk)
      exact key v ⟨v', by simp [Instr.loadAt, Instr.sureAddr, e, h3], h4⟩
  | dptr cells f =>
   simp only
   simp only [Den] at hx
   obtain ⟨b, o', e, hc⟩ := hx
   unfold loadSeqAt
   cases hsq : i.seq with
   | false =>
    cases hlc : loadCellsAt i cells f with
    | none => trivial
    | some v =>
     obtain ⟨v', h3, h4⟩ := loadCellsAt_spec ht hlc (fun j pv hp => (hc j pv hp).2)
     exact key v ⟨v', by simp [Instr.loadAt, Instr.sureAddr, e, h3], h4⟩
   | true =>
    cases hk : i.kind with
    | arr len el =>
     cases f with
     | succ f => trivial
     | zero =>
     cases hte : tab el with
     | none => simp only [hte]
     | some j =>
      cases hcode : j.code with
      | none => simp only [hte, hcode]
      | some u =>
       cases hda : decAll D u len cells with
       | none => simp only [hte, hcode, hda]
       | some xs =>
        simp only [hte, hcode, hda]
        obtain ⟨g1, g2, g3⟩ := decAll_spec u len cells xs hda
        have hn := (hT el j hte).code u hcode
        obtain ⟨d, _, hko⟩ := ht.und
        rw [hk] at hko
        obtain ⟨_, ie, hie, hsz⟩ := hko
        obtain ⟨info, _, hinfo, hisz, _⟩ := (hT el j hte).info
        rw [hie] at hinfo; cases hinfo
        have hisize : i.size = len * C.n u := by rw [hsz, hisz, hn]
        have hcell : ∀ q (hq : q < len * C.n u), ∃ v, w.cell? ⟨b, o' + q, none⟩ = some v ∧ PDen D w E.F (cells[q]'(by omega)) v := fun q hq =>
         (hc q _ (List.getElem?_eq_getElem (by omega))).2
        let vs : List Value := List.ofFn (n := len * C.n u) fun q => (hcell q.1 q.2).choose
        have hvl : vs.length = len * C.n u := by simp [vs]
        have hv : ∀ q (hq : q < len * C.n u), vs[q]? = some (hcell q hq).choose := fun q hq => by simp [vs, hq]
        refine key _ ⟨.agg vs.toArray, ?_, ?_⟩
        ·have hrun := run_loadVar_agg (w := w) ht (by rw [hk]; rfl) ⟨b, o', none⟩ vs (by omega) fun q v hqv => by
          have hq : q < len * C.n u := hvl ▸ (List.getElem?_eq_some_iff.1 hqv).1
          rw [hv q hq] at hqv; cases hqv
          rw [Addr.add_lit]
          exact (hcell q hq).choose_spec.1
         simp [Instr.loadAt, Instr.sureAddr, e, hrun]
        ·simp only [Den, DenC]
         refine ⟨_, rfl, g1, vs, [], by simp, ?_, rfl⟩
         rw [g2]
         refine ⟨by rw [List.length_take, hvl, Nat.min_eq_left g3], fun q pv v hp hqv => ?_⟩
         have hq : q < len * C.n u := hvl ▸ (List.getElem?_eq_some_iff.1 hqv).1
         rw [hv q hq] at hqv; cases hqv
         rw [List.getElem?_take, if_pos hq, List.getElem?_eq_getElem (by omega)] at hp
         cases hp
         exact (hcell q hq).choose_spec.2
    | _ => trivial
  | _ => trivial


theorem load_ok (hT : TabOK P D tab) (hR : Rel D B E σ H df a w) {o : Oper} {t : TypeId} {x : Operand} (ho : o.op = .load t x) {hs : List (Nat × HS C)}
  (hhs : ∀ c, (ev σ x).topId = some c → lk hs c = H c) :
  match doLoad D tab t (ev σ x) hs with
  | .val v => RunOK P D B σ H df a w o v []
  | .side p v => p → RunOK P D B σ H df a w o v []
  | _ => True := by
 have h := load_core (P := P) (t := t) hT hR.sat (ev_den hR x) hhs
 have key : ∀ (v : SV C), (∃ u, (Instr.loadAt t (a.eval x)).run P w = .ok u w ∧ Den D w E v u) → RunOK P D B σ H df a w o v [] := by
  rintro v ⟨u, h1, h2⟩
  exact ⟨u, w, E, .inl (by simp [execOp, ho, h1]), hR, h2⟩
 generalize doLoad D tab t (ev σ x) hs = out at *
 cases out with
 | val v => exact key v h
 | side p v => exact fun hp => key v (h hp)
 | _ => trivial

end
end Go.SX

/-
 SX, part F: the soundness of operations that make or write no memory.
-/
namespace Go.SX
open Go.RowKit
variable {C : Cod}

/-- The outcome 'out' of a reckoning is right of the operation o. -/
def OutOK (P : Program) (D : Codec C) (B : Base) (σ : Nat → SV C) (H : Nat → HS C) (df : List Deferred) (a : Act) (w : World) (o : Oper) : Out C → Prop
 | .stuck => True
 | .val v => RunOK P D B σ H df a w o v []
 | .side p v => p → RunOK P D B σ H df a w o v []
 | .mem v ws => RunOK P D B σ H df a w o v ws
 | .smem p v ws => p → RunOK P D B σ H df a w o v ws
 | .call f args => ∀ E, Rel D B E σ H df a w → ∃ vs, DenA D w E args vs ∧ (execOp a.eval o).run P w = (callFunc f vs.toArray).run P w
 | .may p v => ∃ b, (b = true → p) ∧ RunOK P D B σ H df a w o (v b) []
 | .ask q K => ∀ r, q = some r → RunOK P D B σ H df a w o (K r) []
 | .yieldc c args => ∀ E, Rel D B E σ H df a w → ∀ b, E.β c = .loc b → ∃ vs, DenA D w E args vs ∧ (execOp a.eval o).run P w = (Instr.yield b vs.toArray).run P w

section
variable {P : Program} {D : Codec C} {tab : Tab C} {B : Base} {E : Env} {σ : Nat → SV C} {H : Nat → HS C} {df : List Deferred} {a : Act} {w : World} {o : Oper}

theorem runOK_of {v : SV C} (hR : Rel D B E σ H df a w) {u : Value} (h : (execOp a.eval o).run P w = .ok (.value u) w) (hd : Den D w E v u) : RunOK P D B σ H df a w o v [] :=
 ⟨u, w, E, .inl h, hR, hd⟩

theorem den_int {k : IntKind} {n : Int} {v : Value} (h : Den D w E (.p (.int k n)) v) : v = .int k n := by
 simp only [Den] at h; cases h; rfl
theorem den_bool {b : Bool} {v : Value} (h : Den D w E (.p (.bool b)) v) : v = .bool b := by
 simp only [Den] at h; cases h; rfl
theorem den_str {l : List UInt8} {v : Value} (h : Den D w E (.p (.str l)) v) : v = .string ⟨⟨l⟩⟩ := by
 simp only [Den] at h; cases h; rfl
theorem den_lit {u v : Value} (h : Den D w E (.p (.lit u)) v) : v = u := by
 simp only [Den] at h; cases h; rfl
theorem mk_int (k : IntKind) (n : Int) : Den D w E (.p (.int k n)) (.int k n) := PDen.int k n
theorem mk_bool (b : Bool) : Den D w E (.p (.bool b)) (.bool b) := PDen.bool b
theorem mk_str (l : List UInt8) : Den D w E (.p (.str l)) (.string ⟨⟨l⟩⟩) := PDen.str l

theorem size_mk (l : List UInt8) : (⟨⟨l⟩⟩ : ByteArray).size = l.length := rfl
theorem toList_mk (l : List UInt8) : (⟨⟨l⟩⟩ : ByteArray).toList = l := by rw [ByteArray.toList_eq]
theorem append_mk (a b : List UInt8) : (⟨⟨a⟩⟩ : ByteArray) ++ ⟨⟨b⟩⟩ = ⟨⟨a ++ b⟩⟩ := by
 apply ByteArray.ext
 simp

theorem arith_ok {k : IntKind} {n : Int} (hR : Rel D B E σ H df a w) (h : (execOp a.eval o).run P w = .ok (.value (.int k (k.wrap n))) w) : OutOK P D B σ H df a w o (arith k n) := by
 unfold arith
 cases k
 case i64 =>
  intro hin
  unfold InR at hin
  rw [hin] at h
  exact runOK_of hR h (mk_int _ _)
 all_goals exact runOK_of hR h (mk_int _ _)

theorem arithW_ok {wr : Bool} {k : IntKind} {n : Int} (hR : Rel D B E σ H df a w) (h : (execOp a.eval o).run P w = .ok (.value (.int k (k.wrap n))) w) : OutOK P D B σ H df a w o (arithW wr k n) := by
 cases wr with
 | true => exact runOK_of hR h (mk_int _ _)
 | false => exact arith_ok hR h

theorem int_beq (x y : Int) : (x == y) = decide (x = y) := by by_cases h : x = y <;> simp [h]

theorem intBin_ok {wr : Bool} {op : BinOp} {k : IntKind} {x y : Int} (hR : Rel D B E σ H df a w) {t yt : TypeId} {ox oy : Operand} (ho : o.op = .binOp op t ox oy yt)
  (hx : a.eval ox = .int k x) (hy : a.eval oy = .int k y) : OutOK P D B σ H df a w o (intBin wr op k x y) := by
 have h0 : (execOp a.eval o).run P w = (do let r ← binOp op t (.int k x) (.int k y); pure (Next.value r) : Sem Next).run P w := by
  simp [execOp, ho, hx, hy, eqGuard]
 cases op
 case add => exact arithW_ok hR (by rw [h0]; simp [binOp, Op.intArith])
 case sub => exact arithW_ok hR (by rw [h0]; simp [binOp, Op.intArith])
 case mul => exact arithW_ok hR (by rw [h0]; simp [binOp, Op.intArith])
 case quo =>
  rintro ⟨hy0, hin⟩
  unfold InR at hin
  exact runOK_of hR (u := .int k (x.tdiv y)) (by rw [h0]; simp [binOp, Op.intDiv, hy0, hin]) (mk_int _ _)
 case rem =>
  intro hy0
  exact runOK_of hR (u := .int k (x.tmod y)) (by rw [h0]; simp [binOp, Op.intDiv, hy0]) (mk_int _ _)
 case and => exact runOK_of hR (u := .int k (bitop .and k x y)) (by rw [h0]; simp [binOp, Op.intBits, bitop]) (mk_int _ _)
 case or => exact runOK_of hR (u := .int k (bitop .or k x y)) (by rw [h0]; simp [binOp, Op.intBits, bitop]) (mk_int _ _)
 case xor => exact runOK_of hR (u := .int k (bitop .xor k x y)) (by rw [h0]; simp [binOp, Op.intBits, bitop]) (mk_int _ _)
 case andNot => exact runOK_of hR (u := .int k (bitop .andNot k x y)) (by rw [h0]; simp [binOp, Op.intBits, bitop]) (mk_int _ _)
 case shl => trivial
 case shr => trivial
 case eql => exact runOK_of hR (u := .bool (decide (x = y))) (by rw [h0]; simp [binOp, Op.intCmp, int_beq]) (mk_bool _)
 case neq => exact runOK_of hR (u := .bool (!decide (x = y))) (by rw [h0]; simp [binOp, Op.intCmp, int_beq, bne]) (mk_bool _)
 case lss => exact runOK_of hR (u := .bool (decide (x < y))) (by rw [h0]; simp [binOp, Op.intCmp]) (mk_bool _)
 case leq => exact runOK_of hR (u := .bool (decide (x ≤ y))) (by rw [h0]; simp [binOp, Op.intCmp]) (mk_bool _)
 case gtr => exact runOK_of hR (u := .bool (decide (y < x))) (by rw [h0]; simp [binOp, Op.intCmp]) (mk_bool _)
 case geq => exact runOK_of hR (u := .bool (decide (y ≤ x))) (by rw [h0]; simp [binOp, Op.intCmp]) (mk_bool _)

theorem strBin_ok {op : BinOp} {x y : List UInt8} (hR : Rel D B E σ H df a w) {t yt : TypeId} {ox oy : Operand} (ho : o.op = .binOp op t ox oy yt)
  (hx : a.eval ox = .string ⟨⟨x⟩⟩) (hy : a.eval oy = .string ⟨⟨y⟩⟩) : OutOK P D B σ H df a w o (strBin op x y) := by
 have h0 : (execOp a.eval o).run P w = (do let r ← binOp op t (.string ⟨⟨x⟩⟩) (.string ⟨⟨y⟩⟩); pure (Next.value r) : Sem Next).run P w := by
  simp [execOp, ho, hx, hy, eqGuard]
 cases op
 case add =>
  intro hl
  refine runOK_of hR (u := .string ⟨⟨x ++ y⟩⟩) ?_ (mk_str _)
  rw [h0]
  have : ¬ (IntKind.i64.max < ((x.length + y.length : Nat) : Int)) := by
   have : IntKind.i64.max = 9223372036854775807 := by decide
   omega
  simp only [binOp, Op.stringOp, size_mk, Sem.run_bind, gt_iff_lt, if_neg this, Sem.run_pure, Result.andThen_ok, append_mk]
 all_goals first | trivial | skip
 case eql => exact runOK_of hR (u := .bool (decide (x = y))) (by rw [h0]; simp [binOp, Op.stringOp, Bool.beq_eq_decide_eq]) (mk_bool _)
 case neq => exact runOK_of hR (u := .bool (!decide (x = y))) (by rw [h0]; simp [binOp, Op.stringOp, Bool.beq_eq_decide_eq]) (mk_bool _)
 case lss => exact runOK_of hR (u := .bool (strLess x y)) (by rw [h0]; simp [binOp, Op.stringOp, strLess, toList_mk]) (mk_bool _)
 case leq => exact runOK_of hR (u := .bool (strLess x y || decide (x = y))) (by rw [h0]; simp [binOp, Op.stringOp, strLess, Bool.beq_eq_decide_eq]) (mk_bool _)
 case gtr => exact runOK_of hR (u := .bool !(strLess x y || decide (x = y))) (by rw [h0]; simp [binOp, Op.stringOp, strLess, Bool.beq_eq_decide_eq]) (mk_bool _)
 case geq => exact runOK_of hR (u := .bool !(strLess x y)) (by rw [h0]; simp [binOp, Op.stringOp, strLess, toList_mk]) (mk_bool _)

theorem run_equalIn_bool'' (t : TypeId) (x y : Bool) (d : Nat) (h : P.underlying t = some .bool) : (Op.equalIn (d + 1) t (.bool x) (.bool y)).run P w = .ok (x == y) w := by
 simp [Op.equalIn, run_underlying h]

theorem eqAgg_ok (A : Aux C D) (hT : TabOK P D tab) (hR : Rel D B E σ H df a w) {op : BinOp} {t yt : TypeId} {ox oy : Operand} (ho : o.op = .binOp op t ox oy yt) {i : TI C} (hi : tab t = some i) (hne : i.cks ≠ []) {vs ws : List (SV C)}
  (hx : Den D w E (.agg vs) (a.eval ox)) (hy : Den D w E (.agg ws) (a.eval oy)) : OutOK P D B σ H df a w o (doEqAgg A op i vs ws) := by
 simp only [Den] at hx hy
 obtain ⟨cs, ex, hcs⟩ := hx
 obtain ⟨ds, ey, hds⟩ := hy
 have ht := hT t i hi
 obtain ⟨hag, hck, hgt⟩ := ht.eq hne
 obtain ⟨d, hu, hk⟩ := ht.und
 have hVof : ∀ cs : Array Value, Vof P t (.agg cs) cs.toList := by
  intro cs
  cases hkk : i.kind <;> rw [hkk] at hag hk <;> simp [TK.agg] at hag <;> simp only [KindOK] at hk
  ·obtain ⟨F, rfl, _⟩ := hk; simp only [Vof, hu]
  ·obtain ⟨rfl, _⟩ := hk; simp only [Vof, hu]
 have hrun : ∀ b, eqCells A i.cks vs ws = some b → (Op.equal t (.agg cs) (.agg ds)).run P w = .ok b w := by
  intro b hb
  obtain ⟨k1, k2, k3⟩ := eqCells_ok A i.cks vs ws b cs.toList ds.toList hb hcs hds
  have := eqF_of (P := P) 9936 64 t i.cks hck w (.agg cs) (.agg ds) cs.toList ds.toList (hVof cs) (hVof ds) k1 k2
  rw [show Op.equal t (.agg cs) (.agg ds) = Op.equalIn (9936 + 64) t (.agg cs) (.agg ds) from rfl, this]
  congr 1
  rw [Bool.eq_iff_iff]; simp [k3]
 unfold doEqAgg
 have hpg : program.run P w = .ok P w := rfl
 split
 ·cases hb : eqCells A i.cks vs ws with
  | none => trivial
  | some b =>
   refine runOK_of hR (u := .bool b) ?_ (mk_bool _)
   simp [execOp, ho, ex, ey, eqGuard, hpg, hgt, binOp, hrun b hb]
 ·cases hb : eqCells A i.cks vs ws with
  | none => trivial
  | some b =>
   refine runOK_of hR (u := .bool !b) ?_ (mk_bool _)
   simp [execOp, ho, ex, ey, eqGuard, hpg, hgt, binOp, hrun b hb]
 ·trivial

theorem bin_ok (A : Aux C D) (hT : TabOK P D tab) (hR : Rel D B E σ H df a w) {op : BinOp} {t yt : TypeId} {ox oy : Operand} (ho : o.op = .binOp op t ox oy yt) :
  OutOK P D B σ H df a w o (doBin A tab op t (ev σ ox) (ev σ oy)) := by
 have hx := ev_den hR ox
 have hy := ev_den hR oy
 generalize ev σ ox = sx at *
 generalize ev σ oy = sy at *
 unfold doBin
 split
 ·rename_i vs ws
  split
  ·rename_i i hi
   split
   ·trivial
   ·rename_i c l hc
    exact eqAgg_ok A hT hR ho hi (by rw [hc]; simp) hx hy
  ·trivial
 ·rename_i k x k' y
  have ex := den_int hx
  have ey := den_int hy
  have h0 : (execOp a.eval o).run P w = (do let r ← binOp op t (.int k x) (.int k' y); pure (Next.value r) : Sem Next).run P w := by
   simp [execOp, ho, ex, ey, eqGuard]
  split
  ·intro hy0
   refine runOK_of hR (u := .int k (shlop k x y)) ?_ (mk_int _ _)
   rw [h0]
   have : ¬ y < 0 := by omega
   simp [binOp, Op.shift, this, shlop]
  ·intro hy0
   refine runOK_of hR (u := .int k (shrop k x y)) ?_ (mk_int _ _)
   rw [h0]
   have : ¬ y < 0 := by omega
   simp [binOp, Op.shift, this, shrop]
  ·split
   ·rename_i hk
    subst hk
    exact intBin_ok hR ho ex ey
   ·trivial
 ·rename_i x y
  exact strBin_ok hR ho (den_str hx) (den_str hy)
 ·rename_i x y
  have ex := den_bool hx
  have ey := den_bool hy
  split
  ·rename_i i htab
   have ht := hT t i htab
   split
   ·rename_i hk
    obtain ⟨d, hu, hkk⟩ := ht.und
    rw [hk] at hkk
    simp only [KindOK] at hkk
    subst hkk
    split
    ·refine runOK_of hR (u := .bool (x == y)) ?_ (mk_bool _)
     simp [execOp, ho, ex, ey, eqGuard, binOp, Op.equal, Op.maxDepth, run_equalIn_bool'' t x y 9999 hu]
    ·refine runOK_of hR (u := .bool !(x == y)) ?_ (mk_bool _)
     simp [execOp, ho, ex, ey, eqGuard, binOp, Op.equal, Op.maxDepth, run_equalIn_bool'' t x y 9999 hu]
    ·trivial
   ·trivial
  ·trivial
 ·trivial

theorem un_ok (hR : Rel D B E σ H df a w) {op : UnOp} {t : TypeId} {ox : Operand} (ho : o.op = .unOp op t ox) : OutOK P D B σ H df a w o (doUn op (ev σ ox)) := by
 have hx := ev_den hR ox
 generalize ev σ ox = sx at *
 unfold doUn
 split
 ·rename_i k n
  have ex := den_int hx
  exact arith_ok hR (by simp [execOp, ho, ex, Op.unary, Op.intArith])
 ·rename_i b
  have ex := den_bool hx
  exact runOK_of hR (u := .bool !b) (by simp [execOp, ho, ex, Op.unary]) (mk_bool _)
 ·rename_i k n
  have ex := den_int hx
  exact runOK_of hR (u := .int k (bitop .xor k (if k.signed then -1 else k.max) n)) (by simp [execOp, ho, ex, Op.unary, Op.intBits, bitop]) (mk_int _ _)
 ·trivial

theorem convert_ok (hT : TabOK P D tab) (hR : Rel D B E σ H df a w) {src dst : TypeId} {ox : Operand} (ho : o.op = .convert src dst ox) :
  OutOK P D B σ H df a w o (doConvert tab src dst (ev σ ox)) := by
 have hx := ev_den hR ox
 generalize ev σ ox = sx at *
 unfold doConvert
 cases hsrc : tab src with
 | none => trivial
 | some i0 =>
 cases htab : tab dst with
 | none => trivial
 | some j =>
  simp only
  have ht := hT dst j htab
  obtain ⟨ds, hds, _⟩ := (hT src i0 hsrc).und
  split
  ·rename_i k k' n hk
   obtain ⟨d, hu, hkk⟩ := ht.und
   rw [hk] at hkk
   simp only [KindOK] at hkk
   subst hkk
   have ex := den_int hx
   have h0 : (execOp a.eval o).run P w = .ok (.value (.int k (k.wrap n))) w := by
    simp [execOp, ho, ex, convert, run_underlying hds, run_underlying hu, Conv.intToInt]
   split
   ·intro hin
    unfold InR at hin
    rw [hin] at h0
    exact runOK_of hR h0 (mk_int _ _)
   ·exact runOK_of hR h0 (mk_int _ _)
  ·trivial

theorem struct_of {t : TypeId} {i : TI C} (ht : TyOK P D t i) {fs : List (Nat × TypeId)} (hk : i.kind = .struct fs) : ∃ F, P.underlying t = some (.struct F) ∧ F.toList.map (fun f => (f.offset, f.type)) = fs := by
 obtain ⟨d, hu, hkk⟩ := ht.und
 rw [hk] at hkk
 obtain ⟨F, rfl, hF, _⟩ := hkk
 exact ⟨F, hu, hF⟩
theorem arr_of {t : TypeId} {i : TI C} (ht : TyOK P D t i) {n : Nat} {e : TypeId} (hk : i.kind = .arr n e) : P.underlying t = some (.array n e) := by
 obtain ⟨d, hu, hkk⟩ := ht.und
 rw [hk] at hkk
 simp only [KindOK] at hkk
 rw [hu, hkk.1]
theorem arr_size {t : TypeId} {i : TI C} (ht : TyOK P D t i) {n : Nat} {e : TypeId} (hk : i.kind = .arr n e) : ∃ ie, P.info? e = some ie ∧ i.size = n * ie.size := by
 obtain ⟨d, hu, hkk⟩ := ht.und
 rw [hk] at hkk
 exact hkk.2
theorem slice_of {t : TypeId} {i : TI C} (ht : TyOK P D t i) {e : TypeId} (hk : i.kind = .slice e) : P.underlying t = some (.slice e) := by
 obtain ⟨d, hu, hkk⟩ := ht.und
 rw [hk] at hkk
 simp only [KindOK] at hkk
 rw [hu, hkk]
theorem str_of {t : TypeId} {i : TI C} (ht : TyOK P D t i) (hk : i.kind = .str) : P.underlying t = some .string := by
 obtain ⟨d, hu, hkk⟩ := ht.und
 rw [hk] at hkk
 simp only [KindOK] at hkk
 rw [hu, hkk]

theorem field_get {F : Array Field} {fs : List (Nat × TypeId)} (hF : F.toList.map (fun f => (f.offset, f.type)) = fs) {f off : Nat} {ft : TypeId} (h : ixL fs f = some (off, ft)) :
  ∃ fd, F[f]? = some fd ∧ fd.offset = off ∧ fd.type = ft := by
 rw [ixL_eq, ← hF, List.getElem?_map] at h
 cases hq : F.toList[f]? with
 | none => simp [hq] at h
 | some fd =>
  simp [hq] at h
  exact ⟨fd, by simpa using hq, h.1, h.2⟩

theorem fieldPlace_run {fd : Field} {j : TI C} (ht : TyOK P D fd.type j) (b o' : Nat) : (fieldPlace ⟨b, o', none⟩ fd).run P w = .ok ⟨b, o' + fd.offset, none⟩ w := by
 have := ht.pos
 simp [fieldPlace, run_sizeOf ht, Nat.pos_iff_ne_zero.1 this, Addr.add_lit]

theorem ifLive_ok {h : HS C} {x : Out C} (hx : h.live = true → OutOK P D B σ H df a w o x) : OutOK P D B σ H df a w o (ifLive h x) := by
 unfold ifLive
 cases hl : h.live with
 | true => exact hx hl
 | false => trivial

theorem live_ne {h : HS C} (hl : h.live = true) : h ≠ .dead ∧ h ≠ .fresh := by
 cases h <;> simp [HS.live] at hl <;> simp

theorem ptr_live (hs : Sat D w E H) {c o : Nat} (hl : (H c).live = true) {v : Value} (h : Den D w E (.ptr c o) v) : ∃ b, E.β c = .loc b := by
 have hn := live_ne hl
 rcases live_at hs hn.1 hn.2 with ⟨hv, _⟩ | ⟨b, hb, _⟩
 ·simp only [Den, hv] at h
 ·exact ⟨b, hb⟩
theorem eptr_live (hs : Sat D w E H) {c o n i f : Nat} (hl : (H c).live = true) {v : Value} (h : Den D w E (.eptr c o n i f) v) : ∃ b, E.β c = .loc b := by
 have hn := live_ne hl
 rcases live_at hs hn.1 hn.2 with ⟨hv, _⟩ | ⟨b, hb, _⟩
 ·simp only [Den, hv] at h
 ·exact ⟨b, hb⟩
/-- what a live slice is -/
theorem slice_live (hs : Sat D w E H) {c o n off len : Nat} (hl : (H c).live = true) {v : Value} (h : Den D w E (.slice c o n off len) v) :
  (len = 0 ∧ ((∃ ad, v = .slice ad 0 0 ∧ E.β c = .virt) ∨ ∃ a b, v = .slice a 0 0 ∧ E.β c = .loc b)) ∨
  ∃ b cap cs T, E.β c = .loc b ∧ v = .slice (some ⟨b, o + off * n, none⟩) len cap ∧ len ≤ cap ∧ Row w b cs T ∧ o + (off + cap) * n ≤ cs.size := by
 have hn := live_ne hl
 rcases live_at hs hn.1 hn.2 with ⟨hv, _⟩ | ⟨b, hb, _⟩
 ·simp only [Den, hv] at h
  obtain ⟨ad, h1, h2⟩ := h
  exact .inl ⟨h2, .inl ⟨ad, h1, hv⟩⟩
 ·simp only [Den, hb] at h
  rcases h with ⟨h1, ad, h2⟩ | ⟨cap, cs, T, h⟩
  ·exact .inl ⟨h1, .inr ⟨ad, b, h2, hb⟩⟩
  ·exact .inr ⟨b, cap, cs, T, hb, h⟩

theorem fieldAddr_ok (hT : TabOK P D tab) (hR : Rel D B E σ H df a w) {s : TypeId} {ox : Operand} {f : Nat} (ho : o.op = .fieldAddr s ox f) {hs : List (Nat × HS C)} (hhs : ∀ c, (ev σ ox).topId = some c → lk hs c = H c) :
  OutOK P D B σ H df a w o (doFieldAddr tab s (ev σ ox) f hs) := by
 have hx := ev_den hR ox
 generalize ev σ ox = sx at *
 unfold doFieldAddr
 cases htab : tab s with
 | none => trivial
 | some i =>
  simp only
  have ht := hT s i htab
  split
  ·rename_i fs hk
   obtain ⟨F, hu, hF⟩ := struct_of ht hk
   cases hf : ixL fs f with
   | none => trivial
   | some p =>
    obtain ⟨off, ft⟩ := p
    obtain ⟨fd, h1, h2, h3⟩ := field_get hF hf
    simp only
    cases htf : tab ft with
    | none => trivial
    | some j =>
     have hj := hT ft j htf
     rw [← h3] at hj
     simp only
     have key : ∀ b o', a.eval ox = .pointer (some ⟨b, o', none⟩) → (execOp a.eval o).run P w = .ok (.value (.pointer (some ⟨b, o' + off, none⟩))) w := fun b o' e => by
      simp [execOp, ho, e, Instr.fieldAt, run_underlying hu, h1, Instr.sureAddr, fieldPlace_run hj, h2]
     split
     ·rename_i c o'
      refine ifLive_ok fun hl => ?_
      rw [hhs c rfl] at hl
      obtain ⟨b, hb⟩ := ptr_live hR.sat hl hx
      have e := ptr_den hx hb
      exact runOK_of hR (key b o' e) (by simp only [Den, hb])
     ·rename_i c o' n k g
      refine ifLive_ok fun hl => ?_
      rw [hhs c rfl] at hl
      obtain ⟨b, hb⟩ := eptr_live hR.sat hl hx
      have e := eptr_den hx hb
      exact runOK_of hR (key b _ e) (by simp only [Den, hb, Nat.add_assoc])
     ·rename_i cells g
      simp only [Den] at hx
      obtain ⟨b, o', e, hc⟩ := hx
      refine runOK_of hR (key b _ e) ?_
      simp only [Den]
      exact ⟨b, o', by rw [Nat.add_assoc], hc⟩
     ·trivial
  ·trivial

end
end Go.SX

/-
 SX, part G: more operations that make or write no memory.
-/
namespace Go.SX
open Go.RowKit
variable {C : Cod}
section
variable {P : Program} {D : Codec C} {tab : Tab C} {B : Base} {E : Env} {σ : Nat → SV C} {H : Nat → HS C} {df : List Deferred} {a : Act} {w : World} {o : Oper}

theorem partW_spec {t : TypeId} {i : TI C} (ht : TyOK P D t i) {vs : List (SV C)} {off : Nat} {sv : SV C} {cs : Array Value} (h : partW i vs off = some sv) (hd : DenC D w E vs cs.toList) :
  ∃ v, (part t cs off).run P w = .ok v w ∧ Den D w E sv v := by
 unfold partW at h
 cases hg : i.kind.agg with
 | true =>
  simp only [hg] at h
  cases hdw : dropW vs off with
  | none => simp [hdw] at h
  | some r =>
   cases htw : takeW r i.size with
   | none => simp [hdw, htw] at h
   | some l =>
    simp [hdw, htw] at h; subst h
    obtain ⟨h1, h2⟩ := dropW_spec _ _ _ _ hdw hd
    obtain ⟨h3, h4⟩ := takeW_spec _ _ _ _ htw h1
    refine ⟨.agg (cs.extract off (off + i.size)), by simp [part, agg_isAgg ht, hg, run_sizeOf ht], ?_⟩
    simp only [Den]
    refine ⟨_, rfl, ?_⟩
    rw [Array.toList_extract]
    simpa [List.extract_eq_take_drop] using h3
 | false =>
  simp only [hg] at h
  have hh := hitW_spec vs off cs.toList hd
  cases hq : hitW vs off with
  | miss => simp [hq] at h
  | elem u N xs k => simp [hq] at h
  | cell x =>
   simp [hq] at h; subst h
   rw [hq] at hh
   obtain ⟨v, h1, h2, h3⟩ := hh
   have h1' : cs[off]? = some v := by simpa using h1
   exact ⟨v, by simp [part, agg_isAgg ht, hg, h1'], h3⟩

theorem field_ok (hT : TabOK P D tab) (hR : Rel D B E σ H df a w) {s : TypeId} {ox : Operand} {f : Nat} (ho : o.op = .field s ox f) :
  OutOK P D B σ H df a w o (doField tab s (ev σ ox) f) := by
 have hx := ev_den hR ox
 generalize ev σ ox = sx at *
 unfold doField
 cases htab : tab s with
 | none => trivial
 | some i =>
  simp only
  have ht := hT s i htab
  split
  ·rename_i fs hk
   obtain ⟨F, hu, hF⟩ := struct_of ht hk
   cases hf : ixL fs f with
   | none => trivial
   | some p =>
    obtain ⟨off, ft⟩ := p
    obtain ⟨fd, h1, h2, h3⟩ := field_get hF hf
    simp only
    cases htf : tab ft with
    | none => trivial
    | some j =>
     have hj := hT ft j htf
     simp only
     split
     ·rename_i vs
      simp only [Den] at hx
      obtain ⟨cs, e, hd⟩ := hx
      unfold optSV
      split
      ·rename_i sv hsv
       obtain ⟨v, h4, h5⟩ := partW_spec (w := w) hj hsv hd
       exact runOK_of hR (by simp [execOp, ho, e, Instr.field, run_underlying hu, h1, asAgg, h2, h3, h4]) h5
      ·trivial
     ·trivial
  ·trivial

theorem run_indexAt_array {t e : TypeId} {j : TI C} {len : Nat} (hu : P.underlying t = some (.array len e)) (hj : TyOK P D e j) {k : IntKind} {n : Int} {b o' : Nat} (h0 : 0 ≤ n) (h1 : n < len) :
  (Instr.indexAt t (.pointer (some ⟨b, o', none⟩)) (.int k n)).run P w = .ok (.pointer (some ⟨b, o' + n.toNat * j.size, none⟩)) w := by
 have : 0 ≤ n ∧ n < (len : Int) := ⟨h0, h1⟩
 simp [Instr.indexAt, asIntOf, run_underlying hu, Instr.sureAddr, this, run_sizeOf hj, Addr.add_lit]

theorem run_indexAt_slice {t e : TypeId} {j : TI C} (hu : P.underlying t = some (.slice e)) (hj : TyOK P D e j) {k : IntKind} {n : Int} {b o' len cap : Nat} (h0 : 0 ≤ n) (h1 : n < len) :
  (Instr.indexAt t (.slice (some ⟨b, o', none⟩) len cap) (.int k n)).run P w = .ok (.pointer (some ⟨b, o' + n.toNat * j.size, none⟩)) w := by
 have : 0 ≤ n ∧ n < (len : Int) := ⟨h0, h1⟩
 simp [Instr.indexAt, asIntOf, run_underlying hu, this, run_sizeOf hj, Addr.add_lit]

theorem intAt_get {q : IntKind} : ∀ {l : List (PV C)}, allInt q l = true → ∀ {i : Nat}, i < l.length → l[i]? = some (.int q (intAt l i))
 | [], _, i, hi => by simp at hi
 | x :: l, h, i, hi => by
  cases x with
  | int k n =>
   simp only [allInt] at h
   split at h
   ·rename_i e _
    subst e
    cases i with
    | zero => rfl
    | succ i => simpa [intAt] using intAt_get h (by simpa using hi)
   ·cases h
  | _ => simp [allInt] at h
theorem indexAddr_ok (hT : TabOK P D tab) (hR : Rel D B E σ H df a w) {t : TypeId} {ox oi : Operand} (ho : o.op = .indexAddr t ox oi) {hs : List (Nat × HS C)} (hhs : ∀ c, (ev σ ox).topId = some c → lk hs c = H c) :
  OutOK P D B σ H df a w o (doIndexAddr D tab t (ev σ ox) (ev σ oi) hs) := by
 have hx := ev_den hR ox
 have hi := ev_den hR oi
 generalize ev σ ox = sx at *
 generalize ev σ oi = si at *
 unfold doIndexAddr
 split
 ·rename_i i ik n htab
  have ht := hT t i htab
  have ei := den_int hi
  split
  ·rename_i len e hk
   have hu := arr_of ht hk
   cases hte : tab e with
   | none => trivial
   | some j =>
    have hj := hT e j hte
    simp only
    have key : ∀ b o', a.eval ox = .pointer (some ⟨b, o', none⟩) → 0 ≤ n → n < len → (execOp a.eval o).run P w = .ok (.value (.pointer (some ⟨b, o' + n.toNat * j.size, none⟩))) w := fun b o' e h0 h1 => by
     simp [execOp, ho, e, ei, run_indexAt_array (w := w) hu hj h0 h1]
    split
    ·rename_i c o'
     split
     ·rename_i u xs hsq
      rintro ⟨h0, h1, h2, h3⟩
      rw [hhs c rfl] at hsq
      have hl : (H c).live = true := by cases hH : H c <;> rw [hH] at hsq <;> first | rfl | (simp [seqAt] at hsq)
      obtain ⟨b, hb⟩ := ptr_live hR.sat hl hx
      refine runOK_of hR (key b o' (ptr_den hx hb) h0 h1) ?_
      simp only [Den, hb, h2, Nat.add_zero]
     ·refine ifLive_ok fun hl => ?_
      rw [hhs c rfl] at hl
      rintro ⟨h0, h1⟩
      obtain ⟨b, hb⟩ := ptr_live hR.sat hl hx
      refine runOK_of hR (key b o' (ptr_den hx hb) h0 h1) ?_
      simp only [Den, hb]
    ·rename_i c o' m l f
     refine ifLive_ok fun hl => ?_
     rw [hhs c rfl] at hl
     rintro ⟨h0, h1⟩
     obtain ⟨b, hb⟩ := eptr_live hR.sat hl hx
     refine runOK_of hR (key b _ (eptr_den hx hb) h0 h1) ?_
     simp only [Den, hb, Nat.add_assoc]
    ·rename_i cells f
     split
     ·rintro ⟨h0, h1⟩
      simp only [Den] at hx
      obtain ⟨b, o', e, hc⟩ := hx
      refine runOK_of hR (key b _ e h0 h1) ?_
      simp only [Den]
      exact ⟨b, o', by rw [Nat.add_assoc], hc⟩
     ·split
      ·split
       ·rename_i q hq hall
        rintro ⟨h0, h1, h2, h3⟩
        simp only [Den] at hx
        obtain ⟨b, o', e, hc⟩ := hx
        refine runOK_of hR (key b _ e h0 h1) ?_
        simp only [Den]
        refine ⟨b, o' + (f + n.toNat), by rw [h2]; simp [Nat.add_assoc], fun jj pv hp => ?_⟩
        have hjj : jj = 0 := by
         cases jj with
         | zero => rfl
         | succ jj => simp at hp
        subst hjj
        simp at hp
        subst hp
        have := hc (f + n.toNat) _ (intAt_get hall (by omega))
        simpa [Nat.add_assoc] using this
       ·trivial
      ·trivial
    ·trivial
  ·rename_i e hk
   have hu := slice_of ht hk
   cases hte : tab e with
   | none => trivial
   | some j =>
    have hj := hT e j hte
    simp only
    split
    ·rename_i u xs
     rintro ⟨h0, h1, h2⟩
     simp only [Den] at hx
     have hlt : n.toNat < xs.length := by omega
     generalize hxx : a.eval ox = vx at hx
     cases hx with
     | dslNil => simp at hlt
     | dsl _ _ b o' cap cv hF hc hcell hden =>
      refine runOK_of hR (u := .pointer (some ⟨b, o' + n.toNat * j.size, none⟩)) ?_ ?_
      ·simp [execOp, ho, hxx, ei, run_indexAt_slice (w := w) hu hj h0 h1]
      ·simp only [Den]
       refine ⟨b, o' + n.toNat * j.size, by simp, fun jj pv hp => ?_⟩
       have hxs : xs[n.toNat]? = some (xs.getD n.toNat (C.dflt u)) := by simp [List.getD_eq_getElem?_getD, List.getElem?_eq_getElem hlt]
       refine ⟨hF (fun e => by rw [e] at hlt; simp at hlt), _, ?_, hden _ _ hxs _ _ hp⟩
       rw [h2]
       exact hcell _ _ hxs _ _ hp
    ·rename_i c o' m off len
     split
     ·refine ifLive_ok fun hl => ?_
      rw [hhs c rfl] at hl
      rintro ⟨h0, h1, h2⟩
      rcases slice_live hR.sat hl hx with ⟨h3, _⟩ | ⟨b, cap, cs, T, hb, e, _⟩
      ·subst h3; omega
      ·refine runOK_of hR (u := .pointer (some ⟨b, o' + off * m + n.toNat * j.size, none⟩)) ?_ ?_
       ·simp [execOp, ho, e, ei, run_indexAt_slice (w := w) hu hj h0 h1]
       ·simp only [Den, hb, h2, Nat.add_mul, Nat.add_assoc]
     ·refine ifLive_ok fun hl => ?_
      rw [hhs c rfl] at hl
      rintro ⟨h0, h1, h2⟩
      rcases slice_live hR.sat hl hx with ⟨h3, _⟩ | ⟨b, cap, cs, T, hb, e, _⟩
      ·subst h3; omega
      ·refine runOK_of hR (u := .pointer (some ⟨b, o' + off * m + n.toNat * j.size, none⟩)) ?_ ?_
       ·simp [execOp, ho, e, ei, run_indexAt_slice (w := w) hu hj h0 h1]
       ·simp only [Den, hb, h2, Nat.add_mul, Nat.add_zero, Nat.add_assoc]
    ·trivial
  ·trivial
 ·trivial

theorem index_ok (hT : TabOK P D tab) (hR : Rel D B E σ H df a w) {t : TypeId} {ox oi : Operand} (ho : o.op = .index t ox oi) :
  OutOK P D B σ H df a w o (doIndex D tab t (ev σ ox) (ev σ oi)) := by
 have hx := ev_den hR ox
 have hi := ev_den hR oi
 generalize ev σ ox = sx at *
 generalize ev σ oi = si at *
 unfold doIndex
 split
 ·rename_i l k n
  have ex := den_str hx
  have ei := den_int hi
  cases htab : tab t with
  | none => trivial
  | some i =>
   have ht := hT t i htab
   simp only
   split
   ·rename_i hk
    have hu := str_of ht hk
    rintro ⟨h0, h1⟩
    have hlt : n.toNat < l.length := by omega
    refine runOK_of hR (u := .int .u8 (l.getD n.toNat 0).toNat) ?_ (mk_int _ _)
    have hg : (⟨⟨l⟩⟩ : ByteArray)[n.toNat]? = some (l.getD n.toNat 0) := by
     have : n.toNat < (⟨⟨l⟩⟩ : ByteArray).size := hlt
     rw [getElem?_pos (⟨⟨l⟩⟩ : ByteArray) n.toNat this]
     simp [List.getD_eq_getElem?_getD, List.getElem?_eq_getElem hlt]
     rfl
    simp [execOp, ho, ex, ei, Instr.index, asIntOf, run_underlying hu, h0, hg]
   ·trivial
 ·rename_i u N xs k n
  simp only [Den] at hx
  obtain ⟨cs, ex, hd⟩ := hx
  have ei := den_int hi
  cases htab : tab t with
  | none => trivial
  | some i =>
   have ht := hT t i htab
   simp only
   split
   ·rename_i len e hk
    have hu := arr_of ht hk
    cases hte : tab e with
    | none => trivial
    | some j =>
     have hj := hT e j hte
     simp only
     unfold condSide
     split
     ·rename_i sv hlc
      rintro ⟨h0, h1, h2, h3⟩
      simp only [DenC] at hd
      obtain ⟨hN, v1, v2, e1, hp, e2⟩ := hd
      subst e2
      simp only [List.append_nil] at e1
      -- put the cells into a world of their own: part reads the array, not memory
      have hlt : n.toNat < xs.length := by omega
      have hxs : xs[n.toNat]? = some (xs.getD n.toNat (C.dflt u)) := by simp [List.getD_eq_getElem?_getD, List.getElem?_eq_getElem hlt]
      have hcell : ∀ jj pv, (D.enc u (xs.getD n.toNat (C.dflt u)))[jj]? = some pv → ∃ v, cs.toList[n.toNat * C.n u + jj]? = some v ∧ PDen D w E.F pv v := by
       intro jj pv hpv
       have hjl : jj < C.n u := by
        have := (List.getElem?_eq_some_iff.1 hpv).1
        rwa [D.enc_len] at this
       have hf := flatMap_get (D := D) u xs n.toNat jj _ hxs hjl
       rw [hpv] at hf
       have hlen : n.toNat * C.n u + jj < v1.length := by
        rw [← hp.1]; exact (List.getElem?_eq_some_iff.1 hf).1
       rw [e1]
       exact ⟨v1[n.toNat * C.n u + jj], List.getElem?_eq_getElem hlen, hp.2 _ _ _ hf (List.getElem?_eq_getElem hlen)⟩
      have h01 : 0 ≤ n ∧ n < (len : Int) := ⟨h0, h1⟩
      unfold loadCellsAt at hlc
      cases hg : j.kind.agg with
      | true =>
       simp only [hg] at hlc
       have hd0 : dropP (D.enc u (xs.getD n.toNat (C.dflt u))) 0 = some (D.enc u (xs.getD n.toNat (C.dflt u))) := by
        cases D.enc u (xs.getD n.toNat (C.dflt u)) <;> rfl
       rw [hd0] at hlc
       replace hlc : (match takeP (D.enc u (xs.getD n.toNat (C.dflt u))) j.size with | some l => some (SV.agg (pcells l)) | none => none) = some sv := hlc
       cases htk : takeP (D.enc u (xs.getD n.toNat (C.dflt u))) j.size with
       | none => rw [htk] at hlc; cases hlc
       | some l =>
        rw [htk] at hlc
        cases hlc
        obtain ⟨h4, h5⟩ := takeP_some _ _ _ htk
        have hl : l = D.enc u (xs.getD n.toNat (C.dflt u)) := by
         rw [h4, h2]
         exact List.take_of_length_le (by rw [D.enc_len]; exact Nat.le_refl _)
        refine runOK_of hR (u := .agg (cs.extract (n.toNat * j.size) (n.toNat * j.size + j.size))) ?_ ?_
        ·simp [execOp, ho, ex, ei, Instr.index, asIntOf, run_underlying hu, h01, run_sizeOf hj, part, agg_isAgg hj, hg]
        ·simp only [Den]
         refine ⟨_, rfl, ?_⟩
         have hcl : n.toNat * C.n u + C.n u ≤ cs.toList.length := by
          rw [e1, ← hp.1, flatMap_length]
          have := Nat.mul_le_mul_right (C.n u) hlt
          rw [Nat.succ_mul] at this
          exact this
         refine pcells_den ?_ fun jj pv v hp' hv => ?_
         ·rw [hl, D.enc_len, Array.toList_extract]
          simp [List.extract_eq_take_drop, h2] at hcl ⊢
          omega
         ·rw [hl] at hp'
          obtain ⟨v', h6, h7⟩ := hcell jj pv hp'
          rw [Array.toList_extract, List.extract_eq_take_drop, List.getElem?_take] at hv
          split at hv
          ·rw [List.getElem?_drop, h2, h6] at hv
           cases hv; exact h7
          ·cases hv
      | false =>
       simp only [hg] at hlc
       rw [ixL_eq] at hlc
       cases hx0 : (D.enc u (xs.getD n.toNat (C.dflt u)))[0]? with
       | none => rw [hx0] at hlc; simp at hlc
       | some pv =>
        rw [hx0] at hlc; simp at hlc; subst hlc
        obtain ⟨v, h4, h5⟩ := hcell 0 pv hx0
        refine runOK_of hR (u := v) ?_ (by simp only [Den]; exact h5)
        have h4' : cs[n.toNat * j.size]? = some v := by rw [h2]; simpa using h4
        simp [execOp, ho, ex, ei, Instr.index, asIntOf, run_underlying hu, h01, run_sizeOf hj, part, agg_isAgg hj, hg, h4']
     ·trivial
   ·trivial
 ·trivial

theorem denA_get : ∀ (l : List (SV C)) (vs : List Value), DenA D w E l vs → ∀ (i : Nat) (x : SV C), l[i]? = some x → ∃ v, vs[i]? = some v ∧ Den D w E x v
 | [], vs, _, i, x, h => by simp at h
 | y :: l, vs, hd, i, x, h => by
  simp only [DenA] at hd
  obtain ⟨v, v2, rfl, h1, h2⟩ := hd
  cases i with
  | zero => simp at h; subst h; exact ⟨v, by simp, h1⟩
  | succ i => exact denA_get l v2 h2 i x (by simpa using h)

theorem extract_ok (hR : Rel D B E σ H df a w) {ox : Operand} {i : Nat} (ho : o.op = .extract ox i) : OutOK P D B σ H df a w o (doExtract (ev σ ox) i) := by
 have hx := ev_den hR ox
 generalize ev σ ox = sx at *
 unfold doExtract
 split
 ·rename_i vs
  simp only [Den] at hx
  obtain ⟨xs, e, hd⟩ := hx
  split
  ·rename_i v hv
   rw [ixL_eq] at hv
   obtain ⟨u, h1, h2⟩ := denA_get _ _ hd _ _ hv
   have h1' : xs[i]? = some u := by simpa using h1
   exact runOK_of hR (by simp [execOp, ho, e, Instr.extract, h1']) h2
  ·trivial
 ·trivial

theorem move_ok (hR : Rel D B E σ H df a w) {ox : Operand} (ho : o.op = .move ox ∨ o.op = .assign ox) : OutOK P D B σ H df a w o (.val (ev σ ox)) := by
 rcases ho with ho | ho <;> exact runOK_of hR (by simp [execOp, ho]) (ev_den hR ox)

theorem pick_ok (hR : Rel D B E σ H df a w) {oc ox oy : Operand} (ho : o.op = .pick oc ox oy) {c : Bool} (hc : ev σ oc = .p (.bool c)) :
  OutOK P D B σ H df a w o (.val (match c with | true => ev σ ox | false => ev σ oy)) := by
 have h := ev_den hR oc
 rw [hc] at h
 have e := den_bool h
 cases c with
 | true => exact runOK_of hR (by simp [execOp, ho, e, asBool]) (ev_den hR ox)
 | false => exact runOK_of hR (by simp [execOp, ho, e, asBool]) (ev_den hR oy)

theorem denA_map (hR : Rel D B E σ H df a w) : ∀ (l : List Operand), DenA D w E (l.map (ev σ)) (l.map a.eval)
 | [] => by simp [DenA]
 | x :: l => by simp only [List.map_cons, DenA]; exact ⟨_, _, rfl, ev_den hR x, denA_map hR l⟩

theorem nilCheck_ok (hR : Rel D B E σ H df a w) {ox : Operand} (ho : o.op = .nilCheck ox) {hs : List (Nat × HS C)} (hhs : ∀ c, (ev σ ox).topId = some c → lk hs c = H c) :
  OutOK P D B σ H df a w o (match [ev σ ox] with
   | [.ptr c o] => ifLive (lk hs c) (.val (.ptr c o))
   | [.eptr c o n i f] => ifLive (lk hs c) (.val (.eptr c o n i f))
   | [.dptr cells f] => .val (.dptr cells f)
   | [.fn (.func f) a b] => .val (.fn (.func f) a b)
   | _ => .stuck) := by
 have hx := ev_den hR ox
 generalize ev σ ox = sx at *
 split
 ·rename_i c o' heq
  cases heq
  refine ifLive_ok fun hl => ?_
  rw [hhs c rfl] at hl
  obtain ⟨b, hb⟩ := ptr_live hR.sat hl hx
  have e := ptr_den hx hb
  exact runOK_of hR (u := a.eval ox) (by simp [execOp, ho, e]) hx
 ·rename_i c o' n i f heq
  cases heq
  refine ifLive_ok fun hl => ?_
  rw [hhs c rfl] at hl
  obtain ⟨b, hb⟩ := eptr_live hR.sat hl hx
  have e := eptr_den hx hb
  exact runOK_of hR (u := a.eval ox) (by simp [execOp, ho, e]) hx
 ·rename_i cells f heq
  cases heq
  have hx' := hx
  simp only [Den] at hx
  obtain ⟨b, o', e, _⟩ := hx
  exact runOK_of hR (u := a.eval ox) (by simp [execOp, ho, e]) hx'
 ·rename_i f x y heq
  cases heq
  have hx' := hx
  simp only [Den] at hx
  obtain ⟨xs, ys, e, _⟩ := hx
  exact runOK_of hR (u := a.eval ox) (by simp [execOp, ho, e]) hx'
 ·trivial

theorem makeFunc_ok (hR : Rel D B E σ H df a w) {f : Fn} {first captured : Array Operand} (ho : o.op = .makeFunc f first captured) :
  OutOK P D B σ H df a w o (.val (.fn f (first.toList.map (ev σ)) (captured.toList.map (ev σ)))) := by
 refine runOK_of hR (u := .func f (first.map a.eval) (captured.map a.eval)) ?_ ?_
 ·simp [execOp, ho, Instr.makeFunc]
 ·simp only [Den]
  refine ⟨_, _, rfl, ?_, ?_⟩
  ·simpa using denA_map hR first.toList
  ·simpa using denA_map hR captured.toList

end
end Go.SX

/-
 SX, part H: the soundness of operations that make or write memory.
-/
namespace Go.SX
open Go.RowKit
variable {C : Cod}
section
variable {P : Program} {D : Codec C} {tab : Tab C} {B : Base} {E : Env} {σ : Nat → SV C} {H : Nat → HS C} {df : List Deferred} {a : Act} {w : World} {o : Oper}

theorem upHs_one (c : Nat) (h : HS C) : upHs H [(c, h)] = upH H c h := rfl

theorem fresh_β (hs : Sat D w E H) {m : Nat} (hm : H m = .fresh) : E.β m = .fresh := by
 have := hs.ok m
 rw [hm] at this
 cases hb : E.β m with
 | fresh => rfl
 | dead => rw [hb] at this; simp [HS.ok] at this
 | virt => rw [hb] at this; simp [HS.ok] at this
 | loc b => rw [hb] at this; simp [HS.ok, HS.at] at this

/-- a new variable of given cells -/
theorem new_var (hR : Rel D B E σ H df a w) {m : Nat} (hm : H m = .fresh) {vs : List (SV C)} {cs : Array Value} (T : TypeId) (ty : Option TypeId) (hty : ∀ t, ty = some t → T = t) (hd : DenC D w E vs cs.toList)
  (h : (execOp a.eval o).run P w = .ok (.value (.pointer (some ⟨w.heap.size, 0, none⟩))) (w.alloc (.cells cs T))) : RunOK P D B σ H df a w o (.ptr m 0) [(m, .vart ty vs)] := by
 refine ⟨_, _, E.up m (.loc w.heap.size), .inl h, ?_, ?_⟩
 ·rw [upHs_one]
  exact hR.alloc hm cs T ⟨cs, T, ⟨Row.new (heap_alloc_new w _), hty⟩, DenC.mono (later_alloc (fresh_β hR.sat hm) _ hR.sat.F) _ _ hd⟩
 ·simp only [Den, Env.up_same]

theorem tyIf_ok {b : Bool} {t t' : TypeId} (h : tyIf b t = some t') : t = t' := by cases b <;> simp [tyIf] at h; exact h
theorem alloc_ok (hT : TabOK P D tab) (hR : Rel D B E σ H df a w) {m : Nat} (hm : H m = .fresh) {t : TypeId} (ho : o.op = .alloc t) :
  OutOK P D B σ H df a w o (match tab t with | some i => .mem (.ptr m 0) [(m, .vart (tyIf i.typed t) i.zero)] | none => .stuck) := by
 cases htab : tab t with
 | none => trivial
 | some i =>
  obtain ⟨info, z, h1, h2, h3, h4, h5, h6⟩ := (hT t i htab).info
  refine new_var hR hm t _ (fun _ h => tyIf_ok h) (h6 w E) ?_
  simp [execOp, ho, Instr.alloc, zeroValue, typeInfo, h1, h4, newVar, newRow]

theorem Den.one_of {x : SV C} {v : Value} (h1 : x.one = true) (hd : Den D w E x v) : v.oneCell' = true := by
 cases x with
 | p y => simp only [Den] at hd; exact hd.oneCell
 | ptr c o => exact hd.one_ptr
 | eptr c o n i f => exact hd.one_eptr
 | slice c o n off len => exact hd.one_slice
 | dptr cells f => simp only [Den] at hd; obtain ⟨b, o, rfl, _⟩ := hd; rfl
 | fn f x y => simp only [Den] at hd; obtain ⟨_, _, rfl, _⟩ := hd; rfl
 | iface t y => simp only [Den] at hd; obtain ⟨_, rfl, _⟩ := hd; rfl
 | yieldv c => exact hd.one_yieldv
 | mapp c => exact hd.one_mapp
 | _ => simp [SV.one] at h1

theorem one_notArr {x : SV C} (h1 : x.one = true) : x.isArr = false := by
 cases x <;> first | rfl | (simp [SV.one] at h1)

theorem cells_one {v : Value} (h : v.oneCell' = true) : v.cells = #[v] := by
 cases v <;> first | rfl | (simp [Value.oneCell'] at h)

theorem cellsOf_den {x : SV C} {l : List (SV C)} {v : Value} (h : cellsOf x = some l) (hd : Den D w E x v) : DenC D w E l v.cells.toList := by
 have key : x.one = true → cellsOf x = some [x] → DenC D w E l v.cells.toList := fun h1 h2 => by
  rw [h2] at h; cases h
  have := Den.one_of h1 hd
  rw [cells_one this, DenC_cons (one_notArr h1)]
  exact ⟨v, [], rfl, this, hd, by simp [DenC]⟩
 cases x with
 | agg vs =>
  simp [cellsOf] at h; subst h
  simp only [Den] at hd
  obtain ⟨cs, rfl, hd⟩ := hd
  simpa [Value.cells] using hd
 | any => simp [cellsOf] at h
 | tuple l => simp [cellsOf] at h
 | arr u N xs => simp only [Den] at hd
 | _ => exact key rfl rfl

theorem box_ok (hR : Rel D B E σ H df a w) {m : Nat} (hm : H m = .fresh) {t : TypeId} {ox : Operand} (ho : o.op = .box t ox) :
  OutOK P D B σ H df a w o (match cellsOf (ev σ ox) with | some l => .mem (.ptr m 0) [(m, .var l)] | none => .stuck) := by
 have hx := ev_den hR ox
 cases hc : cellsOf (ev σ ox) with
 | none => trivial
 | some l => exact new_var hR hm t none (fun _ h => by cases h) (cellsOf_den hc hx) (by simp [execOp, ho, Instr.box, newVar, newRow])

/-- cells are stored into a block that may be written -/
theorem run_storeCells_row {b o : Nat} {T : TypeId} : ∀ (vs : List Value) (i : Nat) (cs : Array Value) (w : World), Row w b cs T → o + i + vs.length ≤ cs.size → (∀ v ∈ vs, v.oneCell' = true) →
  (storeCells ⟨b, o, none⟩ vs i).run P w = .ok () (w.setRow b (cs.toList.take (o + i) ++ vs ++ cs.toList.drop (o + i + vs.length)).toArray) := by
 intro vs
 induction vs with
 | nil =>
  rintro i cs w ⟨z, hz, _⟩ _ _
  have e : (cs.toList.take (o + i) ++ [] ++ cs.toList.drop (o + i + ([] : List Value).length)).toArray = cs := by simp
  rw [e, setRow_self w b cs T z hz]; rfl
 | cons v rest ih =>
  rintro i cs w ⟨z, hz, ht⟩ hl h1
  rw [List.length_cons] at hl
  have hlt : o + i < cs.size := by omega
  have hst : (store ((⟨b, o, none⟩ : Addr).add i) v).run P w = .ok () (w.setRow b (cs.setIfInBounds (o + i) v)) := by
   have e1 : (⟨b, o, none⟩ : Addr).add i = ⟨b, o + i, none⟩ := by unfold Addr.add; split <;> simp_all
   have e2 : w.cell? ⟨b, o + i, none⟩ = some cs[o + i] := by rw [cell_of_row w b _ cs T z hz]; simp [hlt]
   have e3 : w.frozen? ⟨b, o + i, none⟩ = false := by
    cases hf : w.frozen? ⟨b, o + i, none⟩ with
    | false => rfl
    | true =>
     simp only [World.frozen?, hz, Bool.and_eq_true, decide_eq_true_eq] at hf
     exact (ht _ hlt hf.1 hf.2).elim
   rw [e1, run_store P w _ v _ (h1 v (by simp)), e2]
   simp [e3, setCell_eq_setRow w b (o + i) cs T z v hz]
  have hih := ih (i + 1) (cs.setIfInBounds (o + i) v) (w.setRow b (cs.setIfInBounds (o + i) v)) ⟨z, setRow_heap w b cs _ T _ hz, by simpa using ht⟩ (by simp; omega) (fun x hx => h1 x (by simp [hx]))
  simp only [storeCells, Sem.run_bind, hst, Result.andThen_ok, hih, setRow_setRow]
  have e := list_seg_step cs.toList (o + i) v rest (by simp; omega)
  congr 3
  simpa [Array.toList_setIfInBounds, Nat.add_assoc] using e
theorem run_storeVar {t : TypeId} {i : TI C} (ht : TyOK P D t i) {b o' : Nat} {cs : Array Value} {T : TypeId} (hcs : Row w b cs T) {v : Value} (hsz : v.cells.size = i.size)
  (hfit : o' + i.size ≤ cs.size) (h1 : ∀ u ∈ v.cells.toList, u.oneCell' = true) :
  (storeVar t ⟨b, o', none⟩ v).run P w = .ok () (w.setRow b (cs.toList.take o' ++ v.cells.toList ++ cs.toList.drop (o' + i.size)).toArray) := by
 have hst := run_storeCells_row (P := P) (o := o') v.cells.toList 0 cs w hcs (by simp; omega) h1
 simp only [Nat.add_zero, Array.length_toList, hsz] at hst
 simp [storeVar, run_sizeOf ht, hsz, hst]

theorem exact_cells {l l' : List (SV C)} {n : Nat} {vs : List Value} (h1 : takeW l n = some l') (h2 : dropW l n = some []) (hd : DenC D w E l vs) : vs.length = n ∧ DenC D w E l' vs := by
 obtain ⟨h3, h4⟩ := takeW_spec _ _ _ _ h1 hd
 obtain ⟨h5, h6⟩ := dropW_spec _ _ _ _ h2 hd
 simp only [DenC] at h5
 have : vs.length ≤ n := by simpa using h5
 have e : vs.length = n := by omega
 exact ⟨e, by rwa [List.take_of_length_le (by omega)] at h3⟩

theorem PDenL.append {F : Nat → Prop} {l m : List (PV C)} {vs ws : List Value} (h : PDenL D w F l vs) (k : PDenL D w F m ws) : PDenL D w F (l ++ m) (vs ++ ws) := by
 refine ⟨by simp [h.1, k.1], fun j pv v hp hv => ?_⟩
 by_cases hj : j < l.length
 ·rw [List.getElem?_append_left hj] at hp
  rw [List.getElem?_append_left (h.1 ▸ hj)] at hv
  exact h.2 j pv v hp hv
 ·rw [List.getElem?_append_right (by omega)] at hp
  rw [List.getElem?_append_right (by rw [← h.1]; omega), ← h.1] at hv
  exact k.2 _ pv v hp hv
theorem PDenL.take {F : Nat → Prop} {l : List (PV C)} {vs : List Value} (h : PDenL D w F l vs) (n : Nat) : PDenL D w F (l.take n) (vs.take n) := by
 refine ⟨by simp [h.1], fun j pv v hp hv => ?_⟩
 rw [List.getElem?_take] at hp hv
 split at hp
 ·rename_i hj
  rw [if_pos hj] at hv
  exact h.2 j pv v hp hv
 ·cases hp
theorem PDenL.drop {F : Nat → Prop} {l : List (PV C)} {vs : List Value} (h : PDenL D w F l vs) (n : Nat) : PDenL D w F (l.drop n) (vs.drop n) := by
 refine ⟨by simp [h.1], fun j pv v hp hv => ?_⟩
 rw [List.getElem?_drop] at hp hv
 exact h.2 _ pv v hp hv

theorem toPVs_den : ∀ (l : List (SV C)) (pl : List (PV C)) (vs : List Value), toPVs l = some pl → DenC D w E l vs → PDenL D w E.F pl vs
 | [], pl, vs, h, hd => by
  simp [toPVs] at h; subst h
  simp only [DenC] at hd; subst hd
  exact ⟨rfl, fun j pv v hp _ => by simp at hp⟩
 | x :: l, pl, vs, h, hd => by
  simp only [toPVs] at h
  cases x with
  | p y =>
   simp only [toPV] at h
   cases ht : toPVs l with
   | none => simp [ht] at h
   | some r =>
    simp [ht] at h; subst h
    simp only [DenC, Den] at hd
    obtain ⟨v, v2, rfl, h1, h2, h3⟩ := hd
    have ih := toPVs_den l r v2 ht h3
    refine ⟨by simp [ih.1], fun j pv u hp hu => ?_⟩
    cases j with
    | zero => simp at hp hu; subst hp; subst hu; exact h2
    | succ j => exact ih.2 j pv u (by simpa using hp) (by simpa using hu)
  | _ => simp [toPV] at h

theorem spliceP_some {l new r : List (PV C)} {f n : Nat} (h : spliceP l f n new = some r) : r = l.take f ++ new ++ l.drop (f + n) ∧ f + n ≤ l.length := by
 unfold spliceP at h
 cases h1 : takeP l f with
 | none => simp [h1] at h
 | some x =>
  cases h2 : dropP l f with
  | none => simp [h1, h2] at h
  | some y =>
   cases h3 : dropP y n with
   | none => simp [h1, h2, h3] at h
   | some z =>
    simp [h1, h2, h3] at h; subst h
    obtain ⟨rfl, h4⟩ := takeP_some _ _ _ h1
    obtain ⟨rfl, h5⟩ := dropP_some _ _ _ h2
    obtain ⟨rfl, h6⟩ := dropP_some _ _ _ h3
    simp at h6
    exact ⟨by simp [List.drop_drop], by omega⟩

/-- an element, or a part of it, is replaced -/
theorem setElem_spec {u : C.U} {xs xs' : List (C.El u)} {k f size : Nat} {sv : SV C} {v : Value} {V : List Value} (h : setElem D u xs k f size sv = some xs') (hk : k < xs.length)
  (hd : Den D w E sv v) (hV : PDenL D w E.F (xs.flatMap (D.enc u)) V) :
  xs'.length = xs.length ∧ v.cells.size = size ∧ f + size ≤ C.n u ∧
   PDenL D w E.F (xs'.flatMap (D.enc u)) (V.take (k * C.n u + f) ++ v.cells.toList ++ V.drop (k * C.n u + f + size)) ∧ (∀ u ∈ v.cells.toList, u.oneCell' = true) := by
 unfold setElem at h
 cases h1 : cellsOf sv with
 | none => simp [h1] at h
 | some l =>
  cases h2 : toPVs l with
  | none => simp [h1, h2] at h
  | some pl =>
   cases h3 : spliceP (D.enc u (xs.getD k (C.dflt u))) f size pl with
   | none => simp only [h1, h2, h3] at h; cases h
   | some r =>
    cases h4 : D.dec u r with
    | none => simp only [h1, h2, h3, h4] at h; cases h
    | some x =>
     have h' : some (xs.set k x) = some xs' := by rw [← h]; simp only [h1, h2, h3, h4]
     cases h'
     have hc := cellsOf_den h1 hd
     have hp := toPVs_den _ _ _ h2 hc
     obtain ⟨h5, h6⟩ := spliceP_some h3
     rw [D.enc_len] at h6
     have hx := D.dec_ok u r x h4
     have hxs : xs[k]? = some (xs.getD k (C.dflt u)) := by simp [List.getD_eq_getElem?_getD, List.getElem?_eq_getElem hk]
     have hl : pl.length = size := by
      have e1 := D.enc_len u x
      rw [hx, h5] at e1
      simp only [List.length_append, List.length_take, List.length_drop, D.enc_len] at e1
      omega
     have hkn : k * C.n u + C.n u ≤ (xs.flatMap (D.enc u)).length := by
      rw [flatMap_length]
      have := Nat.mul_le_mul_right (C.n u) hk
      rwa [Nat.succ_mul] at this
     have hseg : D.enc u (xs.getD k (C.dflt u)) = ((xs.flatMap (D.enc u)).drop (k * C.n u)).take (C.n u) := by
      apply List.ext_getElem?
      intro j
      rw [List.getElem?_take]
      split
      ·rename_i hj
       rw [List.getElem?_drop, flatMap_get u xs k j _ hxs hj]
      ·rename_i hj
       exact List.getElem?_eq_none (by rw [D.enc_len]; omega)
     have hset : (xs.set k x).flatMap (D.enc u) = (xs.flatMap (D.enc u)).take (k * C.n u + f) ++ pl ++ (xs.flatMap (D.enc u)).drop (k * C.n u + f + size) := by
      rw [flatMap_set u xs k x hk, hx, h5, hseg]
      generalize hL : xs.flatMap (D.enc u) = L at *
      have e1 : L.take (k * C.n u) ++ ((L.drop (k * C.n u)).take (C.n u)).take f = L.take (k * C.n u + f) := by
       rw [List.take_take, Nat.min_eq_left (by omega), List.take_add]
      have e2 : ((L.drop (k * C.n u)).take (C.n u)).drop (f + size) ++ L.drop (k * C.n u + C.n u) = L.drop (k * C.n u + f + size) := by
       have e3 : L.drop (k * C.n u + C.n u) = ((L.drop (k * C.n u)).drop (f + size)).drop (C.n u - (f + size)) := by
        rw [List.drop_drop, List.drop_drop]
        congr 1
        omega
       rw [e3, List.drop_take, List.take_append_drop, List.drop_drop, Nat.add_assoc]
      rw [← e1, ← e2]
      simp
     refine ⟨by simp, by rw [← Array.length_toList, ← hp.1, hl], h6, ?_, hp.oneCell⟩
     rw [hset]
     exact ((hV.take _).append hp).append (hV.drop _)

end
end Go.SX

/-
 SX, part I: stores; slices made and appended to.
-/
namespace Go.SX
open Go.RowKit
variable {C : Cod}
section
variable {P : Program} {D : Codec C} {tab : Tab C} {B : Base} {E : Env} {σ : Nat → SV C} {H : Nat → HS C} {df : List Deferred} {a : Act} {w : World} {o : Oper}

/-- a store into an owned block -/
theorem store_run (hR : Rel D B E σ H df a w) {t : TypeId} {i : TI C} (ht : TyOK P D t i) {oa ov : Operand} (ho : o.op = .store t oa ov) {c b o' : Nat} (hb : E.β c = .loc b)
  (ha : a.eval oa = .pointer (some ⟨b, o', none⟩)) {cs : Array Value} {T : TypeId} (hcs : Row w b cs T) (hsz : (a.eval ov).cells.size = i.size)
  (hfit : o' + i.size ≤ cs.size) (h1 : ∀ u ∈ (a.eval ov).cells.toList, u.oneCell' = true) {h' : HS C}
  (hok : ∀ w' cs', Later w E w' E → Row w' b cs' T → cs'.toList = cs.toList.take o' ++ (a.eval ov).cells.toList ++ cs.toList.drop (o' + i.size) → h'.at D w' E b) :
  RunOK P D B σ H df a w o .any [(c, h')] := by
 have hrun := run_storeVar ht hcs hsz hfit h1
 refine ⟨undef, w.setRow b (cs.toList.take o' ++ (a.eval ov).cells.toList ++ cs.toList.drop (o' + i.size)).toArray, E, .inr ⟨?_, rfl⟩, ?_, trivial⟩
 ·simp only [execOp, ho, Instr.storeAt, ha, Instr.sureAddr, Sem.run_bind, Sem.run_pure, Result.andThen_ok, hrun]
 rw [upHs_one]
 have hsize : (cs.toList.take o' ++ (a.eval ov).cells.toList ++ cs.toList.drop (o' + i.size)).toArray.size = cs.size := by
  simp only [List.size_toArray, List.length_append, List.length_take, List.length_drop, Array.length_toList, hsz]
  omega
 exact hR.setRow hb hcs hsize fun hL => hok _ _ hL (hcs.set hsize) (by simp)

theorem setArr_some : ∀ (vs : List (SV C)) (o : Nat) (u : C.U) (N : Nat) (xs ys : List (C.El u)), hitW vs o = .elem u N xs 0 → ∃ vs', setArr vs o u ys = some vs' := by
 intro vs
 induction vs with
 | nil => intro o u N xs ys h; simp [hitW] at h
 | cons x r ih =>
  intro o u N xs ys h
  cases hx : x.isArr with
  | false =>
   cases o with
   | zero => rw [hitW_zero hx] at h; cases h
   | succ o =>
    rw [hitW_cons hx] at h
    obtain ⟨vs', h'⟩ := ih o u N xs ys h
    exact ⟨x :: vs', by rw [setArr_cons hx, h']⟩
  | true =>
   obtain ⟨u', N', xs', rfl⟩ := SV.arr_of hx
   simp only [hitW] at h
   simp only [setArr]
   cases hs : subO o (N' * C.n u') with
   | none =>
    rw [hs] at h
    simp only [Hit.elem.injEq] at h
    obtain ⟨rfl, rfl, _, rfl⟩ := h
    exact ⟨_, rfl⟩
   | some o' =>
    simp only [hs] at h
    obtain ⟨vs', h'⟩ := ih o' u N xs ys h
    exact ⟨.arr u' N' xs' :: vs', by simp [h']⟩

theorem store_ok (hT : TabOK P D tab) (hR : Rel D B E σ H df a w) {t : TypeId} {oa ov : Operand} (ho : o.op = .store t oa ov) {hs : List (Nat × HS C)} (hhs : ∀ c, (ev σ oa).topId = some c → lk hs c = H c) :
  OutOK P D B σ H df a w o (doStore D tab t (ev σ oa) (ev σ ov) hs) := by
 have ha := ev_den hR oa
 have hv := ev_den hR ov
 generalize ev σ oa = sa at *
 generalize ev σ ov = sv at *
 unfold doStore
 cases htab : tab t with
 | none => trivial
 | some i =>
  have ht := hT t i htab
  simp only
  cases sa with
  | ptr c o' =>
   simp only
   rw [hhs c rfl]
   cases hH : H c with
   | vart ty vs =>
    simp only
    obtain ⟨b, cs, T, hb, ⟨h1, hty⟩, h2⟩ := var_at hR.sat hH
    have e := ptr_den ha hb
    cases hc : cellsOf sv with
    | none => trivial
    | some l =>
     simp only
     have hcd := cellsOf_den hc hv
     cases htk : takeW l i.size with
     | none => trivial
     | some l' =>
      simp only
      split
      ·rename_i hdr
       obtain ⟨h3, h4⟩ := exact_cells htk hdr hcd
       have hsz : (a.eval ov).cells.size = i.size := by simpa using h3
       have hone := DenC_one _ _ hcd
       have spl : ∀ vs', spliceW vs o' i.size l' = some vs' → RunOK P D B σ H df a w o .any [(c, .vart ty vs')] := fun vs' hsp => by
        obtain ⟨h5, h6⟩ := spliceW_spec hsp h2 h4
        refine store_run hR ht ho hb e h1 hsz (by simpa using h6) hone fun w' cs' hL hw' hcs' => ⟨cs', T, ⟨hw', hty⟩, ?_⟩
        rw [hcs']
        exact DenC.mono hL _ _ h5
       have hh := hitW_spec vs o' cs.toList h2
       split
       ·rename_i u N xs k hhit
        rw [hhit] at hh
        obtain ⟨a1, a2, a3, a4, a5⟩ := hh
        split
        ·split
         ·rename_i vs' hsp; exact spl vs' hsp
         ·trivial
        ·split
         ·rename_i xs' hset
          split
          ·rename_i vs' hsa
           have hkd : k / C.n u < xs.length := by rw [a1]; exact (Nat.div_lt_iff_lt_mul (D.n_pos u)).2 a2
           obtain ⟨b1, b2, b3, b4, b5⟩ := setElem_spec hset hkd hv a5
           have e3 : k / C.n u * C.n u + k % C.n u = k := by
            have := Nat.div_add_mod k (C.n u)
            rw [Nat.mul_comm] at this
            exact this
           rw [e3] at b4
           have hst := hitW_start vs o' u N xs k hhit
           have hfin := setArr_spec vs (o' - k) u N xs xs' vs' cs.toList _ hst.2 hsa b1 h2 b4
           have hlen : k + i.size ≤ N * C.n u := by
            have hq : (k / C.n u + 1) * C.n u ≤ N * C.n u := Nat.mul_le_mul_right _ (a1 ▸ hkd)
            rw [Nat.add_mul, Nat.one_mul] at hq
            omega
           refine store_run hR ht ho hb e h1 hsz (by have := a4; simp at this; omega) hone fun w' cs' hL hw' hcs' => ⟨cs', T, ⟨hw', hty⟩, ?_⟩
           refine DenC.mono hL _ _ ?_
           rw [hcs']
           have hlv : ((List.drop (o' - k) cs.toList).take (N * C.n u)).length = N * C.n u := by
            simp only [List.length_take, List.length_drop]; omega
           have goal : cs.toList.take (o' - k) ++ (((cs.toList.drop (o' - k)).take (N * C.n u)).take k ++ (a.eval ov).cells.toList ++ ((cs.toList.drop (o' - k)).take (N * C.n u)).drop (k + i.size)) ++
             cs.toList.drop (o' - k + (((cs.toList.drop (o' - k)).take (N * C.n u)).take k ++ (a.eval ov).cells.toList ++ ((cs.toList.drop (o' - k)).take (N * C.n u)).drop (k + i.size)).length) =
             cs.toList.take o' ++ (a.eval ov).cells.toList ++ cs.toList.drop (o' + i.size) := by
            have f1 : cs.toList.take (o' - k) ++ ((cs.toList.drop (o' - k)).take (N * C.n u)).take k = cs.toList.take o' := by
             rw [List.take_take, Nat.min_eq_left (by omega), ← List.take_add]
             congr 1
             omega
            have f2 : (((cs.toList.drop (o' - k)).take (N * C.n u)).take k ++ (a.eval ov).cells.toList ++ ((cs.toList.drop (o' - k)).take (N * C.n u)).drop (k + i.size)).length = N * C.n u := by
             simp only [List.length_append, List.length_take, List.length_drop, Array.length_toList, hsz] at hlv ⊢
             simp only [Array.length_toList] at a4
             omega
            have f3 : ((cs.toList.drop (o' - k)).take (N * C.n u)).drop (k + i.size) ++ cs.toList.drop (o' - k + N * C.n u) = cs.toList.drop (o' + i.size) := by
             have f4 : cs.toList.drop (o' - k + N * C.n u) = ((cs.toList.drop (o' - k)).drop (k + i.size)).drop (N * C.n u - (k + i.size)) := by
              rw [List.drop_drop, List.drop_drop]; congr 1; omega
             rw [f4, List.drop_take, List.take_append_drop, List.drop_drop]
             congr 1
             omega
            rw [f2, ← f1, ← f3]
            simp only [List.append_assoc]
           rw [← goal]
           exact hfin
          ·trivial
         ·trivial
       ·split
        ·rename_i vs' hsp; exact spl vs' hsp
        ·trivial
       ·trivial
      ·trivial
   | _ => trivial
  | eptr c o' n k f =>
   simp only
   rw [hhs c rfl]
   cases hsq : seqAt (H c) o' with
   | no => trivial
   | some u xs =>
    simp only
    cases hset : setElem D u xs k f i.size sv with
    | none => trivial
    | some xs' =>
     simp only
     rintro ⟨hk, hn⟩
     subst hn
     rcases live_at hR.sat (c := c) (by intro e; rw [e] at hsq; cases hsq) (by intro e; rw [e] at hsq; cases hsq) with ⟨_, u', h⟩ | ⟨b, hb, hat⟩
     ·rw [h] at hsq
      cases o' <;> simp [seqAt] at hsq
      obtain ⟨rfl, h2⟩ := hsq
      cases h2
      simp at hk
     ·have e := eptr_den ha hb
      have hq := seqAt_spec (o := o') hat
      rw [hsq] at hq
      obtain ⟨cs, T, h1, h2, h3⟩ := hq
      obtain ⟨b1, b2, b3, b4, b5⟩ := setElem_spec hset hk hv h3
      have hkn : k * C.n u + C.n u ≤ xs.length * C.n u := by
       have := Nat.mul_le_mul_right (C.n u) hk
       rwa [Nat.succ_mul] at this
      refine store_run hR ht ho hb e h1 b2 (by omega) b5 fun w' cs' hL hw' hcs' => ?_
      -- the cells of the sequence, and what lies around it
      have hlv : ((cs.toList.drop o').take (xs.length * C.n u)).length = xs.length * C.n u := by
       simp only [List.length_take, List.length_drop, Array.length_toList]; omega
      generalize hkf : k * C.n u + f = g at *
      have hg : g + i.size ≤ xs.length * C.n u := by omega
      have b4' := b4.mono (w' := w') hL.F
      generalize hV : (cs.toList.drop o').take (xs.length * C.n u) = V at *
      have hto : (cs.toList.take o').length = o' := by simp; omega
      have hfull : cs'.toList = cs.toList.take o' ++ (V.take g ++ (a.eval ov).cells.toList ++ V.drop (g + i.size)) ++ cs.toList.drop (o' + xs.length * C.n u) := by
       rw [hcs', show o' + k * C.n u + f = o' + g by omega]
       have f1 : cs.toList.take (o' + g) = cs.toList.take o' ++ V.take g := by
        rw [List.take_add, ← hV, List.take_take, Nat.min_eq_left (by omega)]
       have f2 : cs.toList.drop (o' + g + i.size) = V.drop (g + i.size) ++ cs.toList.drop (o' + xs.length * C.n u) := by
        rw [← hV, List.drop_take]
        have f4 : cs.toList.drop (o' + xs.length * C.n u) = ((cs.toList.drop o').drop (g + i.size)).drop (xs.length * C.n u - (g + i.size)) := by
         rw [List.drop_drop, List.drop_drop]; congr 1; omega
        rw [f4, List.take_append_drop, List.drop_drop]
        congr 1
        omega
       rw [f1, f2]
       simp
      have hl2 : (V.take g ++ (a.eval ov).cells.toList ++ V.drop (g + i.size)).length = xs.length * C.n u := by
       simp only [List.length_append, List.length_take, List.length_drop, Array.length_toList, b2, hlv]; omega
      have hnew : (cs'.toList.drop o').take (xs.length * C.n u) = V.take g ++ (a.eval ov).cells.toList ++ V.drop (g + i.size) := by
       rw [hfull, List.append_assoc, List.drop_left' hto, List.take_left' hl2]
      cases hH : H c with
      | fresh => rw [hH] at hsq; cases hsq
      | dead => rw [hH] at hsq; cases hsq
      | obj ob => rw [hH] at hsq; cases hsq
      | rows u0 xs0 =>
       rw [hH] at hsq
       cases o' with
       | succ o' => simp [seqAt] at hsq
       | zero =>
        simp only [putSeq]
        rw [hH] at hat
        obtain ⟨cs2, T2, c1, _⟩ := hat
        obtain ⟨rfl, rfl⟩ := h1.inj c1.1
        have hu : u0 = u := by simp only [seqAt, Sq.some.injEq] at hsq; exact hsq.1
        subst hu
        refine ⟨cs', T, ⟨hw', c1.2⟩, ?_, ?_⟩
        ·rw [b1, ← Array.length_toList, hcs']
         simp only [List.length_append, List.length_take, List.length_drop, Array.length_toList, b2]
         omega
        ·rw [b1]
         simp only [List.drop_zero] at hnew
         rw [hnew]
         exact b4'
      | vart ty vs =>
       rw [hH] at hsq
       simp only [seqAt] at hsq
       cases hhit : hitW vs o' with
       | miss => simp [hhit] at hsq
       | cell x => simp [hhit] at hsq
       | elem u1 N xs1 k1 =>
        cases k1 with
        | succ k1 => simp [hhit] at hsq
        | zero =>
         simp [hhit] at hsq
         obtain ⟨rfl, hx1⟩ := hsq
         cases hx1
         simp only [putSeq]
         cases hsa : setArr vs o' u1 xs' with
         | none => obtain ⟨_, h7⟩ := setArr_some vs o' u1 N xs1 xs' hhit; rw [h7] at hsa; cases hsa
         | some vs' =>
          simp only
          rw [hH] at hat
          obtain ⟨cs2, T2, c1, c2⟩ := hat
          obtain ⟨rfl, rfl⟩ := h1.inj c1.1
          have hfin := setArr_spec vs o' u1 N xs1 xs' vs' cs.toList _ hhit hsa b1 c2 b4
          refine ⟨cs', T, ⟨hw', c1.2⟩, DenC.mono hL _ _ ?_⟩
          rw [hl2] at hfin
          rw [hfull]
          exact hfin
  | _ => trivial

end
end Go.SX
