/-
  SX, part E: the operations' soundness, one by one.
-/
import Derived.Test.YtiflflnmonljeaaGreatDoorSxC
set_option linter.unusedVariables false
set_option linter.unusedSimpArgs false
namespace Go.SX
open Go.RowKit
variable {C : Cod}
def Qf (P : Program) (t : TypeId) : Bool := match P.underlying t with
 | some (.struct _) => true
 | some (.array _ _) => true
 | _ => false
def iG (P : Program) (size : Nat) : TK → TypeDesc → Prop
 | .int k, d => d = .int k
 | .bool, d => d = .bool
 | .str, d => d = .string
 | .struct fs, d => ∃ F, d = .struct F ∧ F.toList.map (fun f => (f.offset, f.type)) = fs ∧ ∀ f ∈ fs, (P.info? f.2).isSome = true
 | .arr n e, d => d = .array n e ∧ ∃ ie, P.info? e = some ie ∧ size = n * ie.size
 | .slice e, d => d = .slice e
 | .ptr e, d => d = .pointer e
 | .uptr, d => d = .unsafePointer
 | .ifc, d => ∃ x, d = .interface x
 | .map k e, d => ∃ kt, d = .map kt e ∧ P.underlying kt = some (fB k)
 | .mapg ks e, d => ∃ kt, d = .map kt e ∧ ckB P 64 kt ks = true ∧ Qf P kt = true
 | .other, d => (match d with | .struct _ | .array _ _ => false | _ => true) = true
structure rY (P : Program) (D : aL C) (t : TypeId) (i : TI C) : Prop where
 info : ∃ info z, P.info? t = some info ∧ info.size = i.size ∧ info.bytes = i.bytes ∧ info.zero = some z ∧ z.cells.size = i.size ∧ ∀ w E, DenC D w E i.zero z.cells.toList
 und : ∃ d, P.underlying t = some d ∧ iG P i.size i.kind d
 pos : 0 < i.size
 code : ∀ u, i.code = some u → C.n u = i.size
 ctype : ∀ u t', i.code = some u → C.ty u = some t' → t' = t
 lies : i.typed = true → liesAt P P.depth t (i.size / P.cellsOf t) 0 t 1 = true
 zb : i.kind = .bool → ∃ info, P.info? t = some info ∧ info.zero = some (.bool false)
 eq : i.cks ≠ [] → i.kind.agg = true ∧ ckB P 64 t i.cks = true ∧ P.eqGuardType P.depth t = false
def bH (P : Program) (D : aL C) (tab : Tab C) : Prop := ∀ t i, tab t = some i → rY P D t i
def fX (P : Program) (D : aL C) (B : dZ) (σ : Nat → SV C) (H : Nat → HS C) (df : List Deferred) (a : Act) (w : World) (o : Oper) (v : SV C) (ws : List (Nat × HS C)) : Prop :=
 ∃ u w' E', ((execOp a.eval o).run P w = .ok (.value u) w' ∨ ((execOp a.eval o).run P w = .ok .skip w' ∧ u = undef)) ∧
  Rel D B E' σ (kH H ws) df a w' ∧ Den D w' E' v u
section
variable {P : Program} {D : aL C} {tab : Tab C} {B : dZ} {E : Env} {σ : Nat → SV C} {H : Nat → HS C} {df : List Deferred} {a : Act} {w : World}
theorem Td (v : Value) : q01 v = v.oneCell' := by cases v <;> rfl
theorem xA (v : Value) : Den D w E (xT v) v := by
 cases v with
 | int k n => exact .int k n
 | bool b => exact .bool b
 | string s => obtain ⟨⟨l⟩⟩ := s; exact .str l
 | agg c => trivial
 | tuple c => trivial
 | func f x y =>
  simp only [xT]
  by_cases hx : x.size = 0
  ·by_cases hy : y.size = 0
   ·rw [if_pos hx, if_pos hy]
    have h1 : x = #[] := Array.eq_empty_of_size_eq_zero hx
    have h2 : y = #[] := Array.eq_empty_of_size_eq_zero hy
    subst h1; subst h2
    simp only [Den, DenA]
    exact ⟨_, _, rfl, rfl, rfl⟩
   ·rw [if_pos hx, if_neg hy]; trivial
  ·rw [if_neg hx]; trivial
 | _ => exact .lit _ rfl
theorem N4 (v : Value) : (xT v : SV C).isArr = false := by
 cases v <;> try rfl
 simp only [xT]
 split
 ·split <;> rfl
 ·rfl
theorem wC : ∀ (l : List Value), J7 l = true → DenC D w E (vK l) l
 | [], _ => by simp [vK, DenC]
 | v :: l, h => by
  simp only [vK]
  simp only [J7] at h
  cases hv : q01 v with
  | false => simp [hv] at h
  | true =>
   simp only [hv] at h
   rw [aZ (N4 v)]
   exact ⟨v, l, rfl, (Td v) ▸ hv, xA v, wC l h⟩
theorem tY (v : Value) : Den D w E (ofV v) v := by
 cases v with
 | agg cs =>
  simp only [ofV]
  cases h : J7 cs.toList with
  | true => simp only [Den]; exact ⟨cs, rfl, wC _ h⟩
  | false => trivial
 | _ => simp only [ofV]; exact xA _
theorem Oe {F : Nat → Prop} (v : Value) (h : v.oneCell' = true) : eM D w F (Yi v) v := by
 cases v with
 | int k n => exact .int k n
 | bool b => exact .bool b
 | string s => exact .str s.data.toList
 | _ => exact .lit _ h
theorem Fo (hG : pD C w E) (g : Nat) : Den D w E (Ot g (C.glob g)) (.pointer (some ⟨g, 0, none⟩)) := by
 cases hc : C.glob g with
 | nil => exact trivial
 | cons v l =>
  obtain ⟨h1, ⟨cs, T, z, h2, h3⟩, h4⟩ := hG.1 g (by rw [hc]; simp)
  rw [hc] at h3 h4
  simp only [Ot, Den]
  refine ⟨g, 0, rfl, fun j pv hj => ⟨h1, ?_⟩⟩
  have hj' : ((v :: l).map Yi)[j]? = some pv := hj
  rw [List.getElem?_map] at hj'
  obtain ⟨u, hu, rfl⟩ := Option.map_eq_some_iff.1 hj'
  refine ⟨u, ?_, Oe u (h4 u (List.mem_of_getElem? hu))⟩
  rw [Nat.zero_add, cell_of_row w g j cs T z h2, ← Array.getElem?_toList, h3, hu]
theorem aR (h : Rel D B E σ H df a w) (x : Operand) : Den D w E (ev σ x) (a.eval x) := by
 cases x with
 | tmp t => exact h.den t
 | const v => exact tY v
 | global g => exact Fo h.sat.glob g
 | func f => simp only [ev, Act.eval, Den, DenA]; exact ⟨_, _, rfl, rfl, rfl⟩
theorem jD {t : TypeId} {i : TI C} (ht : rY P D t i) : (isAgg t).run P w = .ok i.kind.agg w := by
 obtain ⟨d, hu, hk⟩ := ht.und
 unfold isAgg
 rw [Sem.run_bind, run_underlying hu w]
 cases hkk : i.kind <;> rw [hkk] at hk <;> simp only [iG] at hk
 ·subst hk; rfl
 ·subst hk; rfl
 ·subst hk; rfl
 ·obtain ⟨F, rfl, _, _⟩ := hk; rfl
 ·obtain ⟨rfl, _⟩ := hk; rfl
 ·subst hk; rfl
 ·subst hk; rfl
 ·obtain ⟨kt, rfl, _⟩ := hk; rfl
 ·obtain ⟨kt, rfl, _⟩ := hk; rfl
 ·subst hk; rfl
 ·obtain ⟨x, rfl⟩ := hk; rfl
 ·cases d <;> simp_all [TK.agg]
theorem run_sizeOf {t : TypeId} {i : TI C} (ht : rY P D t i) : (sizeOf t).run P w = .ok i.size w := by
 obtain ⟨info, z, h1, h2, _⟩ := ht.info
 simp [sizeOf, typeInfo, h1, h2]
theorem hY {t : TypeId} {i : TI C} (ht : rY P D t i) (hg : i.kind.agg = true) (ad : Addr) (l : List Value) (hl : l.length = i.size)
  (hc : ∀ j v, l[j]? = some v → w.cell? (ad.add j) = some v) : (loadVar t ad).run P w = .ok (.agg l.toArray) w := by
 have := run_loadCells_list (P := P) w ad l hc
 simp [loadVar, jD ht, hg, run_sizeOf ht, ← hl, this]
theorem gU {t : TypeId} {i : TI C} (ht : rY P D t i) (hg : i.kind.agg = false) (ad : Addr) (v : Value) (hc : w.cell? ad = some v) :
  (loadVar t ad).run P w = .ok v w := by
 simp [loadVar, jD ht, hg, run_load, hc]
theorem gK (hs : Sat D w E H) {c : Nat} (hd : H c ≠ .dead) (hf : H c ≠ .fresh) : (E.β c = .virt ∧ ∃ u, H c = .rows u []) ∨ ∃ b, E.β c = .loc b ∧ (H c).at D w E b := by
 have := hs.ok c
 cases hb : E.β c with
 | fresh => rw [hb] at this; exact absurd this hf
 | dead => rw [hb] at this; exact absurd this hd
 | virt => rw [hb] at this; exact .inl ⟨rfl, this⟩
 | loc b => rw [hb] at this; exact .inr ⟨b, rfl, this⟩
theorem X9 (hs : Sat D w E H) {c : Nat} {ty : Option TypeId} {vs : List (SV C)} (hv : H c = .vart ty vs) : ∃ b cs T, E.β c = .loc b ∧ Kt ty w b cs T ∧ DenC D w E vs cs.toList := by
 rcases gK hs (c := c) (by rw [hv]; simp) (by rw [hv]; simp) with ⟨_, u, h⟩ | ⟨b, hb, h⟩
 ·rw [hv] at h; cases h
 ·rw [hv] at h
  obtain ⟨cs, T, h1, h2⟩ := h
  exact ⟨b, cs, T, hb, h1, h2⟩
theorem eX {c o b : Nat} {v : Value} (h : Den D w E (.ptr c o) v) (hb : E.β c = .loc b) : v = .pointer (some ⟨b, o, none⟩) := by
 simp only [Den, hb] at h; exact h
theorem mD {c o n i f b : Nat} {v : Value} (h : Den D w E (.eptr c o n i f) v) (hb : E.β c = .loc b) : v = .pointer (some ⟨b, o + i * n + f, none⟩) := by
 simp only [Den, hb] at h; exact h
theorem gC {b : Nat} {cs : Array Value} {T : TypeId} (h : Row w b cs T) (j : Nat) : w.cell? ⟨b, j, none⟩ = cs.toList[j]? := by
 obtain ⟨z, h, _⟩ := h
 rw [cell_of_row w b j cs T z h]; simp
def Xt (D : aL C) (w : World) (E : Env) (b : Nat) (o : Nat) : Sq C → Prop
 | .no => True
 | .some u xs => ∃ cs T, Row w b cs T ∧ o + xs.length * C.n u ≤ cs.size ∧ bE D w E.F (xs.flatMap (D.enc u)) ((cs.toList.drop o).take (xs.length * C.n u))
theorem gG {h : HS C} {b o : Nat} (hh : h.at D w E b) : Xt D w E b o (eA h o) := by
 cases h with
 | fresh => trivial
 | dead => trivial
 | obj o => trivial
 | rows u xs =>
  cases o with
  | zero =>
   obtain ⟨cs, T, h1, h2, h3⟩ := hh
   exact ⟨cs, T, h1.1, by omega, by simpa using h3⟩
  | succ o => trivial
 | vart _ vs =>
  obtain ⟨cs, T, ⟨h1, _⟩, h2⟩ := hh
  have := jG vs o cs.toList h2
  simp only [eA]
  cases hq : mM vs o with
  | miss => trivial
  | cell x => trivial
  | elem u N xs k =>
   cases k with
   | succ k => trivial
   | zero =>
    rw [hq] at this
    obtain ⟨a1, a2, a3, a4, a5⟩ := this
    simp only [Xt]
    refine ⟨cs, T, h1, by rw [a1]; simpa using a4, by rw [a1]; simpa using a5⟩
theorem C0 {b o : Nat} {u : C.U} {xs : List (C.El u)} (h : Xt D w E b o (.some u xs)) {k : Nat} (hk : k < xs.length) :
  ∀ j pv, (D.enc u (xs.getD k (C.dflt u)))[j]? = some pv → ∃ v, w.cell? ⟨b, o + k * C.n u + j, none⟩ = some v ∧ eM D w E.F pv v := by
 obtain ⟨cs, T, h1, h2, h3⟩ := h
 intro j pv hp
 have hx : xs[k]? = some (xs.getD k (C.dflt u)) := by simp [List.getD_eq_getElem?_getD, List.getElem?_eq_getElem hk]
 have hj : j < C.n u := by
  have := (List.getElem?_eq_some_iff.1 hp).1
  rwa [D.enc_len] at this
 have hf := eU (D := D) u xs k j _ hx hj
 rw [hp] at hf
 have hlt : k * C.n u + j < xs.length * C.n u := by
  have : (k + 1) * C.n u ≤ xs.length * C.n u := Nat.mul_le_mul_right _ hk
  rw [Nat.add_mul] at this
  omega
 have hlt2 : o + k * C.n u + j < cs.toList.length := by simp; omega
 refine ⟨cs.toList[o + k * C.n u + j], ?_, ?_⟩
 ·rw [gC h1, List.getElem?_eq_getElem hlt2]
 ·refine h3.2 _ _ _ hf ?_
  rw [List.getElem?_take, if_pos hlt, List.getElem?_drop, show o + (k * C.n u + j) = o + k * C.n u + j by omega, List.getElem?_eq_getElem hlt2]
theorem oP {α : Type} : ∀ (l : List α) (i : Nat), ixL l i = l[i]?
 | [], _ => by simp [ixL]
 | a :: l, 0 => by simp [ixL]
 | a :: l, i + 1 => by simp [ixL, oP l i]
theorem jB {α : Type} : ∀ (l : List α) (i : Nat) (r : List α), pH l i = some r → r = l.take i ∧ i ≤ l.length
 | l, 0, r, h => by cases l <;> (simp [pH] at h; subst h; simp)
 | [], i + 1, r, h => by simp [pH] at h
 | a :: l, i + 1, r, h => by
  simp only [pH] at h
  cases ht : pH l i with
  | none => simp [ht] at h
  | some q =>
   simp [ht] at h; subst h
   obtain ⟨h1, h2⟩ := jB l i q ht
   subst h1
   simp; omega
theorem jC {α : Type} : ∀ (l : List α) (i : Nat) (r : List α), oX l i = some r → r = l.drop i ∧ i ≤ l.length
 | l, 0, r, h => by cases l <;> (simp [oX] at h; subst h; simp)
 | [], i + 1, r, h => by simp [oX] at h
 | a :: l, i + 1, r, h => by
  simp only [oX] at h
  obtain ⟨h1, h2⟩ := jC l i r h
  exact ⟨by simpa using h1, by simp; omega⟩
theorem xO {l : List (PV C)} {vs : List Value} (hl : l.length = vs.length) (h : ∀ (j : Nat) (pv : PV C) (v : Value), l[j]? = some pv → vs[j]? = some v → eM D w E.F pv v) :
  DenC D w E (rP l) vs := by
 induction l generalizing vs with
 | nil =>
  have : vs = [] := List.eq_nil_of_length_eq_zero hl.symm
  simp [rP, DenC, this]
 | cons x l ih =>
  cases vs with
  | nil => simp at hl
  | cons v vs =>
   have h0 : eM D w E.F x v := h 0 x v (by simp) (by simp)
   simp only [rP, List.map_cons, DenC, Den]
   exact ⟨v, vs, rfl, h0.oneCell, h0, ih (by simpa using hl) fun j pv u hp hu => h (j + 1) pv u (by simpa using hp) (by simpa using hu)⟩
theorem wB (u : C.U) : ∀ (k : Nat) (l : List (PV C)) (xs : List (C.El u)), tZ D u k l = some xs → xs.length = k ∧ xs.flatMap (D.enc u) = l.take (k * C.n u) ∧ k * C.n u ≤ l.length
 | 0, l, xs, h => by simp [tZ] at h; subst h; simp
 | k + 1, l, xs, h => by
  simp only [tZ] at h
  cases h1 : pH l (C.n u) with
  | none => simp [h1] at h
  | some x =>
   cases h2 : oX l (C.n u) with
   | none => simp [h1, h2] at h
   | some r =>
    cases h3 : D.dec u x with
    | none => simp [h1, h2, h3] at h
    | some y =>
     cases h4 : tZ D u k r with
     | none => simp [h1, h2, h3, h4] at h
     | some ys =>
      simp [h1, h2, h3, h4] at h
      subst h
      obtain ⟨e1, f1⟩ := jB _ _ _ h1
      obtain ⟨e2, f2⟩ := jC _ _ _ h2
      have e3 := D.dec_ok _ _ _ h3
      obtain ⟨g1, g2, g3⟩ := wB u k r ys h4
      subst e1; subst e2
      refine ⟨by simp [g1], ?_, ?_⟩
      ·rw [List.flatMap_cons, e3, g2, Nat.add_mul, Nat.one_mul, Nat.add_comm, List.take_add]
      ·simp at g3; rw [Nat.add_mul]; omega
theorem kF {t : TypeId} {i : TI C} (ht : rY P D t i) {cells : List (PV C)} {f b o : Nat} {sv : SV C} (h : cV i cells f = some sv)
  (hc : ∀ j pv, cells[j]? = some pv → ∃ v, w.cell? ⟨b, o + j, none⟩ = some v ∧ eM D w E.F pv v) :
  ∃ v, (loadVar t ⟨b, o + f, none⟩).run P w = .ok v w ∧ Den D w E sv v := by
 unfold cV at h
 cases hg : i.kind.agg with
 | true =>
  simp only [hg] at h
  cases hd : oX cells f with
  | none => simp [hd] at h
  | some r =>
   cases htk : pH r i.size with
   | none => simp [hd, htk] at h
   | some l =>
    simp [hd, htk] at h
    subst h
    obtain ⟨h1, h2⟩ := jC _ _ _ hd
    obtain ⟨h3, h4⟩ := jB _ _ _ htk
    subst h1
    have hlen : l.length = i.size := by rw [h3]; simp at h4 ⊢; omega
    have hl : ∀ j, j < l.length → l[j]? = cells[f + j]? := fun j hj => by
     rw [h3, List.getElem?_take, if_pos (by omega), List.getElem?_drop]
    have hcell : ∀ j (hj : j < l.length), ∃ v, w.cell? ⟨b, o + f + j, none⟩ = some v ∧ eM D w E.F l[j] v := fun j hj => by
     have := hc (f + j) l[j] (by rw [← hl j hj, List.getElem?_eq_getElem hj])
     rwa [← Nat.add_assoc] at this
    let vs : List Value := List.ofFn (n := l.length) fun j => (hcell j.1 j.2).choose
    have hvl : vs.length = l.length := by simp [vs]
    have hv : ∀ j (hj : j < l.length), vs[j]? = some (hcell j hj).choose := fun j hj => by
     simp [vs, hj]
    refine ⟨.agg vs.toArray, ?_, ?_⟩
    ·refine hY ht hg _ vs (by omega) fun j v hjv => ?_
     have hj : j < l.length := hvl ▸ (List.getElem?_eq_some_iff.1 hjv).1
     rw [hv j hj] at hjv; cases hjv
     rw [Addr.add_lit]
     exact (hcell j hj).choose_spec.1
    ·simp only [Den]
     refine ⟨_, rfl, xO hvl.symm fun j pv v hp hjv => ?_⟩
     have hj : j < l.length := (List.getElem?_eq_some_iff.1 hp).1
     rw [List.getElem?_eq_getElem hj] at hp; cases hp
     simp only at hjv
     rw [hv j hj] at hjv; cases hjv
     exact (hcell j hj).choose_spec.2
 | false =>
  simp only [hg] at h
  rw [oP] at h
  cases hx : cells[f]? with
  | none => simp [hx] at h
  | some pv =>
   simp [hx] at h; subst h
   obtain ⟨v, h1, h2⟩ := hc f pv hx
   exact ⟨v, gU ht hg _ v h1, by simp only [Den]; exact h2⟩
theorem wH {t : TypeId} {i : TI C} (ht : rY P D t i) {vs : List (SV C)} {b o : Nat} {cs : Array Value} {T : TypeId} {sv : SV C} (h : lN D i vs o = .val sv)
  (hcs : Row w b cs T) (hd : DenC D w E vs cs.toList) :
  ∃ v, (loadVar t ⟨b, o, none⟩).run P w = .ok v w ∧ Den D w E sv v := by
 unfold lN at h
 cases hg : i.kind.agg with
 | true =>
  simp only [hg] at h
  cases hdw : iX vs o with
  | none => simp [hdw] at h
  | some r =>
   cases htw : iB r i.size with
   | none => simp [hdw, htw] at h
   | some l =>
    simp [hdw, htw] at h; subst h
    obtain ⟨h1, h2⟩ := eQ _ _ _ _ hdw hd
    obtain ⟨h3, h4⟩ := gJ _ _ _ _ htw h1
    refine ⟨.agg ((cs.toList.drop o).take i.size).toArray, ?_, ?_⟩
    ·refine hY ht hg _ _ (by simp at h4 ⊢; omega) fun j v hj => ?_
     rw [Addr.add_lit, gC hcs]
     rw [List.getElem?_take] at hj
     split at hj
     ·rwa [List.getElem?_drop] at hj
     ·cases hj
    ·simp only [Den]; exact ⟨_, rfl, by simpa using h3⟩
 | false =>
  simp only [hg] at h
  have hh := jG vs o cs.toList hd
  cases hq : mM vs o with
  | miss => simp [hq] at h
  | cell x =>
   simp [hq] at h; subst h
   rw [hq] at hh
   obtain ⟨v, h1, h2, h3⟩ := hh
   exact ⟨v, gU ht hg _ v (by rw [gC hcs]; exact h1), h3⟩
  | elem u N xs k =>
   simp only [hq] at h
   rw [hq] at hh
   obtain ⟨a1, a2, a3, a4, a5⟩ := hh
   rw [oP] at h
   cases hx : (D.enc u (xs.getD (k / C.n u) (C.dflt u)))[k % C.n u]? with
   | none => rw [hx] at h; simp at h
   | some pv =>
    rw [hx] at h; simp at h; subst h
    have hkd : k / C.n u < xs.length := by rw [a1]; exact (Nat.div_lt_iff_lt_mul (D.n_pos u)).2 a2
    have hsq : Xt D w E b (o - k) (.some u xs) := by
     refine ⟨cs, T, hcs, by rw [a1]; simpa using a4, by rw [a1]; exact a5⟩
    obtain ⟨v, h1, h2⟩ := C0 hsq hkd _ _ hx
    have e : o - k + k / C.n u * C.n u + k % C.n u = o := by
     have := Nat.div_add_mod k (C.n u)
     rw [Nat.mul_comm] at this
     omega
    rw [e] at h1
    exact ⟨v, gU ht hg _ v h1, by simp only [Den]; exact h2⟩
theorem G6 (hT : bH P D tab) (hs0 : Sat D w E H) {t : TypeId} {sx0 : SV C} {vx : Value} (hx : Den D w E sx0 vx) {hs : List (Nat × HS C)}
  (hhs : ∀ c, sx0.topId = some c → lk hs c = H c) :
  match mN D tab t sx0 hs with
  | .val v => ∃ u, (Instr.loadAt t vx).run P w = .ok u w ∧ Den D w E v u
  | .side p v => p → ∃ u, (Instr.loadAt t vx).run P w = .ok u w ∧ Den D w E v u
  | _ => True := by
 have key : ∀ (v : SV C), (∃ u, (Instr.loadAt t vx).run P w = .ok u w ∧ Den D w E v u) → (∃ u, (Instr.loadAt t vx).run P w = .ok u w ∧ Den D w E v u) := fun _ h => h
 unfold mN
 cases htab : tab t with
 | none => trivial
 | some i =>
  have ht := hT t i htab
  simp only
  generalize hsx : sx0 = sx at *
  cases sx with
  | ptr c o' =>
   simp only
   have hlk := hhs c rfl
   rw [hlk]
   cases hH : H c with
   | vart _ vs =>
    simp only
    obtain ⟨b, cs, T, hb, ⟨h1, _⟩, h2⟩ := X9 hs0 hH
    have e := eX hx hb
    split <;> first | trivial | skip
    ·rename_i v hv
     obtain ⟨u, h3, h4⟩ := wH ht hv h1 h2
     exact key v ⟨u, by simp [Instr.loadAt, Instr.sureAddr, e, h3], h4⟩
    ·rename_i p v hv
     exfalso
     unfold lN at hv
     revert hv
     (repeat' split) <;> simp
   | _ => trivial
  | eptr c o' n k f =>
   simp only
   have hlk := hhs c rfl
   rw [hlk]
   cases hsq : eA (H c) o' with
   | no => trivial
   | some u xs =>
    simp only
    unfold oS
    cases hlc : cV i (D.enc u (xs.getD k (C.dflt u))) f with
    | none => trivial
    | some v =>
     simp only
     rintro ⟨hk, hn⟩
     subst hn
     rcases gK hs0 (c := c) (by intro e; rw [e] at hsq; cases hsq) (by intro e; rw [e] at hsq; cases hsq) with ⟨_, u', h⟩ | ⟨b, hb, hat⟩
     ·rw [h] at hsq
      cases o' <;> simp [eA] at hsq
      obtain ⟨rfl, h2⟩ := hsq
      cases h2
      simp at hk
     ·have e := mD hx hb
      have hq := gG (o := o') hat
      rw [hsq] at hq
      obtain ⟨v', h3, h4⟩ := kF ht hlc (C0 hq hk)
      exact key v ⟨v', by simp [Instr.loadAt, Instr.sureAddr, e, h3], h4⟩
  | dptr cells f =>
   simp only
   simp only [Den] at hx
   obtain ⟨b, o', e, hc⟩ := hx
   unfold vQ
   cases hsq : i.seq with
   | false =>
    cases hlc : cV i cells f with
    | none => trivial
    | some v =>
     obtain ⟨v', h3, h4⟩ := kF ht hlc (fun j pv hp => (hc j pv hp).2)
     exact key v ⟨v', by simp [Instr.loadAt, Instr.sureAddr, e, h3], h4⟩
   | true =>
    cases hk : i.kind with
    | arr len el =>
     cases f with
     | succ f => trivial
     | zero =>
     cases hte : tab el with
     | none => simp only [hte]
     | some j =>
      cases hcode : j.code with
      | none => simp only [hte, hcode]
      | some u =>
       cases hda : tZ D u len cells with
       | none => simp only [hte, hcode, hda]
       | some xs =>
        simp only [hte, hcode, hda]
        obtain ⟨g1, g2, g3⟩ := wB u len cells xs hda
        have hn := (hT el j hte).code u hcode
        obtain ⟨d, _, hko⟩ := ht.und
        rw [hk] at hko
        obtain ⟨_, ie, hie, hsz⟩ := hko
        obtain ⟨info, _, hinfo, hisz, _⟩ := (hT el j hte).info
        rw [hie] at hinfo; cases hinfo
        have hisize : i.size = len * C.n u := by rw [hsz, hisz, hn]
        have hcell : ∀ q (hq : q < len * C.n u), ∃ v, w.cell? ⟨b, o' + q, none⟩ = some v ∧ eM D w E.F (cells[q]'(by omega)) v := fun q hq =>
         (hc q _ (List.getElem?_eq_getElem (by omega))).2
        let vs : List Value := List.ofFn (n := len * C.n u) fun q => (hcell q.1 q.2).choose
        have hvl : vs.length = len * C.n u := by simp [vs]
        have hv : ∀ q (hq : q < len * C.n u), vs[q]? = some (hcell q hq).choose := fun q hq => by simp [vs, hq]
        refine key _ ⟨.agg vs.toArray, ?_, ?_⟩
        ·have hrun := hY (w := w) ht (by rw [hk]; rfl) ⟨b, o', none⟩ vs (by omega) fun q v hqv => by
          have hq : q < len * C.n u := hvl ▸ (List.getElem?_eq_some_iff.1 hqv).1
          rw [hv q hq] at hqv; cases hqv
          rw [Addr.add_lit]
          exact (hcell q hq).choose_spec.1
         simp [Instr.loadAt, Instr.sureAddr, e, hrun]
        ·simp only [Den, DenC]
         refine ⟨_, rfl, g1, vs, [], by simp, ?_, rfl⟩
         rw [g2]
         refine ⟨by rw [List.length_take, hvl, Nat.min_eq_left g3], fun q pv v hp hqv => ?_⟩
         have hq : q < len * C.n u := hvl ▸ (List.getElem?_eq_some_iff.1 hqv).1
         rw [hv q hq] at hqv; cases hqv
         rw [List.getElem?_take, if_pos hq, List.getElem?_eq_getElem (by omega)] at hp
         cases hp
         exact (hcell q hq).choose_spec.2
    | _ => trivial
  | _ => trivial
theorem Ta (hT : bH P D tab) (hR : Rel D B E σ H df a w) {o : Oper} {t : TypeId} {x : Operand} (ho : o.op = .load t x) {hs : List (Nat × HS C)}
  (hhs : ∀ c, (ev σ x).topId = some c → lk hs c = H c) :
  match mN D tab t (ev σ x) hs with
  | .val v => fX P D B σ H df a w o v []
  | .side p v => p → fX P D B σ H df a w o v []
  | _ => True := by
 have h := G6 (P := P) (t := t) hT hR.sat (aR hR x) hhs
 have key : ∀ (v : SV C), (∃ u, (Instr.loadAt t (a.eval x)).run P w = .ok u w ∧ Den D w E v u) → fX P D B σ H df a w o v [] := by
  rintro v ⟨u, h1, h2⟩
  exact ⟨u, w, E, .inl (by simp [execOp, ho, h1]), hR, h2⟩
 generalize mN D tab t (ev σ x) hs = out at *
 cases out with
 | val v => exact key v h
 | side p v => exact fun hp => key v (h hp)
 | _ => trivial
end
end Go.SX
namespace Go.SX
open Go.RowKit
variable {C : Cod}
def bF (P : Program) (D : aL C) (B : dZ) (σ : Nat → SV C) (H : Nat → HS C) (df : List Deferred) (a : Act) (w : World) (o : Oper) : Out C → Prop
 | .stuck => True
 | .val v => fX P D B σ H df a w o v []
 | .side p v => p → fX P D B σ H df a w o v []
 | .mem v ws => fX P D B σ H df a w o v ws
 | .smem p v ws => p → fX P D B σ H df a w o v ws
 | .call f args => ∀ E, Rel D B E σ H df a w → ∃ vs, DenA D w E args vs ∧ (execOp a.eval o).run P w = (callFunc f vs.toArray).run P w
 | .may p v => ∃ b, (b = true → p) ∧ fX P D B σ H df a w o (v b) []
 | .ask q K W => ∀ r, q = some r → fX P D B σ H df a w o (K r) (W r)
 | .yieldc c args => ∀ E, Rel D B E σ H df a w → ∀ b, E.β c = .loc b → ∃ vs, DenA D w E args vs ∧ (execOp a.eval o).run P w = (Instr.yield b vs.toArray).run P w
section
variable {P : Program} {D : aL C} {tab : Tab C} {B : dZ} {E : Env} {σ : Nat → SV C} {H : Nat → HS C} {df : List Deferred} {a : Act} {w : World} {o : Oper}
theorem aH {v : SV C} (hR : Rel D B E σ H df a w) {u : Value} (h : (execOp a.eval o).run P w = .ok (.value u) w) (hd : Den D w E v u) : fX P D B σ H df a w o v [] :=
 ⟨u, w, E, .inl h, hR, hd⟩
theorem bV {k : IntKind} {n : Int} {v : Value} (h : Den D w E (.p (.int k n)) v) : v = .int k n := by
 simp only [Den] at h; cases h; rfl
theorem fZ {b : Bool} {v : Value} (h : Den D w E (.p (.bool b)) v) : v = .bool b := by
 simp only [Den] at h; cases h; rfl
theorem gL {l : List UInt8} {v : Value} (h : Den D w E (.p (.str l)) v) : v = .string ⟨⟨l⟩⟩ := by
 simp only [Den] at h; cases h; rfl
theorem bR {u v : Value} (h : Den D w E (.p (.lit u)) v) : v = u := by
 simp only [Den] at h; cases h; rfl
theorem dH (k : IntKind) (n : Int) : Den D w E (.p (.int k n)) (.int k n) := eM.int k n
theorem bJ (b : Bool) : Den D w E (.p (.bool b)) (.bool b) := eM.bool b
theorem wZ (l : List UInt8) : Den D w E (.p (.str l)) (.string ⟨⟨l⟩⟩) := eM.str l
theorem tB (l : List UInt8) : (⟨⟨l⟩⟩ : ByteArray).size = l.length := rfl
theorem J9 (l : List UInt8) : (⟨⟨l⟩⟩ : ByteArray).toList = l := by rw [ByteArray.toList_eq]
theorem Iw (a b : List UInt8) : (⟨⟨a⟩⟩ : ByteArray) ++ ⟨⟨b⟩⟩ = ⟨⟨a ++ b⟩⟩ := by
 apply ByteArray.ext
 simp
theorem Bg {k : IntKind} {n : Int} (hR : Rel D B E σ H df a w) (h : (execOp a.eval o).run P w = .ok (.value (.int k (k.wrap n))) w) : bF P D B σ H df a w o (Ur k n) := by
 unfold Ur
 cases k
 case i64 =>
  intro hin
  unfold InR at hin
  rw [hin] at h
  exact aH hR h (dH _ _)
 all_goals exact aH hR h (dH _ _)
theorem uT {wr : Bool} {k : IntKind} {n : Int} (hR : Rel D B E σ H df a w) (h : (execOp a.eval o).run P w = .ok (.value (.int k (k.wrap n))) w) : bF P D B σ H df a w o (Y5 wr k n) := by
 cases wr with
 | true => exact aH hR h (dH _ _)
 | false => exact Bg hR h
theorem Kb (x y : Int) : (x == y) = decide (x = y) := by by_cases h : x = y <;> simp [h]
theorem Hy {wr : Bool} {op : BinOp} {k : IntKind} {x y : Int} (hR : Rel D B E σ H df a w) {t yt : TypeId} {ox oy : Operand} (ho : o.op = .binOp op t ox oy yt)
  (hx : a.eval ox = .int k x) (hy : a.eval oy = .int k y) : bF P D B σ H df a w o (Pk wr op k x y) := by
 have h0 : (execOp a.eval o).run P w = (do let r ← binOp op t (.int k x) (.int k y); pure (Next.value r) : Sem Next).run P w := by
  simp [execOp, ho, hx, hy, eqGuard]
 cases op
 case add => exact uT hR (by rw [h0]; simp [binOp, Op.intArith])
 case sub => exact uT hR (by rw [h0]; simp [binOp, Op.intArith])
 case mul => exact uT hR (by rw [h0]; simp [binOp, Op.intArith])
 case quo =>
  rintro ⟨hy0, hin⟩
  unfold InR at hin
  exact aH hR (u := .int k (x.tdiv y)) (by rw [h0]; simp [binOp, Op.intDiv, hy0, hin]) (dH _ _)
 case rem =>
  intro hy0
  exact aH hR (u := .int k (x.tmod y)) (by rw [h0]; simp [binOp, Op.intDiv, hy0]) (dH _ _)
 case and => exact aH hR (u := .int k (bL .and k x y)) (by rw [h0]; simp [binOp, Op.intBits, bL]) (dH _ _)
 case or => exact aH hR (u := .int k (bL .or k x y)) (by rw [h0]; simp [binOp, Op.intBits, bL]) (dH _ _)
 case xor => exact aH hR (u := .int k (bL .xor k x y)) (by rw [h0]; simp [binOp, Op.intBits, bL]) (dH _ _)
 case andNot => exact aH hR (u := .int k (bL .andNot k x y)) (by rw [h0]; simp [binOp, Op.intBits, bL]) (dH _ _)
 case shl => trivial
 case shr => trivial
 case eql => exact aH hR (u := .bool (decide (x = y))) (by rw [h0]; simp [binOp, Op.intCmp, Kb]) (bJ _)
 case neq => exact aH hR (u := .bool (!decide (x = y))) (by rw [h0]; simp [binOp, Op.intCmp, Kb, bne]) (bJ _)
 case lss => exact aH hR (u := .bool (decide (x < y))) (by rw [h0]; simp [binOp, Op.intCmp]) (bJ _)
 case leq => exact aH hR (u := .bool (decide (x ≤ y))) (by rw [h0]; simp [binOp, Op.intCmp]) (bJ _)
 case gtr => exact aH hR (u := .bool (decide (y < x))) (by rw [h0]; simp [binOp, Op.intCmp]) (bJ _)
 case geq => exact aH hR (u := .bool (decide (y ≤ x))) (by rw [h0]; simp [binOp, Op.intCmp]) (bJ _)
theorem Kc {op : BinOp} {x y : List UInt8} (hR : Rel D B E σ H df a w) {t yt : TypeId} {ox oy : Operand} (ho : o.op = .binOp op t ox oy yt)
  (hx : a.eval ox = .string ⟨⟨x⟩⟩) (hy : a.eval oy = .string ⟨⟨y⟩⟩) : bF P D B σ H df a w o (Qk op x y) := by
 have h0 : (execOp a.eval o).run P w = (do let r ← binOp op t (.string ⟨⟨x⟩⟩) (.string ⟨⟨y⟩⟩); pure (Next.value r) : Sem Next).run P w := by
  simp [execOp, ho, hx, hy, eqGuard]
 cases op
 case add =>
  intro hl
  refine aH hR (u := .string ⟨⟨x ++ y⟩⟩) ?_ (wZ _)
  rw [h0]
  have : ¬ (IntKind.i64.max < ((x.length + y.length : Nat) : Int)) := by
   have : IntKind.i64.max = 9223372036854775807 := by decide
   omega
  simp only [binOp, Op.stringOp, tB, Sem.run_bind, gt_iff_lt, if_neg this, Sem.run_pure, Result.andThen_ok, Iw]
 all_goals first | trivial | skip
 case eql => exact aH hR (u := .bool (decide (x = y))) (by rw [h0]; simp [binOp, Op.stringOp, Bool.beq_eq_decide_eq]) (bJ _)
 case neq => exact aH hR (u := .bool (!decide (x = y))) (by rw [h0]; simp [binOp, Op.stringOp, Bool.beq_eq_decide_eq]) (bJ _)
 case lss => exact aH hR (u := .bool (fV x y)) (by rw [h0]; simp [binOp, Op.stringOp, fV, J9]) (bJ _)
 case leq => exact aH hR (u := .bool (fV x y || decide (x = y))) (by rw [h0]; simp [binOp, Op.stringOp, fV, Bool.beq_eq_decide_eq]) (bJ _)
 case gtr => exact aH hR (u := .bool !(fV x y || decide (x = y))) (by rw [h0]; simp [binOp, Op.stringOp, fV, Bool.beq_eq_decide_eq]) (bJ _)
 case geq => exact aH hR (u := .bool !(fV x y)) (by rw [h0]; simp [binOp, Op.stringOp, fV, J9]) (bJ _)
theorem iO (t : TypeId) (x y : Bool) (d : Nat) (h : P.underlying t = some .bool) : (Op.equalIn (d + 1) t (.bool x) (.bool y)).run P w = .ok (x == y) w := by
 simp [Op.equalIn, run_underlying h]
theorem Lw (A : Aux C D) (hT : bH P D tab) (hR : Rel D B E σ H df a w) {op : BinOp} {t yt : TypeId} {ox oy : Operand} (ho : o.op = .binOp op t ox oy yt) {i : TI C} (hi : tab t = some i) (hne : i.cks ≠ []) {vs ws : List (SV C)}
  (hx : Den D w E (.agg vs) (a.eval ox)) (hy : Den D w E (.agg ws) (a.eval oy)) : bF P D B σ H df a w o (Q9 A op i vs ws) := by
 simp only [Den] at hx hy
 obtain ⟨cs, ex, hcs⟩ := hx
 obtain ⟨ds, ey, hds⟩ := hy
 have ht := hT t i hi
 obtain ⟨hag, hck, hgt⟩ := ht.eq hne
 obtain ⟨d, hu, hk⟩ := ht.und
 have hVof : ∀ cs : Array Value, Vof P t (.agg cs) cs.toList := by
  intro cs
  cases hkk : i.kind <;> rw [hkk] at hag hk <;> simp [TK.agg] at hag <;> simp only [iG] at hk
  ·obtain ⟨F, rfl, _⟩ := hk; simp only [Vof, hu]
  ·obtain ⟨rfl, _⟩ := hk; simp only [Vof, hu]
 have hrun : ∀ b, iU A i.cks vs ws = some b → (Op.equal t (.agg cs) (.agg ds)).run P w = .ok b w := by
  intro b hb
  obtain ⟨k1, k2, k3⟩ := Cb A i.cks vs ws b cs.toList ds.toList hb hcs hds
  have := X6 (P := P) 9936 64 t i.cks hck w (.agg cs) (.agg ds) cs.toList ds.toList (hVof cs) (hVof ds) k1 k2
  rw [show Op.equal t (.agg cs) (.agg ds) = Op.equalIn (9936 + 64) t (.agg cs) (.agg ds) from rfl, this]
  congr 1
  rw [Bool.eq_iff_iff]; simp [k3]
 unfold Q9
 have hpg : program.run P w = .ok P w := rfl
 split
 ·cases hb : iU A i.cks vs ws with
  | none => trivial
  | some b =>
   refine aH hR (u := .bool b) ?_ (bJ _)
   simp [execOp, ho, ex, ey, eqGuard, hpg, hgt, binOp, hrun b hb]
 ·cases hb : iU A i.cks vs ws with
  | none => trivial
  | some b =>
   refine aH hR (u := .bool !b) ?_ (bJ _)
   simp [execOp, ho, ex, ey, eqGuard, hpg, hgt, binOp, hrun b hb]
 ·trivial
theorem Xp (A : Aux C D) (hT : bH P D tab) (hR : Rel D B E σ H df a w) {op : BinOp} {t yt : TypeId} {ox oy : Operand} (ho : o.op = .binOp op t ox oy yt) :
  bF P D B σ H df a w o (Rv A tab op t (ev σ ox) (ev σ oy)) := by
 have hx := aR hR ox
 have hy := aR hR oy
 generalize ev σ ox = sx at *
 generalize ev σ oy = sy at *
 unfold Rv
 split
 ·rename_i vs ws
  split
  ·rename_i i hi
   split
   ·trivial
   ·rename_i c l hc
    exact Lw A hT hR ho hi (by rw [hc]; simp) hx hy
  ·trivial
 ·rename_i k x k' y
  have ex := bV hx
  have ey := bV hy
  have h0 : (execOp a.eval o).run P w = (do let r ← binOp op t (.int k x) (.int k' y); pure (Next.value r) : Sem Next).run P w := by
   simp [execOp, ho, ex, ey, eqGuard]
  split
  ·intro hy0
   refine aH hR (u := .int k (iT k x y)) ?_ (dH _ _)
   rw [h0]
   have : ¬ y < 0 := by omega
   simp [binOp, Op.shift, this, iT]
  ·intro hy0
   refine aH hR (u := .int k (nO k x y)) ?_ (dH _ _)
   rw [h0]
   have : ¬ y < 0 := by omega
   simp [binOp, Op.shift, this, nO]
  ·split
   ·rename_i hk
    subst hk
    exact Hy hR ho ex ey
   ·trivial
 ·rename_i x y
  exact Kc hR ho (gL hx) (gL hy)
 ·rename_i x y
  have ex := fZ hx
  have ey := fZ hy
  split
  ·rename_i i htab
   have ht := hT t i htab
   split
   ·rename_i hk
    obtain ⟨d, hu, hkk⟩ := ht.und
    rw [hk] at hkk
    simp only [iG] at hkk
    subst hkk
    split
    ·refine aH hR (u := .bool (x == y)) ?_ (bJ _)
     simp [execOp, ho, ex, ey, eqGuard, binOp, Op.equal, Op.maxDepth, iO t x y 9999 hu]
    ·refine aH hR (u := .bool !(x == y)) ?_ (bJ _)
     simp [execOp, ho, ex, ey, eqGuard, binOp, Op.equal, Op.maxDepth, iO t x y 9999 hu]
    ·trivial
   ·trivial
  ·trivial
 ·trivial
theorem q0g (hR : Rel D B E σ H df a w) {op : UnOp} {t : TypeId} {ox : Operand} (ho : o.op = .unOp op t ox) : bF P D B σ H df a w o (q07 op (ev σ ox)) := by
 have hx := aR hR ox
 generalize ev σ ox = sx at *
 unfold q07
 split
 ·rename_i k n
  have ex := bV hx
  exact Bg hR (by simp [execOp, ho, ex, Op.unary, Op.intArith])
 ·rename_i b
  have ex := fZ hx
  exact aH hR (u := .bool !b) (by simp [execOp, ho, ex, Op.unary]) (bJ _)
 ·rename_i k n
  have ex := bV hx
  exact aH hR (u := .int k (bL .xor k (if k.signed then -1 else k.max) n)) (by simp [execOp, ho, ex, Op.unary, Op.intBits, bL]) (dH _ _)
 ·trivial
theorem Ec (hT : bH P D tab) (hR : Rel D B E σ H df a w) {src dst : TypeId} {ox : Operand} (ho : o.op = .convert src dst ox) :
  bF P D B σ H df a w o (uU tab src dst (ev σ ox)) := by
 have hx := aR hR ox
 generalize ev σ ox = sx at *
 unfold uU
 cases hsrc : tab src with
 | none => trivial
 | some i0 =>
 cases htab : tab dst with
 | none => trivial
 | some j =>
  simp only
  have ht := hT dst j htab
  obtain ⟨ds, hds, _⟩ := (hT src i0 hsrc).und
  split
  ·rename_i k k' n hk
   obtain ⟨d, hu, hkk⟩ := ht.und
   rw [hk] at hkk
   simp only [iG] at hkk
   subst hkk
   have ex := bV hx
   have h0 : (execOp a.eval o).run P w = .ok (.value (.int k (k.wrap n))) w := by
    simp [execOp, ho, ex, convert, run_underlying hds, run_underlying hu, Conv.intToInt]
   split
   ·intro hin
    unfold InR at hin
    rw [hin] at h0
    exact aH hR h0 (dH _ _)
   ·exact aH hR h0 (dH _ _)
  ·trivial
theorem G0 {t : TypeId} {i : TI C} (ht : rY P D t i) {fs : List (Nat × TypeId)} (hk : i.kind = .struct fs) : ∃ F, P.underlying t = some (.struct F) ∧ F.toList.map (fun f => (f.offset, f.type)) = fs := by
 obtain ⟨d, hu, hkk⟩ := ht.und
 rw [hk] at hkk
 obtain ⟨F, rfl, hF, _⟩ := hkk
 exact ⟨F, hu, hF⟩
theorem arr_of {t : TypeId} {i : TI C} (ht : rY P D t i) {n : Nat} {e : TypeId} (hk : i.kind = .arr n e) : P.underlying t = some (.array n e) := by
 obtain ⟨d, hu, hkk⟩ := ht.und
 rw [hk] at hkk
 simp only [iG] at hkk
 rw [hu, hkk.1]
theorem Nw {t : TypeId} {i : TI C} (ht : rY P D t i) {n : Nat} {e : TypeId} (hk : i.kind = .arr n e) : ∃ ie, P.info? e = some ie ∧ i.size = n * ie.size := by
 obtain ⟨d, hu, hkk⟩ := ht.und
 rw [hk] at hkk
 exact hkk.2
theorem bN {t : TypeId} {i : TI C} (ht : rY P D t i) {e : TypeId} (hk : i.kind = .slice e) : P.underlying t = some (.slice e) := by
 obtain ⟨d, hu, hkk⟩ := ht.und
 rw [hk] at hkk
 simp only [iG] at hkk
 rw [hu, hkk]
theorem vY {t : TypeId} {i : TI C} (ht : rY P D t i) (hk : i.kind = .str) : P.underlying t = some .string := by
 obtain ⟨d, hu, hkk⟩ := ht.und
 rw [hk] at hkk
 simp only [iG] at hkk
 rw [hu, hkk]
theorem N2 {F : Array Field} {fs : List (Nat × TypeId)} (hF : F.toList.map (fun f => (f.offset, f.type)) = fs) {f off : Nat} {ft : TypeId} (h : ixL fs f = some (off, ft)) :
  ∃ fd, F[f]? = some fd ∧ fd.offset = off ∧ fd.type = ft := by
 rw [oP, ← hF, List.getElem?_map] at h
 cases hq : F.toList[f]? with
 | none => simp [hq] at h
 | some fd =>
  simp [hq] at h
  exact ⟨fd, by simpa using hq, h.1, h.2⟩
theorem wM {fd : Field} {j : TI C} (ht : rY P D fd.type j) (b o' : Nat) : (fieldPlace ⟨b, o', none⟩ fd).run P w = .ok ⟨b, o' + fd.offset, none⟩ w := by
 have := ht.pos
 simp [fieldPlace, run_sizeOf ht, Nat.pos_iff_ne_zero.1 this, Addr.add_lit]
theorem bO {h : HS C} {x : Out C} (hx : h.live = true → bF P D B σ H df a w o x) : bF P D B σ H df a w o (dT h x) := by
 unfold dT
 cases hl : h.live with
 | true => exact hx hl
 | false => trivial
theorem mY {h : HS C} (hl : h.live = true) : h ≠ .dead ∧ h ≠ .fresh := by
 cases h <;> simp [HS.live] at hl <;> simp
theorem jX (hs : Sat D w E H) {c o : Nat} (hl : (H c).live = true) {v : Value} (h : Den D w E (.ptr c o) v) : ∃ b, E.β c = .loc b := by
 have hn := mY hl
 rcases gK hs hn.1 hn.2 with ⟨hv, _⟩ | ⟨b, hb, _⟩
 ·simp only [Den, hv] at h
 ·exact ⟨b, hb⟩
theorem oV (hs : Sat D w E H) {c o n i f : Nat} (hl : (H c).live = true) {v : Value} (h : Den D w E (.eptr c o n i f) v) : ∃ b, E.β c = .loc b := by
 have hn := mY hl
 rcases gK hs hn.1 hn.2 with ⟨hv, _⟩ | ⟨b, hb, _⟩
 ·simp only [Den, hv] at h
 ·exact ⟨b, hb⟩
theorem bT (hs : Sat D w E H) {c o n off len : Nat} (hl : (H c).live = true) {v : Value} (h : Den D w E (.slice c o n off len) v) :
  (len = 0 ∧ ((∃ ad, v = .slice ad 0 0 ∧ E.β c = .virt) ∨ ∃ a b, v = .slice a 0 0 ∧ E.β c = .loc b)) ∨
  ∃ b cap cs T, E.β c = .loc b ∧ v = .slice (some ⟨b, o + off * n, none⟩) len cap ∧ len ≤ cap ∧ Row w b cs T ∧ o + (off + cap) * n ≤ cs.size := by
 have hn := mY hl
 rcases gK hs hn.1 hn.2 with ⟨hv, _⟩ | ⟨b, hb, _⟩
 ·simp only [Den, hv] at h
  obtain ⟨ad, h1, h2⟩ := h
  exact .inl ⟨h2, .inl ⟨ad, h1, hv⟩⟩
 ·simp only [Den, hb] at h
  rcases h with ⟨h1, ad, h2⟩ | ⟨cap, cs, T, h⟩
  ·exact .inl ⟨h1, .inr ⟨ad, b, h2, hb⟩⟩
  ·exact .inr ⟨b, cap, cs, T, hb, h⟩
theorem I6 (hT : bH P D tab) (hR : Rel D B E σ H df a w) {s : TypeId} {ox : Operand} {f : Nat} (ho : o.op = .fieldAddr s ox f) {hs : List (Nat × HS C)} (hhs : ∀ c, (ev σ ox).topId = some c → lk hs c = H c) :
  bF P D B σ H df a w o (nP tab s (ev σ ox) f hs) := by
 have hx := aR hR ox
 generalize ev σ ox = sx at *
 unfold nP
 cases htab : tab s with
 | none => trivial
 | some i =>
  simp only
  have ht := hT s i htab
  split
  ·rename_i fs hk
   obtain ⟨F, hu, hF⟩ := G0 ht hk
   cases hf : ixL fs f with
   | none => trivial
   | some p =>
    obtain ⟨off, ft⟩ := p
    obtain ⟨fd, h1, h2, h3⟩ := N2 hF hf
    simp only
    cases htf : tab ft with
    | none => trivial
    | some j =>
     have hj := hT ft j htf
     rw [← h3] at hj
     simp only
     have key : ∀ b o', a.eval ox = .pointer (some ⟨b, o', none⟩) → (execOp a.eval o).run P w = .ok (.value (.pointer (some ⟨b, o' + off, none⟩))) w := fun b o' e => by
      simp [execOp, ho, e, Instr.fieldAt, run_underlying hu, h1, Instr.sureAddr, wM hj, h2]
     split
     ·rename_i c o'
      refine bO fun hl => ?_
      rw [hhs c rfl] at hl
      obtain ⟨b, hb⟩ := jX hR.sat hl hx
      have e := eX hx hb
      exact aH hR (key b o' e) (by simp only [Den, hb])
     ·rename_i c o' n k g
      refine bO fun hl => ?_
      rw [hhs c rfl] at hl
      obtain ⟨b, hb⟩ := oV hR.sat hl hx
      have e := mD hx hb
      exact aH hR (key b _ e) (by simp only [Den, hb, Nat.add_assoc])
     ·rename_i cells g
      simp only [Den] at hx
      obtain ⟨b, o', e, hc⟩ := hx
      refine aH hR (key b _ e) ?_
      simp only [Den]
      exact ⟨b, o', by rw [Nat.add_assoc], hc⟩
     ·trivial
  ·trivial
end
end Go.SX
namespace Go.SX
open Go.RowKit
variable {C : Cod}
section
variable {P : Program} {D : aL C} {tab : Tab C} {B : dZ} {E : Env} {σ : Nat → SV C} {H : Nat → HS C} {df : List Deferred} {a : Act} {w : World} {o : Oper}
theorem Cx {t : TypeId} {i : TI C} (ht : rY P D t i) {vs : List (SV C)} {off : Nat} {sv : SV C} {cs : Array Value} (h : Tx i vs off = some sv) (hd : DenC D w E vs cs.toList) :
  ∃ v, (part t cs off).run P w = .ok v w ∧ Den D w E sv v := by
 unfold Tx at h
 cases hg : i.kind.agg with
 | true =>
  simp only [hg] at h
  cases hdw : iX vs off with
  | none => simp [hdw] at h
  | some r =>
   cases htw : iB r i.size with
   | none => simp [hdw, htw] at h
   | some l =>
    simp [hdw, htw] at h; subst h
    obtain ⟨h1, h2⟩ := eQ _ _ _ _ hdw hd
    obtain ⟨h3, h4⟩ := gJ _ _ _ _ htw h1
    refine ⟨.agg (cs.extract off (off + i.size)), by simp [part, jD ht, hg, run_sizeOf ht], ?_⟩
    simp only [Den]
    refine ⟨_, rfl, ?_⟩
    rw [Array.toList_extract]
    simpa [List.extract_eq_take_drop] using h3
 | false =>
  simp only [hg] at h
  have hh := jG vs off cs.toList hd
  cases hq : mM vs off with
  | miss => simp [hq] at h
  | elem u N xs k => simp [hq] at h
  | cell x =>
   simp [hq] at h; subst h
   rw [hq] at hh
   obtain ⟨v, h1, h2, h3⟩ := hh
   have h1' : cs[off]? = some v := by simpa using h1
   exact ⟨v, by simp [part, jD ht, hg, h1'], h3⟩
theorem Lc (hT : bH P D tab) (hR : Rel D B E σ H df a w) {s : TypeId} {ox : Operand} {f : Nat} (ho : o.op = .field s ox f) :
  bF P D B σ H df a w o (R4 tab s (ev σ ox) f) := by
 have hx := aR hR ox
 generalize ev σ ox = sx at *
 unfold R4
 cases htab : tab s with
 | none => trivial
 | some i =>
  simp only
  have ht := hT s i htab
  split
  ·rename_i fs hk
   obtain ⟨F, hu, hF⟩ := G0 ht hk
   cases hf : ixL fs f with
   | none => trivial
   | some p =>
    obtain ⟨off, ft⟩ := p
    obtain ⟨fd, h1, h2, h3⟩ := N2 hF hf
    simp only
    cases htf : tab ft with
    | none => trivial
    | some j =>
     have hj := hT ft j htf
     simp only
     split
     ·rename_i vs
      simp only [Den] at hx
      obtain ⟨cs, e, hd⟩ := hx
      unfold Xc
      split
      ·rename_i sv hsv
       obtain ⟨v, h4, h5⟩ := Cx (w := w) hj hsv hd
       exact aH hR (by simp [execOp, ho, e, Instr.field, run_underlying hu, h1, asAgg, h2, h3, h4]) h5
      ·trivial
     ·trivial
  ·trivial
theorem pO {t e : TypeId} {j : TI C} {len : Nat} (hu : P.underlying t = some (.array len e)) (hj : rY P D e j) {k : IntKind} {n : Int} {b o' : Nat} (h0 : 0 ≤ n) (h1 : n < len) :
  (Instr.indexAt t (.pointer (some ⟨b, o', none⟩)) (.int k n)).run P w = .ok (.pointer (some ⟨b, o' + n.toNat * j.size, none⟩)) w := by
 have : 0 ≤ n ∧ n < (len : Int) := ⟨h0, h1⟩
 simp [Instr.indexAt, asIntOf, run_underlying hu, Instr.sureAddr, this, run_sizeOf hj, Addr.add_lit]
theorem eT {t e : TypeId} {j : TI C} (hu : P.underlying t = some (.slice e)) (hj : rY P D e j) {k : IntKind} {n : Int} {b o' len cap : Nat} (h0 : 0 ≤ n) (h1 : n < len) :
  (Instr.indexAt t (.slice (some ⟨b, o', none⟩) len cap) (.int k n)).run P w = .ok (.pointer (some ⟨b, o' + n.toNat * j.size, none⟩)) w := by
 have : 0 ≤ n ∧ n < (len : Int) := ⟨h0, h1⟩
 simp [Instr.indexAt, asIntOf, run_underlying hu, this, run_sizeOf hj, Addr.add_lit]
theorem M7 {q : IntKind} : ∀ {l : List (PV C)}, M8 q l = true → ∀ {i : Nat}, i < l.length → l[i]? = some (.int q (C7 l i))
 | [], _, i, hi => by simp at hi
 | x :: l, h, i, hi => by
  cases x with
  | int k n =>
   simp only [M8] at h
   split at h
   ·rename_i e _
    subst e
    cases i with
    | zero => rfl
    | succ i => simpa [C7] using M7 h (by simpa using hi)
   ·cases h
  | _ => simp [M8] at h
theorem I5 (hT : bH P D tab) (hR : Rel D B E σ H df a w) {t : TypeId} {ox oi : Operand} (ho : o.op = .indexAddr t ox oi) {hs : List (Nat × HS C)} (hhs : ∀ c, (ev σ ox).topId = some c → lk hs c = H c) :
  bF P D B σ H df a w o (mV D tab t (ev σ ox) (ev σ oi) hs) := by
 have hx := aR hR ox
 have hi := aR hR oi
 generalize ev σ ox = sx at *
 generalize ev σ oi = si at *
 unfold mV
 split
 ·rename_i i ik n htab
  have ht := hT t i htab
  have ei := bV hi
  split
  ·rename_i len e hk
   have hu := arr_of ht hk
   cases hte : tab e with
   | none => trivial
   | some j =>
    have hj := hT e j hte
    simp only
    have key : ∀ b o', a.eval ox = .pointer (some ⟨b, o', none⟩) → 0 ≤ n → n < len → (execOp a.eval o).run P w = .ok (.value (.pointer (some ⟨b, o' + n.toNat * j.size, none⟩))) w := fun b o' e h0 h1 => by
     simp [execOp, ho, e, ei, pO (w := w) hu hj h0 h1]
    split
    ·rename_i c o'
     split
     ·rename_i u xs hsq
      rintro ⟨h0, h1, h2, h3⟩
      rw [hhs c rfl] at hsq
      have hl : (H c).live = true := by cases hH : H c <;> rw [hH] at hsq <;> first | rfl | (simp [eA] at hsq)
      obtain ⟨b, hb⟩ := jX hR.sat hl hx
      refine aH hR (key b o' (eX hx hb) h0 h1) ?_
      simp only [Den, hb, h2, Nat.add_zero]
     ·refine bO fun hl => ?_
      rw [hhs c rfl] at hl
      rintro ⟨h0, h1⟩
      obtain ⟨b, hb⟩ := jX hR.sat hl hx
      refine aH hR (key b o' (eX hx hb) h0 h1) ?_
      simp only [Den, hb]
    ·rename_i c o' m l f
     refine bO fun hl => ?_
     rw [hhs c rfl] at hl
     rintro ⟨h0, h1⟩
     obtain ⟨b, hb⟩ := oV hR.sat hl hx
     refine aH hR (key b _ (mD hx hb) h0 h1) ?_
     simp only [Den, hb, Nat.add_assoc]
    ·rename_i cells f
     split
     ·rintro ⟨h0, h1⟩
      simp only [Den] at hx
      obtain ⟨b, o', e, hc⟩ := hx
      refine aH hR (key b _ e h0 h1) ?_
      simp only [Den]
      exact ⟨b, o', by rw [Nat.add_assoc], hc⟩
     ·split
      ·split
       ·rename_i q hq hall
        rintro ⟨h0, h1, h2, h3⟩
        simp only [Den] at hx
        obtain ⟨b, o', e, hc⟩ := hx
        refine aH hR (key b _ e h0 h1) ?_
        simp only [Den]
        refine ⟨b, o' + (f + n.toNat), by rw [h2]; simp [Nat.add_assoc], fun jj pv hp => ?_⟩
        have hjj : jj = 0 := by
         cases jj with
         | zero => rfl
         | succ jj => simp at hp
        subst hjj
        simp at hp
        subst hp
        have := hc (f + n.toNat) _ (M7 hall (by omega))
        simpa [Nat.add_assoc] using this
       ·trivial
      ·trivial
    ·trivial
  ·rename_i e hk
   have hu := bN ht hk
   cases hte : tab e with
   | none => trivial
   | some j =>
    have hj := hT e j hte
    simp only
    split
    ·rename_i u xs
     rintro ⟨h0, h1, h2⟩
     simp only [Den] at hx
     have hlt : n.toNat < xs.length := by omega
     generalize hxx : a.eval ox = vx at hx
     cases hx with
     | dslNil => simp at hlt
     | dsl _ _ b o' cap cv hF hc hcell hden =>
      refine aH hR (u := .pointer (some ⟨b, o' + n.toNat * j.size, none⟩)) ?_ ?_
      ·simp [execOp, ho, hxx, ei, eT (w := w) hu hj h0 h1]
      ·simp only [Den]
       refine ⟨b, o' + n.toNat * j.size, by simp, fun jj pv hp => ?_⟩
       have hxs : xs[n.toNat]? = some (xs.getD n.toNat (C.dflt u)) := by simp [List.getD_eq_getElem?_getD, List.getElem?_eq_getElem hlt]
       refine ⟨hF (fun e => by rw [e] at hlt; simp at hlt), _, ?_, hden _ _ hxs _ _ hp⟩
       rw [h2]
       exact hcell _ _ hxs _ _ hp
    ·rename_i c o' m off len
     split
     ·refine bO fun hl => ?_
      rw [hhs c rfl] at hl
      rintro ⟨h0, h1, h2⟩
      rcases bT hR.sat hl hx with ⟨h3, _⟩ | ⟨b, cap, cs, T, hb, e, _⟩
      ·subst h3; omega
      ·refine aH hR (u := .pointer (some ⟨b, o' + off * m + n.toNat * j.size, none⟩)) ?_ ?_
       ·simp [execOp, ho, e, ei, eT (w := w) hu hj h0 h1]
       ·simp only [Den, hb, h2, Nat.add_mul, Nat.add_assoc]
     ·refine bO fun hl => ?_
      rw [hhs c rfl] at hl
      rintro ⟨h0, h1, h2⟩
      rcases bT hR.sat hl hx with ⟨h3, _⟩ | ⟨b, cap, cs, T, hb, e, _⟩
      ·subst h3; omega
      ·refine aH hR (u := .pointer (some ⟨b, o' + off * m + n.toNat * j.size, none⟩)) ?_ ?_
       ·simp [execOp, ho, e, ei, eT (w := w) hu hj h0 h1]
       ·simp only [Den, hb, h2, Nat.add_mul, Nat.add_zero, Nat.add_assoc]
    ·trivial
  ·trivial
 ·trivial
theorem Kv (hT : bH P D tab) (hR : Rel D B E σ H df a w) {t : TypeId} {ox oi : Operand} (ho : o.op = .index t ox oi) :
  bF P D B σ H df a w o (W7 D tab t (ev σ ox) (ev σ oi)) := by
 have hx := aR hR ox
 have hi := aR hR oi
 generalize ev σ ox = sx at *
 generalize ev σ oi = si at *
 unfold W7
 split
 ·rename_i l k n
  have ex := gL hx
  have ei := bV hi
  cases htab : tab t with
  | none => trivial
  | some i =>
   have ht := hT t i htab
   simp only
   split
   ·rename_i hk
    have hu := vY ht hk
    rintro ⟨h0, h1⟩
    have hlt : n.toNat < l.length := by omega
    refine aH hR (u := .int .u8 (l.getD n.toNat 0).toNat) ?_ (dH _ _)
    have hg : (⟨⟨l⟩⟩ : ByteArray)[n.toNat]? = some (l.getD n.toNat 0) := by
     have : n.toNat < (⟨⟨l⟩⟩ : ByteArray).size := hlt
     rw [getElem?_pos (⟨⟨l⟩⟩ : ByteArray) n.toNat this]
     simp [List.getD_eq_getElem?_getD, List.getElem?_eq_getElem hlt]
     rfl
    simp [execOp, ho, ex, ei, Instr.index, asIntOf, run_underlying hu, h0, hg]
   ·trivial
 ·rename_i u N xs k n
  simp only [Den] at hx
  obtain ⟨cs, ex, hd⟩ := hx
  have ei := bV hi
  cases htab : tab t with
  | none => trivial
  | some i =>
   have ht := hT t i htab
   simp only
   split
   ·rename_i len e hk
    have hu := arr_of ht hk
    cases hte : tab e with
    | none => trivial
    | some j =>
     have hj := hT e j hte
     simp only
     unfold oS
     split
     ·rename_i sv hlc
      rintro ⟨h0, h1, h2, h3⟩
      simp only [DenC] at hd
      obtain ⟨hN, v1, v2, e1, hp, e2⟩ := hd
      subst e2
      simp only [List.append_nil] at e1
      have hlt : n.toNat < xs.length := by omega
      have hxs : xs[n.toNat]? = some (xs.getD n.toNat (C.dflt u)) := by simp [List.getD_eq_getElem?_getD, List.getElem?_eq_getElem hlt]
      have hcell : ∀ jj pv, (D.enc u (xs.getD n.toNat (C.dflt u)))[jj]? = some pv → ∃ v, cs.toList[n.toNat * C.n u + jj]? = some v ∧ eM D w E.F pv v := by
       intro jj pv hpv
       have hjl : jj < C.n u := by
        have := (List.getElem?_eq_some_iff.1 hpv).1
        rwa [D.enc_len] at this
       have hf := eU (D := D) u xs n.toNat jj _ hxs hjl
       rw [hpv] at hf
       have hlen : n.toNat * C.n u + jj < v1.length := by
        rw [← hp.1]; exact (List.getElem?_eq_some_iff.1 hf).1
       rw [e1]
       exact ⟨v1[n.toNat * C.n u + jj], List.getElem?_eq_getElem hlen, hp.2 _ _ _ hf (List.getElem?_eq_getElem hlen)⟩
      have h01 : 0 ≤ n ∧ n < (len : Int) := ⟨h0, h1⟩
      unfold cV at hlc
      cases hg : j.kind.agg with
      | true =>
       simp only [hg] at hlc
       have hd0 : oX (D.enc u (xs.getD n.toNat (C.dflt u))) 0 = some (D.enc u (xs.getD n.toNat (C.dflt u))) := by
        cases D.enc u (xs.getD n.toNat (C.dflt u)) <;> rfl
       rw [hd0] at hlc
       replace hlc : (match pH (D.enc u (xs.getD n.toNat (C.dflt u))) j.size with | some l => some (SV.agg (rP l)) | none => none) = some sv := hlc
       cases htk : pH (D.enc u (xs.getD n.toNat (C.dflt u))) j.size with
       | none => rw [htk] at hlc; cases hlc
       | some l =>
        rw [htk] at hlc
        cases hlc
        obtain ⟨h4, h5⟩ := jB _ _ _ htk
        have hl : l = D.enc u (xs.getD n.toNat (C.dflt u)) := by
         rw [h4, h2]
         exact List.take_of_length_le (by rw [D.enc_len]; exact Nat.le_refl _)
        refine aH hR (u := .agg (cs.extract (n.toNat * j.size) (n.toNat * j.size + j.size))) ?_ ?_
        ·simp [execOp, ho, ex, ei, Instr.index, asIntOf, run_underlying hu, h01, run_sizeOf hj, part, jD hj, hg]
        ·simp only [Den]
         refine ⟨_, rfl, ?_⟩
         have hcl : n.toNat * C.n u + C.n u ≤ cs.toList.length := by
          rw [e1, ← hp.1, aQ]
          have := Nat.mul_le_mul_right (C.n u) hlt
          rw [Nat.succ_mul] at this
          exact this
         refine xO ?_ fun jj pv v hp' hv => ?_
         ·rw [hl, D.enc_len, Array.toList_extract]
          simp [List.extract_eq_take_drop, h2] at hcl ⊢
          omega
         ·rw [hl] at hp'
          obtain ⟨v', h6, h7⟩ := hcell jj pv hp'
          rw [Array.toList_extract, List.extract_eq_take_drop, List.getElem?_take] at hv
          split at hv
          ·rw [List.getElem?_drop, h2, h6] at hv
           cases hv; exact h7
          ·cases hv
      | false =>
       simp only [hg] at hlc
       rw [oP] at hlc
       cases hx0 : (D.enc u (xs.getD n.toNat (C.dflt u)))[0]? with
       | none => rw [hx0] at hlc; simp at hlc
       | some pv =>
        rw [hx0] at hlc; simp at hlc; subst hlc
        obtain ⟨v, h4, h5⟩ := hcell 0 pv hx0
        refine aH hR (u := v) ?_ (by simp only [Den]; exact h5)
        have h4' : cs[n.toNat * j.size]? = some v := by rw [h2]; simpa using h4
        simp [execOp, ho, ex, ei, Instr.index, asIntOf, run_underlying hu, h01, run_sizeOf hj, part, jD hj, hg, h4']
     ·trivial
   ·trivial
 ·trivial
theorem Bz : ∀ (l : List (SV C)) (vs : List Value), DenA D w E l vs → ∀ (i : Nat) (x : SV C), l[i]? = some x → ∃ v, vs[i]? = some v ∧ Den D w E x v
 | [], vs, _, i, x, h => by simp at h
 | y :: l, vs, hd, i, x, h => by
  simp only [DenA] at hd
  obtain ⟨v, v2, rfl, h1, h2⟩ := hd
  cases i with
  | zero => simp at h; subst h; exact ⟨v, by simp, h1⟩
  | succ i => exact Bz l v2 h2 i x (by simpa using h)
theorem Dr (hR : Rel D B E σ H df a w) {ox : Operand} {i : Nat} (ho : o.op = .extract ox i) : bF P D B σ H df a w o (vR (ev σ ox) i) := by
 have hx := aR hR ox
 generalize ev σ ox = sx at *
 unfold vR
 split
 ·rename_i vs
  simp only [Den] at hx
  obtain ⟨xs, e, hd⟩ := hx
  split
  ·rename_i v hv
   rw [oP] at hv
   obtain ⟨u, h1, h2⟩ := Bz _ _ hd _ _ hv
   have h1' : xs[i]? = some u := by simpa using h1
   exact aH hR (by simp [execOp, ho, e, Instr.extract, h1']) h2
  ·trivial
 ·trivial
theorem Gg (hR : Rel D B E σ H df a w) {ox : Operand} (ho : o.op = .move ox ∨ o.op = .assign ox) : bF P D B σ H df a w o (.val (ev σ ox)) := by
 rcases ho with ho | ho <;> exact aH hR (by simp [execOp, ho]) (aR hR ox)
theorem Jw (hR : Rel D B E σ H df a w) {oc ox oy : Operand} (ho : o.op = .pick oc ox oy) {c : Bool} (hc : ev σ oc = .p (.bool c)) :
  bF P D B σ H df a w o (.val (match c with | true => ev σ ox | false => ev σ oy)) := by
 have h := aR hR oc
 rw [hc] at h
 have e := fZ h
 cases c with
 | true => exact aH hR (by simp [execOp, ho, e, asBool]) (aR hR ox)
 | false => exact aH hR (by simp [execOp, ho, e, asBool]) (aR hR oy)
theorem oF (hR : Rel D B E σ H df a w) : ∀ (l : List Operand), DenA D w E (l.map (ev σ)) (l.map a.eval)
 | [] => by simp [DenA]
 | x :: l => by simp only [List.map_cons, DenA]; exact ⟨_, _, rfl, aR hR x, oF hR l⟩
theorem V2 (hR : Rel D B E σ H df a w) {ox : Operand} (ho : o.op = .nilCheck ox) {hs : List (Nat × HS C)} (hhs : ∀ c, (ev σ ox).topId = some c → lk hs c = H c) :
  bF P D B σ H df a w o (match [ev σ ox] with
   | [.ptr c o] => dT (lk hs c) (.val (.ptr c o))
   | [.eptr c o n i f] => dT (lk hs c) (.val (.eptr c o n i f))
   | [.dptr cells f] => .val (.dptr cells f)
   | [.fn (.func f) a b] => .val (.fn (.func f) a b)
   | _ => .stuck) := by
 have hx := aR hR ox
 generalize ev σ ox = sx at *
 split
 ·rename_i c o' heq
  cases heq
  refine bO fun hl => ?_
  rw [hhs c rfl] at hl
  obtain ⟨b, hb⟩ := jX hR.sat hl hx
  have e := eX hx hb
  exact aH hR (u := a.eval ox) (by simp [execOp, ho, e]) hx
 ·rename_i c o' n i f heq
  cases heq
  refine bO fun hl => ?_
  rw [hhs c rfl] at hl
  obtain ⟨b, hb⟩ := oV hR.sat hl hx
  have e := mD hx hb
  exact aH hR (u := a.eval ox) (by simp [execOp, ho, e]) hx
 ·rename_i cells f heq
  cases heq
  have hx' := hx
  simp only [Den] at hx
  obtain ⟨b, o', e, _⟩ := hx
  exact aH hR (u := a.eval ox) (by simp [execOp, ho, e]) hx'
 ·rename_i f x y heq
  cases heq
  have hx' := hx
  simp only [Den] at hx
  obtain ⟨xs, ys, e, _⟩ := hx
  exact aH hR (u := a.eval ox) (by simp [execOp, ho, e]) hx'
 ·trivial
theorem S8 (hR : Rel D B E σ H df a w) {f : Fn} {first captured : Array Operand} (ho : o.op = .makeFunc f first captured) :
  bF P D B σ H df a w o (.val (.fn f (first.toList.map (ev σ)) (captured.toList.map (ev σ)))) := by
 refine aH hR (u := .func f (first.map a.eval) (captured.map a.eval)) ?_ ?_
 ·simp [execOp, ho, Instr.makeFunc]
 ·simp only [Den]
  refine ⟨_, _, rfl, ?_, ?_⟩
  ·simpa using oF hR first.toList
  ·simpa using oF hR captured.toList
end
end Go.SX
namespace Go.SX
open Go.RowKit
variable {C : Cod}
section
variable {P : Program} {D : aL C} {tab : Tab C} {B : dZ} {E : Env} {σ : Nat → SV C} {H : Nat → HS C} {df : List Deferred} {a : Act} {w : World} {o : Oper}
theorem dQ (c : Nat) (h : HS C) : kH H [(c, h)] = upH H c h := rfl
theorem jHβ (hs : Sat D w E H) {m : Nat} (hm : H m = .fresh) : E.β m = .fresh := by
 have := hs.ok m
 rw [hm] at this
 cases hb : E.β m with
 | fresh => rfl
 | dead => rw [hb] at this; simp [HS.ok] at this
 | virt => rw [hb] at this; simp [HS.ok] at this
 | loc b => rw [hb] at this; simp [HS.ok, HS.at] at this
theorem Ke (hR : Rel D B E σ H df a w) {m : Nat} (hm : H m = .fresh) {vs : List (SV C)} {cs : Array Value} (T : TypeId) (ty : Option TypeId) (hty : ∀ t, ty = some t → T = t) (hd : DenC D w E vs cs.toList)
  (h : (execOp a.eval o).run P w = .ok (.value (.pointer (some ⟨w.heap.size, 0, none⟩))) (w.alloc (.cells cs T))) : fX P D B σ H df a w o (.ptr m 0) [(m, .vart ty vs)] := by
 refine ⟨_, _, E.up m (.loc w.heap.size), .inl h, ?_, ?_⟩
 ·rw [dQ]
  exact hR.alloc hm cs T ⟨cs, T, ⟨Row.new (heap_alloc_new w _), hty⟩, DenC.mono (cJ (jHβ hR.sat hm) _ hR.sat.F) _ _ hd⟩
 ·simp only [Den, Env.up_same]
theorem Rn {b : Bool} {t t' : TypeId} (h : Zk b t = some t') : t = t' := by cases b <;> simp [Zk] at h; exact h
theorem Lg (hT : bH P D tab) (hR : Rel D B E σ H df a w) {m : Nat} (hm : H m = .fresh) {t : TypeId} (ho : o.op = .alloc t) :
  bF P D B σ H df a w o (match tab t with | some i => .mem (.ptr m 0) [(m, .vart (Zk i.typed t) i.zero)] | none => .stuck) := by
 cases htab : tab t with
 | none => trivial
 | some i =>
  obtain ⟨info, z, h1, h2, h3, h4, h5, h6⟩ := (hT t i htab).info
  refine Ke hR hm t _ (fun _ h => Rn h) (h6 w E) ?_
  simp [execOp, ho, Instr.alloc, zeroValue, typeInfo, h1, h4, newVar, newRow]
theorem Den.one_of {x : SV C} {v : Value} (h1 : x.one = true) (hd : Den D w E x v) : v.oneCell' = true := by
 cases x with
 | p y => simp only [Den] at hd; exact hd.oneCell
 | ptr c o => exact hd.one_ptr
 | eptr c o n i f => exact hd.one_eptr
 | slice c o n off len => exact hd.one_slice
 | dptr cells f => simp only [Den] at hd; obtain ⟨b, o, rfl, _⟩ := hd; rfl
 | fn f x y => simp only [Den] at hd; obtain ⟨_, _, rfl, _⟩ := hd; rfl
 | iface t y => simp only [Den] at hd; obtain ⟨_, rfl, _⟩ := hd; rfl
 | yieldv c => exact hd.one_yieldv
 | mapp c => exact hd.one_mapp
 | _ => simp [SV.one] at h1
theorem qD {x : SV C} (h1 : x.one = true) : x.isArr = false := by
 cases x <;> first | rfl | (simp [SV.one] at h1)
theorem sU {v : Value} (h : v.oneCell' = true) : v.cells = #[v] := by
 cases v <;> first | rfl | (simp [Value.oneCell'] at h)
theorem gT {x : SV C} {l : List (SV C)} {v : Value} (h : cellsOf x = some l) (hd : Den D w E x v) : DenC D w E l v.cells.toList := by
 have key : x.one = true → cellsOf x = some [x] → DenC D w E l v.cells.toList := fun h1 h2 => by
  rw [h2] at h; cases h
  have := Den.one_of h1 hd
  rw [sU this, aZ (qD h1)]
  exact ⟨v, [], rfl, this, hd, by simp [DenC]⟩
 cases x with
 | agg vs =>
  simp [cellsOf] at h; subst h
  simp only [Den] at hd
  obtain ⟨cs, rfl, hd⟩ := hd
  simpa [Value.cells] using hd
 | any => simp [cellsOf] at h
 | tuple l => simp [cellsOf] at h
 | arr u N xs => simp only [Den] at hd
 | _ => exact key rfl rfl
theorem Wz (hR : Rel D B E σ H df a w) {m : Nat} (hm : H m = .fresh) {t : TypeId} {ox : Operand} (ho : o.op = .box t ox) :
  bF P D B σ H df a w o (match cellsOf (ev σ ox) with | some l => .mem (.ptr m 0) [(m, .var l)] | none => .stuck) := by
 have hx := aR hR ox
 cases hc : cellsOf (ev σ ox) with
 | none => trivial
 | some l => exact Ke hR hm t none (fun _ h => by cases h) (gT hc hx) (by simp [execOp, ho, Instr.box, newVar, newRow])
theorem cS {b o : Nat} {T : TypeId} : ∀ (vs : List Value) (i : Nat) (cs : Array Value) (w : World), Row w b cs T → o + i + vs.length ≤ cs.size → (∀ v ∈ vs, v.oneCell' = true) →
  (storeCells ⟨b, o, none⟩ vs i).run P w = .ok () (w.setRow b (cs.toList.take (o + i) ++ vs ++ cs.toList.drop (o + i + vs.length)).toArray) := by
 intro vs
 induction vs with
 | nil =>
  rintro i cs w ⟨z, hz, _⟩ _ _
  have e : (cs.toList.take (o + i) ++ [] ++ cs.toList.drop (o + i + ([] : List Value).length)).toArray = cs := by simp
  rw [e, setRow_self w b cs T z hz]; rfl
 | cons v rest ih =>
  rintro i cs w ⟨z, hz, ht⟩ hl h1
  rw [List.length_cons] at hl
  have hlt : o + i < cs.size := by omega
  have hst : (store ((⟨b, o, none⟩ : Addr).add i) v).run P w = .ok () (w.setRow b (cs.setIfInBounds (o + i) v)) := by
   have e1 : (⟨b, o, none⟩ : Addr).add i = ⟨b, o + i, none⟩ := by unfold Addr.add; split <;> simp_all
   have e2 : w.cell? ⟨b, o + i, none⟩ = some cs[o + i] := by rw [cell_of_row w b _ cs T z hz]; simp [hlt]
   have e3 : w.frozen? ⟨b, o + i, none⟩ = false := by
    cases hf : w.frozen? ⟨b, o + i, none⟩ with
    | false => rfl
    | true =>
     simp only [World.frozen?, hz, Bool.and_eq_true, decide_eq_true_eq] at hf
     exact (ht _ hlt hf.1 hf.2).elim
   rw [e1, run_store P w _ v _ (h1 v (by simp)), e2]
   simp [e3, setCell_eq_setRow w b (o + i) cs T z v hz]
  have hih := ih (i + 1) (cs.setIfInBounds (o + i) v) (w.setRow b (cs.setIfInBounds (o + i) v)) ⟨z, setRow_heap w b cs _ T _ hz, by simpa using ht⟩ (by simp; omega) (fun x hx => h1 x (by simp [hx]))
  simp only [storeCells, Sem.run_bind, hst, Result.andThen_ok, hih, setRow_setRow]
  have e := list_seg_step cs.toList (o + i) v rest (by simp; omega)
  congr 3
  simpa [Array.toList_setIfInBounds, Nat.add_assoc] using e
theorem N1 {t : TypeId} {i : TI C} (ht : rY P D t i) {b o' : Nat} {cs : Array Value} {T : TypeId} (hcs : Row w b cs T) {v : Value} (hsz : v.cells.size = i.size)
  (hfit : o' + i.size ≤ cs.size) (h1 : ∀ u ∈ v.cells.toList, u.oneCell' = true) :
  (storeVar t ⟨b, o', none⟩ v).run P w = .ok () (w.setRow b (cs.toList.take o' ++ v.cells.toList ++ cs.toList.drop (o' + i.size)).toArray) := by
 have hst := cS (P := P) (o := o') v.cells.toList 0 cs w hcs (by simp; omega) h1
 simp only [Nat.add_zero, Array.length_toList, hsz] at hst
 simp [storeVar, run_sizeOf ht, hsz, hst]
theorem sV {l l' : List (SV C)} {n : Nat} {vs : List Value} (h1 : iB l n = some l') (h2 : iX l n = some []) (hd : DenC D w E l vs) : vs.length = n ∧ DenC D w E l' vs := by
 obtain ⟨h3, h4⟩ := gJ _ _ _ _ h1 hd
 obtain ⟨h5, h6⟩ := eQ _ _ _ _ h2 hd
 simp only [DenC] at h5
 have : vs.length ≤ n := by simpa using h5
 have e : vs.length = n := by omega
 exact ⟨e, by rwa [List.take_of_length_le (by omega)] at h3⟩
theorem bE.append {F : Nat → Prop} {l m : List (PV C)} {vs ws : List Value} (h : bE D w F l vs) (k : bE D w F m ws) : bE D w F (l ++ m) (vs ++ ws) := by
 refine ⟨by simp [h.1, k.1], fun j pv v hp hv => ?_⟩
 by_cases hj : j < l.length
 ·rw [List.getElem?_append_left hj] at hp
  rw [List.getElem?_append_left (h.1 ▸ hj)] at hv
  exact h.2 j pv v hp hv
 ·rw [List.getElem?_append_right (by omega)] at hp
  rw [List.getElem?_append_right (by rw [← h.1]; omega), ← h.1] at hv
  exact k.2 _ pv v hp hv
theorem bE.take {F : Nat → Prop} {l : List (PV C)} {vs : List Value} (h : bE D w F l vs) (n : Nat) : bE D w F (l.take n) (vs.take n) := by
 refine ⟨by simp [h.1], fun j pv v hp hv => ?_⟩
 rw [List.getElem?_take] at hp hv
 split at hp
 ·rename_i hj
  rw [if_pos hj] at hv
  exact h.2 j pv v hp hv
 ·cases hp
theorem bE.drop {F : Nat → Prop} {l : List (PV C)} {vs : List Value} (h : bE D w F l vs) (n : Nat) : bE D w F (l.drop n) (vs.drop n) := by
 refine ⟨by simp [h.1], fun j pv v hp hv => ?_⟩
 rw [List.getElem?_drop] at hp hv
 exact h.2 _ pv v hp hv
theorem uL : ∀ (l : List (SV C)) (pl : List (PV C)) (vs : List Value), D9 l = some pl → DenC D w E l vs → bE D w E.F pl vs
 | [], pl, vs, h, hd => by
  simp [D9] at h; subst h
  simp only [DenC] at hd; subst hd
  exact ⟨rfl, fun j pv v hp _ => by simp at hp⟩
 | x :: l, pl, vs, h, hd => by
  simp only [D9] at h
  cases x with
  | p y =>
   simp only [q06] at h
   cases ht : D9 l with
   | none => simp [ht] at h
   | some r =>
    simp [ht] at h; subst h
    simp only [DenC, Den] at hd
    obtain ⟨v, v2, rfl, h1, h2, h3⟩ := hd
    have ih := uL l r v2 ht h3
    refine ⟨by simp [ih.1], fun j pv u hp hu => ?_⟩
    cases j with
    | zero => simp at hp hu; subst hp; subst hu; exact h2
    | succ j => exact ih.2 j pv u (by simpa using hp) (by simpa using hu)
  | _ => simp [q06] at h
theorem H6 {l new r : List (PV C)} {f n : Nat} (h : zB l f n new = some r) : r = l.take f ++ new ++ l.drop (f + n) ∧ f + n ≤ l.length := by
 unfold zB at h
 cases h1 : pH l f with
 | none => simp [h1] at h
 | some x =>
  cases h2 : oX l f with
  | none => simp [h1, h2] at h
  | some y =>
   cases h3 : oX y n with
   | none => simp [h1, h2, h3] at h
   | some z =>
    simp [h1, h2, h3] at h; subst h
    obtain ⟨rfl, h4⟩ := jB _ _ _ h1
    obtain ⟨rfl, h5⟩ := jC _ _ _ h2
    obtain ⟨rfl, h6⟩ := jC _ _ _ h3
    simp at h6
    exact ⟨by simp [List.drop_drop], by omega⟩
theorem rS {u : C.U} {xs xs' : List (C.El u)} {k f size : Nat} {sv : SV C} {v : Value} {V : List Value} (h : uR D u xs k f size sv = some xs') (hk : k < xs.length)
  (hd : Den D w E sv v) (hV : bE D w E.F (xs.flatMap (D.enc u)) V) :
  xs'.length = xs.length ∧ v.cells.size = size ∧ f + size ≤ C.n u ∧
   bE D w E.F (xs'.flatMap (D.enc u)) (V.take (k * C.n u + f) ++ v.cells.toList ++ V.drop (k * C.n u + f + size)) ∧ (∀ u ∈ v.cells.toList, u.oneCell' = true) := by
 unfold uR at h
 cases h1 : cellsOf sv with
 | none => simp [h1] at h
 | some l =>
  cases h2 : D9 l with
  | none => simp [h1, h2] at h
  | some pl =>
   cases h3 : zB (D.enc u (xs.getD k (C.dflt u))) f size pl with
   | none => simp only [h1, h2, h3] at h; cases h
   | some r =>
    cases h4 : D.dec u r with
    | none => simp only [h1, h2, h3, h4] at h; cases h
    | some x =>
     have h' : some (xs.set k x) = some xs' := by rw [← h]; simp only [h1, h2, h3, h4]
     cases h'
     have hc := gT h1 hd
     have hp := uL _ _ _ h2 hc
     obtain ⟨h5, h6⟩ := H6 h3
     rw [D.enc_len] at h6
     have hx := D.dec_ok u r x h4
     have hxs : xs[k]? = some (xs.getD k (C.dflt u)) := by simp [List.getD_eq_getElem?_getD, List.getElem?_eq_getElem hk]
     have hl : pl.length = size := by
      have e1 := D.enc_len u x
      rw [hx, h5] at e1
      simp only [List.length_append, List.length_take, List.length_drop, D.enc_len] at e1
      omega
     have hkn : k * C.n u + C.n u ≤ (xs.flatMap (D.enc u)).length := by
      rw [aQ]
      have := Nat.mul_le_mul_right (C.n u) hk
      rwa [Nat.succ_mul] at this
     have hseg : D.enc u (xs.getD k (C.dflt u)) = ((xs.flatMap (D.enc u)).drop (k * C.n u)).take (C.n u) := by
      apply List.ext_getElem?
      intro j
      rw [List.getElem?_take]
      split
      ·rename_i hj
       rw [List.getElem?_drop, eU u xs k j _ hxs hj]
      ·rename_i hj
       exact List.getElem?_eq_none (by rw [D.enc_len]; omega)
     have hset : (xs.set k x).flatMap (D.enc u) = (xs.flatMap (D.enc u)).take (k * C.n u + f) ++ pl ++ (xs.flatMap (D.enc u)).drop (k * C.n u + f + size) := by
      rw [T5 u xs k x hk, hx, h5, hseg]
      generalize hL : xs.flatMap (D.enc u) = L at *
      have e1 : L.take (k * C.n u) ++ ((L.drop (k * C.n u)).take (C.n u)).take f = L.take (k * C.n u + f) := by
       rw [List.take_take, Nat.min_eq_left (by omega), List.take_add]
      have e2 : ((L.drop (k * C.n u)).take (C.n u)).drop (f + size) ++ L.drop (k * C.n u + C.n u) = L.drop (k * C.n u + f + size) := by
       have e3 : L.drop (k * C.n u + C.n u) = ((L.drop (k * C.n u)).drop (f + size)).drop (C.n u - (f + size)) := by
        rw [List.drop_drop, List.drop_drop]
        congr 1
        omega
       rw [e3, List.drop_take, List.take_append_drop, List.drop_drop, Nat.add_assoc]
      rw [← e1, ← e2]
      simp
     refine ⟨by simp, by rw [← Array.length_toList, ← hp.1, hl], h6, ?_, hp.oneCell⟩
     rw [hset]
     exact ((hV.take _).append hp).append (hV.drop _)
end
end Go.SX
