/-
  SX, part E: the operations' soundness, one by one.
-/
import Derived.Test.YtfbicphocelpeaaGreatDoorSxC
set_option linter.unusedVariables false
set_option linter.unusedSimpArgs false
namespace Go.SX
open Go.RowKit
variable {C : Cod}
def lG (P : Program) (size : Nat) : TK → TypeDesc → Prop
 | .int k, d => d = .int k
 | .bool, d => d = .bool
 | .str, d => d = .string
 | .struct fs, d => ∃ F, d = .struct F ∧ F.toList.map (fun f => (f.offset, f.type)) = fs ∧ ∀ f ∈ fs, (P.info? f.2).isSome = true
 | .arr n e, d => d = .array n e ∧ ∃ ie, P.info? e = some ie ∧ size = n * ie.size
 | .slice e, d => d = .slice e
 | .ptr e, d => d = .pointer e
 | .uptr, d => d = .unsafePointer
 | .ifc, d => ∃ x, d = .interface x
 | .map k e, d => ∃ kt, d = .map kt e ∧ P.underlying kt = some (rW k)
 | .other, d => (match d with | .struct _ | .array _ _ => false | _ => true) = true
structure yA (P : Program) (D : aJ C) (t : TypeId) (i : TI C) : Prop where
 info : ∃ info z, P.info? t = some info ∧ info.size = i.size ∧ info.bytes = i.bytes ∧ info.zero = some z ∧ z.cells.size = i.size ∧ ∀ w E, DenC D w E i.zero z.cells.toList
 und : ∃ d, P.underlying t = some d ∧ lG P i.size i.kind d
 pos : 0 < i.size
 code : ∀ u, i.code = some u → C.n u = i.size
 ctype : ∀ u t', i.code = some u → C.ty u = some t' → t' = t
 lies : i.typed = true → liesAt P P.depth t (i.size / P.cellsOf t) 0 t 1 = true
 zb : i.kind = .bool → ∃ info, P.info? t = some info ∧ info.zero = some (.bool false)
 eq : i.cks ≠ [] → i.kind.agg = true ∧ ckB P 64 t i.cks = true ∧ P.eqGuardType P.depth t = false
def bZ (P : Program) (D : aJ C) (tab : Tab C) : Prop := ∀ t i, tab t = some i → yA P D t i
def kW (P : Program) (D : aJ C) (B : dP) (σ : Nat → SV C) (H : Nat → HS C) (df : List Deferred) (a : Act) (w : World) (o : Oper) (v : SV C) (ws : List (Nat × HS C)) : Prop :=
 ∃ u w' E', ((execOp a.eval o).run P w = .ok (.value u) w' ∨ ((execOp a.eval o).run P w = .ok .skip w' ∧ u = undef)) ∧
  Rel D B E' σ (rE H ws) df a w' ∧ Den D w' E' v u
section
variable {P : Program} {D : aJ C} {tab : Tab C} {B : dP} {E : Env} {σ : Nat → SV C} {H : Nat → HS C} {df : List Deferred} {a : Act} {w : World}
theorem q3i (v : Value) : q9r v = v.oneCell' := by cases v <;> rfl
theorem Q1 (v : Value) : Den D w E (N0 v) v := by
 cases v with
 | int k n => exact .int k n
 | bool b => exact .bool b
 | string s => obtain ⟨⟨l⟩⟩ := s; exact .str l
 | agg c => trivial
 | tuple c => trivial
 | func f x y =>
  simp only [N0]
  by_cases hx : x.size = 0
  ·by_cases hy : y.size = 0
   ·rw [if_pos hx, if_pos hy];have h1 : x = #[] := Array.eq_empty_of_size_eq_zero hx;have h2 : y = #[] := Array.eq_empty_of_size_eq_zero hy;subst h1; subst h2;simp only [Den, DenA];exact ⟨_, _, rfl, rfl, rfl⟩
   ·rw [if_pos hx, if_neg hy]; trivial
  ·rw [if_neg hx]; trivial
 | _ => exact .lit _ rfl
theorem Eb (v : Value) : (N0 v : SV C).isArr = false := by
 cases v <;> try rfl
 simp only [N0];split
 ·split <;> rfl
 ·rfl
theorem zB : ∀ (l : List Value), Bx l = true → DenC D w E (C6 l) l
 | [], _ => by simp [C6, DenC]
 | v :: l, h => by
  simp only [C6];simp only [Bx] at h;cases hv : q9r v with
  | false => simp [hv] at h
  | true =>
   simp only [hv] at h;rw [bT (Eb v)];exact ⟨v, l, rfl, (q3i v) ▸ hv, Q1 v, zB l h⟩
theorem zI (v : Value) : Den D w E (ofV v) v := by
 cases v with
 | agg cs =>
  simp only [ofV];cases h : Bx cs.toList with
  | true => simp only [Den]; exact ⟨cs, rfl, zB _ h⟩
  | false => trivial
 | _ => simp only [ofV]; exact Q1 _
theorem Xp {F : Nat → Prop} (v : Value) (h : v.oneCell' = true) : iV D w F (q7o v) v := by
 cases v with
 | int k n => exact .int k n
 | bool b => exact .bool b
 | string s => exact .str s.data.toList
 | _ => exact .lit _ h
theorem Qg (hG : oW C w E) (g : Nat) : Den D w E (Zo g (C.glob g)) (.pointer (some ⟨g, 0, none⟩)) := by
 cases hc : C.glob g with
 | nil => exact trivial
 | cons v l =>
  obtain ⟨h1, ⟨cs, T, z, h2, h3⟩, h4⟩ := hG.1 g (by rw [hc]; simp);rw [hc] at h3 h4;simp only [Zo, Den];refine ⟨g, 0, rfl, fun j pv hj => ⟨h1, ?_⟩⟩;have hj' : ((v :: l).map q7o)[j]? = some pv := hj;rw [List.getElem?_map] at hj';obtain ⟨u, hu, rfl⟩ := Option.map_eq_some_iff.1 hj';refine ⟨u, ?_, Xp u (h4 u (List.mem_of_getElem? hu))⟩;rw [Nat.zero_add, cell_of_row w g j cs T z h2, ← Array.getElem?_toList, h3, hu]
theorem aS (h : Rel D B E σ H df a w) (x : Operand) : Den D w E (ev σ x) (a.eval x) := by
 cases x with
 | tmp t => exact h.den t
 | const v => exact zI v
 | global g => exact Qg h.sat.glob g
 | func f => simp only [ev, Act.eval, Den, DenA]; exact ⟨_, _, rfl, rfl, rfl⟩
theorem nE {t : TypeId} {i : TI C} (ht : yA P D t i) : (isAgg t).run P w = .ok i.kind.agg w := by
 obtain ⟨d, hu, hk⟩ := ht.und;unfold isAgg;rw [Sem.run_bind, run_underlying hu w];cases hkk : i.kind <;> rw [hkk] at hk <;> simp only [lG] at hk
 ·subst hk; rfl
 ·subst hk; rfl
 ·subst hk; rfl
 ·obtain ⟨F, rfl, _, _⟩ := hk; rfl
 ·obtain ⟨rfl, _⟩ := hk; rfl
 ·subst hk; rfl
 ·subst hk; rfl
 ·obtain ⟨kt, rfl, _⟩ := hk; rfl
 ·subst hk; rfl
 ·obtain ⟨x, rfl⟩ := hk; rfl
 ·cases d <;> simp_all [TK.agg]
theorem run_sizeOf {t : TypeId} {i : TI C} (ht : yA P D t i) : (sizeOf t).run P w = .ok i.size w := by
 obtain ⟨info, z, h1, h2, _⟩ := ht.info;simp [sizeOf, typeInfo, h1, h2]
theorem kJ {t : TypeId} {i : TI C} (ht : yA P D t i) (hg : i.kind.agg = true) (ad : Addr) (l : List Value) (hl : l.length = i.size)
  (hc : ∀ j v, l[j]? = some v → w.cell? (ad.add j) = some v) : (loadVar t ad).run P w = .ok (.agg l.toArray) w := by
 have := run_loadCells_list (P := P) w ad l hc;simp [loadVar, nE ht, hg, run_sizeOf ht, ← hl, this]
theorem kI {t : TypeId} {i : TI C} (ht : yA P D t i) (hg : i.kind.agg = false) (ad : Addr) (v : Value) (hc : w.cell? ad = some v) :
  (loadVar t ad).run P w = .ok v w := by
 simp [loadVar, nE ht, hg, run_load, hc]
theorem kM (hs : Sat D w E H) {c : Nat} (hd : H c ≠ .dead) (hf : H c ≠ .fresh) : (E.β c = .virt ∧ ∃ u, H c = .rows u []) ∨ ∃ b, E.β c = .loc b ∧ (H c).at D w E b := by
 have := hs.ok c;cases hb : E.β c with
 | fresh => rw [hb] at this; exact absurd this hf
 | dead => rw [hb] at this; exact absurd this hd
 | virt => rw [hb] at this; exact .inl ⟨rfl, this⟩
 | loc b => rw [hb] at this; exact .inr ⟨b, rfl, this⟩
theorem Ea (hs : Sat D w E H) {c : Nat} {ty : Option TypeId} {vs : List (SV C)} (hv : H c = .vart ty vs) : ∃ b cs T, E.β c = .loc b ∧ Wv ty w b cs T ∧ DenC D w E vs cs.toList := by
 rcases kM hs (c := c) (by rw [hv]; simp) (by rw [hv]; simp) with ⟨_, u, h⟩ | ⟨b, hb, h⟩
 ·rw [hv] at h; cases h
 ·rw [hv] at h;obtain ⟨cs, T, h1, h2⟩ := h;exact ⟨b, cs, T, hb, h1, h2⟩
theorem iE {c o b : Nat} {v : Value} (h : Den D w E (.ptr c o) v) (hb : E.β c = .loc b) : v = .pointer (some ⟨b, o, none⟩) := by
 simp only [Den, hb] at h; exact h
theorem qJ {c o n i f b : Nat} {v : Value} (h : Den D w E (.eptr c o n i f) v) (hb : E.β c = .loc b) : v = .pointer (some ⟨b, o + i * n + f, none⟩) := by
 simp only [Den, hb] at h; exact h
theorem kA {b : Nat} {cs : Array Value} {T : TypeId} (h : Row w b cs T) (j : Nat) : w.cell? ⟨b, j, none⟩ = cs.toList[j]? := by
 obtain ⟨z, h, _⟩ := h;rw [cell_of_row w b j cs T z h]; simp
def q83 (D : aJ C) (w : World) (E : Env) (b : Nat) (o : Nat) : Sq C → Prop
 | .no => True
 | .some u xs => ∃ cs T, Row w b cs T ∧ o + xs.length * C.n u ≤ cs.size ∧ cA D w E.F (xs.flatMap (D.enc u)) ((cs.toList.drop o).take (xs.length * C.n u))
theorem jZ {h : HS C} {b o : Nat} (hh : h.at D w E b) : q83 D w E b o (gP h o) := by
 cases h with
 | fresh => trivial
 | dead => trivial
 | obj o => trivial
 | rows u xs =>
  cases o with
  | zero =>
   obtain ⟨cs, T, h1, h2, h3⟩ := hh;exact ⟨cs, T, h1.1, by omega, by simpa using h3⟩
  | succ o => trivial
 | vart _ vs =>
  obtain ⟨cs, T, ⟨h1, _⟩, h2⟩ := hh;have := mS vs o cs.toList h2;simp only [gP];cases hq : rU vs o with
  | miss => trivial
  | cell x => trivial
  | elem u N xs k =>
   cases k with
   | succ k => trivial
   | zero =>
    rw [hq] at this;obtain ⟨a1, a2, a3, a4, a5⟩ := this;simp only [q83];refine ⟨cs, T, h1, by rw [a1]; simpa using a4, by rw [a1]; simpa using a5⟩
theorem V3 {b o : Nat} {u : C.U} {xs : List (C.El u)} (h : q83 D w E b o (.some u xs)) {k : Nat} (hk : k < xs.length) :
  ∀ j pv, (D.enc u (xs.getD k (C.dflt u)))[j]? = some pv → ∃ v, w.cell? ⟨b, o + k * C.n u + j, none⟩ = some v ∧ iV D w E.F pv v := by
 obtain ⟨cs, T, h1, h2, h3⟩ := h;intro j pv hp;have hx : xs[k]? = some (xs.getD k (C.dflt u)) := by simp [List.getD_eq_getElem?_getD, List.getElem?_eq_getElem hk]
 have hj : j < C.n u := by
  have := (List.getElem?_eq_some_iff.1 hp).1
  rwa [D.enc_len] at this
 have hf := iN (D := D) u xs k j _ hx hj;rw [hp] at hf;have hlt : k * C.n u + j < xs.length * C.n u := by
  have : (k + 1) * C.n u ≤ xs.length * C.n u := Nat.mul_le_mul_right _ hk;rw [Nat.add_mul] at this;omega
 have hlt2 : o + k * C.n u + j < cs.toList.length := by simp; omega
 refine ⟨cs.toList[o + k * C.n u + j], ?_, ?_⟩
 ·rw [kA h1, List.getElem?_eq_getElem hlt2]
 ·refine h3.2 _ _ _ hf ?_;rw [List.getElem?_take, if_pos hlt, List.getElem?_drop, show o + (k * C.n u + j) = o + k * C.n u + j by omega, List.getElem?_eq_getElem hlt2]
theorem tW {α : Type} : ∀ (l : List α) (i : Nat), ixL l i = l[i]?
 | [], _ => by simp [ixL]
 | a :: l, 0 => by simp [ixL]
 | a :: l, i + 1 => by simp [ixL, tW l i]
theorem mR {α : Type} : ∀ (l : List α) (i : Nat) (r : List α), vG l i = some r → r = l.take i ∧ i ≤ l.length
 | l, 0, r, h => by cases l <;> (simp [vG] at h; subst h; simp)
 | [], i + 1, r, h => by simp [vG] at h
 | a :: l, i + 1, r, h => by
  simp only [vG] at h;cases ht : vG l i with
  | none => simp [ht] at h
  | some q =>
   simp [ht] at h; subst h;obtain ⟨h1, h2⟩ := mR l i q ht;subst h1;simp; omega
theorem mO {α : Type} : ∀ (l : List α) (i : Nat) (r : List α), uO l i = some r → r = l.drop i ∧ i ≤ l.length
 | l, 0, r, h => by cases l <;> (simp [uO] at h; subst h; simp)
 | [], i + 1, r, h => by simp [uO] at h
 | a :: l, i + 1, r, h => by
  simp only [uO] at h;obtain ⟨h1, h2⟩ := mO l i r h;exact ⟨by simpa using h1, by simp; omega⟩
theorem R7 {l : List (PV C)} {vs : List Value} (hl : l.length = vs.length) (h : ∀ (j : Nat) (pv : PV C) (v : Value), l[j]? = some pv → vs[j]? = some v → iV D w E.F pv v) :
  DenC D w E (wW l) vs := by
 induction l generalizing vs with
 | nil =>
  have : vs = [] := List.eq_nil_of_length_eq_zero hl.symm;simp [wW, DenC, this]
 | cons x l ih =>
  cases vs with
  | nil => simp at hl
  | cons v vs =>
   have h0 : iV D w E.F x v := h 0 x v (by simp) (by simp);simp only [wW, List.map_cons, DenC, Den];exact ⟨v, vs, rfl, h0.oneCell, h0, ih (by simpa using hl) fun j pv u hp hu => h (j + 1) pv u (by simpa using hp) (by simpa using hu)⟩
theorem F3 (u : C.U) : ∀ (k : Nat) (l : List (PV C)) (xs : List (C.El u)), zE D u k l = some xs → xs.length = k ∧ xs.flatMap (D.enc u) = l.take (k * C.n u) ∧ k * C.n u ≤ l.length
 | 0, l, xs, h => by simp [zE] at h; subst h; simp
 | k + 1, l, xs, h => by
  simp only [zE] at h;cases h1 : vG l (C.n u) with
  | none => simp [h1] at h
  | some x =>
   cases h2 : uO l (C.n u) with
   | none => simp [h1, h2] at h
   | some r =>
    cases h3 : D.dec u x with
    | none => simp [h1, h2, h3] at h
    | some y =>
     cases h4 : zE D u k r with
     | none => simp [h1, h2, h3, h4] at h
     | some ys =>
      simp [h1, h2, h3, h4] at h;subst h;obtain ⟨e1, f1⟩ := mR _ _ _ h1;obtain ⟨e2, f2⟩ := mO _ _ _ h2;have e3 := D.dec_ok _ _ _ h3;obtain ⟨g1, g2, g3⟩ := F3 u k r ys h4;subst e1; subst e2;refine ⟨by simp [g1], ?_, ?_⟩
      ·rw [List.flatMap_cons, e3, g2, Nat.add_mul, Nat.one_mul, Nat.add_comm, List.take_add]
      ·simp at g3; rw [Nat.add_mul]; omega
theorem oO {t : TypeId} {i : TI C} (ht : yA P D t i) {cells : List (PV C)} {f b o : Nat} {sv : SV C} (h : fB i cells f = some sv)
  (hc : ∀ j pv, cells[j]? = some pv → ∃ v, w.cell? ⟨b, o + j, none⟩ = some v ∧ iV D w E.F pv v) :
  ∃ v, (loadVar t ⟨b, o + f, none⟩).run P w = .ok v w ∧ Den D w E sv v := by
 unfold fB at h;cases hg : i.kind.agg with
 | true =>
  simp only [hg] at h;cases hd : uO cells f with
  | none => simp [hd] at h
  | some r =>
   cases htk : vG r i.size with
   | none => simp [hd, htk] at h
   | some l =>
    simp [hd, htk] at h;subst h;obtain ⟨h1, h2⟩ := mO _ _ _ hd;obtain ⟨h3, h4⟩ := mR _ _ _ htk;subst h1;have hlen : l.length = i.size := by rw [h3]; simp at h4 ⊢; omega
    have hl : ∀ j, j < l.length → l[j]? = cells[f + j]? := fun j hj => by
     rw [h3, List.getElem?_take, if_pos (by omega), List.getElem?_drop]
    have hcell : ∀ j (hj : j < l.length), ∃ v, w.cell? ⟨b, o + f + j, none⟩ = some v ∧ iV D w E.F l[j] v := fun j hj => by
     have := hc (f + j) l[j] (by rw [← hl j hj, List.getElem?_eq_getElem hj])
     rwa [← Nat.add_assoc] at this
    let vs : List Value := List.ofFn (n := l.length) fun j => (hcell j.1 j.2).choose
    have hvl : vs.length = l.length := by simp [vs]
    have hv : ∀ j (hj : j < l.length), vs[j]? = some (hcell j hj).choose := fun j hj => by
     simp [vs, hj]
    refine ⟨.agg vs.toArray, ?_, ?_⟩
    ·refine kJ ht hg _ vs (by omega) fun j v hjv => ?_;have hj : j < l.length := hvl ▸ (List.getElem?_eq_some_iff.1 hjv).1;rw [hv j hj] at hjv; cases hjv;rw [Addr.add_lit];exact (hcell j hj).choose_spec.1
    ·simp only [Den];refine ⟨_, rfl, R7 hvl.symm fun j pv v hp hjv => ?_⟩;have hj : j < l.length := (List.getElem?_eq_some_iff.1 hp).1;rw [List.getElem?_eq_getElem hj] at hp; cases hp;simp only at hjv;rw [hv j hj] at hjv; cases hjv;exact (hcell j hj).choose_spec.2
 | false =>
  simp only [hg] at h;rw [tW] at h;cases hx : cells[f]? with
  | none => simp [hx] at h
  | some pv =>
   simp [hx] at h; subst h;obtain ⟨v, h1, h2⟩ := hc f pv hx;exact ⟨v, kI ht hg _ v h1, by simp only [Den]; exact h2⟩
theorem K4 {t : TypeId} {i : TI C} (ht : yA P D t i) {vs : List (SV C)} {b o : Nat} {cs : Array Value} {T : TypeId} {sv : SV C} (h : oY D i vs o = .val sv)
  (hcs : Row w b cs T) (hd : DenC D w E vs cs.toList) :
  ∃ v, (loadVar t ⟨b, o, none⟩).run P w = .ok v w ∧ Den D w E sv v := by
 unfold oY at h;cases hg : i.kind.agg with
 | true =>
  simp only [hg] at h;cases hdw : nD vs o with
  | none => simp [hdw] at h
  | some r =>
   cases htw : kT r i.size with
   | none => simp [hdw, htw] at h
   | some l =>
    simp [hdw, htw] at h; subst h;obtain ⟨h1, h2⟩ := iM _ _ _ _ hdw hd;obtain ⟨h3, h4⟩ := jY _ _ _ _ htw h1;refine ⟨.agg ((cs.toList.drop o).take i.size).toArray, ?_, ?_⟩
    ·refine kJ ht hg _ _ (by simp at h4 ⊢; omega) fun j v hj => ?_;rw [Addr.add_lit, kA hcs];rw [List.getElem?_take] at hj;split at hj
     ·rwa [List.getElem?_drop] at hj
     ·cases hj
    ·simp only [Den]; exact ⟨_, rfl, by simpa using h3⟩
 | false =>
  simp only [hg] at h;have hh := mS vs o cs.toList hd;cases hq : rU vs o with
  | miss => simp [hq] at h
  | cell x =>
   simp [hq] at h; subst h;rw [hq] at hh;obtain ⟨v, h1, h2, h3⟩ := hh;exact ⟨v, kI ht hg _ v (by rw [kA hcs]; exact h1), h3⟩
  | elem u N xs k =>
   simp only [hq] at h;rw [hq] at hh;obtain ⟨a1, a2, a3, a4, a5⟩ := hh;rw [tW] at h;cases hx : (D.enc u (xs.getD (k / C.n u) (C.dflt u)))[k % C.n u]? with
   | none => rw [hx] at h; simp at h
   | some pv =>
    rw [hx] at h; simp at h; subst h;have hkd : k / C.n u < xs.length := by rw [a1]; exact (Nat.div_lt_iff_lt_mul (D.n_pos u)).2 a2
    have hsq : q83 D w E b (o - k) (.some u xs) := by
     refine ⟨cs, T, hcs, by rw [a1]; simpa using a4, by rw [a1]; exact a5⟩
    obtain ⟨v, h1, h2⟩ := V3 hsq hkd _ _ hx;have e : o - k + k / C.n u * C.n u + k % C.n u = o := by
     have := Nat.div_add_mod k (C.n u);rw [Nat.mul_comm] at this;omega
    rw [e] at h1;exact ⟨v, kI ht hg _ v h1, by simp only [Den]; exact h2⟩
theorem Dm (hT : bZ P D tab) (hs0 : Sat D w E H) {t : TypeId} {sx0 : SV C} {vx : Value} (hx : Den D w E sx0 vx) {hs : List (Nat × HS C)}
  (hhs : ∀ c, sx0.topId = some c → lk hs c = H c) :
  match sC D tab t sx0 hs with
  | .val v => ∃ u, (Instr.loadAt t vx).run P w = .ok u w ∧ Den D w E v u
  | .side p v => p → ∃ u, (Instr.loadAt t vx).run P w = .ok u w ∧ Den D w E v u
  | _ => True := by
 have key : ∀ (v : SV C), (∃ u, (Instr.loadAt t vx).run P w = .ok u w ∧ Den D w E v u) → (∃ u, (Instr.loadAt t vx).run P w = .ok u w ∧ Den D w E v u) := fun _ h => h;unfold sC;cases htab : tab t with
 | none => trivial
 | some i =>
  have ht := hT t i htab;simp only;generalize hsx : sx0 = sx at *;cases sx with
  | ptr c o' =>
   simp only;have hlk := hhs c rfl;rw [hlk];cases hH : H c with
   | vart _ vs =>
    simp only;obtain ⟨b, cs, T, hb, ⟨h1, _⟩, h2⟩ := Ea hs0 hH;have e := iE hx hb;split <;> first | trivial | skip
    ·rename_i v hv;obtain ⟨u, h3, h4⟩ := K4 ht hv h1 h2;exact key v ⟨u, by simp [Instr.loadAt, Instr.sureAddr, e, h3], h4⟩
    ·rename_i p v hv;exfalso;unfold oY at hv
     revert hv
     (repeat' split) <;> simp
   | _ => trivial
  | eptr c o' n k f =>
   simp only;have hlk := hhs c rfl;rw [hlk];cases hsq : gP (H c) o' with
   | no => trivial
   | some u xs =>
    simp only;unfold vC;cases hlc : fB i (D.enc u (xs.getD k (C.dflt u))) f with
    | none => trivial
    | some v =>
     simp only;rintro ⟨hk, hn⟩;subst hn;rcases kM hs0 (c := c) (by intro e; rw [e] at hsq; cases hsq) (by intro e; rw [e] at hsq; cases hsq) with ⟨_, u', h⟩ | ⟨b, hb, hat⟩
     ·rw [h] at hsq;cases o' <;> simp [gP] at hsq
      obtain ⟨rfl, h2⟩ := hsq;cases h2;simp at hk
     ·have e := qJ hx hb;have hq := jZ (o := o') hat;rw [hsq] at hq;obtain ⟨v', h3, h4⟩ := oO ht hlc (V3 hq hk);exact key v ⟨v', by simp [Instr.loadAt, Instr.sureAddr, e, h3], h4⟩
  | dptr cells f =>
   simp only;simp only [Den] at hx;obtain ⟨b, o', e, hc⟩ := hx;unfold B8;cases hsq : i.seq with
   | false =>
    cases hlc : fB i cells f with
    | none => trivial
    | some v =>
     obtain ⟨v', h3, h4⟩ := oO ht hlc (fun j pv hp => (hc j pv hp).2);exact key v ⟨v', by simp [Instr.loadAt, Instr.sureAddr, e, h3], h4⟩
   | true =>
    cases hk : i.kind with
    | arr len el =>
     cases f with
     | succ f => trivial
     | zero =>
     cases hte : tab el with
     | none => simp only [hte]
     | some j =>
      cases hcode : j.code with
      | none => simp only [hte, hcode]
      | some u =>
       cases hda : zE D u len cells with
       | none => simp only [hte, hcode, hda]
       | some xs =>
        simp only [hte, hcode, hda];obtain ⟨g1, g2, g3⟩ := F3 u len cells xs hda;have hn := (hT el j hte).code u hcode;obtain ⟨d, _, hko⟩ := ht.und;rw [hk] at hko;obtain ⟨_, ie, hie, hsz⟩ := hko;obtain ⟨info, _, hinfo, hisz, _⟩ := (hT el j hte).info;rw [hie] at hinfo; cases hinfo;have hisize : i.size = len * C.n u := by rw [hsz, hisz, hn]
        have hcell : ∀ q (hq : q < len * C.n u), ∃ v, w.cell? ⟨b, o' + q, none⟩ = some v ∧ iV D w E.F (cells[q]'(by omega)) v := fun q hq =>
         (hc q _ (List.getElem?_eq_getElem (by omega))).2
        let vs : List Value := List.ofFn (n := len * C.n u) fun q => (hcell q.1 q.2).choose
        have hvl : vs.length = len * C.n u := by simp [vs]
        have hv : ∀ q (hq : q < len * C.n u), vs[q]? = some (hcell q hq).choose := fun q hq => by simp [vs, hq]
        refine key _ ⟨.agg vs.toArray, ?_, ?_⟩
        ·have hrun := kJ (w := w) ht (by rw [hk]; rfl) ⟨b, o', none⟩ vs (by omega) fun q v hqv => by
          have hq : q < len * C.n u := hvl ▸ (List.getElem?_eq_some_iff.1 hqv).1;rw [hv q hq] at hqv; cases hqv;rw [Addr.add_lit];exact (hcell q hq).choose_spec.1
         simp [Instr.loadAt, Instr.sureAddr, e, hrun]
        ·simp only [Den, DenC];refine ⟨_, rfl, g1, vs, [], by simp, ?_, rfl⟩;rw [g2];refine ⟨by rw [List.length_take, hvl, Nat.min_eq_left g3], fun q pv v hp hqv => ?_⟩;have hq : q < len * C.n u := hvl ▸ (List.getElem?_eq_some_iff.1 hqv).1;rw [hv q hq] at hqv; cases hqv;rw [List.getElem?_take, if_pos hq, List.getElem?_eq_getElem (by omega)] at hp;cases hp;exact (hcell q hq).choose_spec.2
    | _ => trivial
  | _ => trivial
theorem q2w (hT : bZ P D tab) (hR : Rel D B E σ H df a w) {o : Oper} {t : TypeId} {x : Operand} (ho : o.op = .load t x) {hs : List (Nat × HS C)}
  (hhs : ∀ c, (ev σ x).topId = some c → lk hs c = H c) :
  match sC D tab t (ev σ x) hs with
  | .val v => kW P D B σ H df a w o v []
  | .side p v => p → kW P D B σ H df a w o v []
  | _ => True := by
 have h := Dm (P := P) (t := t) hT hR.sat (aS hR x) hhs;have key : ∀ (v : SV C), (∃ u, (Instr.loadAt t (a.eval x)).run P w = .ok u w ∧ Den D w E v u) → kW P D B σ H df a w o v [] := by
  rintro v ⟨u, h1, h2⟩;exact ⟨u, w, E, .inl (by simp [execOp, ho, h1]), hR, h2⟩
 generalize sC D tab t (ev σ x) hs = out at *;cases out with
 | val v => exact key v h
 | side p v => exact fun hp => key v (h hp)
 | _ => trivial
end
end Go.SX
namespace Go.SX
open Go.RowKit
variable {C : Cod}
def cB (P : Program) (D : aJ C) (B : dP) (σ : Nat → SV C) (H : Nat → HS C) (df : List Deferred) (a : Act) (w : World) (o : Oper) : Out C → Prop
 | .stuck => True
 | .val v => kW P D B σ H df a w o v []
 | .side p v => p → kW P D B σ H df a w o v []
 | .mem v ws => kW P D B σ H df a w o v ws
 | .smem p v ws => p → kW P D B σ H df a w o v ws
 | .call f args => ∀ E, Rel D B E σ H df a w → ∃ vs, DenA D w E args vs ∧ (execOp a.eval o).run P w = (callFunc f vs.toArray).run P w
 | .may p v => ∃ b, (b = true → p) ∧ kW P D B σ H df a w o (v b) []
 | .ask q K => ∀ r, q = some r → kW P D B σ H df a w o (K r) []
 | .yieldc c args => ∀ E, Rel D B E σ H df a w → ∀ b, E.β c = .loc b → ∃ vs, DenA D w E args vs ∧ (execOp a.eval o).run P w = (Instr.yield b vs.toArray).run P w
section
variable {P : Program} {D : aJ C} {tab : Tab C} {B : dP} {E : Env} {σ : Nat → SV C} {H : Nat → HS C} {df : List Deferred} {a : Act} {w : World} {o : Oper}
theorem aG {v : SV C} (hR : Rel D B E σ H df a w) {u : Value} (h : (execOp a.eval o).run P w = .ok (.value u) w) (hd : Den D w E v u) : kW P D B σ H df a w o v [] :=
 ⟨u, w, E, .inl h, hR, hd⟩
theorem cT {k : IntKind} {n : Int} {v : Value} (h : Den D w E (.p (.int k n)) v) : v = .int k n := by
 simp only [Den] at h; cases h; rfl
theorem jR {b : Bool} {v : Value} (h : Den D w E (.p (.bool b)) v) : v = .bool b := by
 simp only [Den] at h; cases h; rfl
theorem kE {l : List UInt8} {v : Value} (h : Den D w E (.p (.str l)) v) : v = .string ⟨⟨l⟩⟩ := by
 simp only [Den] at h; cases h; rfl
theorem cK {u v : Value} (h : Den D w E (.p (.lit u)) v) : v = u := by
 simp only [Den] at h; cases h; rfl
theorem fN (k : IntKind) (n : Int) : Den D w E (.p (.int k n)) (.int k n) := iV.int k n
theorem cD (b : Bool) : Den D w E (.p (.bool b)) (.bool b) := iV.bool b
theorem O5 (l : List UInt8) : Den D w E (.p (.str l)) (.string ⟨⟨l⟩⟩) := iV.str l
theorem C7 (l : List UInt8) : (⟨⟨l⟩⟩ : ByteArray).size = l.length := rfl
theorem Cy (l : List UInt8) : (⟨⟨l⟩⟩ : ByteArray).toList = l := by rw [ByteArray.toList_eq]
theorem Ud (a b : List UInt8) : (⟨⟨a⟩⟩ : ByteArray) ++ ⟨⟨b⟩⟩ = ⟨⟨a ++ b⟩⟩ := by
 apply ByteArray.ext;simp
theorem Mc {k : IntKind} {n : Int} (hR : Rel D B E σ H df a w) (h : (execOp a.eval o).run P w = .ok (.value (.int k (k.wrap n))) w) : cB P D B σ H df a w o (q3n k n) := by
 unfold q3n;cases k
 case i64 =>
  intro hin;unfold InR at hin;rw [hin] at h;exact aG hR h (fN _ _)
 all_goals exact aG hR h (fN _ _)
theorem yW {wr : Bool} {k : IntKind} {n : Int} (hR : Rel D B E σ H df a w) (h : (execOp a.eval o).run P w = .ok (.value (.int k (k.wrap n))) w) : cB P D B σ H df a w o (La wr k n) := by
 cases wr with
 | true => exact aG hR h (fN _ _)
 | false => exact Mc hR h
theorem Tn (x y : Int) : (x == y) = decide (x = y) := by by_cases h : x = y <;> simp [h]
theorem Vl {wr : Bool} {op : BinOp} {k : IntKind} {x y : Int} (hR : Rel D B E σ H df a w) {t yt : TypeId} {ox oy : Operand} (ho : o.op = .binOp op t ox oy yt)
  (hx : a.eval ox = .int k x) (hy : a.eval oy = .int k y) : cB P D B σ H df a w o (q12 wr op k x y) := by
 have h0 : (execOp a.eval o).run P w = (do let r ← binOp op t (.int k x) (.int k y); pure (Next.value r) : Sem Next).run P w := by
  simp [execOp, ho, hx, hy, eqGuard]
 cases op
 case add => exact yW hR (by rw [h0]; simp [binOp, Op.intArith])
 case sub => exact yW hR (by rw [h0]; simp [binOp, Op.intArith])
 case mul => exact yW hR (by rw [h0]; simp [binOp, Op.intArith])
 case quo =>
  rintro ⟨hy0, hin⟩;unfold InR at hin;exact aG hR (u := .int k (x.tdiv y)) (by rw [h0]; simp [binOp, Op.intDiv, hy0, hin]) (fN _ _)
 case rem =>
  intro hy0;exact aG hR (u := .int k (x.tmod y)) (by rw [h0]; simp [binOp, Op.intDiv, hy0]) (fN _ _)
 case and => exact aG hR (u := .int k (cE .and k x y)) (by rw [h0]; simp [binOp, Op.intBits, cE]) (fN _ _)
 case or => exact aG hR (u := .int k (cE .or k x y)) (by rw [h0]; simp [binOp, Op.intBits, cE]) (fN _ _)
 case xor => exact aG hR (u := .int k (cE .xor k x y)) (by rw [h0]; simp [binOp, Op.intBits, cE]) (fN _ _)
 case andNot => exact aG hR (u := .int k (cE .andNot k x y)) (by rw [h0]; simp [binOp, Op.intBits, cE]) (fN _ _)
 case shl => trivial
 case shr => trivial
 case eql => exact aG hR (u := .bool (decide (x = y))) (by rw [h0]; simp [binOp, Op.intCmp, Tn]) (cD _)
 case neq => exact aG hR (u := .bool (!decide (x = y))) (by rw [h0]; simp [binOp, Op.intCmp, Tn, bne]) (cD _)
 case lss => exact aG hR (u := .bool (decide (x < y))) (by rw [h0]; simp [binOp, Op.intCmp]) (cD _)
 case leq => exact aG hR (u := .bool (decide (x ≤ y))) (by rw [h0]; simp [binOp, Op.intCmp]) (cD _)
 case gtr => exact aG hR (u := .bool (decide (y < x))) (by rw [h0]; simp [binOp, Op.intCmp]) (cD _)
 case geq => exact aG hR (u := .bool (decide (y ≤ x))) (by rw [h0]; simp [binOp, Op.intCmp]) (cD _)
theorem Tl {op : BinOp} {x y : List UInt8} (hR : Rel D B E σ H df a w) {t yt : TypeId} {ox oy : Operand} (ho : o.op = .binOp op t ox oy yt)
  (hx : a.eval ox = .string ⟨⟨x⟩⟩) (hy : a.eval oy = .string ⟨⟨y⟩⟩) : cB P D B σ H df a w o (q2c op x y) := by
 have h0 : (execOp a.eval o).run P w = (do let r ← binOp op t (.string ⟨⟨x⟩⟩) (.string ⟨⟨y⟩⟩); pure (Next.value r) : Sem Next).run P w := by
  simp [execOp, ho, hx, hy, eqGuard]
 cases op
 case add =>
  intro hl;refine aG hR (u := .string ⟨⟨x ++ y⟩⟩) ?_ (O5 _);rw [h0];have : ¬ (IntKind.i64.max < ((x.length + y.length : Nat) : Int)) := by
   have : IntKind.i64.max = 9223372036854775807 := by decide
   omega
  simp only [binOp, Op.stringOp, C7, Sem.run_bind, gt_iff_lt, if_neg this, Sem.run_pure, Result.andThen_ok, Ud]
 all_goals first | trivial | skip
 case eql => exact aG hR (u := .bool (decide (x = y))) (by rw [h0]; simp [binOp, Op.stringOp, Bool.beq_eq_decide_eq]) (cD _)
 case neq => exact aG hR (u := .bool (!decide (x = y))) (by rw [h0]; simp [binOp, Op.stringOp, Bool.beq_eq_decide_eq]) (cD _)
 case lss => exact aG hR (u := .bool (jI x y)) (by rw [h0]; simp [binOp, Op.stringOp, jI, Cy]) (cD _)
 case leq => exact aG hR (u := .bool (jI x y || decide (x = y))) (by rw [h0]; simp [binOp, Op.stringOp, jI, Bool.beq_eq_decide_eq]) (cD _)
 case gtr => exact aG hR (u := .bool !(jI x y || decide (x = y))) (by rw [h0]; simp [binOp, Op.stringOp, jI, Bool.beq_eq_decide_eq]) (cD _)
 case geq => exact aG hR (u := .bool !(jI x y)) (by rw [h0]; simp [binOp, Op.stringOp, jI, Cy]) (cD _)
theorem lQ (t : TypeId) (x y : Bool) (d : Nat) (h : P.underlying t = some .bool) : (Op.equalIn (d + 1) t (.bool x) (.bool y)).run P w = .ok (x == y) w := by
 simp [Op.equalIn, run_underlying h]
theorem Xj (A : Aux C D) (hT : bZ P D tab) (hR : Rel D B E σ H df a w) {op : BinOp} {t yt : TypeId} {ox oy : Operand} (ho : o.op = .binOp op t ox oy yt) {i : TI C} (hi : tab t = some i) (hne : i.cks ≠ []) {vs ws : List (SV C)}
  (hx : Den D w E (.agg vs) (a.eval ox)) (hy : Den D w E (.agg ws) (a.eval oy)) : cB P D B σ H df a w o (Ig A op i vs ws) := by
 simp only [Den] at hx hy;obtain ⟨cs, ex, hcs⟩ := hx;obtain ⟨ds, ey, hds⟩ := hy;have ht := hT t i hi;obtain ⟨hag, hck, hgt⟩ := ht.eq hne;obtain ⟨d, hu, hk⟩ := ht.und;have hVof : ∀ cs : Array Value, Vof P t (.agg cs) cs.toList := by
  intro cs;cases hkk : i.kind <;> rw [hkk] at hag hk <;> simp [TK.agg] at hag <;> simp only [lG] at hk
  ·obtain ⟨F, rfl, _⟩ := hk; simp only [Vof, hu]
  ·obtain ⟨rfl, _⟩ := hk; simp only [Vof, hu]
 have hrun : ∀ b, mF A i.cks vs ws = some b → (Op.equal t (.agg cs) (.agg ds)).run P w = .ok b w := by
  intro b hb;obtain ⟨k1, k2, k3⟩ := Pa A i.cks vs ws b cs.toList ds.toList hb hcs hds;have := Vk (P := P) 9936 64 t i.cks hck w (.agg cs) (.agg ds) cs.toList ds.toList (hVof cs) (hVof ds) k1 k2;rw [show Op.equal t (.agg cs) (.agg ds) = Op.equalIn (9936 + 64) t (.agg cs) (.agg ds) from rfl, this];congr 1;rw [Bool.eq_iff_iff]; simp [k3]
 unfold Ig;have hpg : program.run P w = .ok P w := rfl;split
 ·cases hb : mF A i.cks vs ws with
  | none => trivial
  | some b =>
   refine aG hR (u := .bool b) ?_ (cD _);simp [execOp, ho, ex, ey, eqGuard, hpg, hgt, binOp, hrun b hb]
 ·cases hb : mF A i.cks vs ws with
  | none => trivial
  | some b =>
   refine aG hR (u := .bool !b) ?_ (cD _);simp [execOp, ho, ex, ey, eqGuard, hpg, hgt, binOp, hrun b hb]
 ·trivial
theorem q75 (A : Aux C D) (hT : bZ P D tab) (hR : Rel D B E σ H df a w) {op : BinOp} {t yt : TypeId} {ox oy : Operand} (ho : o.op = .binOp op t ox oy yt) :
  cB P D B σ H df a w o (q3h A tab op t (ev σ ox) (ev σ oy)) := by
 have hx := aS hR ox;have hy := aS hR oy;generalize ev σ ox = sx at *;generalize ev σ oy = sy at *;unfold q3h;split
 ·rename_i vs ws;split
  ·rename_i i hi;split
   ·trivial
   ·rename_i c l hc;exact Xj A hT hR ho hi (by rw [hc]; simp) hx hy
  ·trivial
 ·rename_i k x k' y;have ex := cT hx;have ey := cT hy;have h0 : (execOp a.eval o).run P w = (do let r ← binOp op t (.int k x) (.int k' y); pure (Next.value r) : Sem Next).run P w := by
   simp [execOp, ho, ex, ey, eqGuard]
  split
  ·intro hy0;refine aG hR (u := .int k (gX k x y)) ?_ (fN _ _);rw [h0];have : ¬ y < 0 := by omega
   simp [binOp, Op.shift, this, gX]
  ·intro hy0;refine aG hR (u := .int k (cQ k x y)) ?_ (fN _ _);rw [h0];have : ¬ y < 0 := by omega
   simp [binOp, Op.shift, this, cQ]
  ·split
   ·rename_i hk;subst hk;exact Vl hR ho ex ey
   ·trivial
 ·rename_i x y;exact Tl hR ho (kE hx) (kE hy)
 ·rename_i x y;have ex := jR hx;have ey := jR hy;split
  ·rename_i i htab;have ht := hT t i htab;split
   ·rename_i hk;obtain ⟨d, hu, hkk⟩ := ht.und;rw [hk] at hkk;simp only [lG] at hkk;subst hkk;split
    ·refine aG hR (u := .bool (x == y)) ?_ (cD _);simp [execOp, ho, ex, ey, eqGuard, binOp, Op.equal, Op.maxDepth, lQ t x y 9999 hu]
    ·refine aG hR (u := .bool !(x == y)) ?_ (cD _);simp [execOp, ho, ex, ey, eqGuard, binOp, Op.equal, Op.maxDepth, lQ t x y 9999 hu]
    ·trivial
   ·trivial
  ·trivial
 ·trivial
theorem qa6 (hR : Rel D B E σ H df a w) {op : UnOp} {t : TypeId} {ox : Operand} (ho : o.op = .unOp op t ox) : cB P D B σ H df a w o (q97 op (ev σ ox)) := by
 have hx := aS hR ox;generalize ev σ ox = sx at *;unfold q97;split
 ·rename_i k n;have ex := cT hx;exact Mc hR (by simp [execOp, ho, ex, Op.unary, Op.intArith])
 ·rename_i b;have ex := jR hx;exact aG hR (u := .bool !b) (by simp [execOp, ho, ex, Op.unary]) (cD _)
 ·rename_i k n;have ex := cT hx;exact aG hR (u := .int k (cE .xor k (if k.signed then -1 else k.max) n)) (by simp [execOp, ho, ex, Op.unary, Op.intBits, cE]) (fN _ _)
 ·trivial
theorem Nb (hT : bZ P D tab) (hR : Rel D B E σ H df a w) {src dst : TypeId} {ox : Operand} (ho : o.op = .convert src dst ox) :
  cB P D B σ H df a w o (H8 tab src dst (ev σ ox)) := by
 have hx := aS hR ox;generalize ev σ ox = sx at *;unfold H8;cases hsrc : tab src with
 | none => trivial
 | some i0 =>
 cases htab : tab dst with
 | none => trivial
 | some j =>
  simp only;have ht := hT dst j htab;obtain ⟨ds, hds, _⟩ := (hT src i0 hsrc).und;split
  ·rename_i k k' n hk;obtain ⟨d, hu, hkk⟩ := ht.und;rw [hk] at hkk;simp only [lG] at hkk;subst hkk;have ex := cT hx;have h0 : (execOp a.eval o).run P w = .ok (.value (.int k (k.wrap n))) w := by
    simp [execOp, ho, ex, convert, run_underlying hds, run_underlying hu, Conv.intToInt]
   split
   ·intro hin;unfold InR at hin;rw [hin] at h0;exact aG hR h0 (fN _ _)
   ·exact aG hR h0 (fN _ _)
  ·trivial
theorem Br {t : TypeId} {i : TI C} (ht : yA P D t i) {fs : List (Nat × TypeId)} (hk : i.kind = .struct fs) : ∃ F, P.underlying t = some (.struct F) ∧ F.toList.map (fun f => (f.offset, f.type)) = fs := by
 obtain ⟨d, hu, hkk⟩ := ht.und;rw [hk] at hkk;obtain ⟨F, rfl, hF, _⟩ := hkk;exact ⟨F, hu, hF⟩
theorem arr_of {t : TypeId} {i : TI C} (ht : yA P D t i) {n : Nat} {e : TypeId} (hk : i.kind = .arr n e) : P.underlying t = some (.array n e) := by
 obtain ⟨d, hu, hkk⟩ := ht.und;rw [hk] at hkk;simp only [lG] at hkk;rw [hu, hkk.1]
theorem Yr {t : TypeId} {i : TI C} (ht : yA P D t i) {n : Nat} {e : TypeId} (hk : i.kind = .arr n e) : ∃ ie, P.info? e = some ie ∧ i.size = n * ie.size := by
 obtain ⟨d, hu, hkk⟩ := ht.und;rw [hk] at hkk;exact hkk.2
theorem cL {t : TypeId} {i : TI C} (ht : yA P D t i) {e : TypeId} (hk : i.kind = .slice e) : P.underlying t = some (.slice e) := by
 obtain ⟨d, hu, hkk⟩ := ht.und;rw [hk] at hkk;simp only [lG] at hkk;rw [hu, hkk]
theorem D9 {t : TypeId} {i : TI C} (ht : yA P D t i) (hk : i.kind = .str) : P.underlying t = some .string := by
 obtain ⟨d, hu, hkk⟩ := ht.und;rw [hk] at hkk;simp only [lG] at hkk;rw [hu, hkk]
theorem Bt {F : Array Field} {fs : List (Nat × TypeId)} (hF : F.toList.map (fun f => (f.offset, f.type)) = fs) {f off : Nat} {ft : TypeId} (h : ixL fs f = some (off, ft)) :
  ∃ fd, F[f]? = some fd ∧ fd.offset = off ∧ fd.type = ft := by
 rw [tW, ← hF, List.getElem?_map] at h;cases hq : F.toList[f]? with
 | none => simp [hq] at h
 | some fd =>
  simp [hq] at h;exact ⟨fd, by simpa using hq, h.1, h.2⟩
theorem I6 {fd : Field} {j : TI C} (ht : yA P D fd.type j) (b o' : Nat) : (fieldPlace ⟨b, o', none⟩ fd).run P w = .ok ⟨b, o' + fd.offset, none⟩ w := by
 have := ht.pos;simp [fieldPlace, run_sizeOf ht, Nat.pos_iff_ne_zero.1 this, Addr.add_lit]
theorem cO {h : HS C} {x : Out C} (hx : h.live = true → cB P D B σ H df a w o x) : cB P D B σ H df a w o (gH h x) := by
 unfold gH;cases hl : h.live with
 | true => exact hx hl
 | false => trivial
theorem sL {h : HS C} (hl : h.live = true) : h ≠ .dead ∧ h ≠ .fresh := by
 cases h <;> simp [HS.live] at hl <;> simp
theorem oB (hs : Sat D w E H) {c o : Nat} (hl : (H c).live = true) {v : Value} (h : Den D w E (.ptr c o) v) : ∃ b, E.β c = .loc b := by
 have hn := sL hl;rcases kM hs hn.1 hn.2 with ⟨hv, _⟩ | ⟨b, hb, _⟩
 ·simp only [Den, hv] at h
 ·exact ⟨b, hb⟩
theorem tP (hs : Sat D w E H) {c o n i f : Nat} (hl : (H c).live = true) {v : Value} (h : Den D w E (.eptr c o n i f) v) : ∃ b, E.β c = .loc b := by
 have hn := sL hl;rcases kM hs hn.1 hn.2 with ⟨hv, _⟩ | ⟨b, hb, _⟩
 ·simp only [Den, hv] at h
 ·exact ⟨b, hb⟩
theorem cR (hs : Sat D w E H) {c o n off len : Nat} (hl : (H c).live = true) {v : Value} (h : Den D w E (.slice c o n off len) v) :
  (len = 0 ∧ ((∃ ad, v = .slice ad 0 0 ∧ E.β c = .virt) ∨ ∃ a b, v = .slice a 0 0 ∧ E.β c = .loc b)) ∨
  ∃ b cap cs T, E.β c = .loc b ∧ v = .slice (some ⟨b, o + off * n, none⟩) len cap ∧ len ≤ cap ∧ Row w b cs T ∧ o + (off + cap) * n ≤ cs.size := by
 have hn := sL hl;rcases kM hs hn.1 hn.2 with ⟨hv, _⟩ | ⟨b, hb, _⟩
 ·simp only [Den, hv] at h;obtain ⟨ad, h1, h2⟩ := h;exact .inl ⟨h2, .inl ⟨ad, h1, hv⟩⟩
 ·simp only [Den, hb] at h;rcases h with ⟨h1, ad, h2⟩ | ⟨cap, cs, T, h⟩
  ·exact .inl ⟨h1, .inr ⟨ad, b, h2, hb⟩⟩
  ·exact .inr ⟨b, cap, cs, T, hb, h⟩
theorem Fb (hT : bZ P D tab) (hR : Rel D B E σ H df a w) {s : TypeId} {ox : Operand} {f : Nat} (ho : o.op = .fieldAddr s ox f) {hs : List (Nat × HS C)} (hhs : ∀ c, (ev σ ox).topId = some c → lk hs c = H c) :
  cB P D B σ H df a w o (tH tab s (ev σ ox) f hs) := by
 have hx := aS hR ox;generalize ev σ ox = sx at *;unfold tH;cases htab : tab s with
 | none => trivial
 | some i =>
  simp only;have ht := hT s i htab;split
  ·rename_i fs hk;obtain ⟨F, hu, hF⟩ := Br ht hk;cases hf : ixL fs f with
   | none => trivial
   | some p =>
    obtain ⟨off, ft⟩ := p;obtain ⟨fd, h1, h2, h3⟩ := Bt hF hf;simp only;cases htf : tab ft with
    | none => trivial
    | some j =>
     have hj := hT ft j htf;rw [← h3] at hj;simp only;have key : ∀ b o', a.eval ox = .pointer (some ⟨b, o', none⟩) → (execOp a.eval o).run P w = .ok (.value (.pointer (some ⟨b, o' + off, none⟩))) w := fun b o' e => by
      simp [execOp, ho, e, Instr.fieldAt, run_underlying hu, h1, Instr.sureAddr, I6 hj, h2]
     split
     ·rename_i c o';refine cO fun hl => ?_;rw [hhs c rfl] at hl;obtain ⟨b, hb⟩ := oB hR.sat hl hx;have e := iE hx hb;exact aG hR (key b o' e) (by simp only [Den, hb])
     ·rename_i c o' n k g;refine cO fun hl => ?_;rw [hhs c rfl] at hl;obtain ⟨b, hb⟩ := tP hR.sat hl hx;have e := qJ hx hb;exact aG hR (key b _ e) (by simp only [Den, hb, Nat.add_assoc])
     ·rename_i cells g;simp only [Den] at hx;obtain ⟨b, o', e, hc⟩ := hx;refine aG hR (key b _ e) ?_;simp only [Den];exact ⟨b, o', by rw [Nat.add_assoc], hc⟩
     ·trivial
  ·trivial
end
end Go.SX
namespace Go.SX
open Go.RowKit
variable {C : Cod}
section
variable {P : Program} {D : aJ C} {tab : Tab C} {B : dP} {E : Env} {σ : Nat → SV C} {H : Nat → HS C} {df : List Deferred} {a : Act} {w : World} {o : Oper}
theorem Ni {t : TypeId} {i : TI C} (ht : yA P D t i) {vs : List (SV C)} {off : Nat} {sv : SV C} {cs : Array Value} (h : q3u i vs off = some sv) (hd : DenC D w E vs cs.toList) :
  ∃ v, (part t cs off).run P w = .ok v w ∧ Den D w E sv v := by
 unfold q3u at h;cases hg : i.kind.agg with
 | true =>
  simp only [hg] at h;cases hdw : nD vs off with
  | none => simp [hdw] at h
  | some r =>
   cases htw : kT r i.size with
   | none => simp [hdw, htw] at h
   | some l =>
    simp [hdw, htw] at h; subst h;obtain ⟨h1, h2⟩ := iM _ _ _ _ hdw hd;obtain ⟨h3, h4⟩ := jY _ _ _ _ htw h1;refine ⟨.agg (cs.extract off (off + i.size)), by simp [part, nE ht, hg, run_sizeOf ht], ?_⟩;simp only [Den];refine ⟨_, rfl, ?_⟩;rw [Array.toList_extract];simpa [List.extract_eq_take_drop] using h3
 | false =>
  simp only [hg] at h;have hh := mS vs off cs.toList hd;cases hq : rU vs off with
  | miss => simp [hq] at h
  | elem u N xs k => simp [hq] at h
  | cell x =>
   simp [hq] at h; subst h;rw [hq] at hh;obtain ⟨v, h1, h2, h3⟩ := hh;have h1' : cs[off]? = some v := by simpa using h1
   exact ⟨v, by simp [part, nE ht, hg, h1'], h3⟩
theorem Xf (hT : bZ P D tab) (hR : Rel D B E σ H df a w) {s : TypeId} {ox : Operand} {f : Nat} (ho : o.op = .field s ox f) :
  cB P D B σ H df a w o (Hw tab s (ev σ ox) f) := by
 have hx := aS hR ox;generalize ev σ ox = sx at *;unfold Hw;cases htab : tab s with
 | none => trivial
 | some i =>
  simp only;have ht := hT s i htab;split
  ·rename_i fs hk;obtain ⟨F, hu, hF⟩ := Br ht hk;cases hf : ixL fs f with
   | none => trivial
   | some p =>
    obtain ⟨off, ft⟩ := p;obtain ⟨fd, h1, h2, h3⟩ := Bt hF hf;simp only;cases htf : tab ft with
    | none => trivial
    | some j =>
     have hj := hT ft j htf;simp only;split
     ·rename_i vs;simp only [Den] at hx;obtain ⟨cs, e, hd⟩ := hx;unfold q76;split
      ·rename_i sv hsv;obtain ⟨v, h4, h5⟩ := Ni (w := w) hj hsv hd;exact aG hR (by simp [execOp, ho, e, Instr.field, run_underlying hu, h1, asAgg, h2, h3, h4]) h5
      ·trivial
     ·trivial
  ·trivial
theorem vQ {t e : TypeId} {j : TI C} {len : Nat} (hu : P.underlying t = some (.array len e)) (hj : yA P D e j) {k : IntKind} {n : Int} {b o' : Nat} (h0 : 0 ≤ n) (h1 : n < len) :
  (Instr.indexAt t (.pointer (some ⟨b, o', none⟩)) (.int k n)).run P w = .ok (.pointer (some ⟨b, o' + n.toNat * j.size, none⟩)) w := by
 have : 0 ≤ n ∧ n < (len : Int) := ⟨h0, h1⟩;simp [Instr.indexAt, asIntOf, run_underlying hu, Instr.sureAddr, this, run_sizeOf hj, Addr.add_lit]
theorem iL {t e : TypeId} {j : TI C} (hu : P.underlying t = some (.slice e)) (hj : yA P D e j) {k : IntKind} {n : Int} {b o' len cap : Nat} (h0 : 0 ≤ n) (h1 : n < len) :
  (Instr.indexAt t (.slice (some ⟨b, o', none⟩) len cap) (.int k n)).run P w = .ok (.pointer (some ⟨b, o' + n.toNat * j.size, none⟩)) w := by
 have : 0 ≤ n ∧ n < (len : Int) := ⟨h0, h1⟩;simp [Instr.indexAt, asIntOf, run_underlying hu, this, run_sizeOf hj, Addr.add_lit]
theorem Fe {q : IntKind} : ∀ {l : List (PV C)}, Ao q l = true → ∀ {i : Nat}, i < l.length → l[i]? = some (.int q (J7 l i))
 | [], _, i, hi => by simp at hi
 | x :: l, h, i, hi => by
  cases x with
  | int k n =>
   simp only [Ao] at h;split at h
   ·rename_i e _;subst e;cases i with
    | zero => rfl
    | succ i => simpa [J7] using Fe h (by simpa using hi)
   ·cases h
  | _ => simp [Ao] at h
theorem As (hT : bZ P D tab) (hR : Rel D B E σ H df a w) {t : TypeId} {ox oi : Operand} (ho : o.op = .indexAddr t ox oi) {hs : List (Nat × HS C)} (hhs : ∀ c, (ev σ ox).topId = some c → lk hs c = H c) :
  cB P D B σ H df a w o (sR D tab t (ev σ ox) (ev σ oi) hs) := by
 have hx := aS hR ox;have hi := aS hR oi;generalize ev σ ox = sx at *;generalize ev σ oi = si at *;unfold sR;split
 ·rename_i i ik n htab;have ht := hT t i htab;have ei := cT hi;split
  ·rename_i len e hk;have hu := arr_of ht hk;cases hte : tab e with
   | none => trivial
   | some j =>
    have hj := hT e j hte;simp only;have key : ∀ b o', a.eval ox = .pointer (some ⟨b, o', none⟩) → 0 ≤ n → n < len → (execOp a.eval o).run P w = .ok (.value (.pointer (some ⟨b, o' + n.toNat * j.size, none⟩))) w := fun b o' e h0 h1 => by
     simp [execOp, ho, e, ei, vQ (w := w) hu hj h0 h1]
    split
    ·rename_i c o';split
     ·rename_i u xs hsq;rintro ⟨h0, h1, h2, h3⟩;rw [hhs c rfl] at hsq;have hl : (H c).live = true := by cases hH : H c <;> rw [hH] at hsq <;> first | rfl | (simp [gP] at hsq)
      obtain ⟨b, hb⟩ := oB hR.sat hl hx;refine aG hR (key b o' (iE hx hb) h0 h1) ?_;simp only [Den, hb, h2, Nat.add_zero]
     ·refine cO fun hl => ?_;rw [hhs c rfl] at hl;rintro ⟨h0, h1⟩;obtain ⟨b, hb⟩ := oB hR.sat hl hx;refine aG hR (key b o' (iE hx hb) h0 h1) ?_;simp only [Den, hb]
    ·rename_i c o' m l f;refine cO fun hl => ?_;rw [hhs c rfl] at hl;rintro ⟨h0, h1⟩;obtain ⟨b, hb⟩ := tP hR.sat hl hx;refine aG hR (key b _ (qJ hx hb) h0 h1) ?_;simp only [Den, hb, Nat.add_assoc]
    ·rename_i cells f;split
     ·rintro ⟨h0, h1⟩;simp only [Den] at hx;obtain ⟨b, o', e, hc⟩ := hx;refine aG hR (key b _ e h0 h1) ?_;simp only [Den];exact ⟨b, o', by rw [Nat.add_assoc], hc⟩
     ·split
      ·split
       ·rename_i q hq hall;rintro ⟨h0, h1, h2, h3⟩;simp only [Den] at hx;obtain ⟨b, o', e, hc⟩ := hx;refine aG hR (key b _ e h0 h1) ?_;simp only [Den];refine ⟨b, o' + (f + n.toNat), by rw [h2]; simp [Nat.add_assoc], fun jj pv hp => ?_⟩;have hjj : jj = 0 := by
         cases jj with
         | zero => rfl
         | succ jj => simp at hp
        subst hjj;simp at hp;subst hp;have := hc (f + n.toNat) _ (Fe hall (by omega));simpa [Nat.add_assoc] using this
       ·trivial
      ·trivial
    ·trivial
  ·rename_i e hk;have hu := cL ht hk;cases hte : tab e with
   | none => trivial
   | some j =>
    have hj := hT e j hte;simp only;split
    ·rename_i u xs;rintro ⟨h0, h1, h2⟩;simp only [Den] at hx;have hlt : n.toNat < xs.length := by omega
     generalize hxx : a.eval ox = vx at hx;cases hx with
     | dslNil => simp at hlt
     | dsl _ _ b o' cap cv hF hc hcell hden =>
      refine aG hR (u := .pointer (some ⟨b, o' + n.toNat * j.size, none⟩)) ?_ ?_
      ·simp [execOp, ho, hxx, ei, iL (w := w) hu hj h0 h1]
      ·simp only [Den];refine ⟨b, o' + n.toNat * j.size, by simp, fun jj pv hp => ?_⟩;have hxs : xs[n.toNat]? = some (xs.getD n.toNat (C.dflt u)) := by simp [List.getD_eq_getElem?_getD, List.getElem?_eq_getElem hlt]
       refine ⟨hF (fun e => by rw [e] at hlt; simp at hlt), _, ?_, hden _ _ hxs _ _ hp⟩;rw [h2];exact hcell _ _ hxs _ _ hp
    ·rename_i c o' m off len;split
     ·refine cO fun hl => ?_;rw [hhs c rfl] at hl;rintro ⟨h0, h1, h2⟩;rcases cR hR.sat hl hx with ⟨h3, _⟩ | ⟨b, cap, cs, T, hb, e, _⟩
      ·subst h3; omega
      ·refine aG hR (u := .pointer (some ⟨b, o' + off * m + n.toNat * j.size, none⟩)) ?_ ?_
       ·simp [execOp, ho, e, ei, iL (w := w) hu hj h0 h1]
       ·simp only [Den, hb, h2, Nat.add_mul, Nat.add_assoc]
     ·refine cO fun hl => ?_;rw [hhs c rfl] at hl;rintro ⟨h0, h1, h2⟩;rcases cR hR.sat hl hx with ⟨h3, _⟩ | ⟨b, cap, cs, T, hb, e, _⟩
      ·subst h3; omega
      ·refine aG hR (u := .pointer (some ⟨b, o' + off * m + n.toNat * j.size, none⟩)) ?_ ?_
       ·simp [execOp, ho, e, ei, iL (w := w) hu hj h0 h1]
       ·simp only [Den, hb, h2, Nat.add_mul, Nat.add_zero, Nat.add_assoc]
    ·trivial
  ·trivial
 ·trivial
theorem Yu (hT : bZ P D tab) (hR : Rel D B E σ H df a w) {t : TypeId} {ox oi : Operand} (ho : o.op = .index t ox oi) :
  cB P D B σ H df a w o (Ht D tab t (ev σ ox) (ev σ oi)) := by
 have hx := aS hR ox;have hi := aS hR oi;generalize ev σ ox = sx at *;generalize ev σ oi = si at *;unfold Ht;split
 ·rename_i l k n;have ex := kE hx;have ei := cT hi;cases htab : tab t with
  | none => trivial
  | some i =>
   have ht := hT t i htab;simp only;split
   ·rename_i hk;have hu := D9 ht hk;rintro ⟨h0, h1⟩;have hlt : n.toNat < l.length := by omega
    refine aG hR (u := .int .u8 (l.getD n.toNat 0).toNat) ?_ (fN _ _);have hg : (⟨⟨l⟩⟩ : ByteArray)[n.toNat]? = some (l.getD n.toNat 0) := by
     have : n.toNat < (⟨⟨l⟩⟩ : ByteArray).size := hlt;rw [getElem?_pos (⟨⟨l⟩⟩ : ByteArray) n.toNat this];simp [List.getD_eq_getElem?_getD, List.getElem?_eq_getElem hlt];rfl
    simp [execOp, ho, ex, ei, Instr.index, asIntOf, run_underlying hu, h0, hg]
   ·trivial
 ·rename_i u N xs k n;simp only [Den] at hx;obtain ⟨cs, ex, hd⟩ := hx;have ei := cT hi;cases htab : tab t with
  | none => trivial
  | some i =>
   have ht := hT t i htab;simp only;split
   ·rename_i len e hk;have hu := arr_of ht hk;cases hte : tab e with
    | none => trivial
    | some j =>
     have hj := hT e j hte;simp only;unfold vC;split
     ·rename_i sv hlc;rintro ⟨h0, h1, h2, h3⟩;simp only [DenC] at hd;obtain ⟨hN, v1, v2, e1, hp, e2⟩ := hd;subst e2;simp only [List.append_nil] at e1;have hlt : n.toNat < xs.length := by omega
      have hxs : xs[n.toNat]? = some (xs.getD n.toNat (C.dflt u)) := by simp [List.getD_eq_getElem?_getD, List.getElem?_eq_getElem hlt]
      have hcell : ∀ jj pv, (D.enc u (xs.getD n.toNat (C.dflt u)))[jj]? = some pv → ∃ v, cs.toList[n.toNat * C.n u + jj]? = some v ∧ iV D w E.F pv v := by
       intro jj pv hpv;have hjl : jj < C.n u := by
        have := (List.getElem?_eq_some_iff.1 hpv).1
        rwa [D.enc_len] at this
       have hf := iN (D := D) u xs n.toNat jj _ hxs hjl;rw [hpv] at hf;have hlen : n.toNat * C.n u + jj < v1.length := by
        rw [← hp.1]; exact (List.getElem?_eq_some_iff.1 hf).1
       rw [e1];exact ⟨v1[n.toNat * C.n u + jj], List.getElem?_eq_getElem hlen, hp.2 _ _ _ hf (List.getElem?_eq_getElem hlen)⟩
      have h01 : 0 ≤ n ∧ n < (len : Int) := ⟨h0, h1⟩;unfold fB at hlc;cases hg : j.kind.agg with
      | true =>
       simp only [hg] at hlc;have hd0 : uO (D.enc u (xs.getD n.toNat (C.dflt u))) 0 = some (D.enc u (xs.getD n.toNat (C.dflt u))) := by
        cases D.enc u (xs.getD n.toNat (C.dflt u)) <;> rfl
       rw [hd0] at hlc;replace hlc : (match vG (D.enc u (xs.getD n.toNat (C.dflt u))) j.size with | some l => some (SV.agg (wW l)) | none => none) = some sv := hlc;cases htk : vG (D.enc u (xs.getD n.toNat (C.dflt u))) j.size with
       | none => rw [htk] at hlc; cases hlc
       | some l =>
        rw [htk] at hlc;cases hlc;obtain ⟨h4, h5⟩ := mR _ _ _ htk;have hl : l = D.enc u (xs.getD n.toNat (C.dflt u)) := by
         rw [h4, h2];exact List.take_of_length_le (by rw [D.enc_len]; exact Nat.le_refl _)
        refine aG hR (u := .agg (cs.extract (n.toNat * j.size) (n.toNat * j.size + j.size))) ?_ ?_
        ·simp [execOp, ho, ex, ei, Instr.index, asIntOf, run_underlying hu, h01, run_sizeOf hj, part, nE hj, hg]
        ·simp only [Den];refine ⟨_, rfl, ?_⟩;have hcl : n.toNat * C.n u + C.n u ≤ cs.toList.length := by
          rw [e1, ← hp.1, aQ];have := Nat.mul_le_mul_right (C.n u) hlt;rw [Nat.succ_mul] at this;exact this
         refine R7 ?_ fun jj pv v hp' hv => ?_
         ·rw [hl, D.enc_len, Array.toList_extract];simp [List.extract_eq_take_drop, h2] at hcl ⊢;omega
         ·rw [hl] at hp';obtain ⟨v', h6, h7⟩ := hcell jj pv hp';rw [Array.toList_extract, List.extract_eq_take_drop, List.getElem?_take] at hv;split at hv
          ·rw [List.getElem?_drop, h2, h6] at hv;cases hv; exact h7
          ·cases hv
      | false =>
       simp only [hg] at hlc;rw [tW] at hlc;cases hx0 : (D.enc u (xs.getD n.toNat (C.dflt u)))[0]? with
       | none => rw [hx0] at hlc; simp at hlc
       | some pv =>
        rw [hx0] at hlc; simp at hlc; subst hlc;obtain ⟨v, h4, h5⟩ := hcell 0 pv hx0;refine aG hR (u := v) ?_ (by simp only [Den]; exact h5);have h4' : cs[n.toNat * j.size]? = some v := by rw [h2]; simpa using h4
        simp [execOp, ho, ex, ei, Instr.index, asIntOf, run_underlying hu, h01, run_sizeOf hj, part, nE hj, hg, h4']
     ·trivial
   ·trivial
 ·trivial
theorem Lj : ∀ (l : List (SV C)) (vs : List Value), DenA D w E l vs → ∀ (i : Nat) (x : SV C), l[i]? = some x → ∃ v, vs[i]? = some v ∧ Den D w E x v
 | [], vs, _, i, x, h => by simp at h
 | y :: l, vs, hd, i, x, h => by
  simp only [DenA] at hd;obtain ⟨v, v2, rfl, h1, h2⟩ := hd;cases i with
  | zero => simp at h; subst h; exact ⟨v, by simp, h1⟩
  | succ i => exact Lj l v2 h2 i x (by simpa using h)
theorem Mz (hR : Rel D B E σ H df a w) {ox : Operand} {i : Nat} (ho : o.op = .extract ox i) : cB P D B σ H df a w o (yR (ev σ ox) i) := by
 have hx := aS hR ox;generalize ev σ ox = sx at *;unfold yR;split
 ·rename_i vs;simp only [Den] at hx;obtain ⟨xs, e, hd⟩ := hx;split
  ·rename_i v hv;rw [tW] at hv;obtain ⟨u, h1, h2⟩ := Lj _ _ hd _ _ hv;have h1' : xs[i]? = some u := by simpa using h1
   exact aG hR (by simp [execOp, ho, e, Instr.extract, h1']) h2
  ·trivial
 ·trivial
theorem Sy (hR : Rel D B E σ H df a w) {ox : Operand} (ho : o.op = .move ox ∨ o.op = .assign ox) : cB P D B σ H df a w o (.val (ev σ ox)) := by
 rcases ho with ho | ho <;> exact aG hR (by simp [execOp, ho]) (aS hR ox)
theorem Tx (hR : Rel D B E σ H df a w) {oc ox oy : Operand} (ho : o.op = .pick oc ox oy) {c : Bool} (hc : ev σ oc = .p (.bool c)) :
  cB P D B σ H df a w o (.val (match c with | true => ev σ ox | false => ev σ oy)) := by
 have h := aS hR oc;rw [hc] at h;have e := jR h;cases c with
 | true => exact aG hR (by simp [execOp, ho, e, asBool]) (aS hR ox)
 | false => exact aG hR (by simp [execOp, ho, e, asBool]) (aS hR oy)
theorem vB (hR : Rel D B E σ H df a w) : ∀ (l : List Operand), DenA D w E (l.map (ev σ)) (l.map a.eval)
 | [] => by simp [DenA]
 | x :: l => by simp only [List.map_cons, DenA]; exact ⟨_, _, rfl, aS hR x, vB hR l⟩
theorem Gm (hR : Rel D B E σ H df a w) {ox : Operand} (ho : o.op = .nilCheck ox) {hs : List (Nat × HS C)} (hhs : ∀ c, (ev σ ox).topId = some c → lk hs c = H c) :
  cB P D B σ H df a w o (match [ev σ ox] with
   | [.ptr c o] => gH (lk hs c) (.val (.ptr c o))
   | [.eptr c o n i f] => gH (lk hs c) (.val (.eptr c o n i f))
   | [.dptr cells f] => .val (.dptr cells f)
   | [.fn (.func f) a b] => .val (.fn (.func f) a b)
   | _ => .stuck) := by
 have hx := aS hR ox;generalize ev σ ox = sx at *;split
 ·rename_i c o' heq;cases heq;refine cO fun hl => ?_;rw [hhs c rfl] at hl;obtain ⟨b, hb⟩ := oB hR.sat hl hx;have e := iE hx hb;exact aG hR (u := a.eval ox) (by simp [execOp, ho, e]) hx
 ·rename_i c o' n i f heq;cases heq;refine cO fun hl => ?_;rw [hhs c rfl] at hl;obtain ⟨b, hb⟩ := tP hR.sat hl hx;have e := qJ hx hb;exact aG hR (u := a.eval ox) (by simp [execOp, ho, e]) hx
 ·rename_i cells f heq;cases heq;have hx' := hx;simp only [Den] at hx;obtain ⟨b, o', e, _⟩ := hx;exact aG hR (u := a.eval ox) (by simp [execOp, ho, e]) hx'
 ·rename_i f x y heq;cases heq;have hx' := hx;simp only [Den] at hx;obtain ⟨xs, ys, e, _⟩ := hx;exact aG hR (u := a.eval ox) (by simp [execOp, ho, e]) hx'
 ·trivial
theorem Ho (hR : Rel D B E σ H df a w) {f : Fn} {first captured : Array Operand} (ho : o.op = .makeFunc f first captured) :
  cB P D B σ H df a w o (.val (.fn f (first.toList.map (ev σ)) (captured.toList.map (ev σ)))) := by
 refine aG hR (u := .func f (first.map a.eval) (captured.map a.eval)) ?_ ?_
 ·simp [execOp, ho, Instr.makeFunc]
 ·simp only [Den];refine ⟨_, _, rfl, ?_, ?_⟩
  ·simpa using vB hR first.toList
  ·simpa using vB hR captured.toList
end
end Go.SX
namespace Go.SX
open Go.RowKit
variable {C : Cod}
section
variable {P : Program} {D : aJ C} {tab : Tab C} {B : dP} {E : Env} {σ : Nat → SV C} {H : Nat → HS C} {df : List Deferred} {a : Act} {w : World} {o : Oper}
theorem fZ (c : Nat) (h : HS C) : rE H [(c, h)] = upH H c h := rfl
theorem nGβ (hs : Sat D w E H) {m : Nat} (hm : H m = .fresh) : E.β m = .fresh := by
 have := hs.ok m;rw [hm] at this;cases hb : E.β m with
 | fresh => rfl
 | dead => rw [hb] at this; simp [HS.ok] at this
 | virt => rw [hb] at this; simp [HS.ok] at this
 | loc b => rw [hb] at this; simp [HS.ok, HS.at] at this
theorem Ja (hR : Rel D B E σ H df a w) {m : Nat} (hm : H m = .fresh) {vs : List (SV C)} {cs : Array Value} (T : TypeId) (ty : Option TypeId) (hty : ∀ t, ty = some t → T = t) (hd : DenC D w E vs cs.toList)
  (h : (execOp a.eval o).run P w = .ok (.value (.pointer (some ⟨w.heap.size, 0, none⟩))) (w.alloc (.cells cs T))) : kW P D B σ H df a w o (.ptr m 0) [(m, .vart ty vs)] := by
 refine ⟨_, _, E.up m (.loc w.heap.size), .inl h, ?_, ?_⟩
 ·rw [fZ];exact hR.alloc hm cs T ⟨cs, T, ⟨Row.new (heap_alloc_new w _), hty⟩, DenC.mono (eH (nGβ hR.sat hm) _ hR.sat.F) _ _ hd⟩
 ·simp only [Den, Env.up_same]
theorem q37 {b : Bool} {t t' : TypeId} (h : q8h b t = some t') : t = t' := by cases b <;> simp [q8h] at h; exact h
theorem q08 (hT : bZ P D tab) (hR : Rel D B E σ H df a w) {m : Nat} (hm : H m = .fresh) {t : TypeId} (ho : o.op = .alloc t) :
  cB P D B σ H df a w o (match tab t with | some i => .mem (.ptr m 0) [(m, .vart (q8h i.typed t) i.zero)] | none => .stuck) := by
 cases htab : tab t with
 | none => trivial
 | some i =>
  obtain ⟨info, z, h1, h2, h3, h4, h5, h6⟩ := (hT t i htab).info;refine Ja hR hm t _ (fun _ h => q37 h) (h6 w E) ?_;simp [execOp, ho, Instr.alloc, zeroValue, typeInfo, h1, h4, newVar, newRow]
theorem Den.one_of {x : SV C} {v : Value} (h1 : x.one = true) (hd : Den D w E x v) : v.oneCell' = true := by
 cases x with
 | p y => simp only [Den] at hd; exact hd.oneCell
 | ptr c o => exact hd.one_ptr
 | eptr c o n i f => exact hd.one_eptr
 | slice c o n off len => exact hd.one_slice
 | dptr cells f => simp only [Den] at hd; obtain ⟨b, o, rfl, _⟩ := hd; rfl
 | fn f x y => simp only [Den] at hd; obtain ⟨_, _, rfl, _⟩ := hd; rfl
 | iface t y => simp only [Den] at hd; obtain ⟨_, rfl, _⟩ := hd; rfl
 | yieldv c => exact hd.one_yieldv
 | mapp c => exact hd.one_mapp
 | _ => simp [SV.one] at h1
theorem wE {x : SV C} (h1 : x.one = true) : x.isArr = false := by
 cases x <;> first | rfl | (simp [SV.one] at h1)
theorem G7 {v : Value} (h : v.oneCell' = true) : v.cells = #[v] := by
 cases v <;> first | rfl | (simp [Value.oneCell'] at h)
theorem kH {x : SV C} {l : List (SV C)} {v : Value} (h : cellsOf x = some l) (hd : Den D w E x v) : DenC D w E l v.cells.toList := by
 have key : x.one = true → cellsOf x = some [x] → DenC D w E l v.cells.toList := fun h1 h2 => by
  rw [h2] at h; cases h;have := Den.one_of h1 hd;rw [G7 this, bT (wE h1)];exact ⟨v, [], rfl, this, hd, by simp [DenC]⟩
 cases x with
 | agg vs =>
  simp [cellsOf] at h; subst h;simp only [Den] at hd;obtain ⟨cs, rfl, hd⟩ := hd;simpa [Value.cells] using hd
 | any => simp [cellsOf] at h
 | tuple l => simp [cellsOf] at h
 | arr u N xs => simp only [Den] at hd
 | _ => exact key rfl rfl
theorem q7n (hR : Rel D B E σ H df a w) {m : Nat} (hm : H m = .fresh) {t : TypeId} {ox : Operand} (ho : o.op = .box t ox) :
  cB P D B σ H df a w o (match cellsOf (ev σ ox) with | some l => .mem (.ptr m 0) [(m, .var l)] | none => .stuck) := by
 have hx := aS hR ox;cases hc : cellsOf (ev σ ox) with
 | none => trivial
 | some l => exact Ja hR hm t none (fun _ h => by cases h) (kH hc hx) (by simp [execOp, ho, Instr.box, newVar, newRow])
theorem eQ {b o : Nat} {T : TypeId} : ∀ (vs : List Value) (i : Nat) (cs : Array Value) (w : World), Row w b cs T → o + i + vs.length ≤ cs.size → (∀ v ∈ vs, v.oneCell' = true) →
  (storeCells ⟨b, o, none⟩ vs i).run P w = .ok () (w.setRow b (cs.toList.take (o + i) ++ vs ++ cs.toList.drop (o + i + vs.length)).toArray) := by
 intro vs
 induction vs with
 | nil =>
  rintro i cs w ⟨z, hz, _⟩ _ _;have e : (cs.toList.take (o + i) ++ [] ++ cs.toList.drop (o + i + ([] : List Value).length)).toArray = cs := by simp
  rw [e, setRow_self w b cs T z hz]; rfl
 | cons v rest ih =>
  rintro i cs w ⟨z, hz, ht⟩ hl h1;rw [List.length_cons] at hl;have hlt : o + i < cs.size := by omega
  have hst : (store ((⟨b, o, none⟩ : Addr).add i) v).run P w = .ok () (w.setRow b (cs.setIfInBounds (o + i) v)) := by
   have e1 : (⟨b, o, none⟩ : Addr).add i = ⟨b, o + i, none⟩ := by unfold Addr.add; split <;> simp_all
   have e2 : w.cell? ⟨b, o + i, none⟩ = some cs[o + i] := by rw [cell_of_row w b _ cs T z hz]; simp [hlt]
   have e3 : w.frozen? ⟨b, o + i, none⟩ = false := by
    cases hf : w.frozen? ⟨b, o + i, none⟩ with
    | false => rfl
    | true =>
     simp only [World.frozen?, hz, Bool.and_eq_true, decide_eq_true_eq] at hf;exact (ht _ hlt hf.1 hf.2).elim
   rw [e1, run_store P w _ v _ (h1 v (by simp)), e2];simp [e3, setCell_eq_setRow w b (o + i) cs T z v hz]
  have hih := ih (i + 1) (cs.setIfInBounds (o + i) v) (w.setRow b (cs.setIfInBounds (o + i) v)) ⟨z, setRow_heap w b cs _ T _ hz, by simpa using ht⟩ (by simp; omega) (fun x hx => h1 x (by simp [hx]));simp only [storeCells, Sem.run_bind, hst, Result.andThen_ok, hih, setRow_setRow];have e := list_seg_step cs.toList (o + i) v rest (by simp; omega);congr 3;simpa [Array.toList_setIfInBounds, Nat.add_assoc] using e
theorem Dr {t : TypeId} {i : TI C} (ht : yA P D t i) {b o' : Nat} {cs : Array Value} {T : TypeId} (hcs : Row w b cs T) {v : Value} (hsz : v.cells.size = i.size)
  (hfit : o' + i.size ≤ cs.size) (h1 : ∀ u ∈ v.cells.toList, u.oneCell' = true) :
  (storeVar t ⟨b, o', none⟩ v).run P w = .ok () (w.setRow b (cs.toList.take o' ++ v.cells.toList ++ cs.toList.drop (o' + i.size)).toArray) := by
 have hst := eQ (P := P) (o := o') v.cells.toList 0 cs w hcs (by simp; omega) h1;simp only [Nat.add_zero, Array.length_toList, hsz] at hst;simp [storeVar, run_sizeOf ht, hsz, hst]
theorem yT {l l' : List (SV C)} {n : Nat} {vs : List Value} (h1 : kT l n = some l') (h2 : nD l n = some []) (hd : DenC D w E l vs) : vs.length = n ∧ DenC D w E l' vs := by
 obtain ⟨h3, h4⟩ := jY _ _ _ _ h1 hd;obtain ⟨h5, h6⟩ := iM _ _ _ _ h2 hd;simp only [DenC] at h5;have : vs.length ≤ n := by simpa using h5
 have e : vs.length = n := by omega
 exact ⟨e, by rwa [List.take_of_length_le (by omega)] at h3⟩
theorem cA.append {F : Nat → Prop} {l m : List (PV C)} {vs ws : List Value} (h : cA D w F l vs) (k : cA D w F m ws) : cA D w F (l ++ m) (vs ++ ws) := by
 refine ⟨by simp [h.1, k.1], fun j pv v hp hv => ?_⟩
 by_cases hj : j < l.length
 ·rw [List.getElem?_append_left hj] at hp;rw [List.getElem?_append_left (h.1 ▸ hj)] at hv;exact h.2 j pv v hp hv
 ·rw [List.getElem?_append_right (by omega)] at hp;rw [List.getElem?_append_right (by rw [← h.1]; omega), ← h.1] at hv;exact k.2 _ pv v hp hv
theorem cA.take {F : Nat → Prop} {l : List (PV C)} {vs : List Value} (h : cA D w F l vs) (n : Nat) : cA D w F (l.take n) (vs.take n) := by
 refine ⟨by simp [h.1], fun j pv v hp hv => ?_⟩;rw [List.getElem?_take] at hp hv;split at hp
 ·rename_i hj;rw [if_pos hj] at hv;exact h.2 j pv v hp hv
 ·cases hp
theorem cA.drop {F : Nat → Prop} {l : List (PV C)} {vs : List Value} (h : cA D w F l vs) (n : Nat) : cA D w F (l.drop n) (vs.drop n) := by
 refine ⟨by simp [h.1], fun j pv v hp hv => ?_⟩;rw [List.getElem?_drop] at hp hv;exact h.2 _ pv v hp hv
theorem E8 : ∀ (l : List (SV C)) (pl : List (PV C)) (vs : List Value), Y2 l = some pl → DenC D w E l vs → cA D w E.F pl vs
 | [], pl, vs, h, hd => by
  simp [Y2] at h; subst h;simp only [DenC] at hd; subst hd;exact ⟨rfl, fun j pv v hp _ => by simp at hp⟩
 | x :: l, pl, vs, h, hd => by
  simp only [Y2] at h;cases x with
  | p y =>
   simp only [q8o] at h;cases ht : Y2 l with
   | none => simp [ht] at h
   | some r =>
    simp [ht] at h; subst h;simp only [DenC, Den] at hd;obtain ⟨v, v2, rfl, h1, h2, h3⟩ := hd;have ih := E8 l r v2 ht h3;refine ⟨by simp [ih.1], fun j pv u hp hu => ?_⟩;cases j with
    | zero => simp at hp hu; subst hp; subst hu; exact h2
    | succ j => exact ih.2 j pv u (by simpa using hp) (by simpa using hu)
  | _ => simp [q8o] at h
theorem Es {l new r : List (PV C)} {f n : Nat} (h : Y5 l f n new = some r) : r = l.take f ++ new ++ l.drop (f + n) ∧ f + n ≤ l.length := by
 unfold Y5 at h;cases h1 : vG l f with
 | none => simp [h1] at h
 | some x =>
  cases h2 : uO l f with
  | none => simp [h1, h2] at h
  | some y =>
   cases h3 : uO y n with
   | none => simp [h1, h2, h3] at h
   | some z =>
    simp [h1, h2, h3] at h; subst h;obtain ⟨rfl, h4⟩ := mR _ _ _ h1;obtain ⟨rfl, h5⟩ := mO _ _ _ h2;obtain ⟨rfl, h6⟩ := mO _ _ _ h3;simp at h6;exact ⟨by simp [List.drop_drop], by omega⟩
theorem xH {u : C.U} {xs xs' : List (C.El u)} {k f size : Nat} {sv : SV C} {v : Value} {V : List Value} (h : C0 D u xs k f size sv = some xs') (hk : k < xs.length)
  (hd : Den D w E sv v) (hV : cA D w E.F (xs.flatMap (D.enc u)) V) :
  xs'.length = xs.length ∧ v.cells.size = size ∧ f + size ≤ C.n u ∧
   cA D w E.F (xs'.flatMap (D.enc u)) (V.take (k * C.n u + f) ++ v.cells.toList ++ V.drop (k * C.n u + f + size)) ∧ (∀ u ∈ v.cells.toList, u.oneCell' = true) := by
 unfold C0 at h;cases h1 : cellsOf sv with
 | none => simp [h1] at h
 | some l =>
  cases h2 : Y2 l with
  | none => simp [h1, h2] at h
  | some pl =>
   cases h3 : Y5 (D.enc u (xs.getD k (C.dflt u))) f size pl with
   | none => simp only [h1, h2, h3] at h; cases h
   | some r =>
    cases h4 : D.dec u r with
    | none => simp only [h1, h2, h3, h4] at h; cases h
    | some x =>
     have h' : some (xs.set k x) = some xs' := by rw [← h]; simp only [h1, h2, h3, h4]
     cases h';have hc := kH h1 hd;have hp := E8 _ _ _ h2 hc;obtain ⟨h5, h6⟩ := Es h3;rw [D.enc_len] at h6;have hx := D.dec_ok u r x h4;have hxs : xs[k]? = some (xs.getD k (C.dflt u)) := by simp [List.getD_eq_getElem?_getD, List.getElem?_eq_getElem hk]
     have hl : pl.length = size := by
      have e1 := D.enc_len u x;rw [hx, h5] at e1;simp only [List.length_append, List.length_take, List.length_drop, D.enc_len] at e1;omega
     have hkn : k * C.n u + C.n u ≤ (xs.flatMap (D.enc u)).length := by
      rw [aQ];have := Nat.mul_le_mul_right (C.n u) hk
      rwa [Nat.succ_mul] at this
     have hseg : D.enc u (xs.getD k (C.dflt u)) = ((xs.flatMap (D.enc u)).drop (k * C.n u)).take (C.n u) := by
      apply List.ext_getElem?;intro j;rw [List.getElem?_take];split
      ·rename_i hj;rw [List.getElem?_drop, iN u xs k j _ hxs hj]
      ·rename_i hj;exact List.getElem?_eq_none (by rw [D.enc_len]; omega)
     have hset : (xs.set k x).flatMap (D.enc u) = (xs.flatMap (D.enc u)).take (k * C.n u + f) ++ pl ++ (xs.flatMap (D.enc u)).drop (k * C.n u + f + size) := by
      rw [Hr u xs k x hk, hx, h5, hseg];generalize hL : xs.flatMap (D.enc u) = L at *;have e1 : L.take (k * C.n u) ++ ((L.drop (k * C.n u)).take (C.n u)).take f = L.take (k * C.n u + f) := by
       rw [List.take_take, Nat.min_eq_left (by omega), List.take_add]
      have e2 : ((L.drop (k * C.n u)).take (C.n u)).drop (f + size) ++ L.drop (k * C.n u + C.n u) = L.drop (k * C.n u + f + size) := by
       have e3 : L.drop (k * C.n u + C.n u) = ((L.drop (k * C.n u)).drop (f + size)).drop (C.n u - (f + size)) := by
        rw [List.drop_drop, List.drop_drop];congr 1;omega
       rw [e3, List.drop_take, List.take_append_drop, List.drop_drop, Nat.add_assoc]
      rw [← e1, ← e2];simp
     refine ⟨by simp, by rw [← Array.length_toList, ← hp.1, hl], h6, ?_, hp.oneCell⟩;rw [hset];exact ((hV.take _).append hp).append (hV.drop _)
end
end Go.SX
namespace Go.SX
open Go.RowKit
variable {C : Cod}
section
variable {P : Program} {D : aJ C} {tab : Tab C} {B : dP} {E : Env} {σ : Nat → SV C} {H : Nat → HS C} {df : List Deferred} {a : Act} {w : World} {o : Oper}
theorem G3 (hR : Rel D B E σ H df a w) {t : TypeId} {i : TI C} (ht : yA P D t i) {oa ov : Operand} (ho : o.op = .store t oa ov) {c b o' : Nat} (hb : E.β c = .loc b)
  (ha : a.eval oa = .pointer (some ⟨b, o', none⟩)) {cs : Array Value} {T : TypeId} (hcs : Row w b cs T) (hsz : (a.eval ov).cells.size = i.size)
  (hfit : o' + i.size ≤ cs.size) (h1 : ∀ u ∈ (a.eval ov).cells.toList, u.oneCell' = true) {h' : HS C}
  (hok : ∀ w' cs', dW w E w' E → Row w' b cs' T → cs'.toList = cs.toList.take o' ++ (a.eval ov).cells.toList ++ cs.toList.drop (o' + i.size) → h'.at D w' E b) :
  kW P D B σ H df a w o .any [(c, h')] := by
 have hrun := Dr ht hcs hsz hfit h1;refine ⟨undef, w.setRow b (cs.toList.take o' ++ (a.eval ov).cells.toList ++ cs.toList.drop (o' + i.size)).toArray, E, .inr ⟨?_, rfl⟩, ?_, trivial⟩
 ·simp only [execOp, ho, Instr.storeAt, ha, Instr.sureAddr, Sem.run_bind, Sem.run_pure, Result.andThen_ok, hrun]
 rw [fZ];have hsize : (cs.toList.take o' ++ (a.eval ov).cells.toList ++ cs.toList.drop (o' + i.size)).toArray.size = cs.size := by
  simp only [List.size_toArray, List.length_append, List.length_take, List.length_drop, Array.length_toList, hsz];omega
 exact hR.setRow hb hcs hsize fun hL => hok _ _ hL (hcs.set hsize) (by simp)
theorem yY : ∀ (vs : List (SV C)) (o : Nat) (u : C.U) (N : Nat) (xs ys : List (C.El u)), rU vs o = .elem u N xs 0 → ∃ vs', jF vs o u ys = some vs' := by
 intro vs
 induction vs with
 | nil => intro o u N xs ys h; simp [rU] at h
 | cons x r ih =>
  intro o u N xs ys h;cases hx : x.isArr with
  | false =>
   cases o with
   | zero => rw [qH hx] at h; cases h
   | succ o =>
    rw [nF hx] at h;obtain ⟨vs', h'⟩ := ih o u N xs ys h;exact ⟨x :: vs', by rw [tJ hx, h']⟩
  | true =>
   obtain ⟨u', N', xs', rfl⟩ := SV.arr_of hx;simp only [rU] at h;simp only [jF];cases hs : yU o (N' * C.n u') with
   | none =>
    rw [hs] at h;simp only [Hit.elem.injEq] at h;obtain ⟨rfl, rfl, _, rfl⟩ := h;exact ⟨_, rfl⟩
   | some o' =>
    simp only [hs] at h;obtain ⟨vs', h'⟩ := ih o' u N xs ys h;exact ⟨.arr u' N' xs' :: vs', by simp [h']⟩
theorem Yd (hT : bZ P D tab) (hR : Rel D B E σ H df a w) {t : TypeId} {oa ov : Operand} (ho : o.op = .store t oa ov) {hs : List (Nat × HS C)} (hhs : ∀ c, (ev σ oa).topId = some c → lk hs c = H c) :
  cB P D B σ H df a w o (vR D tab t (ev σ oa) (ev σ ov) hs) := by
 have ha := aS hR oa;have hv := aS hR ov;generalize ev σ oa = sa at *;generalize ev σ ov = sv at *;unfold vR;cases htab : tab t with
 | none => trivial
 | some i =>
  have ht := hT t i htab;simp only;cases sa with
  | ptr c o' =>
   simp only;rw [hhs c rfl];cases hH : H c with
   | vart ty vs =>
    simp only;obtain ⟨b, cs, T, hb, ⟨h1, hty⟩, h2⟩ := Ea hR.sat hH;have e := iE ha hb;cases hc : cellsOf sv with
    | none => trivial
    | some l =>
     simp only;have hcd := kH hc hv;cases htk : kT l i.size with
     | none => trivial
     | some l' =>
      simp only;split
      ·rename_i hdr;obtain ⟨h3, h4⟩ := yT htk hdr hcd;have hsz : (a.eval ov).cells.size = i.size := by simpa using h3
       have hone := W9 _ _ hcd;have spl : ∀ vs', tD vs o' i.size l' = some vs' → kW P D B σ H df a w o .any [(c, .vart ty vs')] := fun vs' hsp => by
        obtain ⟨h5, h6⟩ := xF hsp h2 h4;refine G3 hR ht ho hb e h1 hsz (by simpa using h6) hone fun w' cs' hL hw' hcs' => ⟨cs', T, ⟨hw', hty⟩, ?_⟩;rw [hcs'];exact DenC.mono hL _ _ h5
       have hh := mS vs o' cs.toList h2;split
       ·rename_i u N xs k hhit;rw [hhit] at hh;obtain ⟨a1, a2, a3, a4, a5⟩ := hh;split
        ·split
         ·rename_i vs' hsp; exact spl vs' hsp
         ·trivial
        ·split
         ·rename_i xs' hset;split
          ·rename_i vs' hsa;have hkd : k / C.n u < xs.length := by rw [a1]; exact (Nat.div_lt_iff_lt_mul (D.n_pos u)).2 a2
           obtain ⟨b1, b2, b3, b4, b5⟩ := xH hset hkd hv a5;have e3 : k / C.n u * C.n u + k % C.n u = k := by
            have := Nat.div_add_mod k (C.n u);rw [Nat.mul_comm] at this;exact this
           rw [e3] at b4;have hst := Oi vs o' u N xs k hhit;have hfin := sM vs (o' - k) u N xs xs' vs' cs.toList _ hst.2 hsa b1 h2 b4;have hlen : k + i.size ≤ N * C.n u := by
            have hq : (k / C.n u + 1) * C.n u ≤ N * C.n u := Nat.mul_le_mul_right _ (a1 ▸ hkd);rw [Nat.add_mul, Nat.one_mul] at hq;omega
           refine G3 hR ht ho hb e h1 hsz (by have := a4; simp at this; omega) hone fun w' cs' hL hw' hcs' => ⟨cs', T, ⟨hw', hty⟩, ?_⟩;refine DenC.mono hL _ _ ?_;rw [hcs'];have hlv : ((List.drop (o' - k) cs.toList).take (N * C.n u)).length = N * C.n u := by
            simp only [List.length_take, List.length_drop]; omega
           have goal : cs.toList.take (o' - k) ++ (((cs.toList.drop (o' - k)).take (N * C.n u)).take k ++ (a.eval ov).cells.toList ++ ((cs.toList.drop (o' - k)).take (N * C.n u)).drop (k + i.size)) ++
             cs.toList.drop (o' - k + (((cs.toList.drop (o' - k)).take (N * C.n u)).take k ++ (a.eval ov).cells.toList ++ ((cs.toList.drop (o' - k)).take (N * C.n u)).drop (k + i.size)).length) =
             cs.toList.take o' ++ (a.eval ov).cells.toList ++ cs.toList.drop (o' + i.size) := by
            have f1 : cs.toList.take (o' - k) ++ ((cs.toList.drop (o' - k)).take (N * C.n u)).take k = cs.toList.take o' := by
             rw [List.take_take, Nat.min_eq_left (by omega), ← List.take_add];congr 1;omega
            have f2 : (((cs.toList.drop (o' - k)).take (N * C.n u)).take k ++ (a.eval ov).cells.toList ++ ((cs.toList.drop (o' - k)).take (N * C.n u)).drop (k + i.size)).length = N * C.n u := by
             simp only [List.length_append, List.length_take, List.length_drop, Array.length_toList, hsz] at hlv ⊢;simp only [Array.length_toList] at a4;omega
            have f3 : ((cs.toList.drop (o' - k)).take (N * C.n u)).drop (k + i.size) ++ cs.toList.drop (o' - k + N * C.n u) = cs.toList.drop (o' + i.size) := by
             have f4 : cs.toList.drop (o' - k + N * C.n u) = ((cs.toList.drop (o' - k)).drop (k + i.size)).drop (N * C.n u - (k + i.size)) := by
              rw [List.drop_drop, List.drop_drop]; congr 1; omega
             rw [f4, List.drop_take, List.take_append_drop, List.drop_drop];congr 1;omega
            rw [f2, ← f1, ← f3];simp only [List.append_assoc]
           rw [← goal];exact hfin
          ·trivial
         ·trivial
       ·split
        ·rename_i vs' hsp; exact spl vs' hsp
        ·trivial
       ·trivial
      ·trivial
   | _ => trivial
  | eptr c o' n k f =>
   simp only;rw [hhs c rfl];cases hsq : gP (H c) o' with
   | no => trivial
   | some u xs =>
    simp only;cases hset : C0 D u xs k f i.size sv with
    | none => trivial
    | some xs' =>
     simp only;rintro ⟨hk, hn⟩;subst hn;rcases kM hR.sat (c := c) (by intro e; rw [e] at hsq; cases hsq) (by intro e; rw [e] at hsq; cases hsq) with ⟨_, u', h⟩ | ⟨b, hb, hat⟩
     ·rw [h] at hsq;cases o' <;> simp [gP] at hsq
      obtain ⟨rfl, h2⟩ := hsq;cases h2;simp at hk
     ·have e := qJ ha hb;have hq := jZ (o := o') hat;rw [hsq] at hq;obtain ⟨cs, T, h1, h2, h3⟩ := hq;obtain ⟨b1, b2, b3, b4, b5⟩ := xH hset hk hv h3;have hkn : k * C.n u + C.n u ≤ xs.length * C.n u := by
       have := Nat.mul_le_mul_right (C.n u) hk
       rwa [Nat.succ_mul] at this
      refine G3 hR ht ho hb e h1 b2 (by omega) b5 fun w' cs' hL hw' hcs' => ?_;have hlv : ((cs.toList.drop o').take (xs.length * C.n u)).length = xs.length * C.n u := by
       simp only [List.length_take, List.length_drop, Array.length_toList]; omega
      generalize hkf : k * C.n u + f = g at *;have hg : g + i.size ≤ xs.length * C.n u := by omega
      have b4' := b4.mono (w' := w') hL.F;generalize hV : (cs.toList.drop o').take (xs.length * C.n u) = V at *;have hto : (cs.toList.take o').length = o' := by simp; omega
      have hfull : cs'.toList = cs.toList.take o' ++ (V.take g ++ (a.eval ov).cells.toList ++ V.drop (g + i.size)) ++ cs.toList.drop (o' + xs.length * C.n u) := by
       rw [hcs', show o' + k * C.n u + f = o' + g by omega];have f1 : cs.toList.take (o' + g) = cs.toList.take o' ++ V.take g := by
        rw [List.take_add, ← hV, List.take_take, Nat.min_eq_left (by omega)]
       have f2 : cs.toList.drop (o' + g + i.size) = V.drop (g + i.size) ++ cs.toList.drop (o' + xs.length * C.n u) := by
        rw [← hV, List.drop_take];have f4 : cs.toList.drop (o' + xs.length * C.n u) = ((cs.toList.drop o').drop (g + i.size)).drop (xs.length * C.n u - (g + i.size)) := by
         rw [List.drop_drop, List.drop_drop]; congr 1; omega
        rw [f4, List.take_append_drop, List.drop_drop];congr 1;omega
       rw [f1, f2];simp
      have hl2 : (V.take g ++ (a.eval ov).cells.toList ++ V.drop (g + i.size)).length = xs.length * C.n u := by
       simp only [List.length_append, List.length_take, List.length_drop, Array.length_toList, b2, hlv]; omega
      have hnew : (cs'.toList.drop o').take (xs.length * C.n u) = V.take g ++ (a.eval ov).cells.toList ++ V.drop (g + i.size) := by
       rw [hfull, List.append_assoc, List.drop_left' hto, List.take_left' hl2]
      cases hH : H c with
      | fresh => rw [hH] at hsq; cases hsq
      | dead => rw [hH] at hsq; cases hsq
      | obj ob => rw [hH] at hsq; cases hsq
      | rows u0 xs0 =>
       rw [hH] at hsq;cases o' with
       | succ o' => simp [gP] at hsq
       | zero =>
        simp only [qI];rw [hH] at hat;obtain ⟨cs2, T2, c1, _⟩ := hat;obtain ⟨rfl, rfl⟩ := h1.inj c1.1;have hu : u0 = u := by simp only [gP, Sq.some.injEq] at hsq; exact hsq.1
        subst hu;refine ⟨cs', T, ⟨hw', c1.2⟩, ?_, ?_⟩
        ·rw [b1, ← Array.length_toList, hcs'];simp only [List.length_append, List.length_take, List.length_drop, Array.length_toList, b2];omega
        ·rw [b1];simp only [List.drop_zero] at hnew;rw [hnew];exact b4'
      | vart ty vs =>
       rw [hH] at hsq;simp only [gP] at hsq;cases hhit : rU vs o' with
       | miss => simp [hhit] at hsq
       | cell x => simp [hhit] at hsq
       | elem u1 N xs1 k1 =>
        cases k1 with
        | succ k1 => simp [hhit] at hsq
        | zero =>
         simp [hhit] at hsq;obtain ⟨rfl, hx1⟩ := hsq;cases hx1;simp only [qI];cases hsa : jF vs o' u1 xs' with
         | none => obtain ⟨_, h7⟩ := yY vs o' u1 N xs1 xs' hhit; rw [h7] at hsa; cases hsa
         | some vs' =>
          simp only;rw [hH] at hat;obtain ⟨cs2, T2, c1, c2⟩ := hat;obtain ⟨rfl, rfl⟩ := h1.inj c1.1;have hfin := sM vs o' u1 N xs1 xs' vs' cs.toList _ hhit hsa b1 c2 b4;refine ⟨cs', T, ⟨hw', c1.2⟩, DenC.mono hL _ _ ?_⟩;rw [hl2] at hfin;rw [hfull];exact hfin
  | _ => trivial
end
end Go.SX
