/-
  SX, part H: the soundness of operations that make or write memory.
-/
import Derived.Test.YtdaghncicimipaaGreatDoorSxG
set_option linter.unusedVariables false
set_option linter.unusedSimpArgs false
namespace Go.SX
open Go.RowKit
variable {C : Cod}
section
variable {P : Program} {D : Codec C} {tab : Tab C} {B : Base} {E : Env} {σ : Nat → SV C} {H : Nat → HS C} {df : List Deferred} {a : Act} {w : World} {o : Oper}

theorem upHs_one (c : Nat) (h : HS C) : upHs H [(c, h)] = upH H c h := rfl

theorem fresh_β (hs : Sat D w E H) {m : Nat} (hm : H m = .fresh) : E.β m = .fresh := by
  have := hs.ok m
  rw [hm] at this
  cases hb : E.β m with
  | fresh => rfl
  | dead => rw [hb] at this; simp [HS.ok] at this
  | virt => rw [hb] at this; simp [HS.ok] at this
  | loc b => rw [hb] at this; simp [HS.ok, HS.at] at this

/-- a new variable of given cells -/
theorem new_var (hR : Rel D B E σ H df a w) {m : Nat} (hm : H m = .fresh) {vs : List (SV C)} {cs : Array Value} (T : TypeId) (ty : Option TypeId) (hty : ∀ t, ty = some t → T = t) (hd : DenC D w E vs cs.toList)
    (h : (execOp a.eval o).run P w = .ok (.value (.pointer (some ⟨w.heap.size, 0, none⟩))) (w.alloc (.cells cs T))) : RunOK P D B σ H df a w o (.ptr m 0) [(m, .vart ty vs)] := by
  refine ⟨_, _, E.up m (.loc w.heap.size), .inl h, ?_, ?_⟩
  · rw [upHs_one]
    exact hR.alloc hm cs T ⟨cs, T, ⟨Row.new (heap_alloc_new w _), hty⟩, DenC.mono (later_alloc (fresh_β hR.sat hm) _ hR.sat.F) _ _ hd⟩
  · simp only [Den, Env.up_same]

theorem tyIf_ok {b : Bool} {t t' : TypeId} (h : tyIf b t = some t') : t = t' := by cases b <;> simp [tyIf] at h; exact h
theorem alloc_ok (hT : TabOK P D tab) (hR : Rel D B E σ H df a w) {m : Nat} (hm : H m = .fresh) {t : TypeId} (ho : o.op = .alloc t) :
    OutOK P D B σ H df a w o (match tab t with | some i => .mem (.ptr m 0) [(m, .vart (tyIf i.typed t) i.zero)] | none => .stuck) := by
  cases htab : tab t with
  | none => trivial
  | some i =>
    obtain ⟨info, z, h1, h2, h3, h4, h5, h6⟩ := (hT t i htab).info
    refine new_var hR hm t _ (fun _ h => tyIf_ok h) (h6 w E) ?_
    simp [execOp, ho, Instr.alloc, zeroValue, typeInfo, h1, h4, newVar, newRow]

theorem Den.one_of {x : SV C} {v : Value} (h1 : x.one = true) (hd : Den D w E x v) : v.oneCell' = true := by
  cases x with
  | p y => simp only [Den] at hd; exact hd.oneCell
  | ptr c o => exact hd.one_ptr
  | eptr c o n i f => exact hd.one_eptr
  | slice c o n off len => exact hd.one_slice
  | dptr cells f => simp only [Den] at hd; obtain ⟨b, o, rfl, _⟩ := hd; rfl
  | fn f x y => simp only [Den] at hd; obtain ⟨_, _, rfl, _⟩ := hd; rfl
  | iface t y => simp only [Den] at hd; obtain ⟨_, rfl, _⟩ := hd; rfl
  | yieldv c => exact hd.one_yieldv
  | mapp c => exact hd.one_mapp
  | _ => simp [SV.one] at h1

theorem one_notArr {x : SV C} (h1 : x.one = true) : x.isArr = false := by
  cases x <;> first | rfl | (simp [SV.one] at h1)

theorem cells_one {v : Value} (h : v.oneCell' = true) : v.cells = #[v] := by
  cases v <;> first | rfl | (simp [Value.oneCell'] at h)

theorem cellsOf_den {x : SV C} {l : List (SV C)} {v : Value} (h : cellsOf x = some l) (hd : Den D w E x v) : DenC D w E l v.cells.toList := by
  have key : x.one = true → cellsOf x = some [x] → DenC D w E l v.cells.toList := fun h1 h2 => by
    rw [h2] at h; cases h
    have := Den.one_of h1 hd
    rw [cells_one this, DenC_cons (one_notArr h1)]
    exact ⟨v, [], rfl, this, hd, by simp [DenC]⟩
  cases x with
  | agg vs =>
    simp [cellsOf] at h; subst h
    simp only [Den] at hd
    obtain ⟨cs, rfl, hd⟩ := hd
    simpa [Value.cells] using hd
  | any => simp [cellsOf] at h
  | tuple l => simp [cellsOf] at h
  | arr u N xs => simp only [Den] at hd
  | _ => exact key rfl rfl

theorem box_ok (hR : Rel D B E σ H df a w) {m : Nat} (hm : H m = .fresh) {t : TypeId} {ox : Operand} (ho : o.op = .box t ox) :
    OutOK P D B σ H df a w o (match cellsOf (ev σ ox) with | some l => .mem (.ptr m 0) [(m, .var l)] | none => .stuck) := by
  have hx := ev_den hR ox
  cases hc : cellsOf (ev σ ox) with
  | none => trivial
  | some l => exact new_var hR hm t none (fun _ h => by cases h) (cellsOf_den hc hx) (by simp [execOp, ho, Instr.box, newVar, newRow])

/-- cells are stored into a block that may be written -/
theorem run_storeCells_row {b o : Nat} {T : TypeId} : ∀ (vs : List Value) (i : Nat) (cs : Array Value) (w : World), Row w b cs T → o + i + vs.length ≤ cs.size → (∀ v ∈ vs, v.oneCell' = true) →
    (storeCells ⟨b, o, none⟩ vs i).run P w = .ok () (w.setRow b (cs.toList.take (o + i) ++ vs ++ cs.toList.drop (o + i + vs.length)).toArray) := by
  intro vs
  induction vs with
  | nil =>
    rintro i cs w ⟨z, hz, _⟩ _ _
    have e : (cs.toList.take (o + i) ++ [] ++ cs.toList.drop (o + i + ([] : List Value).length)).toArray = cs := by simp
    rw [e, setRow_self w b cs T z hz]; rfl
  | cons v rest ih =>
    rintro i cs w ⟨z, hz, ht⟩ hl h1
    rw [List.length_cons] at hl
    have hlt : o + i < cs.size := by omega
    have hst : (store ((⟨b, o, none⟩ : Addr).add i) v).run P w = .ok () (w.setRow b (cs.setIfInBounds (o + i) v)) := by
      have e1 : (⟨b, o, none⟩ : Addr).add i = ⟨b, o + i, none⟩ := by unfold Addr.add; split <;> simp_all
      have e2 : w.cell? ⟨b, o + i, none⟩ = some cs[o + i] := by rw [cell_of_row w b _ cs T z hz]; simp [hlt]
      have e3 : w.frozen? ⟨b, o + i, none⟩ = false := by
        cases hf : w.frozen? ⟨b, o + i, none⟩ with
        | false => rfl
        | true =>
          simp only [World.frozen?, hz, Bool.and_eq_true, decide_eq_true_eq] at hf
          exact (ht _ hlt hf.1 hf.2).elim
      rw [e1, run_store P w _ v _ (h1 v (by simp)), e2]
      simp [e3, setCell_eq_setRow w b (o + i) cs T z v hz]
    have hih := ih (i + 1) (cs.setIfInBounds (o + i) v) (w.setRow b (cs.setIfInBounds (o + i) v)) ⟨z, setRow_heap w b cs _ T _ hz, by simpa using ht⟩ (by simp; omega) (fun x hx => h1 x (by simp [hx]))
    simp only [storeCells, Sem.run_bind, hst, Result.andThen_ok, hih, setRow_setRow]
    have e := list_seg_step cs.toList (o + i) v rest (by simp; omega)
    congr 3
    simpa [Array.toList_setIfInBounds, Nat.add_assoc] using e
theorem run_storeVar {t : TypeId} {i : TI C} (ht : TyOK P D t i) {b o' : Nat} {cs : Array Value} {T : TypeId} (hcs : Row w b cs T) {v : Value} (hsz : v.cells.size = i.size)
    (hfit : o' + i.size ≤ cs.size) (h1 : ∀ u ∈ v.cells.toList, u.oneCell' = true) :
    (storeVar t ⟨b, o', none⟩ v).run P w = .ok () (w.setRow b (cs.toList.take o' ++ v.cells.toList ++ cs.toList.drop (o' + i.size)).toArray) := by
  have hst := run_storeCells_row (P := P) (o := o') v.cells.toList 0 cs w hcs (by simp; omega) h1
  simp only [Nat.add_zero, Array.length_toList, hsz] at hst
  simp [storeVar, run_sizeOf ht, hsz, hst]

theorem exact_cells {l l' : List (SV C)} {n : Nat} {vs : List Value} (h1 : takeW l n = some l') (h2 : dropW l n = some []) (hd : DenC D w E l vs) : vs.length = n ∧ DenC D w E l' vs := by
  obtain ⟨h3, h4⟩ := takeW_spec _ _ _ _ h1 hd
  obtain ⟨h5, h6⟩ := dropW_spec _ _ _ _ h2 hd
  simp only [DenC] at h5
  have : vs.length ≤ n := by simpa using h5
  have e : vs.length = n := by omega
  exact ⟨e, by rwa [List.take_of_length_le (by omega)] at h3⟩

theorem PDenL.append {F : Nat → Prop} {l m : List (PV C)} {vs ws : List Value} (h : PDenL D w F l vs) (k : PDenL D w F m ws) : PDenL D w F (l ++ m) (vs ++ ws) := by
  refine ⟨by simp [h.1, k.1], fun j pv v hp hv => ?_⟩
  by_cases hj : j < l.length
  · rw [List.getElem?_append_left hj] at hp
    rw [List.getElem?_append_left (h.1 ▸ hj)] at hv
    exact h.2 j pv v hp hv
  · rw [List.getElem?_append_right (by omega)] at hp
    rw [List.getElem?_append_right (by rw [← h.1]; omega), ← h.1] at hv
    exact k.2 _ pv v hp hv
theorem PDenL.take {F : Nat → Prop} {l : List (PV C)} {vs : List Value} (h : PDenL D w F l vs) (n : Nat) : PDenL D w F (l.take n) (vs.take n) := by
  refine ⟨by simp [h.1], fun j pv v hp hv => ?_⟩
  rw [List.getElem?_take] at hp hv
  split at hp
  · rename_i hj
    rw [if_pos hj] at hv
    exact h.2 j pv v hp hv
  · cases hp
theorem PDenL.drop {F : Nat → Prop} {l : List (PV C)} {vs : List Value} (h : PDenL D w F l vs) (n : Nat) : PDenL D w F (l.drop n) (vs.drop n) := by
  refine ⟨by simp [h.1], fun j pv v hp hv => ?_⟩
  rw [List.getElem?_drop] at hp hv
  exact h.2 _ pv v hp hv

theorem toPVs_den : ∀ (l : List (SV C)) (pl : List (PV C)) (vs : List Value), toPVs l = some pl → DenC D w E l vs → PDenL D w E.F pl vs
  | [], pl, vs, h, hd => by
    simp [toPVs] at h; subst h
    simp only [DenC] at hd; subst hd
    exact ⟨rfl, fun j pv v hp _ => by simp at hp⟩
  | x :: l, pl, vs, h, hd => by
    simp only [toPVs] at h
    cases x with
    | p y =>
      simp only [toPV] at h
      cases ht : toPVs l with
      | none => simp [ht] at h
      | some r =>
        simp [ht] at h; subst h
        simp only [DenC, Den] at hd
        obtain ⟨v, v2, rfl, h1, h2, h3⟩ := hd
        have ih := toPVs_den l r v2 ht h3
        refine ⟨by simp [ih.1], fun j pv u hp hu => ?_⟩
        cases j with
        | zero => simp at hp hu; subst hp; subst hu; exact h2
        | succ j => exact ih.2 j pv u (by simpa using hp) (by simpa using hu)
    | _ => simp [toPV] at h

theorem spliceP_some {l new r : List (PV C)} {f n : Nat} (h : spliceP l f n new = some r) : r = l.take f ++ new ++ l.drop (f + n) ∧ f + n ≤ l.length := by
  unfold spliceP at h
  cases h1 : takeP l f with
  | none => simp [h1] at h
  | some x =>
    cases h2 : dropP l f with
    | none => simp [h1, h2] at h
    | some y =>
      cases h3 : dropP y n with
      | none => simp [h1, h2, h3] at h
      | some z =>
        simp [h1, h2, h3] at h; subst h
        obtain ⟨rfl, h4⟩ := takeP_some _ _ _ h1
        obtain ⟨rfl, h5⟩ := dropP_some _ _ _ h2
        obtain ⟨rfl, h6⟩ := dropP_some _ _ _ h3
        simp at h6
        exact ⟨by simp [List.drop_drop], by omega⟩

/-- an element, or a part of it, is replaced -/
theorem setElem_spec {u : C.U} {xs xs' : List (C.El u)} {k f size : Nat} {sv : SV C} {v : Value} {V : List Value} (h : setElem D u xs k f size sv = some xs') (hk : k < xs.length)
    (hd : Den D w E sv v) (hV : PDenL D w E.F (xs.flatMap (D.enc u)) V) :
    xs'.length = xs.length ∧ v.cells.size = size ∧ f + size ≤ C.n u ∧
      PDenL D w E.F (xs'.flatMap (D.enc u)) (V.take (k * C.n u + f) ++ v.cells.toList ++ V.drop (k * C.n u + f + size)) ∧ (∀ u ∈ v.cells.toList, u.oneCell' = true) := by
  unfold setElem at h
  cases h1 : cellsOf sv with
  | none => simp [h1] at h
  | some l =>
    cases h2 : toPVs l with
    | none => simp [h1, h2] at h
    | some pl =>
      cases h3 : spliceP (D.enc u (xs.getD k (C.dflt u))) f size pl with
      | none => simp only [h1, h2, h3] at h; cases h
      | some r =>
        cases h4 : D.dec u r with
        | none => simp only [h1, h2, h3, h4] at h; cases h
        | some x =>
          have h' : some (xs.set k x) = some xs' := by rw [← h]; simp only [h1, h2, h3, h4]
          cases h'
          have hc := cellsOf_den h1 hd
          have hp := toPVs_den _ _ _ h2 hc
          obtain ⟨h5, h6⟩ := spliceP_some h3
          rw [D.enc_len] at h6
          have hx := D.dec_ok u r x h4
          have hxs : xs[k]? = some (xs.getD k (C.dflt u)) := by simp [List.getD_eq_getElem?_getD, List.getElem?_eq_getElem hk]
          have hl : pl.length = size := by
            have e1 := D.enc_len u x
            rw [hx, h5] at e1
            simp only [List.length_append, List.length_take, List.length_drop, D.enc_len] at e1
            omega
          have hkn : k * C.n u + C.n u ≤ (xs.flatMap (D.enc u)).length := by
            rw [flatMap_length]
            have := Nat.mul_le_mul_right (C.n u) hk
            rwa [Nat.succ_mul] at this
          have hseg : D.enc u (xs.getD k (C.dflt u)) = ((xs.flatMap (D.enc u)).drop (k * C.n u)).take (C.n u) := by
            apply List.ext_getElem?
            intro j
            rw [List.getElem?_take]
            split
            · rename_i hj
              rw [List.getElem?_drop, flatMap_get u xs k j _ hxs hj]
            · rename_i hj
              exact List.getElem?_eq_none (by rw [D.enc_len]; omega)
          have hset : (xs.set k x).flatMap (D.enc u) = (xs.flatMap (D.enc u)).take (k * C.n u + f) ++ pl ++ (xs.flatMap (D.enc u)).drop (k * C.n u + f + size) := by
            rw [flatMap_set u xs k x hk, hx, h5, hseg]
            generalize hL : xs.flatMap (D.enc u) = L at *
            have e1 : L.take (k * C.n u) ++ ((L.drop (k * C.n u)).take (C.n u)).take f = L.take (k * C.n u + f) := by
              rw [List.take_take, Nat.min_eq_left (by omega), List.take_add]
            have e2 : ((L.drop (k * C.n u)).take (C.n u)).drop (f + size) ++ L.drop (k * C.n u + C.n u) = L.drop (k * C.n u + f + size) := by
              have e3 : L.drop (k * C.n u + C.n u) = ((L.drop (k * C.n u)).drop (f + size)).drop (C.n u - (f + size)) := by
                rw [List.drop_drop, List.drop_drop]
                congr 1
                omega
              rw [e3, List.drop_take, List.take_append_drop, List.drop_drop, Nat.add_assoc]
            rw [← e1, ← e2]
            simp
          refine ⟨by simp, by rw [← Array.length_toList, ← hp.1, hl], h6, ?_, hp.oneCell⟩
          rw [hset]
          exact ((hV.take _).append hp).append (hV.drop _)

end
end Go.SX
