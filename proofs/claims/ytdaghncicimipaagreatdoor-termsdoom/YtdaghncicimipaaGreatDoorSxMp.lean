/-
  SX, part Mp: maps whose keys are integers or strings.
-/
import Derived.Test.YtdaghncicimipaaGreatDoorSxL3
import Derived.MapKept
import GoSem.Instr.Address
set_option linter.unusedVariables false
set_option linter.unusedSimpArgs false
namespace Go.SX
open Go.RowKit Go.MapKept
variable {C : Cod}
section
variable {P : Program} {D : Codec C} {tab : Tab C} {B : Base} {E : Env} {σ : Nat → SV C} {H : Nat → HS C} {df : List Deferred} {a : Act} {w : World} {o : Oper}

mutual
theorem valV_den : ∀ (x : SV C) (v u : Value), valV x = some v → Den D w E x u → u = v
  | .p (.int k n), v, u, h, hd => by simp only [valV, Option.some.injEq] at h; subst h; exact den_int hd
  | .p (.bool b), v, u, h, hd => by simp only [valV, Option.some.injEq] at h; subst h; exact den_bool hd
  | .p (.str l), v, u, h, hd => by simp only [valV, Option.some.injEq] at h; subst h; exact den_str hd
  | .p (.lit z), v, u, h, hd => by simp only [valV, Option.some.injEq] at h; subst h; exact den_lit hd
  | .p (.dsl _ _), v, u, h, hd => by simp [valV] at h
  | .p (.fds _ _), v, u, h, hd => by simp [valV] at h
  | .fn f [] [], v, u, h, hd => by
    simp only [valV, Option.some.injEq] at h; subst h
    simp only [Den, DenA] at hd
    obtain ⟨xs, ys, e, h1, h2⟩ := hd
    rw [e]
    congr 1
    · exact Array.toList_inj.1 h1
    · exact Array.toList_inj.1 h2
  | .fn f (_ :: _) _, v, u, h, hd => by simp [valV] at h
  | .fn f [] (_ :: _), v, u, h, hd => by simp [valV] at h
  | .agg vs, v, u, h, hd => by
    simp only [valV] at h
    cases hv : valVs vs with
    | none => simp [hv] at h
    | some l =>
      simp only [hv, Option.some.injEq] at h; subst h
      simp only [Den] at hd
      obtain ⟨cs, e, h1⟩ := hd
      rw [e, ← valVs_den vs l _ hv h1]
  | .any, v, u, h, hd => by simp [valV] at h
  | .ptr _ _, v, u, h, hd => by simp [valV] at h
  | .eptr _ _ _ _ _, v, u, h, hd => by simp [valV] at h
  | .dptr _ _, v, u, h, hd => by simp [valV] at h
  | .slice _ _ _ _ _, v, u, h, hd => by simp [valV] at h
  | .arr _ _ _, v, u, h, hd => by simp [valV] at h
  | .iface _ _, v, u, h, hd => by simp [valV] at h
  | .tuple _, v, u, h, hd => by simp [valV] at h
  | .yieldv _, v, u, h, hd => by simp [valV] at h
  | .mapp _, v, u, h, hd => by simp [valV] at h
theorem valVs_den : ∀ (l : List (SV C)) (m us : List Value), valVs l = some m → DenC D w E l us → us = m
  | [], m, us, h, hd => by simp only [valVs, Option.some.injEq] at h; subst h; simpa only [DenC] using hd
  | x :: l, m, us, h, hd => by
    have hx : x.isArr = false := by
      cases hx : x.isArr with
      | false => rfl
      | true => obtain ⟨u, N, xs, rfl⟩ := SV.arr_of hx; simp [valVs] at h
    rw [DenC_cons hx] at hd
    obtain ⟨v, v2, rfl, _, h2, h3⟩ := hd
    have hh : valVs (x :: l) = (match valV x with | some v => (match valVs l with | some r => some (v :: r) | none => none) | none => none) := by
      cases x <;> first | rfl | simp [SV.isArr] at hx
    rw [hh] at h
    cases hv : valV x with
    | none => simp [hv] at h
    | some y =>
      cases hl : valVs l with
      | none => simp [hv, hl] at h
      | some r =>
        simp only [hv, hl, Option.some.injEq] at h; subst h
        rw [valV_den x y v hv h2, valVs_den l r v2 hl h3]
end
theorem keyV_den {q : CK} {x : SV C} {v u : Value} (h : keyV q x = some v) (hd : Den D w E x u) : u = v ∧ IsKey (ckDesc q) v := by
  unfold keyV at h
  split at h
  · split at h
    · rename_i hk
      injection h with h; subst h; subst hk
      exact ⟨den_int hd, by simp [IsKey, ckDesc]⟩
    · cases h
  · injection h with h; subst h
    exact ⟨den_str hd, by simp [IsKey, ckDesc]⟩
  · cases h
theorem map_of {t : TypeId} {i : TI C} (ht : TyOK P D t i) {q : CK} {e : TypeId} (hk : i.kind = .map q e) : ∃ kt, P.underlying t = some (.map kt e) ∧ P.underlying kt = some (ckDesc q) := by
  obtain ⟨d, hu, h⟩ := ht.und
  rw [hk] at h
  obtain ⟨kt, rfl, h2⟩ := h
  exact ⟨kt, hu, h2⟩
theorem mapp_at (hs : Sat D w E H) {c : Nat} {es : Array MapEntry} {clk : Nat} (hc : H c = .obj (.map es clk)) {v : Value} (hd : Den D w E (.mapp c) v) : ∃ b, E.β c = .loc b ∧ v = .map (some b) ∧ w.heap[b]? = some (.map es clk) := by
  rcases live_at hs (c := c) (by rw [hc]; simp) (by rw [hc]; simp) with ⟨_, u, h⟩ | ⟨b, hb, hat⟩
  · rw [hc] at h; cases h
  · rw [hc] at hat
    simp only [Den, hb] at hd
    exact ⟨b, hb, hd, hat.1⟩
def lookV (cm : Bool) (z : Value) : Option (Nat × Value) → Value
  | some (_, v) => match cm with
    | true => .tuple #[v, .bool true]
    | false => v
  | none => match cm with
    | true => .tuple #[z, .bool false]
    | false => z
theorem makeMap_ok (hR : Rel D B E σ H df a w) {m : Nat} (hm : H m = .fresh) {t : TypeId} (ho : o.op = .makeMap t none) : OutOK P D B σ H df a w o (.mem (.mapp m) [(m, .obj (.map #[] 0))]) := by
  refine ⟨.map (some w.heap.size), w.alloc (.map #[] 0), E.up m (.loc w.heap.size), .inl ?_, ?_, ?_⟩
  · simp only [execOp, ho]; rfl
  · rw [upHs_one]
    exact hR.allocO hm _ ⟨heap_alloc_new w _, fun _ _ _ => by simp⟩
  · simp only [Den, Env.up_same]
theorem lookup_ok (hT : TabOK P D tab) (hR : Rel D B E σ H df a w) {t : TypeId} {ox ok : Operand} {cm : Bool} (ho : o.op = .lookup t ox ok cm) {hs : List (Nat × HS C)} (hhs : ∀ c, (ev σ ox).topId = some c → lk hs c = H c) :
    OutOK P D B σ H df a w o (doLookup tab t (ev σ ox) (ev σ ok) cm hs) := by
  unfold doLookup
  split
  · trivial
  · rename_i i hi
    split
    · rename_i q e hk
      obtain ⟨kt, hu, hu2⟩ := map_of (hT t i hi) hk
      split
      · rename_i c hx
        split
        · rename_i es clk hc
          split
          · rename_i kv hkv
            split
            · rename_i j hj
              intro r hr
              have hlk := hhs c (by rw [hx]; rfl)
              rw [hc] at hlk
              have hdx := ev_den hR ox
              rw [hx] at hdx
              obtain ⟨b, hb, ev1, hob⟩ := mapp_at hR.sat hlk.symm hdx
              obtain ⟨ek, hik⟩ := keyV_den hkv (ev_den hR ok)
              have hres : ∀ z, (zeroOf j = .any ∨ Den D w E (zeroOf j) z) → Den D w E (lookRes cm (zeroOf j) r) (lookV cm z r) := by
                intro z hz
                have hz' : Den D w E (zeroOf j) z := by
                  rcases hz with hz | hz
                  · rw [hz]; trivial
                  · exact hz
                cases r with
                | none =>
                  cases cm with
                  | true => simp only [lookRes, Den, DenA]; exact ⟨_, rfl, _, _, rfl, hz', _, _, rfl, mk_bool false, rfl⟩
                  | false => exact hz'
                | some p =>
                  obtain ⟨i', v⟩ := p
                  cases cm with
                  | true => simp only [lookRes, Den, DenA]; exact ⟨_, rfl, _, _, rfl, ofV_den v, _, _, rfl, mk_bool true, rfl⟩
                  | false => exact ofV_den v
              have hzr : ∃ z, (zeroValue e).run P w = .ok z w ∧ (zeroOf j = .any ∨ Den D w E (zeroOf j) z) := by
                by_cases hb : j.kind = .bool
                · obtain ⟨info, h1, h2⟩ := (hT e j hj).zb hb
                  refine ⟨.bool false, by simp [zeroValue, typeInfo, h1, h2], .inr ?_⟩
                  simp only [zeroOf, hb]; exact mk_bool false
                · obtain ⟨info, z, h1, _, _, h4, _⟩ := (hT e j hj).info
                  refine ⟨z, by simp [zeroValue, typeInfo, h1, h4], .inl ?_⟩
                  unfold zeroOf; split
                  · rename_i h; exact absurd h hb
                  · rfl
              obtain ⟨z, hz1, hz2⟩ := hzr
              refine ⟨_, w, E, .inl ?_, hR, hres z hz2⟩
              have key : (Instr.lookup t (.map (some b)) kv cm).run P w = .ok (lookV cm z r) w := by
                simp only [Instr.lookup, Sem.run_bind, run_underlying hu, Go.MapKept.run_getObj_map hob, Go.MapKept.run_checkKey hu2 hik, Go.MapKept.run_findKey hu2 hr, Result.andThen, Sem.run_pure]
                cases r with
                | none => cases cm <;> simp [hz1, Result.andThen, lookV]
                | some p => cases cm <;> simp [lookV]
              simp only [execOp, ho, ev1, ek, Sem.run_bind, key, Result.andThen, Sem.run_pure]
            · trivial
          · trivial
        · trivial
      · trivial
    · trivial
theorem flatMap_div (u : C.U) {xs : List (C.El u)} {J : Nat} {pv : PV C} (h : (xs.flatMap (D.enc u))[J]? = some pv) : ∃ x, xs[J / C.n u]? = some x ∧ (D.enc u x)[J % C.n u]? = some pv := by
  have hn := D.n_pos u
  have hJ : J < xs.length * C.n u := by
    rw [← flatMap_length (D := D) u xs]
    exact (List.getElem?_eq_some_iff.1 h).1
  have hi : J / C.n u < xs.length := (Nat.div_lt_iff_lt_mul hn).2 hJ
  refine ⟨xs[J / C.n u], List.getElem?_eq_getElem hi, ?_⟩
  have := flatMap_get (D := D) u xs (J / C.n u) (J % C.n u) _ (List.getElem?_eq_getElem hi) (Nat.mod_lt _ hn)
  rw [Nat.div_add_mod' J (C.n u)] at this
  rw [← this]; exact h
theorem arrPtr_ok (hT : TabOK P D tab) (hR : Rel D B E σ H df a w) {t : TypeId} {ox : Operand} (ho : o.op = .sliceToArrayPointer t ox) : OutOK P D B σ H df a w o (doArrPtr D tab t (ev σ ox)) := by
  have hx := ev_den hR ox
  unfold doArrPtr
  split
  · trivial
  · rename_i i hi
    split
    · rename_i len e hk
      have hu := arr_of (hT t i hi) hk
      split
      · rename_i u xs hev
        rintro ⟨h0, h1⟩
        rw [hev] at hx
        simp only [Den] at hx
        generalize hxx : a.eval ox = vx at hx
        cases hx with
        | dslNil => simp at h1; omega
        | dsl _ _ b o' cap cv hF hc hcell hden =>
          refine runOK_of hR (u := .pointer (some ⟨b, o', none⟩)) ?_ ?_
          · simp only [execOp, ho, Instr.arrayAt, hxx, Sem.run_bind, run_underlying hu, Result.andThen]
            rw [if_neg (by omega)]
            rfl
          · simp only [Den]
            refine ⟨b, o', by simp, fun J pv hp => ?_⟩
            obtain ⟨x, hx, he⟩ := flatMap_div u hp
            refine ⟨hF (fun e => by rw [e] at hx; simp at hx), cv (J / C.n u) (J % C.n u), ?_, hden _ _ hx _ _ he⟩
            have := hcell _ _ hx _ _ he
            rw [Nat.add_assoc, Nat.div_add_mod' J (C.n u)] at this
            exact this
      · trivial
    · trivial
theorem put_ok (hT : TabOK P D tab) (hR : Rel D B E σ H df a w) {t : TypeId} {ox ok ov : Operand} (ho : o.op = .mapUpdate t ox ok ov ∨ o.op = .insert t ox ok ov) {hs : List (Nat × HS C)} (hhs : ∀ c, (ev σ ox).topId = some c → lk hs c = H c) :
    OutOK P D B σ H df a w o (doPut tab t (ev σ ox) (ev σ ok) (ev σ ov) hs) := by
  unfold doPut
  split
  · trivial
  · rename_i i hi
    split
    · rename_i q e hk
      obtain ⟨kt, hu, hu2⟩ := map_of (hT t i hi) hk
      split
      · rename_i c hx
        split
        · rename_i es clk hc
          split
          · rename_i kv hkv
            split
            · rename_i vv hvv
              intro hr
              have hlk := hhs c (by rw [hx]; rfl)
              rw [hc] at hlk
              have hdx := ev_den hR ox
              rw [hx] at hdx
              obtain ⟨b, hb, ev1, hob⟩ := mapp_at hR.sat hlk.symm hdx
              obtain ⟨ek, hik⟩ := keyV_den hkv (ev_den hR ok)
              have ev2 := valV_den _ _ _ hvv (ev_den hR ov)
              have hput := hR.putO hb hlk.symm (o' := .map (es.push ⟨kv, vv, clk⟩) (clk + 1)) (by simp)
              refine ⟨undef, _, E, .inr ⟨?_, rfl⟩, hput.1, trivial⟩
              rcases ho with ho | ho <;>
              · simp only [execOp, ho, Instr.mapUpdate, ev1, ek, ev2, Sem.run_bind, run_underlying hu, Go.MapKept.run_getObj_map hob, Go.MapKept.run_checkKey hu2 hik, Go.MapKept.run_findKey hu2 hr, Go.MapKept.run_setObj_map _ hob, Result.andThen]
                rfl
            · trivial
          · trivial
        · trivial
      · trivial
    · trivial
end
end Go.SX
