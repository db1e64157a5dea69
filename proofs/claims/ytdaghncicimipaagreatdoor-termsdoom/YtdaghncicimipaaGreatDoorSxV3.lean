/-
  SX, part V3: what meets the stops: contracts, calls in place, ranges over functions, rounds.
-/
import Derived.Test.YtdaghncicimipaaGreatDoorSxV2
set_option linter.unusedSimpArgs false
namespace Go.SX
set_option linter.unusedVariables false
open Go.RowKit
variable {C : Cod}
section
variable {P : Program} {D : Codec C} {tab : Tab C} {B : Base} {E : Env} {σ : Nat → SV C} {H : Nat → HS C} {df : List Deferred} {a : Act} {w : World} {o : Oper} {r : Option Nat}
variable {X : Ctx C} {R : Kont C} {f : FuncId} {args : List (SV C)} {dst : Option Nat} {all rest : List Oper} {k : List (It C)} {T : List (SV C)} {Hp : List (HS C)}

/-- where a walk within a walk begins -/
def Base.here (w : World) (E : Env) (m : Nat) (hm : ∀ c, m ≤ c → E.β c = .fresh) : Base := ⟨w, E, fun b => ∃ c, E.β c = .loc b, m, hm⟩
theorem fresh_of_sat (hs : Sat D w E (getC Hp)) : ∀ c, hlen Hp ≤ c → E.β c = .fresh := fun c hc => fresh_β hs (getC_ge Hp c (by rw [← hlen_eq]; exact hc))

theorem Fr.here {m : Nat} {hm : ∀ c, m ≤ c → E.β c = .fresh} : Fr (Base.here w E m hm) E w :=
  ⟨rfl, rfl, rfl, Nat.le_refl _, fun b _ _ => rfl, Later.refl w E, fun b hb => .inl hb, fun c b hb => .inl ⟨c, hb⟩⟩

theorem Fr.trans {w' : World} {E' : Env} {m : Nat} {hm : ∀ c, m ≤ c → E.β c = .fresh} (h : Fr B E w) (h' : Fr (Base.here w E m hm) E' w') : Fr B E' w' := by
  have hO : ∀ b, (∃ c, E.β c = .loc b) → B.O b ∨ B.w0.heap.size ≤ b := fun b ⟨c, hc⟩ => h.newO c b hc
  refine ⟨h'.os.trans h.os, h'.tape.trans h.tape, h'.output.trans h.output, Nat.le_trans h.size h'.size, fun b hb ho => ?_, h.late.trans h'.late, fun b hb => ?_, fun c b hc => ?_⟩
  · refine (h'.same b (Nat.lt_of_lt_of_le hb h.size) fun hx => ?_).trans (h.same b hb ho)
    rcases hO b hx with h1 | h1
    · exact ho h1
    · omega
  · rcases h'.newF b hb with h1 | h1 | h1
    · exact h.newF b h1
    · exact .inr (hO b h1)
    · exact .inr (.inr (Nat.le_trans h.size h1))
  · rcases h'.newO c b hc with h1 | h1
    · exact hO b h1
    · exact .inr (Nat.le_trans h.size h1)

/-- the frame of a function at its beginning -/
theorem enter_rel {vs : List Value} {n : Nat} {args : List (SV C)} {m : Nat} {hm : ∀ c, m ≤ c → E.β c = .fresh} (hs : Sat D w E (getC Hp)) (hd : DenA D w E args vs) :
    RelX D (Base.here w E m hm) (args ++ anys (n - args.length)) Hp { tmps := vs.toArray ++ Array.replicate (n - vs.toArray.size) undef, defers := [] } w := by
  have hlen := denA_length _ _ hd
  refine ⟨[], E, ⟨fun i => ?_, hs, Fr.here, rfl, Marks.nil⟩, by simp [anys_length, hlen]⟩
  rw [getT_append]
  split
  · rename_i hi
    have := denA_getT _ _ hd i hi
    have e : (vs.toArray ++ Array.replicate (n - vs.toArray.size) undef).getD i undef = vs.getD i undef := by
      rw [Array.getD_eq_getD_getElem?, Array.getElem?_append_left (by simp; omega)]
      simp [List.getD_eq_getElem?_getD]
    rw [e]; exact this
  · rw [getT_anys]; trivial

/-- A function's contract, from its conditions. -/
theorem meets_of_gx (A : Aux C D) (hT : TabOK P D tab) {f : FuncId} {fn : Func} {c : Code} (hf : P.funcs[f]? = some fn) (hb : fn.body = some c) (henter : ∀ args w, (callFunc f args).run P w = .ok (.enter f args) w)
    {args : List (SV C)} {H0 : List (HS C)} {ret : SV C} {H1 : List (HS C)} (n : Nat)
    (h : forceV (args ++ anys (fn.ntmps - args.length)) fun T0 => forceL H0 fun Hp0 => gx P A tab ⟨none, [], H0.length⟩ (EndPost D tab fn.results.toList H0.length ret H1) n [.code c] T0 Hp0) : Meets P D f args H0 ret H1 := by
  rw [forceV_eq, forceL_eq] at h
  refine ⟨henter, fun w E hm vs hs hd => ?_⟩
  refine callsIn_of_wp_marks hf hb trivial ?_ rfl
  have hR := enter_rel (n := fn.ntmps) (m := H0.length) (hm := hm) hs hd
  have hX : CtxOK D (⟨none, [], H0.length⟩ : Ctx C) (Base.here w E H0.length hm) none := ⟨rfl, fun c ri hc => by simp [lkR] at hc, trivial⟩
  have := gx_sound (r := none) (Q := bodyPostM (Fc none) 0 P fn fun e w' => ∃ v E', e = .returned v ∧ Den D w' E' ret v ∧ Sat D w' E' (getC H1) ∧ Fr (Base.here w E H0.length hm) E' w') A hT hX
    (fun e a w' T Hp hΦ hRL => ?_) n _ _ _ h _ _ hR
  · exact this
  · obtain ⟨he, θ, l, h1, h2, h3⟩ := hΦ
    obtain ⟨df, E1, hR1, _⟩ := hRL
    have key : LeavesInM (Fc none) 0 P fn a.tmps (fun e w' => ∃ v E', e = .returned v ∧ Den D w' E' ret v ∧ Sat D w' E' (getC H1) ∧ Fr (Base.here w E H0.length hm) E' w') a.defers .returning w' := by
      refine leaves_rel hR1 fun w2 E2 hR2 => ?_
      obtain ⟨v, h4, h5⟩ := results_run (P := P) (fn := fn) hT hR2 h1
      obtain ⟨g1, g2, g3⟩ := view_env hR2.sat hR2.fr h3
      exact ⟨v, h4, v, _, rfl, view_den hR2.sat g1 _ _ _ h2 h5, g2, g3⟩
    rcases he with rfl | rfl
    · exact key
    · exact key

/-- what a call in place does at its end -/
def endX (D : Codec C) (tab : Tab C) (rs : List ResultVar) (R : Kont C) (dst : Option Nat) (all rest : List Oper) (k : List (It C)) (T : List (SV C)) : Post C := fun e T' Hp' =>
  match e with
  | .normal => endR (resOf D tab T' Hp' rs) Hp'
  | .ret => endR (resOf D tab T' Hp' rs) Hp'
  | _ => False
where endR (l : Option (List (SV C))) (Hp' : List (HS C)) : Prop := match l with
  | some l => setOK T dst (retOf l) fun T'' => R (.ops all rest :: k) T'' Hp'
  | none => False
def endSome (D : Codec C) (tab : Tab C) (rs : List ResultVar) (S : SV C → List (HS C) → Prop) : Post C := fun e T' Hp' =>
  (e = .normal ∨ e = .ret) ∧ ∃ l, resOf D tab T' Hp' rs = some l ∧ S (retOf l) Hp'
theorem endX_some {rs : List ResultVar} {e : Exit} {T' : List (SV C)} {Hp' : List (HS C)} (h : endX D tab rs R dst all rest k T e T' Hp') :
    endSome D tab rs (fun ret Hp' => R (.ops all rest :: k) (setO T dst ret) Hp') e T' Hp' := by
  have key : endX.endR R dst all rest k T (resOf D tab T' Hp' rs) Hp' → ∃ l, resOf D tab T' Hp' rs = some l ∧ R (.ops all rest :: k) (setO T dst (retOf l)) Hp' := by
    intro h
    unfold endX.endR at h
    split at h
    · rename_i l hl; rw [setOK_eq] at h; exact ⟨l, hl, h⟩
    · exact h.elim
  cases e with
  | normal => exact ⟨.inl rfl, key h⟩
  | ret => exact ⟨.inr rfl, key h⟩
  | _ => exact h.elim

/-- a call's outcomes out of its body's walk -/
theorem callS_of_gx (A : Aux C D) (hT : TabOK P D tab) {L : Recs C} {fn : Func} {c : Code} (hf : P.funcs[f]? = some fn) (hb : fn.body = some c) (henter : ∀ args w, (callFunc f args).run P w = .ok (.enter f args) w) (n : Nat)
    {S : SV C → List (HS C) → Prop} {Φ : Post C} (hΦ : ∀ e T' Hp', Φ e T' Hp' → endSome D tab fn.results.toList S e T' Hp')
    (h : gx P A tab ⟨none, L, hlen Hp⟩ Φ n [.code c] (args ++ anys (fn.ntmps - args.length)) Hp) : CallS P D L f args Hp S := by
  refine ⟨.inl ⟨henter, fun B σ df a w E hBL hR vs hd => ?_⟩⟩
  refine callsIn_of_wp_marks hf hb trivial ?_ rfl
  have hm := fresh_of_sat hR.sat
  have hR0 := enter_rel (n := fn.ntmps) (m := hlen Hp) (hm := hm) hR.sat hd
  have hX : CtxOK D (⟨none, L, hlen Hp⟩ : Ctx C) (Base.here w E (hlen Hp) hm) none := ⟨rfl, hBL.mono hR.fr.late, trivial⟩
  have := gx_sound (r := none) (Q := bodyPostM (Fc none) 0 P fn fun e w' => ∃ v E' ret Hp', e = .returned v ∧ Den D w' E' ret v ∧ Rel D B E' σ (getC Hp') df a w' ∧ S ret Hp') A hT hX
    (fun e a' w' T Hp' hΦ' hRL => ?_) n _ _ _ h _ _ hR0
  · exact this
  · obtain ⟨he, l, h1, h2⟩ := hΦ _ _ _ hΦ'
    obtain ⟨df', E1, hR1, _⟩ := hRL
    have key : LeavesInM (Fc none) 0 P fn a'.tmps (fun e w' => ∃ v E' ret Hp', e = .returned v ∧ Den D w' E' ret v ∧ Rel D B E' σ (getC Hp') df a w' ∧ S ret Hp') a'.defers .returning w' := by
      refine leaves_rel hR1 fun w2 E2 hR2 => ?_
      obtain ⟨v, h4, h5⟩ := results_run (P := P) (fn := fn) hT hR2 h1
      exact ⟨v, h4, v, E2, _, _, rfl, h5, hR.later hR2.fr.late hR2.sat (hR.fr.trans hR2.fr), h2⟩
    rcases he with rfl | rfl
    · exact key
    · exact key

/-- A call, walked in place. -/
theorem call_in (A : Aux C D) (hT : TabOK P D tab) {fn : Func} {c : Code} (hf : P.funcs[f]? = some fn) (hb : fn.body = some c) (henter : ∀ args w, (callFunc f args).run P w = .ok (.enter f args) w) (n : Nat)
    (h : forceV (args ++ anys (fn.ntmps - args.length)) fun T0 => hlenK Hp 0 fun m => gx P A tab ⟨none, X.L, m⟩ (endX D tab fn.results.toList R dst all rest k T) n [.code c] T0 Hp) : CallX P D X R f args dst all rest k T Hp := by
  rw [forceV_eq, hlenK_eq, Nat.add_zero] at h
  exact CallX.of _ (callS_of_gx A hT hf hb henter n (fun e T' Hp' => endX_some) h) fun ret Hp' hS => hS

/-- A call by its contract. -/
theorem callX_of_at {ret : SV C} {ws : List (Nat × HS C)} (hc : CallAt P D f args (getC Hp) ret ws) (h : setOK T dst ret fun T' => setCsK Hp ws fun Hp' => R (.ops all rest :: k) T' Hp') : CallX P D X R f args dst all rest k T Hp := by
  rw [setOK_eq, setCsK_eq] at h
  refine CallX.of (fun ret' Hp' => ret' = ret ∧ Hp' = setCs Hp ws) ⟨?_⟩ ?_
  · rcases hc.run with ⟨hc1, hc2⟩ | hx
    · refine .inl ⟨hc1, fun B σ df a w E _ hR vs hd => (hc2 B σ df a w E hR vs hd).mono ?_⟩
      rintro e w' ⟨v, E', rfl, hv, hR'⟩
      exact ⟨v, E', ret, setCs Hp ws, rfl, hv, by rw [getC_setCs]; exact hR', rfl, rfl⟩
    · refine .inr fun B σ df a w E hR vs hd => ?_
      obtain ⟨v, w', E', h1, hv, hR'⟩ := hx B σ df a w E hR vs hd
      exact ⟨v, w', E', ret, setCs Hp ws, h1, hv, by rw [getC_setCs]; exact hR', rfl, rfl⟩
  · rintro ret' Hp' ⟨rfl, rfl⟩; exact h
theorem callx_pure {ret : SV C} (hM : Meets P D f args [] ret []) (hargs : renL [] args = some args) (hret : renS [] ret = some ret) (h : setOK T dst ret fun T' => R (.ops all rest :: k) T' Hp) : CallX P D X R f args dst all rest k T Hp :=
  callX_of_at (callAt_pure hM hargs hret Hp) h
theorem callx_heap {args0 : List (SV C)} {H0 H0' H1 H1' : List (HS C)} {ret0 ret : SV C} (ρ : List (Option Nat)) (hM : Meets P D f args0 H0 ret0 H1)
    (hargs : renL ρ args0 = some args) (hH0 : renHs ρ H0 = some H0') (hat : heapAt (getC Hp) ρ H0') (θ : List (Option Nat)) (hθ : θ = ρ ++ newIds (H1.length - H0.length) (hlen Hp)) (hnd : ndO θ = true) (hle : H0.length ≤ H1.length)
    (hH1 : renHs θ H1 = some H1') (hret : renS θ ret0 = some ret) (h : setOK T dst ret fun T' => setCsK Hp (zipW θ H1') fun Hp' => R (.ops all rest :: k) T' Hp') : CallX P D X R f args dst all rest k T Hp :=
  callX_of_at (callAt_of_meets hM ρ hargs hH0 hat θ hθ hnd hle hH1 hret) h

/-! ### Ranges over functions -/
/-- what the iterator's walk does at its end -/
def endRange (R : Kont C) (cl : Nat) (k : List (It C)) (T : List (SV C)) : Post C := fun e _ Hp' =>
  match e with
  | .normal => endR Hp' (getC Hp' cl)
  | .ret => endR Hp' (getC Hp' cl)
  | _ => False
where endR (Hp' : List (HS C)) (h : HS C) : Prop := match h with
  | .obj (.loop r) => match r.state with
    | .busy => False
    | _ => setCK Hp' cl (.obj (.loop { r with state := .exhausted })) fun Hp'' => afterRange R k T Hp'' r.pending
  | _ => False
def rangeOut (cl : Nat) (S : Option Code → List (HS C) → Prop) : Post C := fun e _ Hp' =>
  (e = .normal ∨ e = .ret) ∧ ∃ r, getC Hp' cl = .obj (.loop r) ∧ r.state ≠ .busy ∧ S r.pending (setC Hp' cl (.obj (.loop { r with state := .exhausted })))
theorem endRange_out {cl : Nat} {e : Exit} {T' : List (SV C)} {Hp' : List (HS C)} (h : endRange R cl k T e T' Hp') : rangeOut cl (fun j Hp' => afterRange R k T Hp' j) e T' Hp' := by
  have key : endRange.endR R cl k T Hp' (getC Hp' cl) → ∃ r, getC Hp' cl = .obj (.loop r) ∧ r.state ≠ .busy ∧ afterRange R k T (setC Hp' cl (.obj (.loop { r with state := .exhausted }))) r.pending := by
    intro h
    unfold endRange.endR at h
    split at h
    · rename_i r hr
      split at h
      · exact h.elim
      · rename_i hst; rw [setCK_eq] at h; exact ⟨r, hr, hst, h⟩
    · exact h.elim
  cases e with
  | normal => exact ⟨.inl rfl, key h⟩
  | ret => exact ⟨.inr rfl, key h⟩
  | _ => exact h.elim

theorem denA_cons {x : SV C} {l : List (SV C)} {v : Value} {vs : List Value} (h1 : Den D w E x v) (h2 : DenA D w E l vs) : DenA D w E (x :: l) (v :: vs) := by
  simp only [DenA]; exact ⟨v, vs, rfl, h1, h2⟩

theorem denA_mono {w' : World} {E' : Env} (hL : Later w E w' E') {l : List (SV C)} {vs : List Value} (h : DenA D w E l vs) : DenA D w' E' l vs := DenA.mono hL _ _ h

/-- A range over a function, walked in place. -/
theorem rangeS_of_gx (A : Aux C D) (hT : TabOK P D tab) {fn : Func} {c : Code} {first captured : List (SV C)} {g : Operand} {ps : Array Tmp} {assign body : Code} (hg : evT T g = .fn (.func f) first captured)
    (hf : P.funcs[f]? = some fn) (hb : fn.body = some c) (henter : ∀ args w, (callFunc f args).run P w = .ok (.enter f args) w) (hres : fn.results = #[]) (n : Nat) {S : Option Code → List (HS C) → Prop} {Φ : (RI C) → Post C}
    (hΦ : ∀ ri e T' Hp', Φ ri e T' Hp' → rangeOut (hlen Hp) S e T' Hp')
    (hlive : ∀ c, X.ar = some c → ∃ r, getC Hp c = .obj (.loop r))
    (h : ∀ (gn : FuncId) (tmps : Array Value) (bd : Nat), gx P A tab ⟨none, (hlen Hp, ⟨gn, tmps, bd, ps, assign, body, T⟩) :: X.L, hlen Hp + 1⟩ (Φ ⟨gn, tmps, bd, ps, assign, body, T⟩) n [.code c]
      ((first ++ (.yieldv (hlen Hp) :: captured)) ++ anys (fn.ntmps - (first ++ (.yieldv (hlen Hp) :: captured)).length)) (Hp ++ [.obj (.loop (mkLoop ⟨gn, tmps, bd, ps, assign, body, T⟩ .ready none))])) :
    RangeS P D X g ps assign body T Hp S := by
  intro r B a w Q hX hRX hQ
  obtain ⟨df, E, hR, hsz⟩ := hRX
  -- the function value
  have hgd := ev_den hR g
  rw [← evT_eq, hg] at hgd
  simp only [Den] at hgd
  obtain ⟨xs, ys, hgv, hd1, hd2⟩ := hgd
  refine wpIn_rangeFunc ?_
  intro gn hgn
  -- the record is laid: at an outermost loop behind a block for deferred calls
  obtain ⟨w1, E1, bd, mark, l, hent, hE1, hl, hL1, hmk, hfr⟩ : ∃ (w1 : World) (E1 : Env) (bd : Nat) (mark : List Deferred) (l : Nat),
      (Instr.enterLoop gn a.tmps ps assign body (Fc r).round).run P w = .ok (l, mark) w1 ∧ E1 = { F := E1.F, β := (E.up (hlen Hp) (.loc l)).β } ∧ w1.heap[l]? = some (.loop (mkLoop ⟨gn, a.tmps, bd, ps, assign, body, T⟩ .ready none)) ∧
      Later w E w1 E1 ∧ (∃ df1, mark ++ df = df1 ∧ Marks B E1 w1 df1) ∧ Sat D w1 E1 (getC (Hp ++ [.obj (.loop (mkLoop ⟨gn, a.tmps, bd, ps, assign, body, T⟩ .ready none))])) ∧ Fr B E1 w1 := by
    have hfresh : getC Hp (hlen Hp) = .fresh := getC_len Hp
    have happ : ∀ h : HS C, getC (Hp ++ [h]) = upH (getC Hp) (hlen Hp) h := by
      intro h; funext i
      have : ∀ (l : List (HS C)) (i : Nat), getC (l ++ [h]) i = if i = hlen l then h else getC l i := by
        intro l
        induction l with
        | nil => intro i; cases i <;> simp [getC, hlen]
        | cons x l ih => intro i; cases i with
          | zero => simp [getC, hlen]
          | succ i => simp [getC, hlen, ih i]
      rw [this]; rfl
    cases hr : r with
    | none =>
      have e1 := run_enterLoop_outer (P := P) (w := w) gn a.tmps ps assign body
      -- the block of the mark is persistent
      have hwF : ∀ b, E.F b → b ≠ w.heap.size := fun b hb e => by have := hR.sat.F b hb; omega
      have hL0 : Later w E (w.alloc (.deferred (some []))) { E with F := fun k => E.F k ∨ k = w.heap.size } :=
        ⟨fun b hb => ⟨.inl hb, Below.heap_alloc w _ b (hR.sat.F b hb)⟩, fun c => .inl rfl, fun c b _ _ cs T hcs => ⟨cs, T, Row.of (Below.heap_alloc w _ b hcs.lt) hcs, rfl⟩⟩
      have hR0 : Rel D B { E with F := fun k => E.F k ∨ k = w.heap.size } (getT T) (getC Hp) df a (w.alloc (.deferred (some []))) := by
        refine hR.later hL0 ⟨fun c => ?_, fun c b e => ?_, hR.sat.inj, fun b hb => ?_, hR.sat.glob.mono hL0.F⟩ ?_
        · exact HS.ok_mono hL0 (hR.sat.ok c) fun b e => Below.heap_alloc w _ b (hR.sat.own c b e).1
        · have := hR.sat.own c b e
          exact ⟨by simp; omega, fun h => h.elim this.2 (fun e => by omega)⟩
        · rcases hb with hb | rfl
          · have := hR.sat.F b hb; simp; omega
          · simp
        · refine ⟨hR.fr.os, hR.fr.tape, hR.fr.output, by have := hR.fr.size; simp; omega, fun b hb ho => (Below.heap_alloc w _ b (Nat.lt_of_lt_of_le hb hR.fr.size)).trans (hR.fr.same b hb ho), hR.fr.late.trans hL0, ?_, hR.fr.newO⟩
          rintro b (hb | rfl)
          · exact hR.fr.newF b hb
          · exact .inr (.inr hR.fr.size)
      have hR1 := hR0.allocO (c := hlen Hp) hfresh (.loop (mkLoop ⟨gn, a.tmps, w.heap.size, ps, assign, body, T⟩ .ready none)) (hs := .obj (.loop (mkLoop ⟨gn, a.tmps, w.heap.size, ps, assign, body, T⟩ .ready none)))
        ⟨World.alloc_heap_new _ _, by simp⟩
      have hβ : E.β (hlen Hp) = .fresh := fresh_β hR.sat hfresh
      have hL2 := later_alloc (w := w.alloc (.deferred (some []))) (E := { E with F := fun k => E.F k ∨ k = w.heap.size }) (c := hlen Hp) hβ (.loop (mkLoop ⟨gn, a.tmps, w.heap.size, ps, assign, body, T⟩ .ready none)) hR0.sat.F
      refine ⟨_, _, w.heap.size, _, _, e1, ?_, ?_, hL0.trans hL2, ⟨_, rfl, ?_⟩, ?_, hR1.fr⟩
      · simp only [World.size_alloc]; rfl
      · have := World.alloc_heap_new (w.alloc (.deferred (some []))) (.loop (mkLoop ⟨gn, a.tmps, w.heap.size, ps, assign, body, T⟩ .ready none)); rwa [World.size_alloc] at this
      · obtain ⟨bs, hb1, hb2, hb3⟩ := hR1.marks
        refine ⟨w.heap.size :: bs, by simp [hb1], List.nodup_cons.2 ⟨fun hmem => ?_, hb2⟩, fun b hb => ?_⟩
        · obtain ⟨bs', hb1', _, hb3'⟩ := hR.marks
          have inj : ∀ l m : List Nat, l.map (fun b => (⟨.collected b, #[]⟩ : Deferred)) = m.map (fun b => ⟨.collected b, #[]⟩) → l = m := by
            intro l
            induction l with
            | nil => intro m h; cases m with
              | nil => rfl
              | cons x m => simp at h
            | cons x l ih => intro m h; cases m with
              | nil => simp at h
              | cons y m => simp at h; rw [h.1, ih m (by simpa using h.2)]
          have : bs = bs' := inj _ _ (hb1.symm.trans hb1')
          subst this
          have := hR.sat.F _ (hb3' _ hmem).1
          omega
        · rcases List.mem_cons.1 hb with rfl | hb
          · refine ⟨.inr rfl, (Below.heap_alloc _ _ _ (by simp)).trans (World.alloc_heap_new w _), hR.fr.size, fun hF => ?_⟩
            have := (hR.fr.late.F _ hF).1
            have := hR.sat.F _ this
            omega
          · exact hb3 b hb
      · rw [happ]; exact hR1.sat
    | some l0 =>
      -- a range within a round
      have har := hX.ar
      unfold ArOK at har
      rw [hr] at har
      cases hc0 : X.ar with
      | none => rw [hc0] at har; exact har.elim
      | some c0 =>
        rw [hc0] at har
        simp only at har
        obtain ⟨r0, hr0⟩ := hlive c0 hc0
        have hb0 : E.β c0 = .loc l0 := by
          have hok := hR.sat.ok c0
          rcases hR.fr.late.β c0 with e | e | e
          · rw [e]; exact har
          · rw [e, hr0] at hok; cases hok
          · rw [har] at e; cases e
        have hok := hR.sat.ok c0
        rw [hb0, hr0] at hok
        have e1 := run_enterLoop_inner (P := P) hok.1 gn a.tmps ps assign body
        have hR1 := hR.allocO (c := hlen Hp) hfresh (.loop (mkLoop ⟨gn, a.tmps, r0.defers, ps, assign, body, T⟩ .ready none)) (hs := .obj (.loop (mkLoop ⟨gn, a.tmps, r0.defers, ps, assign, body, T⟩ .ready none)))
          ⟨World.alloc_heap_new _ _, by simp⟩
        have hβ : E.β (hlen Hp) = .fresh := fresh_β hR.sat hfresh
        have hL2 := later_alloc (w := w) (E := E) (c := hlen Hp) hβ (.loop (mkLoop ⟨gn, a.tmps, r0.defers, ps, assign, body, T⟩ .ready none)) hR.sat.F
        refine ⟨_, _, r0.defers, _, _, e1, rfl, World.alloc_heap_new _ _, hL2, ⟨_, rfl, hR1.marks⟩, ?_, hR1.fr⟩
        rw [happ]; exact hR1.sat
  obtain ⟨⟨df1, hdf1, hmk⟩, hfr⟩ := And.intro hmk hfr
  have hlb : E1.β (hlen Hp) = .loc l := by rw [hE1]; exact Env.up_same E _ _
  refine ⟨l, mark, w1, { target := .fn (.func f) ys, args := xs ++ #[.func (.yield l) #[] #[]] }, w1, f, (xs ++ #[.func (.yield l) #[] #[]]) ++ ys, w1, hent, ?_, ?_, ?_, ?_, ?_⟩
  · simp only [resolve, hgv]
    simp [Act.eval, Deferred.ofValue, Sem.run_pure, go_sem]
  · intro f' _; exact trivial
  · simp [invoke, go_sem, henter]
  · intro h; simp [Fc] at h
  · -- the iterator's walk
    have hR1 : Rel D B E1 (getT T) (getC (Hp ++ [.obj (.loop (mkLoop ⟨gn, a.tmps, bd, ps, assign, body, T⟩ .ready none))])) df1 { a with defers := mark ++ a.defers } w1 :=
      ⟨fun i => Den.mono hL1 _ _ (hR.den i), hfr.1, hfr.2, by rw [hR.defers]; exact hdf1, hmk⟩
    have hlen1 : hlen (Hp ++ [.obj (.loop (mkLoop ⟨gn, a.tmps, bd, ps, assign, body, T⟩ .ready none))]) = hlen Hp + 1 := by
      rw [hlen_eq, hlen_eq]; simp
    have hm : ∀ c, hlen Hp + 1 ≤ c → E1.β c = .fresh := by
      have := fresh_of_sat hR1.sat
      rw [hlen1] at this
      exact this
    have hd : DenA D w1 E1 (first ++ (.yieldv (hlen Hp) :: captured)) (xs.toList ++ (.func (.yield l) #[] #[] :: ys.toList)) :=
      denA_append _ _ _ _ (denA_mono hL1 hd1) (denA_cons (by simp only [Den, hlb]) (denA_mono hL1 hd2))
    have hvs : (xs ++ #[.func (.yield l) #[] #[]]) ++ ys = (xs.toList ++ (.func (.yield l) #[] #[] :: ys.toList)).toArray := by
      apply Array.ext'; simp
    rw [hvs]
    have hR0 := enter_rel (n := fn.ntmps) (m := hlen Hp + 1) (hm := hm) hR1.sat hd
    have hX1 : CtxOK D (⟨none, (hlen Hp, ⟨gn, a.tmps, bd, ps, assign, body, T⟩) :: X.L, hlen Hp + 1⟩ : Ctx C) (Base.here w1 E1 (hlen Hp + 1) hm) none := by
      refine ⟨rfl, fun c ri hc => ?_, trivial⟩
      simp only [lkR] at hc
      split at hc
      · injection hc with hc; subst hc
        exact ⟨hsz, fun i => hR1.den i⟩
      · exact (hX.L.mono (hR.fr.late.trans hL1)) c ri hc
    refine callsIn_of_wp_marks (F := Fc none) hf hb trivial ?_ rfl
    have := gx_sound (r := none) (Q := bodyPostM (Fc none) 0 P fn (rangePost (Fc r) 0 P l Q { a with defers := mark ++ a.defers })) A hT hX1
      (fun e a' w' T' Hp' hΦ' hRL => ?_) n _ _ _ (h gn a.tmps bd) _ _ hR0
    · exact this
    · obtain ⟨he, rr, hrr, hst, hS⟩ := hΦ _ _ _ _ hΦ'
      obtain ⟨df', E2, hR2, _⟩ := hRL
      have key : LeavesInM (Fc none) 0 P fn a'.tmps (rangePost (Fc r) 0 P l Q { a with defers := mark ++ a.defers }) a'.defers .returning w' := by
        refine leaves_rel hR2 fun w3 E3 hR3 => ?_
        -- no result is asked of it
        have hrun : ∃ v, (results fn a'.tmps).run P w3 = .ok v w3 := by
          refine ⟨.tuple #[], ?_⟩
          unfold results
          simp [hres]
        obtain ⟨v, hv⟩ := hrun
        have hl3 : E3.β (hlen Hp) = .loc l := by
          have hok := hR3.sat.ok (hlen Hp)
          rcases hR3.fr.late.β (hlen Hp) with e | e | e
          · exact e.trans hlb
          · rw [e, hrr] at hok; cases hok
          · have e' : E1.β (hlen Hp) = .fresh := e
            rw [hlb] at e'; cases e'
        have hok := hR3.sat.ok (hlen Hp)
        rw [hl3, hrr] at hok
        obtain ⟨h1, h2⟩ := hR3.putO hl3 hrr (o' := .loop { rr with state := .exhausted }) (by simp)
        refine ⟨v, hv, rr.pending, _, run_endLoop hok.1 hst, ?_⟩
        have hLall : Later w1 E1 (w3.putObj l (.loop { rr with state := .exhausted })) E3 := h1.fr.late
        have hRfin : RelX D B T (setC Hp' (hlen Hp) (.obj (.loop { rr with state := .exhausted }))) { a with defers := mark ++ a.defers } (w3.putObj l (.loop { rr with state := .exhausted })) := by
          refine ⟨df1, E3, ?_, hsz⟩
          rw [getC_setC']
          exact hR1.later hLall h1.sat (hR1.fr.trans h1.fr)
        have := hQ rr.pending _ _ _ hS hRfin
        cases hp : rr.pending with
        | none => rw [hp] at this; exact this
        | some c => rw [hp] at this; exact this
      rcases he with rfl | rfl
      · exact key
      · exact key
def liveX (X : Ctx C) (Hp : List (HS C)) : Bool := match X.ar with
  | none => true
  | some c => match getC Hp c with
    | .obj (.loop _) => true
    | _ => false
theorem liveX_ok (h : liveX X Hp = true) : ∀ c, X.ar = some c → ∃ r, getC Hp c = .obj (.loop r) := by
  intro c hc
  unfold liveX at h
  rw [hc] at h
  simp only at h
  split at h
  · rename_i r hr; exact ⟨r, hr⟩
  · cases h
theorem range_in (A : Aux C D) (hT : TabOK P D tab) {fn : Func} {c : Code} {g : Operand} {first captured : List (SV C)} {ps : Array Tmp} {assign body : Code} (hg : evT T g = .fn (.func f) first captured)
    (hf : P.funcs[f]? = some fn) (hb : fn.body = some c) (henter : ∀ args w, (callFunc f args).run P w = .ok (.enter f args) w) (hres : fn.results = #[]) (hlive : liveX X Hp = true) (n : Nat)
    (h : ∀ (gn : FuncId) (tmps : Array Value) (bd : Nat), hlenK Hp 0 fun cl => forceV ((first ++ (.yieldv cl :: captured)) ++ anys (fn.ntmps - (first ++ (.yieldv cl :: captured)).length)) fun T0 =>
      forceL (Hp ++ [.obj (.loop (mkLoop ⟨gn, tmps, bd, ps, assign, body, T⟩ .ready none))]) fun Hp0 =>
      gx P A tab ⟨none, (cl, ⟨gn, tmps, bd, ps, assign, body, T⟩) :: X.L, cl + 1⟩ (endRange R cl k T) n [.code c] T0 Hp0) :
    RangeX P D X R g (.fn (.func f) first captured) ps assign body k T Hp := by
  refine ⟨_, rangeS_of_gx A hT hg hf hb henter hres n (fun ri e T' Hp' => endRange_out) (liveX_ok hlive) ?_, fun j Hp' hS => hS⟩
  intro gn tmps bd
  have := h gn tmps bd
  rw [hlenK_eq, Nat.add_zero, forceV_eq, forceL_eq] at this
  exact this

/-! ### Rounds -/
/-- the round's end: what yield gives back -/
def endRound (R : Kont C) (c : Nat) (dst : Option Nat) (all rest : List Oper) (k : List (It C)) (T : List (SV C)) : Post C := fun e _ Hp' => at_ e Hp' (getC Hp' c)
where at_ (e : Exit) (Hp' : List (HS C)) (h : HS C) : Prop := match h with
  | .obj (.loop r) => match e with
    | .normal => setCK Hp' c (.obj (.loop { r with state := .ready, pending := none })) fun Hp'' => setOK T dst (.p (.bool true)) fun T' => R (.ops all rest :: k) T' Hp''
    | .ret => setCK Hp' c (.obj (.loop { r with state := .done, pending := some .ret })) fun Hp'' => setOK T dst (.p (.bool false)) fun T' => R (.ops all rest :: k) T' Hp''
    | .exit id => setCK Hp' c (.obj (.loop { r with state := .done, pending := some (.exit id) })) fun Hp'' => setOK T dst (.p (.bool false)) fun T' => R (.ops all rest :: k) T' Hp''
    | _ => False
  | _ => False
def setPs : List (SV C) → List Tmp → List (SV C) → List (SV C)
  | T, p :: ps, v :: vs => setPs (setT T p v) ps vs
  | T, _, _ => T
def sameLen {α β : Type} : List α → List β → Bool
  | [], [] => true
  | _ :: l, _ :: m => sameLen l m
  | _, _ => false
theorem sameLen_ok {α β : Type} : ∀ {l : List α} {m : List β}, sameLen l m = true → l.length = m.length
  | [], [], _ => rfl
  | _ :: l, _ :: m, h => by simp [sameLen_ok (l := l) (m := m) h]
  | [], _ :: _, h => by simp [sameLen] at h
  | _ :: _, [], h => by simp [sameLen] at h

theorem setPs_den : ∀ (ps : List Tmp) (args : List (SV C)) (vs : List Value) (T : List (SV C)) (tm : Array Value), ps.length = args.length → DenA D w E args vs → tm.size = T.length → (∀ i, Den D w E (getT T i) (tm.getD i undef)) →
    ((ps.zip vs).foldl (fun t (p, v) => t.setIfInBounds p v) tm).size = (setPs T ps args).length ∧ ∀ i, Den D w E (getT (setPs T ps args) i) (((ps.zip vs).foldl (fun t (p, v) => t.setIfInBounds p v) tm).getD i undef)
  | [], [], vs, T, tm, _, _, hz, h => by simp only [setPs, List.zip_nil_left, List.foldl_nil]; exact ⟨hz, h⟩
  | p :: ps, x :: args, vs, T, tm, hl, hd, hz, h => by
    simp only [DenA] at hd
    obtain ⟨v, vs', rfl, h1, h2⟩ := hd
    simp only [setPs, List.zip_cons_cons, List.foldl_cons]
    refine setPs_den ps args vs' (setT T p x) (tm.setIfInBounds p v) (by simpa using hl) h2 (by simp [length_setT, hz]) fun i => ?_
    rw [getT_setT]
    by_cases hi : i = p
    · subst hi
      by_cases hlt : i < T.length
      · rw [if_pos ⟨rfl, hlt⟩]
        have : (tm.setIfInBounds i v).getD i undef = v := by
          rw [Array.getD_eq_getD_getElem?, Array.getElem?_setIfInBounds_self_of_lt (by omega)]; rfl
        rw [this]; exact h1
      · rw [if_neg (fun hh => hlt hh.2)]
        have : (tm.setIfInBounds i v).getD i undef = tm.getD i undef := by
          rw [Array.getD_eq_getD_getElem?, Array.getD_eq_getD_getElem?]
          congr 1
          rw [Array.getElem?_eq_none (by simp; omega), Array.getElem?_eq_none (by omega)]
        rw [this]; exact h i
    · rw [if_neg (fun hh => hi hh.1)]
      have : (tm.setIfInBounds p v).getD i undef = tm.getD i undef := by
        rw [Array.getD_eq_getD_getElem?, Array.getD_eq_getD_getElem?, Array.getElem?_setIfInBounds_ne (Ne.symm hi)]
      rw [this]; exact h i

/-- the round begins: behind the assignments to the loop's variables -/
def beginRound (c : Nat) (K : Kont C) (body : Code) : Post C := fun e T1 Hp1 => match e with
  | .normal => at_ T1 Hp1 (getC Hp1 c)
  | _ => False
where at_ (T1 : List (SV C)) (Hp1 : List (HS C)) (h : HS C) : Prop := match h with
  | .obj (.loop r) => match r.state with
    | .ready => setCK Hp1 c (.obj (.loop { r with state := .busy })) fun Hp2 => K [.code body] T1 Hp2
    | _ => False
  | _ => False
theorem yieldS_of_gx (A : Aux C D) (hT : TabOK P D tab) {c : Nat} {ri : RI C} (hri : lkR X.L c = some ri) (hc : getC Hp c = .obj (.loop (mkLoop ri .ready none))) (hlen' : sameLen ri.ps.toList args = true) (n n' : Nat)
    (h : gx P A tab ⟨some c, X.L, hlen Hp⟩ (beginRound c (gx P A tab ⟨some c, X.L, hlen Hp⟩ (endRound R c dst all rest k T) n') ri.body) n [.code ri.assign] (setPs ri.T ri.ps.toList args) Hp) :
    YieldS P D X.L c args Hp (fun q Hp' => R (.ops all rest :: k) (setO T dst (.p (.bool q))) Hp') := by
  intro r B σ df a w E hBL hR
  -- where the record lies
  have hok := hR.sat.ok c
  have hb : ∃ b, E.β c = .loc b := by
    rw [hc] at hok
    cases hb : E.β c with
    | fresh => rw [hb] at hok; simp [HS.ok] at hok
    | dead => rw [hb] at hok; simp [HS.ok] at hok
    | virt => rw [hb] at hok; simp [HS.ok] at hok
    | loc b => exact ⟨b, rfl⟩
  obtain ⟨b, hb⟩ := hb
  rw [hb, hc] at hok
  refine ⟨b, hb, fun vs hd => ?_⟩
  have hl1 := sameLen_ok hlen'
  have hl2 := denA_length _ _ hd
  have hy := run_yield (P := P) (args := vs.toArray) hok.1 (by simp [mkLoop]; rw [← hl2, ← hl1]; simp)
  refine ⟨_, _, _, _, hy, ?_⟩
  have hm := fresh_of_sat hR.sat
  have hrec := (hBL.mono hR.fr.late) c ri hri
  obtain ⟨hz, hden⟩ := setPs_den (D := D) (w := w) (E := E) ri.ps.toList args vs ri.T ri.tmps hl1 hd hrec.1 hrec.2
  have htm : (ri.ps.zip vs.toArray).foldl (fun tmps (t, a) => tmps.setIfInBounds t a) ri.tmps = (ri.ps.toList.zip vs).foldl (fun t (p, v) => t.setIfInBounds p v) ri.tmps := by
    rw [← Array.foldl_toList]
    simp
  have hR0 : RelX D (Base.here w E (hlen Hp) hm) (setPs ri.T ri.ps.toList args) Hp { tmps := (ri.ps.toList.zip vs).foldl (fun t (p, v) => t.setIfInBounds p v) ri.tmps, defers := [] } w :=
    ⟨[], E, ⟨hden, hR.sat, Fr.here, rfl, Marks.nil⟩, hz⟩
  have hX1 : CtxOK D (⟨some c, X.L, hlen Hp⟩ : Ctx C) (Base.here w E (hlen Hp) hm) (some b) := ⟨rfl, hBL.mono hR.fr.late, hb⟩
  have hb1 : ∀ {T' Hp' a' w' E1 df'} {rr : Loop}, Rel D (Base.here w E (hlen Hp) hm) E1 T' (getC Hp') df' a' w' → getC Hp' c = .obj (.loop rr) → E1.β c = .loc b := by
    intro T' Hp' a' w' E1 df' rr hR1 hrr
    have hok := hR1.sat.ok c
    rcases hR1.fr.late.β c with e' | e' | e'
    · exact e'.trans hb
    · rw [e', hrr] at hok; cases hok
    · have e'' : E.β c = .fresh := e'
      rw [hb] at e''; cases e''
  have body : ∀ T' Hp', gx P A tab ⟨some c, X.L, hlen Hp⟩ (endRound R c dst all rest k T) n' [.code ri.body] T' Hp' → ∀ a' w', RelX D (Base.here w E (hlen Hp) hm) T' Hp' a' w' →
      ri.body.wpIn (Fc (some b)) 0 P (roundPost P b fun e w' => ∃ q E' Hp', e = .returned (.bool q) ∧ Rel D B E' σ (getC Hp') df a w' ∧ R (.ops all rest :: k) (setO T dst (.p (.bool q))) Hp') a' w' := by
    intro T' Hp' h a' w' hRL
    have := gx_sound (r := some b) (Q := roundPost P b fun e w' => ∃ q E' Hp', e = .returned (.bool q) ∧ Rel D B E' σ (getC Hp') df a w' ∧ R (.ops all rest :: k) (setO T dst (.p (.bool q))) Hp') A hT hX1
      (fun e a' w' T' Hp' hΦ hRL => ?_) n' [.code ri.body] T' Hp' h a' w' hRL
    · simp only [postX, Exit.then] at this
      exact this
    · obtain ⟨df', E1, hR1, _⟩ := hRL
      unfold endRound endRound.at_ at hΦ
      split at hΦ
      · rename_i rr hrr
        have hb1 := hb1 hR1 hrr
        have hok1 := hR1.sat.ok c
        rw [hb1, hrr] at hok1
        have fin : ∀ (jump : Option Code) , R (.ops all rest :: k) (setO T dst (.p (.bool jump.isNone))) (setC Hp' c (.obj (.loop { rr with state := if jump.isNone then .ready else .done, pending := jump }))) →
            ∃ v w'', (Instr.endRound b jump).run P w' = .ok v w'' ∧ ∃ q E' Hp', (Ending.returned v) = .returned (.bool q) ∧ Rel D B E' σ (getC Hp') df a w'' ∧ R (.ops all rest :: k) (setO T dst (.p (.bool q))) Hp' := by
          intro jump hRj
          obtain ⟨h1, h2⟩ := hR1.putO hb1 hrr (o' := .loop { rr with state := if jump.isNone then .ready else .done, pending := jump }) (by simp)
          refine ⟨_, _, run_endRound jump hok1.1, _, E1, _, rfl, ?_, hRj⟩
          rw [getC_setC']
          exact hR.later h1.fr.late h1.sat (hR.fr.trans h1.fr)
        split at hΦ
        · rw [setCK_eq, setOK_eq] at hΦ; exact fin none hΦ
        · rw [setCK_eq, setOK_eq] at hΦ; exact fin (some .ret) hΦ
        · rw [setCK_eq, setOK_eq] at hΦ; exact fin (some (.exit _)) hΦ
        · exact hΦ.elim
      · exact hΦ.elim
  have := gx_sound (r := some b) (Q := Exit.then (fun a₁ w₁ => ∃ w₂, (Instr.beginRound b).run P w₁ = .ok () w₂ ∧ ri.body.wpIn (Fc (some b)) 0 P (roundPost P b fun e w' => ∃ q E' Hp', e = .returned (.bool q) ∧ Rel D B E' σ (getC Hp') df a w' ∧ R (.ops all rest :: k) (setO T dst (.p (.bool q))) Hp') a₁ w₂) (fun _ _ _ => False)) A hT hX1
    (fun e a' w' T' Hp' hΦ hRL => ?_) n _ _ _ h _ _ hR0
  · refine roundIn_of_wpIn trivial ?_
    simp only [mkLoop]
    rw [htm]
    exact this
  · obtain ⟨df', E1, hR1, hz1⟩ := hRL
    unfold beginRound beginRound.at_ at hΦ
    split at hΦ
    · split at hΦ
      · rename_i rr hrr
        split at hΦ
        · rename_i hst
          rw [setCK_eq] at hΦ
          have hbb := hb1 hR1 hrr
          have hok1 := hR1.sat.ok c
          rw [hbb, hrr] at hok1
          obtain ⟨h1, h2⟩ := hR1.putO hbb hrr (o' := .loop { rr with state := .busy }) (by simp)
          refine ⟨_, run_beginRound hok1.1 hst, ?_⟩
          exact body _ _ hΦ a' _ ⟨df', E1, by rw [getC_setC']; exact h1, hz1⟩
        · exact hΦ.elim
      · exact hΦ.elim
    · exact hΦ.elim
end
end Go.SX
