/-
  SX, part V3: what meets the stops: contracts, calls in place, ranges over functions, rounds.
-/
import Derived.Test.YtdaghncicimipaaGreatDoorSxQ
import Derived.Lib.MakeNoZero
import Derived.Laws.Externs
import Derived.KernelRfl
set_option linter.unusedVariables false
set_option linter.unusedSimpArgs false
namespace Go.SX
open Go.RowKit
variable {C : Cod}
section
variable {P : Program} {D : Codec C} {tab : Tab C} {B : Base} {E : Env} {σ : Nat → SV C} {H : Nat → HS C} {df : List Deferred} {a : Act} {w : World} {o : Oper} {r : Option Nat}
variable {X : Ctx C} {R : Kont C} {f : FuncId} {args : List (SV C)} {dst : Option Nat} {all rest : List Oper} {k : List (It C)} {T : List (SV C)} {Hp : List (HS C)}

/-- where a walk within a walk begins -/
def Base.here (w : World) (E : Env) (m : Nat) (hm : ∀ c, m ≤ c → E.β c = .fresh) : Base := ⟨w, E, fun b => ∃ c, E.β c = .loc b, m, hm⟩
theorem fresh_of_sat (hs : Sat D w E (getC Hp)) : ∀ c, hlen Hp ≤ c → E.β c = .fresh := fun c hc => fresh_β hs (getC_ge Hp c (by rw [← hlen_eq]; exact hc))

theorem Fr.here {m : Nat} {hm : ∀ c, m ≤ c → E.β c = .fresh} : Fr (Base.here w E m hm) E w :=
 ⟨rfl, rfl, rfl, Nat.le_refl _, fun b _ _ => rfl, Later.refl w E, fun b hb => .inl hb, fun c b hb => .inl ⟨c, hb⟩⟩

theorem Fr.trans {w' : World} {E' : Env} {m : Nat} {hm : ∀ c, m ≤ c → E.β c = .fresh} (h : Fr B E w) (h' : Fr (Base.here w E m hm) E' w') : Fr B E' w' := by
 have hO : ∀ b, (∃ c, E.β c = .loc b) → B.O b ∨ B.w0.heap.size ≤ b := fun b ⟨c, hc⟩ => h.newO c b hc
 refine ⟨h'.os.trans h.os, h'.tape.trans h.tape, h'.output.trans h.output, Nat.le_trans h.size h'.size, fun b hb ho => ?_, h.late.trans h'.late, fun b hb => ?_, fun c b hc => ?_⟩
 ·refine (h'.same b (Nat.lt_of_lt_of_le hb h.size) fun hx => ?_).trans (h.same b hb ho)
  rcases hO b hx with h1 | h1
  ·exact ho h1
  ·omega
 ·rcases h'.newF b hb with h1 | h1 | h1
  ·exact h.newF b h1
  ·exact .inr (hO b h1)
  ·exact .inr (.inr (Nat.le_trans h.size h1))
 ·rcases h'.newO c b hc with h1 | h1
  ·exact hO b h1
  ·exact .inr (Nat.le_trans h.size h1)

/-- the frame of a function at its beginning -/
theorem enter_rel {vs : List Value} {n : Nat} {args : List (SV C)} {m : Nat} {hm : ∀ c, m ≤ c → E.β c = .fresh} (hs : Sat D w E (getC Hp)) (hd : DenA D w E args vs) :
  RelX D (Base.here w E m hm) (args ++ anys (n - args.length)) Hp { tmps := vs.toArray ++ Array.replicate (n - vs.toArray.size) undef, defers := [] } w := by
 have hlen := denA_length _ _ hd
 refine ⟨[], E, ⟨fun i => ?_, hs, Fr.here, rfl, Marks.nil⟩, by simp [anys_length, hlen]⟩
 rw [getT_append]
 split
 ·rename_i hi
  have := denA_getT _ _ hd i hi
  have e : (vs.toArray ++ Array.replicate (n - vs.toArray.size) undef).getD i undef = vs.getD i undef := by
   rw [Array.getD_eq_getD_getElem?, Array.getElem?_append_left (by simp; omega)]
   simp [List.getD_eq_getElem?_getD]
  rw [e]; exact this
 ·rw [getT_anys]; trivial

/-- A function's contract, from its conditions. -/
theorem meets_of_gx (A : Aux C D) (hT : TabOK P D tab) {f : FuncId} {fn : Func} {c : Code} (hf : P.funcs[f]? = some fn) (hb : fn.body = some c) (henter : ∀ args w, (callFunc f args).run P w = .ok (.enter f args) w)
  {args : List (SV C)} {H0 : List (HS C)} {ret : SV C} {H1 : List (HS C)} (n : Nat)
  (h : forceV (args ++ anys (fn.ntmps - args.length)) fun T0 => forceL H0 fun Hp0 => gx P A tab ⟨none, [], H0.length⟩ (EndPost D tab fn.results.toList H0.length ret H1) n [.code c] T0 Hp0) : Meets P D f args H0 ret H1 := by
 rw [forceV_eq, forceL_eq] at h
 refine ⟨henter, fun w E hm vs hs hd => ?_⟩
 refine callsIn_of_wp_marks hf hb trivial ?_ rfl
 have hR := enter_rel (n := fn.ntmps) (m := H0.length) (hm := hm) hs hd
 have hX : CtxOK D (⟨none, [], H0.length⟩ : Ctx C) (Base.here w E H0.length hm) none := ⟨rfl, fun c ri hc => by simp [lkR] at hc, trivial⟩
 have := gx_sound (r := none) (Q := bodyPostM (Fc none) 0 P fn fun e w' => ∃ v E', e = .returned v ∧ Den D w' E' ret v ∧ Sat D w' E' (getC H1) ∧ Fr (Base.here w E H0.length hm) E' w') A hT hX
  (fun e a w' T Hp hΦ hRL => ?_) n _ _ _ h _ _ hR
 ·exact this
 ·obtain ⟨he, θ, l, h1, h2, h3⟩ := hΦ
  obtain ⟨df, E1, hR1, _⟩ := hRL
  have key : LeavesInM (Fc none) 0 P fn a.tmps (fun e w' => ∃ v E', e = .returned v ∧ Den D w' E' ret v ∧ Sat D w' E' (getC H1) ∧ Fr (Base.here w E H0.length hm) E' w') a.defers .returning w' := by
   refine leaves_rel hR1 fun w2 E2 hR2 => ?_
   obtain ⟨v, h4, h5⟩ := results_run (P := P) (fn := fn) hT hR2 h1
   obtain ⟨g1, g2, g3⟩ := view_env hR2.sat hR2.fr h3
   exact ⟨v, h4, v, _, rfl, view_den hR2.sat g1 _ _ _ h2 h5, g2, g3⟩
  rcases he with rfl | rfl
  ·exact key
  ·exact key

/-- what a call in place does at its end -/
def endX (D : Codec C) (tab : Tab C) (rs : List ResultVar) (R : Kont C) (dst : Option Nat) (all rest : List Oper) (k : List (It C)) (T : List (SV C)) : Post C := fun e T' Hp' =>
 match e with
 | .normal => endR (resOf D tab T' Hp' rs) Hp'
 | .ret => endR (resOf D tab T' Hp' rs) Hp'
 | _ => False
where endR (l : Option (List (SV C))) (Hp' : List (HS C)) : Prop := match l with
 | some l => setOK T dst (retOf l) fun T'' => R (.ops all rest :: k) T'' Hp'
 | none => False
def endSome (D : Codec C) (tab : Tab C) (rs : List ResultVar) (S : SV C → List (HS C) → Prop) : Post C := fun e T' Hp' =>
 (e = .normal ∨ e = .ret) ∧ ∃ l, resOf D tab T' Hp' rs = some l ∧ S (retOf l) Hp'
theorem endX_some {rs : List ResultVar} {e : Exit} {T' : List (SV C)} {Hp' : List (HS C)} (h : endX D tab rs R dst all rest k T e T' Hp') :
  endSome D tab rs (fun ret Hp' => R (.ops all rest :: k) (setO T dst ret) Hp') e T' Hp' := by
 have key : endX.endR R dst all rest k T (resOf D tab T' Hp' rs) Hp' → ∃ l, resOf D tab T' Hp' rs = some l ∧ R (.ops all rest :: k) (setO T dst (retOf l)) Hp' := by
  intro h
  unfold endX.endR at h
  split at h
  ·rename_i l hl; rw [setOK_eq] at h; exact ⟨l, hl, h⟩
  ·exact h.elim
 cases e with
 | normal => exact ⟨.inl rfl, key h⟩
 | ret => exact ⟨.inr rfl, key h⟩
 | _ => exact h.elim

/-- a call's outcomes out of its body's walk -/
theorem callS_of_gx (A : Aux C D) (hT : TabOK P D tab) {L : Recs C} {fn : Func} {c : Code} (hf : P.funcs[f]? = some fn) (hb : fn.body = some c) (henter : ∀ args w, (callFunc f args).run P w = .ok (.enter f args) w) (n : Nat)
  {S : SV C → List (HS C) → Prop} {Φ : Post C} (hΦ : ∀ e T' Hp', Φ e T' Hp' → endSome D tab fn.results.toList S e T' Hp')
  (h : gx P A tab ⟨none, L, hlen Hp⟩ Φ n [.code c] (args ++ anys (fn.ntmps - args.length)) Hp) : CallS P D L f args Hp S := by
 refine ⟨.inl ⟨henter, fun B σ df a w E hBL hR vs hd => ?_⟩⟩
 refine callsIn_of_wp_marks hf hb trivial ?_ rfl
 have hm := fresh_of_sat hR.sat
 have hR0 := enter_rel (n := fn.ntmps) (m := hlen Hp) (hm := hm) hR.sat hd
 have hX : CtxOK D (⟨none, L, hlen Hp⟩ : Ctx C) (Base.here w E (hlen Hp) hm) none := ⟨rfl, hBL.mono hR.fr.late, trivial⟩
 have := gx_sound (r := none) (Q := bodyPostM (Fc none) 0 P fn fun e w' => ∃ v E' ret Hp', e = .returned v ∧ Den D w' E' ret v ∧ Rel D B E' σ (getC Hp') df a w' ∧ S ret Hp') A hT hX
  (fun e a' w' T Hp' hΦ' hRL => ?_) n _ _ _ h _ _ hR0
 ·exact this
 ·obtain ⟨he, l, h1, h2⟩ := hΦ _ _ _ hΦ'
  obtain ⟨df', E1, hR1, _⟩ := hRL
  have key : LeavesInM (Fc none) 0 P fn a'.tmps (fun e w' => ∃ v E' ret Hp', e = .returned v ∧ Den D w' E' ret v ∧ Rel D B E' σ (getC Hp') df a w' ∧ S ret Hp') a'.defers .returning w' := by
   refine leaves_rel hR1 fun w2 E2 hR2 => ?_
   obtain ⟨v, h4, h5⟩ := results_run (P := P) (fn := fn) hT hR2 h1
   exact ⟨v, h4, v, E2, _, _, rfl, h5, hR.later hR2.fr.late hR2.sat (hR.fr.trans hR2.fr), h2⟩
  rcases he with rfl | rfl
  ·exact key
  ·exact key

/-- A call, walked in place. -/
theorem call_in (A : Aux C D) (hT : TabOK P D tab) {fn : Func} {c : Code} (hf : P.funcs[f]? = some fn) (hb : fn.body = some c) (henter : ∀ args w, (callFunc f args).run P w = .ok (.enter f args) w) (n : Nat)
  (h : forceV (args ++ anys (fn.ntmps - args.length)) fun T0 => hlenK Hp 0 fun m => gx P A tab ⟨none, X.L, m⟩ (endX D tab fn.results.toList R dst all rest k T) n [.code c] T0 Hp) : CallX P D X R f args dst all rest k T Hp := by
 rw [forceV_eq, hlenK_eq, Nat.add_zero] at h
 exact CallX.of _ (callS_of_gx A hT hf hb henter n (fun e T' Hp' => endX_some) h) fun ret Hp' hS => hS

/-- A call by its contract. -/
theorem callX_of_at {ret : SV C} {ws : List (Nat × HS C)} (hc : CallAt P D f args (getC Hp) ret ws) (h : setOK T dst ret fun T' => setCsK Hp ws fun Hp' => R (.ops all rest :: k) T' Hp') : CallX P D X R f args dst all rest k T Hp := by
 rw [setOK_eq, setCsK_eq] at h
 refine CallX.of (fun ret' Hp' => ret' = ret ∧ Hp' = setCs Hp ws) ⟨?_⟩ ?_
 ·rcases hc.run with ⟨hc1, hc2⟩ | hx
  ·refine .inl ⟨hc1, fun B σ df a w E _ hR vs hd => (hc2 B σ df a w E hR vs hd).mono ?_⟩
   rintro e w' ⟨v, E', rfl, hv, hR'⟩
   exact ⟨v, E', ret, setCs Hp ws, rfl, hv, by rw [getC_setCs]; exact hR', rfl, rfl⟩
  ·refine .inr fun B σ df a w E hR vs hd => ?_
   obtain ⟨v, w', E', h1, hv, hR'⟩ := hx B σ df a w E hR vs hd
   exact ⟨v, w', E', ret, setCs Hp ws, h1, hv, by rw [getC_setCs]; exact hR', rfl, rfl⟩
 ·rintro ret' Hp' ⟨rfl, rfl⟩; exact h
theorem callx_pure {ret : SV C} (hM : Meets P D f args [] ret []) (hargs : renL [] args = some args) (hret : renS [] ret = some ret) (h : setOK T dst ret fun T' => R (.ops all rest :: k) T' Hp) : CallX P D X R f args dst all rest k T Hp :=
 callX_of_at (callAt_pure hM hargs hret Hp) h
theorem callx_heap {args0 : List (SV C)} {H0 H0' H1 H1' : List (HS C)} {ret0 ret : SV C} (ρ : List (Option Nat)) (hM : Meets P D f args0 H0 ret0 H1)
  (hargs : renL ρ args0 = some args) (hH0 : renHs ρ H0 = some H0') (hat : heapAt (getC Hp) ρ H0') (θ : List (Option Nat)) (hθ : θ = ρ ++ newIds (H1.length - H0.length) (hlen Hp)) (hnd : ndO θ = true) (hle : H0.length ≤ H1.length)
  (hH1 : renHs θ H1 = some H1') (hret : renS θ ret0 = some ret) (h : setOK T dst ret fun T' => setCsK Hp (zipW θ H1') fun Hp' => R (.ops all rest :: k) T' Hp') : CallX P D X R f args dst all rest k T Hp :=
 callX_of_at (callAt_of_meets hM ρ hargs hH0 hat θ hθ hnd hle hH1 hret) h

/-! ### Ranges over functions -/
/-- what the iterator's walk does at its end -/
def endRange (R : Kont C) (cl : Nat) (k : List (It C)) (T : List (SV C)) : Post C := fun e _ Hp' =>
 match e with
 | .normal => endR Hp' (getC Hp' cl)
 | .ret => endR Hp' (getC Hp' cl)
 | _ => False
where endR (Hp' : List (HS C)) (h : HS C) : Prop := match h with
 | .obj (.loop r) => match r.state with
  | .busy => False
  | _ => setCK Hp' cl (.obj (.loop { r with state := .exhausted })) fun Hp'' => afterRange R k T Hp'' r.pending
 | _ => False
def rangeOut (cl : Nat) (S : Option Code → List (HS C) → Prop) : Post C := fun e _ Hp' =>
 (e = .normal ∨ e = .ret) ∧ ∃ r, getC Hp' cl = .obj (.loop r) ∧ r.state ≠ .busy ∧ S r.pending (setC Hp' cl (.obj (.loop { r with state := .exhausted })))
theorem endRange_out {cl : Nat} {e : Exit} {T' : List (SV C)} {Hp' : List (HS C)} (h : endRange R cl k T e T' Hp') : rangeOut cl (fun j Hp' => afterRange R k T Hp' j) e T' Hp' := by
 have key : endRange.endR R cl k T Hp' (getC Hp' cl) → ∃ r, getC Hp' cl = .obj (.loop r) ∧ r.state ≠ .busy ∧ afterRange R k T (setC Hp' cl (.obj (.loop { r with state := .exhausted }))) r.pending := by
  intro h
  unfold endRange.endR at h
  split at h
  ·rename_i r hr
   split at h
   ·exact h.elim
   ·rename_i hst; rw [setCK_eq] at h; exact ⟨r, hr, hst, h⟩
  ·exact h.elim
 cases e with
 | normal => exact ⟨.inl rfl, key h⟩
 | ret => exact ⟨.inr rfl, key h⟩
 | _ => exact h.elim

theorem denA_cons {x : SV C} {l : List (SV C)} {v : Value} {vs : List Value} (h1 : Den D w E x v) (h2 : DenA D w E l vs) : DenA D w E (x :: l) (v :: vs) := by
 simp only [DenA]; exact ⟨v, vs, rfl, h1, h2⟩

theorem denA_mono {w' : World} {E' : Env} (hL : Later w E w' E') {l : List (SV C)} {vs : List Value} (h : DenA D w E l vs) : DenA D w' E' l vs := DenA.mono hL _ _ h

/-- A range over a function, walked in place. -/
theorem rangeS_of_gx (A : Aux C D) (hT : TabOK P D tab) {fn : Func} {c : Code} {first captured : List (SV C)} {g : Operand} {ps : Array Tmp} {assign body : Code} (hg : evT T g = .fn (.func f) first captured)
  (hf : P.funcs[f]? = some fn) (hb : fn.body = some c) (henter : ∀ args w, (callFunc f args).run P w = .ok (.enter f args) w) (hres : fn.results = #[]) (n : Nat) {S : Option Code → List (HS C) → Prop} {Φ : (RI C) → Post C}
  (hΦ : ∀ ri e T' Hp', Φ ri e T' Hp' → rangeOut (hlen Hp) S e T' Hp')
  (hlive : ∀ c, X.ar = some c → ∃ r, getC Hp c = .obj (.loop r))
  (h : ∀ (gn : FuncId) (tmps : Array Value) (bd : Nat), gx P A tab ⟨none, (hlen Hp, ⟨gn, tmps, bd, ps, assign, body, T⟩) :: X.L, hlen Hp + 1⟩ (Φ ⟨gn, tmps, bd, ps, assign, body, T⟩) n [.code c]
   ((first ++ (.yieldv (hlen Hp) :: captured)) ++ anys (fn.ntmps - (first ++ (.yieldv (hlen Hp) :: captured)).length)) (Hp ++ [.obj (.loop (mkLoop ⟨gn, tmps, bd, ps, assign, body, T⟩ .ready none))])) :
  RangeS P D X g ps assign body T Hp S := by
 intro r B a w Q hX hRX hQ
 obtain ⟨df, E, hR, hsz⟩ := hRX
 -- the function value
 have hgd := ev_den hR g
 rw [← evT_eq, hg] at hgd
 simp only [Den] at hgd
 obtain ⟨xs, ys, hgv, hd1, hd2⟩ := hgd
 refine wpIn_rangeFunc ?_
 intro gn hgn
 -- the record is laid: at an outermost loop behind a block for deferred calls
 obtain ⟨w1, E1, bd, mark, l, hent, hE1, hl, hL1, hmk, hfr⟩ : ∃ (w1 : World) (E1 : Env) (bd : Nat) (mark : List Deferred) (l : Nat),
   (Instr.enterLoop gn a.tmps ps assign body (Fc r).round).run P w = .ok (l, mark) w1 ∧ E1 = { F := E1.F, β := (E.up (hlen Hp) (.loc l)).β } ∧ w1.heap[l]? = some (.loop (mkLoop ⟨gn, a.tmps, bd, ps, assign, body, T⟩ .ready none)) ∧
   Later w E w1 E1 ∧ (∃ df1, mark ++ df = df1 ∧ Marks B E1 w1 df1) ∧ Sat D w1 E1 (getC (Hp ++ [.obj (.loop (mkLoop ⟨gn, a.tmps, bd, ps, assign, body, T⟩ .ready none))])) ∧ Fr B E1 w1 := by
  have hfresh : getC Hp (hlen Hp) = .fresh := getC_len Hp
  have happ : ∀ h : HS C, getC (Hp ++ [h]) = upH (getC Hp) (hlen Hp) h := by
   intro h; funext i
   have : ∀ (l : List (HS C)) (i : Nat), getC (l ++ [h]) i = if i = hlen l then h else getC l i := by
    intro l
    induction l with
    | nil => intro i; cases i <;> simp [getC, hlen]
    | cons x l ih => intro i; cases i with
     | zero => simp [getC, hlen]
     | succ i => simp [getC, hlen, ih i]
   rw [this]; rfl
  cases hr : r with
  | none =>
   have e1 := run_enterLoop_outer (P := P) (w := w) gn a.tmps ps assign body
   -- the block of the mark is persistent
   have hwF : ∀ b, E.F b → b ≠ w.heap.size := fun b hb e => by have := hR.sat.F b hb; omega
   have hL0 : Later w E (w.alloc (.deferred (some []))) { E with F := fun k => E.F k ∨ k = w.heap.size } :=
    ⟨fun b hb => ⟨.inl hb, Below.heap_alloc w _ b (hR.sat.F b hb)⟩, fun c => .inl rfl, fun c b _ _ cs T hcs => ⟨cs, T, Row.of (Below.heap_alloc w _ b hcs.lt) hcs, rfl⟩⟩
   have hR0 : Rel D B { E with F := fun k => E.F k ∨ k = w.heap.size } (getT T) (getC Hp) df a (w.alloc (.deferred (some []))) := by
    refine hR.later hL0 ⟨fun c => ?_, fun c b e => ?_, hR.sat.inj, fun b hb => ?_, hR.sat.glob.mono hL0.F⟩ ?_
    ·exact HS.ok_mono hL0 (hR.sat.ok c) fun b e => Below.heap_alloc w _ b (hR.sat.own c b e).1
    ·have := hR.sat.own c b e
     exact ⟨by simp; omega, fun h => h.elim this.2 (fun e => by omega)⟩
    ·rcases hb with hb | rfl
     ·have := hR.sat.F b hb; simp; omega
     ·simp
    ·refine ⟨hR.fr.os, hR.fr.tape, hR.fr.output, by have := hR.fr.size; simp; omega, fun b hb ho => (Below.heap_alloc w _ b (Nat.lt_of_lt_of_le hb hR.fr.size)).trans (hR.fr.same b hb ho), hR.fr.late.trans hL0, ?_, hR.fr.newO⟩
     rintro b (hb | rfl)
     ·exact hR.fr.newF b hb
     ·exact .inr (.inr hR.fr.size)
   have hR1 := hR0.allocO (c := hlen Hp) hfresh (.loop (mkLoop ⟨gn, a.tmps, w.heap.size, ps, assign, body, T⟩ .ready none)) (hs := .obj (.loop (mkLoop ⟨gn, a.tmps, w.heap.size, ps, assign, body, T⟩ .ready none)))
    ⟨World.alloc_heap_new _ _, by simp⟩
   have hβ : E.β (hlen Hp) = .fresh := fresh_β hR.sat hfresh
   have hL2 := later_alloc (w := w.alloc (.deferred (some []))) (E := { E with F := fun k => E.F k ∨ k = w.heap.size }) (c := hlen Hp) hβ (.loop (mkLoop ⟨gn, a.tmps, w.heap.size, ps, assign, body, T⟩ .ready none)) hR0.sat.F
   refine ⟨_, _, w.heap.size, _, _, e1, ?_, ?_, hL0.trans hL2, ⟨_, rfl, ?_⟩, ?_, hR1.fr⟩
   ·simp only [World.size_alloc]; rfl
   ·have := World.alloc_heap_new (w.alloc (.deferred (some []))) (.loop (mkLoop ⟨gn, a.tmps, w.heap.size, ps, assign, body, T⟩ .ready none)); rwa [World.size_alloc] at this
   ·obtain ⟨bs, hb1, hb2, hb3⟩ := hR1.marks
    refine ⟨w.heap.size :: bs, by simp [hb1], List.nodup_cons.2 ⟨fun hmem => ?_, hb2⟩, fun b hb => ?_⟩
    ·obtain ⟨bs', hb1', _, hb3'⟩ := hR.marks
     have inj : ∀ l m : List Nat, l.map (fun b => (⟨.collected b, #[]⟩ : Deferred)) = m.map (fun b => ⟨.collected b, #[]⟩) → l = m := by
      intro l
      induction l with
      | nil => intro m h; cases m with
       | nil => rfl
       | cons x m => simp at h
      | cons x l ih => intro m h; cases m with
       | nil => simp at h
       | cons y m => simp at h; rw [h.1, ih m (by simpa using h.2)]
     have : bs = bs' := inj _ _ (hb1.symm.trans hb1')
     subst this
     have := hR.sat.F _ (hb3' _ hmem).1
     omega
    ·rcases List.mem_cons.1 hb with rfl | hb
     ·refine ⟨.inr rfl, (Below.heap_alloc _ _ _ (by simp)).trans (World.alloc_heap_new w _), hR.fr.size, fun hF => ?_⟩
      have := (hR.fr.late.F _ hF).1
      have := hR.sat.F _ this
      omega
     ·exact hb3 b hb
   ·rw [happ]; exact hR1.sat
  | some l0 =>
   -- a range within a round
   have har := hX.ar
   unfold ArOK at har
   rw [hr] at har
   cases hc0 : X.ar with
   | none => rw [hc0] at har; exact har.elim
   | some c0 =>
    rw [hc0] at har
    simp only at har
    obtain ⟨r0, hr0⟩ := hlive c0 hc0
    have hb0 : E.β c0 = .loc l0 := by
     have hok := hR.sat.ok c0
     rcases hR.fr.late.β c0 with e | e | e
     ·rw [e]; exact har
     ·rw [e, hr0] at hok; cases hok
     ·rw [har] at e; cases e
    have hok := hR.sat.ok c0
    rw [hb0, hr0] at hok
    have e1 := run_enterLoop_inner (P := P) hok.1 gn a.tmps ps assign body
    have hR1 := hR.allocO (c := hlen Hp) hfresh (.loop (mkLoop ⟨gn, a.tmps, r0.defers, ps, assign, body, T⟩ .ready none)) (hs := .obj (.loop (mkLoop ⟨gn, a.tmps, r0.defers, ps, assign, body, T⟩ .ready none)))
     ⟨World.alloc_heap_new _ _, by simp⟩
    have hβ : E.β (hlen Hp) = .fresh := fresh_β hR.sat hfresh
    have hL2 := later_alloc (w := w) (E := E) (c := hlen Hp) hβ (.loop (mkLoop ⟨gn, a.tmps, r0.defers, ps, assign, body, T⟩ .ready none)) hR.sat.F
    refine ⟨_, _, r0.defers, _, _, e1, rfl, World.alloc_heap_new _ _, hL2, ⟨_, rfl, hR1.marks⟩, ?_, hR1.fr⟩
    rw [happ]; exact hR1.sat
 obtain ⟨⟨df1, hdf1, hmk⟩, hfr⟩ := And.intro hmk hfr
 have hlb : E1.β (hlen Hp) = .loc l := by rw [hE1]; exact Env.up_same E _ _
 refine ⟨l, mark, w1, { target := .fn (.func f) ys, args := xs ++ #[.func (.yield l) #[] #[]] }, w1, f, (xs ++ #[.func (.yield l) #[] #[]]) ++ ys, w1, hent, ?_, ?_, ?_, ?_, ?_⟩
 ·simp only [resolve, hgv]
  simp [Act.eval, Deferred.ofValue, Sem.run_pure, go_sem]
 ·intro f' _; exact trivial
 ·simp [invoke, go_sem, henter]
 ·intro h; simp [Fc] at h
 ·have hR1 : Rel D B E1 (getT T) (getC (Hp ++ [.obj (.loop (mkLoop ⟨gn, a.tmps, bd, ps, assign, body, T⟩ .ready none))])) df1 { a with defers := mark ++ a.defers } w1 :=
   ⟨fun i => Den.mono hL1 _ _ (hR.den i), hfr.1, hfr.2, by rw [hR.defers]; exact hdf1, hmk⟩
  have hlen1 : hlen (Hp ++ [.obj (.loop (mkLoop ⟨gn, a.tmps, bd, ps, assign, body, T⟩ .ready none))]) = hlen Hp + 1 := by
   rw [hlen_eq, hlen_eq]; simp
  have hm : ∀ c, hlen Hp + 1 ≤ c → E1.β c = .fresh := by
   have := fresh_of_sat hR1.sat
   rw [hlen1] at this
   exact this
  have hd : DenA D w1 E1 (first ++ (.yieldv (hlen Hp) :: captured)) (xs.toList ++ (.func (.yield l) #[] #[] :: ys.toList)) :=
   denA_append _ _ _ _ (denA_mono hL1 hd1) (denA_cons (by simp only [Den, hlb]) (denA_mono hL1 hd2))
  have hvs : (xs ++ #[.func (.yield l) #[] #[]]) ++ ys = (xs.toList ++ (.func (.yield l) #[] #[] :: ys.toList)).toArray := by
   apply Array.ext'; simp
  rw [hvs]
  have hR0 := enter_rel (n := fn.ntmps) (m := hlen Hp + 1) (hm := hm) hR1.sat hd
  have hX1 : CtxOK D (⟨none, (hlen Hp, ⟨gn, a.tmps, bd, ps, assign, body, T⟩) :: X.L, hlen Hp + 1⟩ : Ctx C) (Base.here w1 E1 (hlen Hp + 1) hm) none := by
   refine ⟨rfl, fun c ri hc => ?_, trivial⟩
   simp only [lkR] at hc
   split at hc
   ·injection hc with hc; subst hc
    exact ⟨hsz, fun i => hR1.den i⟩
   ·exact (hX.L.mono (hR.fr.late.trans hL1)) c ri hc
  refine callsIn_of_wp_marks (F := Fc none) hf hb trivial ?_ rfl
  have := gx_sound (r := none) (Q := bodyPostM (Fc none) 0 P fn (rangePost (Fc r) 0 P l Q { a with defers := mark ++ a.defers })) A hT hX1
   (fun e a' w' T' Hp' hΦ' hRL => ?_) n _ _ _ (h gn a.tmps bd) _ _ hR0
  ·exact this
  ·obtain ⟨he, rr, hrr, hst, hS⟩ := hΦ _ _ _ _ hΦ'
   obtain ⟨df', E2, hR2, _⟩ := hRL
   have key : LeavesInM (Fc none) 0 P fn a'.tmps (rangePost (Fc r) 0 P l Q { a with defers := mark ++ a.defers }) a'.defers .returning w' := by
    refine leaves_rel hR2 fun w3 E3 hR3 => ?_
    -- no result is asked of it
    have hrun : ∃ v, (results fn a'.tmps).run P w3 = .ok v w3 := by
     refine ⟨.tuple #[], ?_⟩
     unfold results
     simp [hres]
    obtain ⟨v, hv⟩ := hrun
    have hl3 : E3.β (hlen Hp) = .loc l := by
     have hok := hR3.sat.ok (hlen Hp)
     rcases hR3.fr.late.β (hlen Hp) with e | e | e
     ·exact e.trans hlb
     ·rw [e, hrr] at hok; cases hok
     ·have e' : E1.β (hlen Hp) = .fresh := e
      rw [hlb] at e'; cases e'
    have hok := hR3.sat.ok (hlen Hp)
    rw [hl3, hrr] at hok
    obtain ⟨h1, h2⟩ := hR3.putO hl3 hrr (o' := .loop { rr with state := .exhausted }) (by simp)
    refine ⟨v, hv, rr.pending, _, run_endLoop hok.1 hst, ?_⟩
    have hLall : Later w1 E1 (w3.putObj l (.loop { rr with state := .exhausted })) E3 := h1.fr.late
    have hRfin : RelX D B T (setC Hp' (hlen Hp) (.obj (.loop { rr with state := .exhausted }))) { a with defers := mark ++ a.defers } (w3.putObj l (.loop { rr with state := .exhausted })) := by
     refine ⟨df1, E3, ?_, hsz⟩
     rw [getC_setC']
     exact hR1.later hLall h1.sat (hR1.fr.trans h1.fr)
    have := hQ rr.pending _ _ _ hS hRfin
    cases hp : rr.pending with
    | none => rw [hp] at this; exact this
    | some c => rw [hp] at this; exact this
   rcases he with rfl | rfl
   ·exact key
   ·exact key
def liveX (X : Ctx C) (Hp : List (HS C)) : Bool := match X.ar with
 | none => true
 | some c => match getC Hp c with
  | .obj (.loop _) => true
  | _ => false
theorem liveX_ok (h : liveX X Hp = true) : ∀ c, X.ar = some c → ∃ r, getC Hp c = .obj (.loop r) := by
 intro c hc
 unfold liveX at h
 rw [hc] at h
 simp only at h
 split at h
 ·rename_i r hr; exact ⟨r, hr⟩
 ·cases h
theorem range_in (A : Aux C D) (hT : TabOK P D tab) {fn : Func} {c : Code} {g : Operand} {first captured : List (SV C)} {ps : Array Tmp} {assign body : Code} (hg : evT T g = .fn (.func f) first captured)
  (hf : P.funcs[f]? = some fn) (hb : fn.body = some c) (henter : ∀ args w, (callFunc f args).run P w = .ok (.enter f args) w) (hres : fn.results = #[]) (hlive : liveX X Hp = true) (n : Nat)
  (h : ∀ (gn : FuncId) (tmps : Array Value) (bd : Nat), hlenK Hp 0 fun cl => forceV ((first ++ (.yieldv cl :: captured)) ++ anys (fn.ntmps - (first ++ (.yieldv cl :: captured)).length)) fun T0 =>
   forceL (Hp ++ [.obj (.loop (mkLoop ⟨gn, tmps, bd, ps, assign, body, T⟩ .ready none))]) fun Hp0 =>
   gx P A tab ⟨none, (cl, ⟨gn, tmps, bd, ps, assign, body, T⟩) :: X.L, cl + 1⟩ (endRange R cl k T) n [.code c] T0 Hp0) :
  RangeX P D X R g (.fn (.func f) first captured) ps assign body k T Hp := by
 refine ⟨_, rangeS_of_gx A hT hg hf hb henter hres n (fun ri e T' Hp' => endRange_out) (liveX_ok hlive) ?_, fun j Hp' hS => hS⟩
 intro gn tmps bd
 have := h gn tmps bd
 rw [hlenK_eq, Nat.add_zero, forceV_eq, forceL_eq] at this
 exact this

/-! ### Rounds -/
/-- the round's end: what yield gives back -/
def endRound (R : Kont C) (c : Nat) (dst : Option Nat) (all rest : List Oper) (k : List (It C)) (T : List (SV C)) : Post C := fun e _ Hp' => at_ e Hp' (getC Hp' c)
where at_ (e : Exit) (Hp' : List (HS C)) (h : HS C) : Prop := match h with
 | .obj (.loop r) => match e with
  | .normal => setCK Hp' c (.obj (.loop { r with state := .ready, pending := none })) fun Hp'' => setOK T dst (.p (.bool true)) fun T' => R (.ops all rest :: k) T' Hp''
  | .ret => setCK Hp' c (.obj (.loop { r with state := .done, pending := some .ret })) fun Hp'' => setOK T dst (.p (.bool false)) fun T' => R (.ops all rest :: k) T' Hp''
  | .exit id => setCK Hp' c (.obj (.loop { r with state := .done, pending := some (.exit id) })) fun Hp'' => setOK T dst (.p (.bool false)) fun T' => R (.ops all rest :: k) T' Hp''
  | _ => False
 | _ => False
def setPs : List (SV C) → List Tmp → List (SV C) → List (SV C)
 | T, p :: ps, v :: vs => setPs (setT T p v) ps vs
 | T, _, _ => T
def sameLen {α β : Type} : List α → List β → Bool
 | [], [] => true
 | _ :: l, _ :: m => sameLen l m
 | _, _ => false
theorem sameLen_ok {α β : Type} : ∀ {l : List α} {m : List β}, sameLen l m = true → l.length = m.length
 | [], [], _ => rfl
 | _ :: l, _ :: m, h => by simp [sameLen_ok (l := l) (m := m) h]
 | [], _ :: _, h => by simp [sameLen] at h
 | _ :: _, [], h => by simp [sameLen] at h

theorem setPs_den : ∀ (ps : List Tmp) (args : List (SV C)) (vs : List Value) (T : List (SV C)) (tm : Array Value), ps.length = args.length → DenA D w E args vs → tm.size = T.length → (∀ i, Den D w E (getT T i) (tm.getD i undef)) →
  ((ps.zip vs).foldl (fun t (p, v) => t.setIfInBounds p v) tm).size = (setPs T ps args).length ∧ ∀ i, Den D w E (getT (setPs T ps args) i) (((ps.zip vs).foldl (fun t (p, v) => t.setIfInBounds p v) tm).getD i undef)
 | [], [], vs, T, tm, _, _, hz, h => by simp only [setPs, List.zip_nil_left, List.foldl_nil]; exact ⟨hz, h⟩
 | p :: ps, x :: args, vs, T, tm, hl, hd, hz, h => by
  simp only [DenA] at hd
  obtain ⟨v, vs', rfl, h1, h2⟩ := hd
  simp only [setPs, List.zip_cons_cons, List.foldl_cons]
  refine setPs_den ps args vs' (setT T p x) (tm.setIfInBounds p v) (by simpa using hl) h2 (by simp [length_setT, hz]) fun i => ?_
  rw [getT_setT]
  by_cases hi : i = p
  ·subst hi
   by_cases hlt : i < T.length
   ·rw [if_pos ⟨rfl, hlt⟩]
    have : (tm.setIfInBounds i v).getD i undef = v := by
     rw [Array.getD_eq_getD_getElem?, Array.getElem?_setIfInBounds_self_of_lt (by omega)]; rfl
    rw [this]; exact h1
   ·rw [if_neg (fun hh => hlt hh.2)]
    have : (tm.setIfInBounds i v).getD i undef = tm.getD i undef := by
     rw [Array.getD_eq_getD_getElem?, Array.getD_eq_getD_getElem?]
     congr 1
     rw [Array.getElem?_eq_none (by simp; omega), Array.getElem?_eq_none (by omega)]
    rw [this]; exact h i
  ·rw [if_neg (fun hh => hi hh.1)]
   have : (tm.setIfInBounds p v).getD i undef = tm.getD i undef := by
    rw [Array.getD_eq_getD_getElem?, Array.getD_eq_getD_getElem?, Array.getElem?_setIfInBounds_ne (Ne.symm hi)]
   rw [this]; exact h i

/-- the round begins: behind the assignments to the loop's variables -/
def beginRound (c : Nat) (K : Kont C) (body : Code) : Post C := fun e T1 Hp1 => match e with
 | .normal => at_ T1 Hp1 (getC Hp1 c)
 | _ => False
where at_ (T1 : List (SV C)) (Hp1 : List (HS C)) (h : HS C) : Prop := match h with
 | .obj (.loop r) => match r.state with
  | .ready => setCK Hp1 c (.obj (.loop { r with state := .busy })) fun Hp2 => K [.code body] T1 Hp2
  | _ => False
 | _ => False
theorem yieldS_of_gx (A : Aux C D) (hT : TabOK P D tab) {c : Nat} {ri : RI C} (hri : lkR X.L c = some ri) (hc : getC Hp c = .obj (.loop (mkLoop ri .ready none))) (hlen' : sameLen ri.ps.toList args = true) (n n' : Nat)
  (h : gx P A tab ⟨some c, X.L, hlen Hp⟩ (beginRound c (gx P A tab ⟨some c, X.L, hlen Hp⟩ (endRound R c dst all rest k T) n') ri.body) n [.code ri.assign] (setPs ri.T ri.ps.toList args) Hp) :
  YieldS P D X.L c args Hp (fun q Hp' => R (.ops all rest :: k) (setO T dst (.p (.bool q))) Hp') := by
 intro r B σ df a w E hBL hR
 -- where the record lies
 have hok := hR.sat.ok c
 have hb : ∃ b, E.β c = .loc b := by
  rw [hc] at hok
  cases hb : E.β c with
  | fresh => rw [hb] at hok; simp [HS.ok] at hok
  | dead => rw [hb] at hok; simp [HS.ok] at hok
  | virt => rw [hb] at hok; simp [HS.ok] at hok
  | loc b => exact ⟨b, rfl⟩
 obtain ⟨b, hb⟩ := hb
 rw [hb, hc] at hok
 refine ⟨b, hb, fun vs hd => ?_⟩
 have hl1 := sameLen_ok hlen'
 have hl2 := denA_length _ _ hd
 have hy := run_yield (P := P) (args := vs.toArray) hok.1 (by simp [mkLoop]; rw [← hl2, ← hl1]; simp)
 refine ⟨_, _, _, _, hy, ?_⟩
 have hm := fresh_of_sat hR.sat
 have hrec := (hBL.mono hR.fr.late) c ri hri
 obtain ⟨hz, hden⟩ := setPs_den (D := D) (w := w) (E := E) ri.ps.toList args vs ri.T ri.tmps hl1 hd hrec.1 hrec.2
 have htm : (ri.ps.zip vs.toArray).foldl (fun tmps (t, a) => tmps.setIfInBounds t a) ri.tmps = (ri.ps.toList.zip vs).foldl (fun t (p, v) => t.setIfInBounds p v) ri.tmps := by
  rw [← Array.foldl_toList]
  simp
 have hR0 : RelX D (Base.here w E (hlen Hp) hm) (setPs ri.T ri.ps.toList args) Hp { tmps := (ri.ps.toList.zip vs).foldl (fun t (p, v) => t.setIfInBounds p v) ri.tmps, defers := [] } w :=
  ⟨[], E, ⟨hden, hR.sat, Fr.here, rfl, Marks.nil⟩, hz⟩
 have hX1 : CtxOK D (⟨some c, X.L, hlen Hp⟩ : Ctx C) (Base.here w E (hlen Hp) hm) (some b) := ⟨rfl, hBL.mono hR.fr.late, hb⟩
 have hb1 : ∀ {T' Hp' a' w' E1 df'} {rr : Loop}, Rel D (Base.here w E (hlen Hp) hm) E1 T' (getC Hp') df' a' w' → getC Hp' c = .obj (.loop rr) → E1.β c = .loc b := by
  intro T' Hp' a' w' E1 df' rr hR1 hrr
  have hok := hR1.sat.ok c
  rcases hR1.fr.late.β c with e' | e' | e'
  ·exact e'.trans hb
  ·rw [e', hrr] at hok; cases hok
  ·have e'' : E.β c = .fresh := e'
   rw [hb] at e''; cases e''
 have body : ∀ T' Hp', gx P A tab ⟨some c, X.L, hlen Hp⟩ (endRound R c dst all rest k T) n' [.code ri.body] T' Hp' → ∀ a' w', RelX D (Base.here w E (hlen Hp) hm) T' Hp' a' w' →
   ri.body.wpIn (Fc (some b)) 0 P (roundPost P b fun e w' => ∃ q E' Hp', e = .returned (.bool q) ∧ Rel D B E' σ (getC Hp') df a w' ∧ R (.ops all rest :: k) (setO T dst (.p (.bool q))) Hp') a' w' := by
  intro T' Hp' h a' w' hRL
  have := gx_sound (r := some b) (Q := roundPost P b fun e w' => ∃ q E' Hp', e = .returned (.bool q) ∧ Rel D B E' σ (getC Hp') df a w' ∧ R (.ops all rest :: k) (setO T dst (.p (.bool q))) Hp') A hT hX1
   (fun e a' w' T' Hp' hΦ hRL => ?_) n' [.code ri.body] T' Hp' h a' w' hRL
  ·simp only [postX, Exit.then] at this
   exact this
  ·obtain ⟨df', E1, hR1, _⟩ := hRL
   unfold endRound endRound.at_ at hΦ
   split at hΦ
   ·rename_i rr hrr
    have hb1 := hb1 hR1 hrr
    have hok1 := hR1.sat.ok c
    rw [hb1, hrr] at hok1
    have fin : ∀ (jump : Option Code) , R (.ops all rest :: k) (setO T dst (.p (.bool jump.isNone))) (setC Hp' c (.obj (.loop { rr with state := if jump.isNone then .ready else .done, pending := jump }))) →
      ∃ v w'', (Instr.endRound b jump).run P w' = .ok v w'' ∧ ∃ q E' Hp', (Ending.returned v) = .returned (.bool q) ∧ Rel D B E' σ (getC Hp') df a w'' ∧ R (.ops all rest :: k) (setO T dst (.p (.bool q))) Hp' := by
     intro jump hRj
     obtain ⟨h1, h2⟩ := hR1.putO hb1 hrr (o' := .loop { rr with state := if jump.isNone then .ready else .done, pending := jump }) (by simp)
     refine ⟨_, _, run_endRound jump hok1.1, _, E1, _, rfl, ?_, hRj⟩
     rw [getC_setC']
     exact hR.later h1.fr.late h1.sat (hR.fr.trans h1.fr)
    split at hΦ
    ·rw [setCK_eq, setOK_eq] at hΦ; exact fin none hΦ
    ·rw [setCK_eq, setOK_eq] at hΦ; exact fin (some .ret) hΦ
    ·rw [setCK_eq, setOK_eq] at hΦ; exact fin (some (.exit _)) hΦ
    ·exact hΦ.elim
   ·exact hΦ.elim
 have := gx_sound (r := some b) (Q := Exit.then (fun a₁ w₁ => ∃ w₂, (Instr.beginRound b).run P w₁ = .ok () w₂ ∧ ri.body.wpIn (Fc (some b)) 0 P (roundPost P b fun e w' => ∃ q E' Hp', e = .returned (.bool q) ∧ Rel D B E' σ (getC Hp') df a w' ∧ R (.ops all rest :: k) (setO T dst (.p (.bool q))) Hp') a₁ w₂) (fun _ _ _ => False)) A hT hX1
  (fun e a' w' T' Hp' hΦ hRL => ?_) n _ _ _ h _ _ hR0
 ·refine roundIn_of_wpIn trivial ?_
  simp only [mkLoop]
  rw [htm]
  exact this
 ·obtain ⟨df', E1, hR1, hz1⟩ := hRL
  unfold beginRound beginRound.at_ at hΦ
  split at hΦ
  ·split at hΦ
   ·rename_i rr hrr
    split at hΦ
    ·rename_i hst
     rw [setCK_eq] at hΦ
     have hbb := hb1 hR1 hrr
     have hok1 := hR1.sat.ok c
     rw [hbb, hrr] at hok1
     obtain ⟨h1, h2⟩ := hR1.putO hbb hrr (o' := .loop { rr with state := .busy }) (by simp)
     refine ⟨_, run_beginRound hok1.1 hst, ?_⟩
     exact body _ _ hΦ a' _ ⟨df', E1, by rw [getC_setC']; exact h1, hz1⟩
    ·exact hΦ.elim
   ·exact hΦ.elim
  ·exact hΦ.elim
end
end Go.SX

/-
 SX, part V4: loops, splits, ends for the strict generator.
-/
namespace Go.SX
open Go.RowKit
variable {C : Cod}

/-- which slots a piece of code writes, as bits -/
def maskO : List Oper → Nat → Nat
 | [], m => m
 | ⟨some d, _, _, _, _, _⟩ :: l, m => maskO l (Nat.lor m (Nat.shiftLeft 1 d))
 | ⟨none, _, _, _, _, _⟩ :: l, m => maskO l m
def maskC : Code → Nat → Nat
 | .region _ ops _, m => maskO ops.toList m
 | .seq a b, m => maskC b (maskC a m)
 | .cond _ a b, m => maskC b (maskC a m)
 | .block _ b, m => maskC b m
 | .loop b, m => maskC b m
 | _, m => m
/-- the slots that are written are forgotten -/
def havocL : Nat → List (SV C) → List (SV C)
 | _, [] => []
 | m, x :: l => (match Nat.mod m 2 with | 0 => x | _ + 1 => .any) :: havocL (Nat.div m 2) l
def setMany : List (SV C) → List (Nat × SV C) → List (SV C)
 | T, [] => T
 | T, (d, v) :: l => setMany (setT T d v) l
/-- the slots at a loop's head -/
def headT (body : Code) (T : List (SV C)) (us : List (Nat × SV C)) : List (SV C) := setMany (havocL (maskC body 0) T) us
structure Back (m0 : Nat) (θ : List (Option Nat)) (T : List (SV C)) (Hp : List (HS C)) (T' : List (SV C)) (Hp' : List (HS C)) : Prop where
 T : ViewL Hp θ T T'
 H : ViewHs Hp θ θ Hp'
 id : idO m0 0 θ = true
 nd : ndO θ = true

section
variable {P : Program} {D : Codec C} {tab : Tab C} {A : Aux C D} {X : Ctx C} {R : Kont C} {Φ : Post C} {n m0 : Nat} {body : Code} {k : List (It C)} {T : List (SV C)} {Hp : List (HS C)}

structure Side (p : Prop) : Prop where
 h : p
theorem side_and {p q : Prop} (h1 : Side p) (h2 : q) : p ∧ q := ⟨h1.h, h2⟩
/-- A loop, by what holds at its head: I the slots that count, J the heap; the other slots that it writes are forgotten. -/
theorem loop_inv {γ : Type} (I : γ → List (Nat × SV C)) (J : γ → List (HS C)) (good : γ → Prop) (μ : γ → Nat) (g0 : γ) (h0 : good g0) (θ0 : List (Option Nat)) (hent : Back m0 θ0 T Hp (headT body T (I g0)) (J g0))
  (hround : ∀ g, good g → ∀ K : List (SV C) → List (HS C) → Prop, (∀ g' θ T' Hp', Side (good g') → Side (μ g' < μ g) → Back m0 θ T' Hp' (headT body T (I g')) (J g') → K T' Hp') →
   forceV (headT body T (I g)) fun T1 => forceL (J g) fun Hp1 => R (.code body :: .endLoop K :: k) T1 Hp1) : LoopX D m0 R body k T Hp := by
 refine ⟨γ, fun g => (headT body T (I g), J g), good, μ, g0, h0, sub_of θ0 hent.T ⟨hent.H, hent.id, hent.nd⟩, ?_⟩
 intro g hg K hK
 have := hround g hg K fun g' θ T' Hp' h1 h2 h3 => hK _ _ g' h1.h h2.h (sub_of θ h3.T ⟨h3.H, h3.id, h3.nd⟩)
 rw [forceV_eq, forceL_eq] at this
 exact this

theorem split_x {b : Bool} {X Y : Prop} (h1 : b = true → X) (h2 : b = false → Y) : condX b X Y := by
 cases b with
 | true => exact h1 rfl
 | false => exact h2 rfl

/-- A yield, its round walked in place. -/
theorem yield_in {args : List (SV C)} {dst : Option Nat} {all rest : List Oper} (A : Aux C D) (hT : TabOK P D tab) {c : Nat} {ri : RI C} (hri : lkR X.L c = some ri) (hc : getC Hp c = .obj (.loop (mkLoop ri .ready none))) (hlen' : sameLen ri.ps.toList args = true) (n n' : Nat)
  (h : forceV (setPs ri.T ri.ps.toList args) fun T0 => hlenK Hp 0 fun m => gx P A tab ⟨some c, X.L, m⟩ (beginRound c (gx P A tab ⟨some c, X.L, m⟩ (endRound R c dst all rest k T) n') ri.body) n [.code ri.assign] T0 Hp) :
  YieldX P D X R c args dst all rest k T Hp := by
 rw [forceV_eq, hlenK_eq, Nat.add_zero] at h
 exact ⟨_, yieldS_of_gx A hT hri hc hlen' n n' h, fun q Hp' hS => hS⟩

/-- the end of a function -/
def endV (Hp : List (HS C)) (θ : List (Option Nat)) (ret : SV C) : Option (List (SV C)) → Prop
 | some l => View Hp θ (retOf l) ret
 | none => False
/-- a function's end: its results, seen as the contract says -/
structure EndV (Hp : List (HS C)) (θ : List (Option Nat)) (ret : SV C) (l : Option (List (SV C))) : Prop where
 h : endV Hp θ ret l
theorem end_fn {rs : List ResultVar} {ret : SV C} {H1 : List (HS C)} {e : Exit} (θ : List (Option Nat)) (he : e = .normal ∨ e = .ret) (hE : EndV Hp θ ret (resOf D tab T Hp rs)) (hv : ViewHs Hp θ θ H1) (hid : idO m0 0 θ = true) (hnd : ndO θ = true) :
  (e = .normal ∨ e = .ret) ∧ ∃ θ l, resOf D tab T Hp rs = some l ∧ View Hp θ (retOf l) ret ∧ ViewOK Hp θ H1 m0 := by
 refine ⟨he, ?_⟩
 have h := hE.h
 generalize hr : resOf D tab T Hp rs = r at h
 cases r with
 | none => exact h.elim
 | some l => exact ⟨θ, l, rfl, h, ⟨hv, hid, hnd⟩⟩
end
end Go.SX

/-
 SX, part V5: regions that draw their order, strictly; side conditions behind a name.
-/
namespace Go.SX
open Go.RowKit
variable {C : Cod}

structure TraceOK (all : List Oper) (tr : List Ent) : Prop where
 h : traceB all tr.reverse = true
/-- a call in a region that draws its order -/
structure DCallX (P : Program) (D : Codec C) (next : DK C) (f : FuncId) (args : List (SV C)) (dst : Option Nat) (fs fc0 : List Nat) (tr : List Ent) (T : List (SV C)) (Hp : List (HS C)) : Prop where
 h : DCallVC P D next f args dst fs fc0 tr T Hp

def drawOutX (P : Program) (D : Codec C) (next : DK C) (o : Op) (vals : List (SV C)) (dst : Option Nat) (fs fc : List Nat) (tr : List Ent) (T : List (SV C)) (Hp : List (HS C)) : Out C → Prop
 | .stuck => StuckX o vals (hsOf Hp vals) False
 | .val v => setOK T dst v fun T' => next (⟨dst, fs, fc, []⟩ :: tr) T' Hp
 | .side p v => p ∧ setOK T dst v fun T' => next (⟨dst, fs, fc, []⟩ :: tr) T' Hp
 | .mem v ws => forceL (idsOf ws) fun ids => setOK T dst v fun T' => setCsK Hp ws fun Hp' => next (⟨dst, fs, fc, ids⟩ :: tr) T' Hp'
 | .smem p v ws => p ∧ forceL (idsOf ws) fun ids => setOK T dst v fun T' => setCsK Hp ws fun Hp' => next (⟨dst, fs, fc, ids⟩ :: tr) T' Hp'
 | .call f args => forceV args fun args => DCallX P D next f args dst fs fc tr T Hp
 | .yieldc _ _ => False
 | .may _ _ => False
 | .ask q K => AskX q fun r => setOK T dst (K r) fun T' => next (⟨dst, fs, fc, []⟩ :: tr) T' Hp
def freshX (h : HS C) (X : Prop) : Prop := match h with
 | .fresh => X
 | _ => False
def newAtK (o : Op) (big : Nat) (Hp : List (HS C)) (K : Nat → Prop) : Prop := match lays o with
 | true => hlenK Hp 0 K
 | false => K big
theorem newAtK_eq {o : Op} {big : Nat} {Hp : List (HS C)} {K : Nat → Prop} : newAtK o big Hp K = K (newAt o big Hp) := by
 unfold newAtK newAt
 cases lays o with
 | true => exact (hlenK_eq Hp 0 K)
 | false => rfl
def drawOpX (P : Program) {D : Codec C} (A : Aux C D) (tab : Tab C) (big : Nat) (next : DK C) (dst : Option Nat) (op : Op) (gs : List Nat) (tr : List Ent) (T : List (SV C)) (Hp : List (HS C)) : Prop :=
 forceV (valsOf T (opnds op)) fun vals => newAtK op big Hp fun m => freshX (getC Hp m) (forceL (gs ++ tmpsOf (opnds op)) fun fs => forceL (m :: fcOf op vals) fun fc =>
  drawOutX P D next op vals dst fs fc tr T Hp (exec A tab op vals (hsOf Hp vals) m))
def dGuardX (P : Program) {D : Codec C} (A : Aux C D) (tab : Tab C) (big : Nat) (next : DK C) (dst : Option Nat) (op : Op) (d : Nat) (want : Bool) (tr : List Ent) (T : List (SV C)) (Hp : List (HS C)) : SV C → Prop
 | .p (.bool b) => match want with
  | true => condX b (setTK T d (.p (.bool true)) fun T => drawOpX P A tab big next dst op [d] tr T Hp) (setTK T d (.p (.bool false)) fun T => setOK T dst (.tuple []) fun T' => next (⟨dst, [d], [], []⟩ :: tr) T' Hp)
  | false => condX b (setTK T d (.p (.bool true)) fun T => setOK T dst (.tuple []) fun T' => next (⟨dst, [d], [], []⟩ :: tr) T' Hp) (setTK T d (.p (.bool false)) fun T => drawOpX P A tab big next dst op [d] tr T Hp)
 | .tuple [] => setOK T dst (.tuple []) fun T' => next (⟨dst, [d], [], []⟩ :: tr) T' Hp
 | v => StuckC (.tmp d) v
def dGuardDX (P : Program) {D : Codec C} (A : Aux C D) (tab : Tab C) (big : Nat) (next : DK C) (dst : Option Nat) (op : Op) (want : Bool) (tr : List Ent) (T : List (SV C)) (Hp : List (HS C)) : Option Nat → Prop
 | none => False
 | some d => dGuardX P A tab big next dst op d want tr T Hp (getT T d)
def drawGoX (P : Program) {D : Codec C} (A : Aux C D) (tab : Tab C) (K : DK C) (all : List Oper) (big : Nat) : List Oper → DK C
 | [] => K
 | ⟨dst, op, _, _, _, none⟩ :: rest => fun tr T Hp => drawOpX P A tab big (drawGoX P A tab K all big rest) dst op [] tr T Hp
 | ⟨dst, op, _, _, _, some (j, want)⟩ :: rest => fun tr T Hp => dGuardDX P A tab big (drawGoX P A tab K all big rest) dst op want tr T Hp (gslot all j)
def drawKX (R : Kont C) (all : List Oper) (k : List (It C)) : DK C := fun tr T Hp => TraceOK all tr ∧ R k T Hp

section
variable {P : Program} {D : Codec C} {A : Aux C D} {tab : Tab C} {R : Kont C} {k : List (It C)} {T : List (SV C)} {Hp : List (HS C)}
theorem setT_same : ∀ (T : List (SV C)) (d : Nat), setT T d (getT T d) = T
 | [], d => by simp [setT]
 | x :: l, 0 => rfl
 | x :: l, d + 1 => by simp only [setT, getT, setT_same l d]
theorem drawOpX_imp {big : Nat} {next next' : DK C} (hn : ∀ tr T Hp, next' tr T Hp → next tr T Hp) {dst : Option Nat} {op : Op} {gs : List Nat} {tr : List Ent} (h : drawOpX P A tab big next' dst op gs tr T Hp) : drawOp P A tab big next dst op gs tr T Hp := by
 unfold drawOpX at h
 rw [forceV_eq, newAtK_eq] at h
 unfold drawOp drawOpAt
 unfold freshX at h
 unfold freshAt
 split at h
 ·rename_i hm
  rw [hm]
  simp only
  rw [forceL_eq, forceL_eq] at h
  generalize exec A tab op (valsOf T (opnds op)) (hsOf Hp (valsOf T (opnds op))) (newAt op big Hp) = out at h ⊢
  cases out with
  | stuck => exact h.h.elim
  | val v => simp only [drawOutX, setOK_eq] at h; exact hn _ _ _ h
  | side p v => simp only [drawOutX, setOK_eq] at h; exact ⟨h.1, hn _ _ _ h.2⟩
  | mem v ws => simp only [drawOutX, setOK_eq, setCsK_eq, forceL_eq] at h; exact hn _ _ _ h
  | smem p v ws => simp only [drawOutX, setOK_eq, setCsK_eq, forceL_eq] at h; exact ⟨h.1, hn _ _ _ h.2⟩
  | call f args =>
   simp only [drawOutX, forceV_eq] at h
   obtain ⟨ret, ws, fc, hc, h2⟩ := h.h
   exact ⟨ret, ws, fc, hc, hn _ _ _ h2⟩
  | yieldc c args => exact h.elim
  | may p v => exact h.elim
  | ask q K =>
   obtain ⟨r, hq, h2⟩ := h.h
   rw [setOK_eq] at h2
   exact ⟨r, hq, hn _ _ _ h2⟩
 ·exact h.elim
theorem drawGoX_imp {all : List Oper} {big : Nat} {K K' : DK C} (hK : ∀ tr T Hp, K' tr T Hp → K tr T Hp) : ∀ (rest : List Oper) (tr : List Ent) (T : List (SV C)) (Hp : List (HS C)),
  drawGoX P A tab K' all big rest tr T Hp → drawGo P A tab K all big rest tr T Hp
 | [], tr, T, Hp, h => hK _ _ _ h
 | ⟨dst, op, ty, pos, after, guard⟩ :: rest, tr, T, Hp, h => by
  have ih := drawGoX_imp (all := all) (big := big) hK rest
  cases guard with
  | none => exact drawOpX_imp ih h
  | some g =>
   obtain ⟨j, want⟩ := g
   simp only [drawGoX] at h
   simp only [drawGo]
   cases hg : gslot all j with
   | none => rw [hg] at h; exact h.elim
   | some d =>
    rw [hg] at h
    simp only [dGuardDX, dGuardX] at h
    simp only [dGuardD]
    split at h
    ·rename_i b hb
     rw [hb]
     simp only [dGuard]
     have hsame : setT T d (.p (.bool b)) = T := by
      rw [← hb]
      exact setT_same T d
     cases want <;> cases b <;> simp only [condX, setTK_eq, setOK_eq, hsame] at h
     ·exact drawOpX_imp ih h
     ·exact ih _ _ _ h
     ·exact ih _ _ _ h
     ·exact drawOpX_imp ih h
    ·rename_i hb
     rw [setOK_eq] at h
     rw [hb]
     exact ih _ _ _ h
    ·cases h
theorem drawX_of {m0 : Nat} {ops : List Oper} (hmix : P.follows .mixedOrders = true) (h : hlenK Hp 1000 fun big => drawGoX P A tab (drawKX R ops k) ops big ops [] T Hp) : DrawX P A tab m0 R ops k T Hp := by
 rw [hlenK_eq] at h
 exact ⟨⟨_, _, fun _ _ _ _ _ h => h, ⟨hmix, drawGoX_imp (fun tr T Hp hk => ⟨hk.1.h, hk.2⟩) ops [] T Hp h⟩⟩⟩
theorem dcallx_pure {next : DK C} {f : FuncId} {args : List (SV C)} {ret : SV C} {dst : Option Nat} {fs fc : List Nat} {tr : List Ent} (hM : Meets P D f args [] ret []) (hargs : renL [] args = some args) (hret : renS [] ret = some ret)
  (h : forceL fc fun fc => setOK T dst ret fun T' => next (⟨dst, fs, fc, []⟩ :: tr) T' Hp) : DCallX P D next f args dst fs fc tr T Hp := by
 rw [forceL_eq, setOK_eq] at h
 exact ⟨dcall_pure hM hargs hret (by simpa using h)⟩
theorem dcallx_heap {next : DK C} {f : FuncId} {args0 args : List (SV C)} {H0 H0' H1 H1' : List (HS C)} {ret0 ret : SV C} {dst : Option Nat} {fs fc : List Nat} {tr : List Ent}
  (ρ : List (Option Nat)) (hM : Meets P D f args0 H0 ret0 H1) (hargs : renL ρ args0 = some args) (hH0 : renHs ρ H0 = some H0') (hat : heapAt (getC Hp) ρ H0') (θ : List (Option Nat)) (hθ : θ = ρ ++ newIds (H1.length - H0.length) (hlen Hp)) (hnd : ndO θ = true)
  (hle : H0.length ≤ H1.length) (hH1 : renHs θ H1 = some H1') (hret : renS θ ret0 = some ret)
  (h : forceL (fc ++ foot θ) fun fc => forceL (idsOf (zipW θ H1')) fun ids => setOK T dst ret fun T' => setCsK Hp (zipW θ H1') fun Hp' => next (⟨dst, fs, fc, ids⟩ :: tr) T' Hp') : DCallX P D next f args dst fs fc tr T Hp := by
 rw [forceL_eq, forceL_eq, setOK_eq, setCsK_eq] at h
 exact ⟨dcall_heap ρ hM hargs hH0 hat θ hθ hnd hle hH1 hret h⟩
end
end Go.SX

/-
 SX, part V6: calls of functions that only read: what the caller owns is seen as persistent for the while.
-/
namespace Go.SX
open Go.RowKit
variable {C : Cod}
mutual
/-- a value that holds no address -/
def plainS : SV C → Bool
 | .p (.int _ _) => true
 | .p (.bool _) => true
 | .p (.str _) => true
 | .tuple l => plainL l
 | .agg l => plainL l
 | _ => false
def plainL : List (SV C) → Bool
 | [] => true
 | x :: l => plainS x && plainL l
end
section
variable {P : Program} {D : Codec C} {A : Aux C D} {tab : Tab C} {X : Ctx C} {R : Kont C} {k : List (It C)} {T : List (SV C)} {Hp : List (HS C)}
mutual
theorem plainS_den {w w' : World} {E E' : Env} : ∀ (x : SV C) (v : Value), plainS x = true → Den D w E x v → Den D w' E' x v
 | .p (.int k n), v, _, h => by simp only [Den] at *; cases h; exact .int _ _
 | .p (.bool b), v, _, h => by simp only [Den] at *; cases h; exact .bool _
 | .p (.str l), v, _, h => by simp only [Den] at *; cases h; exact .str _
 | .tuple l, v, hp, h => by
  simp only [plainS] at hp
  simp only [Den] at *
  obtain ⟨xs, h1, h2⟩ := h
  exact ⟨xs, h1, plainL_denA l _ hp h2⟩
 | .agg l, v, hp, h => by
  simp only [plainS] at hp
  simp only [Den] at *
  obtain ⟨xs, h1, h2⟩ := h
  exact ⟨xs, h1, plainL_denC l _ hp h2⟩
 | .p (.lit _), v, hp, h => by simp [plainS] at hp
 | .p (.dsl _ _), v, hp, h => by simp [plainS] at hp
 | .p (.fds _ _), v, hp, h => by simp [plainS] at hp
 | .any, v, hp, h => by simp [plainS] at hp
 | .ptr _ _, v, hp, h => by simp [plainS] at hp
 | .eptr _ _ _ _ _, v, hp, h => by simp [plainS] at hp
 | .dptr _ _, v, hp, h => by simp [plainS] at hp
 | .slice _ _ _ _ _, v, hp, h => by simp [plainS] at hp
 | .arr _ _ _, v, hp, h => by simp [plainS] at hp
 | .fn _ _ _, v, hp, h => by simp [plainS] at hp
 | .iface _ _, v, hp, h => by simp [plainS] at hp
 | .yieldv _, v, hp, h => by simp [plainS] at hp
 | .mapp _, v, hp, h => by simp [plainS] at hp
theorem plainL_denA {w w' : World} {E E' : Env} : ∀ (l : List (SV C)) (vs : List Value), plainL l = true → DenA D w E l vs → DenA D w' E' l vs
 | [], vs, _, h => by simp only [DenA] at *; exact h
 | x :: l, vs, hp, h => by
  simp only [plainL, Bool.and_eq_true] at hp
  simp only [DenA] at *
  obtain ⟨v, v2, h1, h2, h3⟩ := h
  exact ⟨v, v2, h1, plainS_den x v hp.1 h2, plainL_denA l v2 hp.2 h3⟩
theorem plainL_denC {w w' : World} {E E' : Env} : ∀ (l : List (SV C)) (vs : List Value), plainL l = true → DenC D w E l vs → DenC D w' E' l vs
 | [], vs, _, h => by simp only [DenC] at *; exact h
 | x :: l, vs, hp, h => by
  simp only [plainL, Bool.and_eq_true] at hp
  have hx : x.isArr = false := by cases x <;> first | rfl | simp [plainS] at hp
  rw [DenC_cons hx] at *
  obtain ⟨v, v2, h1, h2, h3, h4⟩ := h
  exact ⟨v, v2, h1, h2, plainS_den x v hp.1 h3, plainL_denC l v2 hp.2 h4⟩
end

theorem none_ne {x : Option Nat} {c : Nat} (h : x = none) : x ≠ some c := by rw [h]; simp
theorem some_ne {x : Option Nat} {a c : Nat} (h : x = some a) (hn : a ≠ c) : x ≠ some c := by rw [h]; simpa using hn
/-- what is owned, seen as persistent -/
structure Seen (Hp : List (HS C)) (θ : List (Option Nat)) (l m : List (SV C)) : Prop where
 h : ViewL Hp θ l m
theorem callx_read {f : FuncId} {args args' : List (SV C)} {ret : SV C} {dst : Option Nat} {all rest : List Oper} (hM : Meets P D f args' [] ret []) (hv : Seen Hp [] args args') (hp : plainS ret = true)
  (h : setOK T dst ret fun T' => R (.ops all rest :: k) T' Hp) : CallX P D X R f args dst all rest k T Hp := by
 rw [setOK_eq] at h
 refine CallX.of (fun ret' Hp' => ret' = ret ∧ Hp' = Hp) ⟨.inl ⟨hM.enter, fun B σ df a w E _ hR vs hd => ?_⟩⟩ ?_
 ·let B0 : Base := ⟨w, { F := E.F, β := fun _ => .fresh }, fun _ => True, 0, fun _ _ => rfl⟩
  have hf0 : Fr B0 E w := ⟨rfl, rfl, rfl, Nat.le_refl _, fun b _ ho => absurd trivial ho, ⟨fun b hb => ⟨hb, rfl⟩, fun c => .inr (.inr rfl), fun c b e => by cases e⟩, fun b _ => .inr (.inl trivial), fun c b _ => .inl trivial⟩
  obtain ⟨g1, g2, g3⟩ := view_env hR.sat hf0 (θ := []) (Hp' := []) ⟨trivial, rfl, rfl⟩
  have hd' := view_denA hR.sat g1 args args' vs hv.h hd
  refine (hM.calls w (E.view [] []) (fun c _ => rfl) vs g2 hd').mono ?_
  rintro e w' ⟨v, E', rfl, hv', _, hfr⟩
  have hsame : ∀ b, b < w.heap.size → w'.heap[b]? = w.heap[b]? := fun b hb => hfr.same b hb (by rintro ⟨c, hc⟩; cases hc)
  have hL := Later.same hsame hR.sat.F
  exact ⟨v, E, ret, Hp, rfl, plainS_den ret v hp hv', hR.later hL (hR.sat.same hsame hfr.size) (hR.fr.on hR.sat.F hsame hfr.size hfr.os hfr.tape hfr.output), rfl, rfl⟩
 ·rintro ret' Hp' ⟨rfl, rfl⟩; exact h
def forceIds : List (Option Nat) → (List (Option Nat) → Prop) → Prop
 | [], K => K []
 | none :: l, K => forceIds l fun m => K (none :: m)
 | some n :: l, K => natK n fun n => forceIds l fun m => K (some n :: m)
theorem forceIds_eq : ∀ (l : List (Option Nat)) (K : List (Option Nat) → Prop), forceIds l K = K l
 | [], _ => rfl
 | none :: l, K => by simp only [forceIds, forceIds_eq l]
 | some n :: l, K => by simp only [forceIds, natK_eq, forceIds_eq l]
/-- the numbers k, k + 1, .. -/
def idsK : List (HS C) → Nat → List (Option Nat)
 | [], _ => []
 | _ :: l, k => some k :: idsK l (k + 1)
/-- a state and arguments, seen as others -/
theorem subA_of {m0 : Nat} {T T' : List (SV C)} {Hp Hp' : List (HS C)} {args args' : List (SV C)} (θ : List (Option Nat)) (hT : ViewL Hp θ T T') (ha : ViewL Hp θ args args') (hv : ViewOK Hp θ Hp' m0) : SubA D m0 T Hp args T' Hp' args' := by
 rintro B E df a w rfl hR hsz
 obtain ⟨h1, h2, h3⟩ := view_env hR.sat hR.fr hv
 have hlen : ∀ (l m : List (SV C)), ViewL Hp θ l m → l.length = m.length := by
  intro l
  induction l with
  | nil => intro m h; cases m with
   | nil => rfl
   | cons y m => simp [ViewL] at h
  | cons x l ih => intro m h; cases m with
   | nil => simp [ViewL] at h
   | cons y m => simp only [ViewL] at h; simp [ih m h.2]
 have hget : ∀ (l m : List (SV C)) (i : Nat) (v : Value), ViewL Hp θ l m → Den D w E (getT l i) v → Den D w (E.view θ Hp') (getT m i) v := by
  intro l
  induction l with
  | nil => intro m i v h _; cases m with
   | nil => trivial
   | cons y m => simp [ViewL] at h
  | cons x l ih => intro m i v h hd; cases m with
   | nil => simp [ViewL] at h
   | cons y m =>
    simp only [ViewL] at h
    cases i with
    | zero => exact view_den hR.sat h1 x y v h.1 hd
    | succ i => exact ih m i v h.2 hd
 exact ⟨_, ⟨fun i => hget T T' i _ hT (hR.den i), h2, h3, hR.defers, hR.marks.mono fun b hb => ⟨h1.F b hb, rfl⟩⟩, by rw [hsz, hlen T T' hT], fun vs hd => view_denA hR.sat h1 args args' vs ha hd⟩
theorem nilC {p X Y : Prop} (h1 : p → X) (h2 : Y) : NilX p X Y := ⟨h1, h2⟩
theorem ask_in {q : Option (Option (Nat × Value))} {Y : Option (Nat × Value) → Prop} {r : Option (Nat × Value)} (h1 : q = some r) (h2 : Y r) : AskX q Y := ⟨r, h1, h2⟩
/-- an operation that is stuck: what is owned is given up for good ahead of it -/
theorem frz_op {op : Op} {vals : List (SV C)} {hs : List (Nat × HS C)} {dst : Option Nat} {all rest : List Oper} (θ : List (Option Nat)) (us : List (Nat × SV C)) (cs : List (Nat × HS C)) (hb : Back X.m0 θ T Hp (setMany T us) (setCs Hp cs))
  (h : forceV (setMany T us) fun T1 => setCsK Hp cs fun Hp1 => forceV (valsOf T1 (opnds op)) fun vals => hlenK Hp1 0 fun m => after0 P D X R False dst all rest k T1 Hp1 (exec A tab op vals (hsOf Hp1 vals) m)) : StuckX op vals hs (FrzY P A tab X R op dst all rest k T Hp) := by
 rw [forceV_eq, setCsK_eq, forceV_eq, hlenK_eq, Nat.add_zero] at h
 refine ⟨_, _, fun B E df a w hm hR hsz => ?_, h⟩
 exact subA_of (D := D) _ hb.T (show ViewL Hp θ [] [] from trivial) ⟨hb.H, hb.id, hb.nd⟩ B E df a w hm hR hsz
/-- a region that draws its order: what is owned is given up for good ahead of it -/
theorem frz_draw {m0 : Nat} {ops : List Oper} (θ : List (Option Nat)) (us : List (Nat × SV C)) (cs : List (Nat × HS C)) (hb : Back m0 θ T Hp (setMany T us) (setCs Hp cs))
  (h : forceV (setMany T us) fun T1 => setCsK Hp cs fun Hp1 => DrawX P A tab m0 R ops k T1 Hp1) : DrawX P A tab m0 R ops k T Hp := by
 rw [forceV_eq, setCsK_eq] at h
 obtain ⟨T1, Hp1, hs, h1⟩ := h.h
 exact ⟨T1, Hp1, fun B df a w hm hR => hs B df a w hm (sub_of θ hb.T ⟨hb.H, hb.id, hb.nd⟩ B df a w hm hR), h1⟩
def condT (b : Bool) (X : Prop) : Prop := match b with
 | true => X
 | false => False
def someK {α : Type} (x : Option α) (K : α → Prop) : Prop := match x with
 | some a => K a
 | none => False
/-- behind a call that knows chunks of the heap -/
def callK (Hp : List (HS C)) (ρ : List (Option Nat)) (n0 : Nat) (H1 : List (HS C)) (ret0 : SV C) (K : SV C → List (Option Nat) → List (Nat × HS C) → Prop) : Prop :=
 hlenK Hp 0 fun m => forceIds (ρ ++ newIds (H1.length - n0) m) fun θ => condT (ndO θ && Nat.ble n0 H1.length) (someK (renHs θ H1) fun H1' => someK (renS θ ret0) fun ret => K ret θ (zipW θ H1'))
theorem callh {f : FuncId} {args0 args : List (SV C)} {H0 H0' H1 : List (HS C)} {ret0 : SV C} {dst : Option Nat} {all rest : List Oper} (ρ : List (Option Nat)) (hM : Meets P D f args0 H0 ret0 H1)
  (hargs : renL ρ args0 = some args) (hH0 : renHs ρ H0 = some H0') (hat : heapAt (getC Hp) ρ H0')
  (h : callK Hp ρ H0.length H1 ret0 fun ret _ ws => setOK T dst ret fun T' => setCsK Hp ws fun Hp' => R (.ops all rest :: k) T' Hp') : CallX P D X R f args dst all rest k T Hp := by
 unfold callK at h
 rw [hlenK_eq, Nat.add_zero, forceIds_eq] at h
 unfold condT at h
 split at h
 ·rename_i hc
  simp only [Bool.and_eq_true] at hc
  unfold someK at h
  split at h
  ·rename_i H1' hH1
   split at h
   ·rename_i ret hret
    exact callx_heap ρ hM hargs hH0 hat _ rfl hc.1 (Nat.le_of_ble_eq_true hc.2) hH1 hret h
   ·exact h.elim
  ·exact h.elim
 ·exact h.elim
theorem dcallh {next : DK C} {f : FuncId} {args0 args : List (SV C)} {H0 H0' H1 : List (HS C)} {ret0 : SV C} {dst : Option Nat} {fs fc : List Nat} {tr : List Ent} (ρ : List (Option Nat)) (hM : Meets P D f args0 H0 ret0 H1)
  (hargs : renL ρ args0 = some args) (hH0 : renHs ρ H0 = some H0') (hat : heapAt (getC Hp) ρ H0')
  (h : callK Hp ρ H0.length H1 ret0 fun ret θ ws => forceL (fc ++ foot θ) fun fc => forceL (idsOf ws) fun ids => setOK T dst ret fun T' => setCsK Hp ws fun Hp' => next (⟨dst, fs, fc, ids⟩ :: tr) T' Hp') : DCallX P D next f args dst fs fc tr T Hp := by
 unfold callK at h
 rw [hlenK_eq, Nat.add_zero, forceIds_eq] at h
 unfold condT at h
 split at h
 ·rename_i hc
  simp only [Bool.and_eq_true] at hc
  unfold someK at h
  split at h
  ·rename_i H1' hH1
   split at h
   ·rename_i ret hret
    exact dcallx_heap ρ hM hargs hH0 hat _ rfl hc.1 (Nat.le_of_ble_eq_true hc.2) hH1 hret h
   ·exact h.elim
  ·exact h.elim
 ·exact h.elim
/-- A loop, by what it changes: I the slots that count, U the chunks that turn; the other chunks stay as they are. -/
theorem loop_up {D : Codec C} {m0 : Nat} {body : Code} {γ : Type} (I : γ → List (Nat × SV C)) (U : γ → List (Nat × HS C)) (good : γ → Prop) (μ : γ → Nat) (g0 : γ) (h0 : good g0) (hent : Back m0 (idsK Hp 0) T Hp (headT body T (I g0)) (setCs Hp (U g0)))
  (hround : ∀ g, good g → ∀ K : List (SV C) → List (HS C) → Prop, (∀ g' θ T' Hp', Side (good g') → Side (μ g' < μ g) → Back m0 θ T' Hp' (headT body T (I g')) (setCs Hp (U g')) → K T' Hp') →
   forceV (headT body T (I g)) fun T1 => setCsK Hp (U g) fun Hp1 => R (.code body :: .endLoop K :: k) T1 Hp1) : LoopX D m0 R body k T Hp := by
 refine loop_inv I (fun g => setCs Hp (U g)) good μ g0 h0 _ hent fun g hg K hK => ?_
 have := hround g hg K hK
 rw [forceV_eq, setCsK_eq] at this
 rw [forceV_eq, forceL_eq]
 exact this
end
end Go.SX

/-
 SX, part V8: the stops' laws in a short form.
-/
namespace Go.SX
variable {C : Cod}
class Bl (b : Bool) (p q : outParam Prop) : Prop where
 t : b = true → p
 f : b = false → q
instance (priority := 10) blB (b : Bool) : Bl b (b = true) (b = false) := ⟨id, id⟩
instance (priority := 20) blN (b : Bool) : Bl (!b) (b = false) (b = true) := ⟨by simp, by simp⟩
instance (priority := 30) blD (p : Prop) [Decidable p] : Bl (decide p) p (¬p) := ⟨by simp, by simp⟩
instance (priority := 40) blE (p : Prop) [Decidable p] : Bl (!decide p) (¬p) p := ⟨by simp, by simp⟩
theorem spC {b : Bool} {p q X Y : Prop} [hb : Bl b p q] (h1 : p → X) (h2 : q → Y) : condX b X Y := split_x (fun h => h1 (hb.t h)) (fun h => h2 (hb.f h))
theorem sdV {p : Prop} (h : p := by
  first | ((repeat' (first | refine And.intro ?_ ?_ | exact inR_i64 (by omega) (by omega) | omega | rfl | exact trivial | exact none_ne rfl | exact some_ne rfl (Nat.ne_of_beq_eq_false rfl) | exact Nat.ne_of_beq_eq_false rfl | (dsimp only [srcSide]; omega) | (simp; done) | (simp; omega))); done) | fail) : Side p := ⟨h⟩
theorem saC {p q : Prop} (h2 : q) (h1 : Side p := by first | exact sdV | fail) : p ∧ q := ⟨h1.h, h2⟩
section
variable {P : Program} {D : Codec C} {tab : Tab C} {A : Aux C D} {X : Ctx C} {R : Kont C} {k : List (It C)} {T : List (SV C)} {Hp : List (HS C)} {m0 : Nat} {f : FuncId} {args args' : List (SV C)} {dst : Option Nat} {all rest : List Oper} {next : DK C} {fs fc : List Nat} {tr : List Ent} {ret : SV C}
theorem taC {t : List Ent} {Z : Prop} (h2 : Z) (h1 : traceB all t.reverse = true := by kernel_rfl) : TraceOK all t ∧ Z := ⟨⟨h1⟩, h2⟩
theorem x0C {rs : List ResultVar} (hE : EndV Hp [] ret (resOf D tab T Hp rs)) : (Exit.ret = Exit.normal ∨ Exit.ret = Exit.ret) ∧ ∃ θ l, resOf D tab T Hp rs = some l ∧ View Hp θ (retOf l) ret ∧ ViewOK Hp θ [] 0 :=
 end_fn [] (.inr rfl) hE trivial rfl rfl
theorem eB {rs : List ResultVar} {θ : List (Option Nat)} {b r : Bool} (h1 : b = r) (h2 : resOf D tab T Hp rs = some [.p (.bool b)]) : EndV Hp θ (.p (.bool r)) (resOf D tab T Hp rs) := by
 subst h1; rw [h2]; exact ⟨rfl⟩
theorem eI {rs : List ResultVar} {θ : List (Option Nat)} {K : IntKind} {b r : Int} (h1 : b = r) (h2 : resOf D tab T Hp rs = some [.p (.int K b)]) : EndV Hp θ (.p (.int K r)) (resOf D tab T Hp rs) := by
 subst h1; rw [h2]; exact ⟨rfl⟩
theorem cpC (hM : Meets P D f args [] ret []) (h : setOK T dst ret fun T' => R (.ops all rest :: k) T' Hp) (h1 : renL [] args = some args := by rfl) (h2 : renS [] ret = some ret := by rfl) : CallX P D X R f args dst all rest k T Hp := callx_pure hM h1 h2 h
theorem dpC (hM : Meets P D f args [] ret []) (h : forceL fc fun fc => setOK T dst ret fun T' => next (⟨dst, fs, fc, []⟩ :: tr) T' Hp) (h1 : renL [] args = some args := by rfl) (h2 : renS [] ret = some ret := by rfl) : DCallX P D next f args dst fs fc tr T Hp := dcallx_pure hM h1 h2 h
theorem fzV {θ : List (Option Nat)} {c o n off len : Nat} {u : C.U} {ys xs : List (C.El u)} (h1 : getC Hp c = .rows u xs := by rfl) (h2 : o = 0 := by rfl) (h3 : n = C.n u := by rfl) (h4 : off + len ≤ xs.length := by first | (simp; done) | (simp; omega) | omega)
  (h5 : ys = (xs.drop off).take len := by first | (simp; done) | (simp [List.take_of_length_le]; done) | (simp [List.take_of_length_le]; rfl)) (h6 : inO θ c = false := by rfl) : FrozenAs Hp θ c o n off len u ys := ⟨xs, h1, h2, h3, h4, h5, h6⟩
theorem fvV {θ : List (Option Nat)} {c : Nat} {cells : List (PV C)} {t : Option TypeId} {vs : List (SV C)} (h1 : getC Hp c = .vart t vs := by rfl) (h2 : ViewPs Hp θ vs cells := by first | ((repeat' (first | exact trivial | exact rfl | refine And.intro ?_ ?_ | exact fzV)); done) | fail) (h3 : inO θ c = false := by rfl) : FrozenVar Hp θ c cells := ⟨t, vs, h1, h2, h3⟩
theorem snV {θ : List (Option Nat)} {l m : List (SV C)} (h : ViewL Hp θ l m := by first | ((repeat' (first | exact trivial | exact rfl | refine And.intro ?_ ?_ | exact fzV | exact fvV)); done) | fail) : Seen Hp θ l m := ⟨h⟩
theorem rdC (hM : Meets P D f args' [] ret []) (h : setOK T dst ret fun T' => R (.ops all rest :: k) T' Hp) (hv : Seen Hp [] args args' := by first | exact snV | fail) (hp : plainS ret = true := by rfl) : CallX P D X R f args dst all rest k T Hp := callx_read hM hv hp h
theorem vwV {θ : List (Option Nat)} {l : Option (List (SV C))} (h : endV Hp θ ret l := by first | ((repeat' (first | exact trivial | exact rfl | refine And.intro ?_ ?_ | exact fzV | exact fvV)); done) | fail) : EndV Hp θ ret l := ⟨h⟩
theorem hsV {θ l : List (Option Nat)} {m : List (HS C)} (h : ViewHs Hp θ l m := by first | ((repeat' (first | exact trivial | exact rfl | refine And.intro ?_ ?_ | exact ⟨_, rfl⟩ | exact fzV | exact fvV)); done) | fail) : ViewHs Hp θ l m := h
theorem bkV {θ : List (Option Nat)} {T' : List (SV C)} {Hp' : List (HS C)} (h1 : ViewL Hp θ T T' := by first | ((repeat' (first | exact trivial | exact rfl | refine And.intro ?_ ?_ | exact fzV | exact fvV)); done) | fail) (h2 : ViewHs Hp θ θ Hp' := by first | exact hsV | fail) (h3 : idO m0 0 θ = true := by rfl) (h4 : ndO θ = true := by rfl) : Back m0 θ T Hp T' Hp' := ⟨h1, h2, h3, h4⟩
end
theorem mviewC {P : Program} {D : Codec C} {f : FuncId} {args args' : List (SV C)} {ret : SV C} {H1 : List (HS C)} (hM : Meets P D f args' [] ret H1) (h : Seen [] [] args args') : Meets P D f args [] ret H1 := by
 refine ⟨hM.enter, fun w E hm vs hs hd => hM.calls w E hm vs hs (view_denA hs ⟨fun _ h => h, fun j d e => by simp [ixO] at e, fun j e => by simp [ixL] at e, fun c b _ e => ?_⟩ args args' vs h.h hd)⟩
 rw [hm c (Nat.zero_le c)] at e
 cases e
/-- a contract over what lasts, at what the caller owns -/
theorem mownC {P : Program} {D : Codec C} {f : FuncId} {args args' : List (SV C)} {ret : SV C} {H1 : List (HS C)} (hM : Meets P D f args' [] ret []) (hv : Seen H1 [] args args') (hp : plainS ret = true) : Meets P D f args H1 ret H1 := by
 refine ⟨hM.enter, fun w E hm vs hs hd => ?_⟩
 let B0 : Base := ⟨w, { F := E.F, β := fun _ => .fresh }, fun _ => True, 0, fun _ _ => rfl⟩
 have hf0 : Fr B0 E w := ⟨rfl, rfl, rfl, Nat.le_refl _, fun b _ ho => absurd trivial ho, ⟨fun b hb => ⟨hb, rfl⟩, fun c => .inr (.inr rfl), fun c b e => by cases e⟩, fun b _ => .inr (.inl trivial), fun c b _ => .inl trivial⟩
 obtain ⟨g1, g2, g3⟩ := view_env hs hf0 (θ := []) (Hp' := []) ⟨trivial, rfl, rfl⟩
 have hd' := view_denA hs g1 args args' vs hv.h hd
 refine (hM.calls w (E.view [] []) (fun c _ => rfl) vs g2 hd').mono ?_
 rintro e w' ⟨v, E', rfl, hv', _, hfr⟩
 have hsame : ∀ b, b < w.heap.size → w'.heap[b]? = w.heap[b]? := fun b hb => hfr.same b hb (by rintro ⟨c, hc⟩; cases hc)
 exact ⟨v, E, rfl, plainS_den ret v hp hv', hs.same hsame hfr.size, (Fr.here (m := H1.length) (hm := hm)).on hs.F hsame hfr.size hfr.os hfr.tape hfr.output⟩
theorem frzC {P : Program} {D : Codec C} {X : Ctx C} {R : Kont C} {k : List (It C)} {T : List (SV C)} {Hp : List (HS C)} {f : FuncId} {args : List (SV C)} {dst : Option Nat} {all rest : List Oper} (θ : List (Option Nat)) (us : List (Nat × SV C)) (cs : List (Nat × HS C)) (args' : List (SV C)) (hb : Back X.m0 θ T Hp (setMany T us) (setCs Hp cs)) (ha : Seen Hp θ args args')
  (h : forceV (setMany T us) fun T1 => setCsK Hp cs fun Hp1 => CallX P D X R f args' dst all rest k T1 Hp1) : CallX P D X R f args dst all rest k T Hp := by
 rw [forceV_eq, setCsK_eq] at h
 obtain ⟨T2, Hp2, args2, hsub, S, h1, h2⟩ := h.h
 refine ⟨T2, Hp2, args2, fun B E df a w hm hR hsz => ?_, S, h1, h2⟩
 obtain ⟨E1, hR1, hsz1, hd1⟩ := subA_of (D := D) _ hb.T ha.h ⟨hb.H, hb.id, hb.nd⟩ B E df a w hm hR hsz
 obtain ⟨E2, hR2, hsz2, hd2⟩ := hsub B E1 df a w hm hR1 hsz1
 exact ⟨E2, hR2, hsz2, fun vs hv => hd2 vs (hd1 vs hv)⟩
end Go.SX

/-
 SX, part S: a table of types checked against the program by a computation.
-/
namespace Go.SX
variable {C : Cod}

def pB : PV C → Value → Bool
 | .int k n, .int k' n' => decide (k = k') && decide (n = n')
 | .bool b, .bool b' => b == b'
 | .str l, .string s => decide (l = s.data.toList)
 | .lit (.slice none 0 0), .slice none 0 0 => true
 | .lit (.pointer none), .pointer none => true
 | .lit (.map none), .map none => true
 | .lit .nilFunc, .nilFunc => true
 | .lit .nilIface, .nilIface => true
 | _, _ => false
def pLB : List (PV C) → List Value → Option (List Value)
 | [], vs => some vs
 | x :: l, v :: vs => if pB x v then pLB l vs else none
 | _ :: _, [] => none
def zeroB (D : Codec C) : List (SV C) → List Value → Bool
 | [], [] => true
 | .p x :: l, v :: vs => pB x v && zeroB D l vs
 | .arr u N xs :: l, vs => decide (xs.length = N) && (match pLB (xs.flatMap (D.enc u)) vs with
  | some r => zeroB D l r
  | none => false)
 | _, _ => false
def kindB (P : Program) (size : Nat) : TK → TypeDesc → Bool
 | .int k, .int k' => decide (k' = k)
 | .bool, .bool => true
 | .str, .string => true
 | .struct fs, .struct F => decide (F.toList.map (fun f => (f.offset, f.type)) = fs) && fs.all fun f => (P.info? f.2).isSome
 | .arr n e, .array n' e' => decide (n' = n) && decide (e' = e) && (match P.info? e with | some ie => decide (size = n * ie.size) | none => false)
 | .slice e, .slice e' => decide (e' = e)
 | .ptr e, .pointer e' => decide (e' = e)
 | .uptr, .unsafePointer => true
 | .map k e, .map kt e' => decide (e' = e) && (match P.underlying kt with | some d => (match k, d with | .int q, .int q' => decide (q' = q) | .str, .string => true | _, _ => false) | none => false)
 | .other, d => match d with | .struct _ | .array _ _ => false | _ => true
 | _, _ => false
def zbB (P : Program) (t : TypeId) : TK → Bool
 | .bool => match P.info? t with
  | some info => match info.zero with
   | some (.bool false) => true
   | _ => false
  | none => false
 | _ => true
def tyB (P : Program) (D : Codec C) (t : TypeId) (i : TI C) : Bool :=
 (match P.info? t with
  | some info => decide (info.size = i.size) && decide (info.bytes = i.bytes) && (match info.zero with
   | some z => decide (z.cells.size = i.size) && zeroB D i.zero z.cells.toList
   | none => false)
  | none => false) &&
 (match P.underlying t with
  | some d => kindB P i.size i.kind d
  | none => false) &&
 decide (0 < i.size) && (match i.code with
  | some u => decide (C.n u = i.size) && (match C.ty u with
   | some t' => decide (t' = t)
   | none => true)
  | none => true) && (match i.typed with
  | true => liesAt P P.depth t (i.size / P.cellsOf t) 0 t 1
  | false => true) && (match i.cks with
  | [] => true
  | l => i.kind.agg && ckB P 64 t l && !P.eqGuardType P.depth t) && zbB P t i.kind

section
variable {P : Program} {D : Codec C} {w : World} {E : Env}
theorem pB_ok {x : PV C} {v : Value} (h : pB x v = true) {F : Nat → Prop} : PDen D w F x v := by
 unfold pB at h
 split at h
 ·simp at h; obtain ⟨rfl, rfl⟩ := h; exact .int _ _
 ·simp at h; subst h; exact .bool _
 ·simp at h; subst h; rename_i s; obtain ⟨⟨l⟩⟩ := s; exact .str _
 ·exact .lit _ rfl
 ·exact .lit _ rfl
 ·exact .lit _ rfl
 ·exact .lit _ rfl
 ·exact .lit _ rfl
 ·cases h
theorem pLB_ok {F : Nat → Prop} : ∀ (l : List (PV C)) (vs r : List Value), pLB l vs = some r → ∃ v1, vs = v1 ++ r ∧ PDenL D w F l v1
 | [], vs, r, h => by simp [pLB] at h; subst h; exact ⟨[], rfl, rfl, fun j pv v hp _ => by simp at hp⟩
 | x :: l, [], r, h => by simp [pLB] at h
 | x :: l, v :: vs, r, h => by
  simp only [pLB] at h
  split at h
  ·rename_i hb
   obtain ⟨v1, rfl, h1⟩ := pLB_ok (F := F) l vs r h
   refine ⟨v :: v1, rfl, by simp [h1.1], fun j pv u hp hu => ?_⟩
   cases j with
   | zero => simp at hp hu; subst hp; subst hu; exact pB_ok hb
   | succ j => exact h1.2 j pv u (by simpa using hp) (by simpa using hu)
  ·cases h
theorem zeroB_ok : ∀ (l : List (SV C)) (vs : List Value), zeroB D l vs = true → DenC D w E l vs
 | [], [], _ => by simp only [DenC]
 | [], _ :: _, h => by simp [zeroB] at h
 | .p x :: l, [], h => by simp [zeroB] at h
 | .p x :: l, v :: vs, h => by
  simp only [zeroB, Bool.and_eq_true] at h
  have h1 : PDen D w E.F x v := pB_ok h.1
  simp only [DenC, Den]
  exact ⟨v, vs, rfl, h1.oneCell, h1, zeroB_ok l vs h.2⟩
 | .arr u N xs :: l, vs, h => by
  have h' : xs.length = N ∧ (match pLB (xs.flatMap (D.enc u)) vs with | some r => zeroB D l r | none => false) = true := by
   cases vs <;> simpa [zeroB] using h
  obtain ⟨h1, h2⟩ := h'
  cases hp : pLB (xs.flatMap (D.enc u)) vs with
  | none => rw [hp] at h2; cases h2
  | some r =>
   rw [hp] at h2
   obtain ⟨v1, e, h3⟩ := pLB_ok (D := D) (w := w) (F := E.F) _ vs r hp
   simp only [DenC]
   exact ⟨h1, v1, r, e, h3, zeroB_ok l r h2⟩
 | .any :: l, vs, h => by cases vs <;> simp [zeroB] at h
 | .ptr _ _ :: l, vs, h => by cases vs <;> simp [zeroB] at h
 | .eptr _ _ _ _ _ :: l, vs, h => by cases vs <;> simp [zeroB] at h
 | .dptr _ _ :: l, vs, h => by cases vs <;> simp [zeroB] at h
 | .slice _ _ _ _ _ :: l, vs, h => by cases vs <;> simp [zeroB] at h
 | .agg _ :: l, vs, h => by cases vs <;> simp [zeroB] at h
 | .fn _ _ _ :: l, vs, h => by cases vs <;> simp [zeroB] at h
 | .iface _ _ :: l, vs, h => by cases vs <;> simp [zeroB] at h
 | .tuple _ :: l, vs, h => by cases vs <;> simp [zeroB] at h
theorem kindB_ok {size : Nat} {k : TK} {d : TypeDesc} (h : kindB P size k d = true) : KindOK P size k d := by
 unfold kindB at h
 split at h
 ·simp at h; subst h; rfl
 ·rfl
 ·rfl
 ·simp at h
  exact ⟨_, rfl, h.1, fun f hf => by
   have := h.2 f.1 f.2 hf
   simpa [Option.isSome_iff_ne_none] using this⟩
 ·simp at h
  obtain ⟨⟨rfl, rfl⟩, h2⟩ := h
  split at h2
  ·rename_i ie hie
   exact ⟨rfl, ie, hie, by simpa using h2⟩
  ·cases h2
 ·simp at h; subst h; rfl
 ·simp at h; subst h; rfl
 ·rfl
 ·simp only [Bool.and_eq_true, decide_eq_true_eq] at h
  obtain ⟨rfl, h2⟩ := h
  refine ⟨_, rfl, ?_⟩
  split at h2
  ·rename_i d hd
   split at h2
   ·simp at h2; subst h2; exact hd
   ·exact hd
   ·cases h2
  ·cases h2
 ·simp only [KindOK]
  exact h
 ·cases h
theorem tyB_ok {t : TypeId} {i : TI C} (h : tyB P D t i = true) : TyOK P D t i := by
 simp only [tyB, Bool.and_eq_true, decide_eq_true_eq] at h
 obtain ⟨⟨⟨⟨⟨⟨h1, h2⟩, h3⟩, h4⟩, h6⟩, h5⟩, h8⟩ := h
 refine ⟨?_, ?_, h3, fun u hu => ?_, fun u t' hu ht => ?_, fun ht => ?_, fun hk => ?_, fun hc => ?_⟩
 ·split at h1
  ·rename_i info hinfo
   simp only [Bool.and_eq_true, decide_eq_true_eq] at h1
   obtain ⟨⟨h5, h6⟩, h7⟩ := h1
   split at h7
   ·rename_i z hz
    simp only [Bool.and_eq_true, decide_eq_true_eq] at h7
    exact ⟨info, z, hinfo, h5, h6, hz, h7.1, fun w E => zeroB_ok _ _ h7.2⟩
   ·cases h7
  ·cases h1
 ·split at h2
  ·rename_i d hd; exact ⟨d, hd, kindB_ok h2⟩
  ·cases h2
 ·rw [hu] at h4; simp only [Bool.and_eq_true, decide_eq_true_eq] at h4; exact h4.1
 ·rw [hu] at h4; simp only [Bool.and_eq_true, decide_eq_true_eq] at h4; rw [ht] at h4; simpa using h4.2
 ·rw [ht] at h6; exact h6
 ·rw [hk] at h8
  simp only [zbB] at h8
  split at h8
  ·rename_i info hi
   split at h8
   ·rename_i hz; exact ⟨info, hi, hz⟩
   ·cases h8
  ·cases h8
 ·split at h5
  ·rename_i h; exact (hc h).elim
  ·simp only [Bool.and_eq_true, Bool.not_eq_true'] at h5
   exact ⟨h5.1.1, h5.1.2, h5.2⟩
end
end Go.SX

/-
 The element types of this project's slices and arrays (written by mku.py).
-/
namespace Go.SX

structure A5 where
 a : Int
 b : Int
 c : Int
 d : Int
 e : Int
deriving DecidableEq
structure A4 where
 a : Int
 b : Int
 c : Int
 d : Int
deriving DecidableEq
structure A3 where
 a : Int
 b : Int
 c : Int
deriving DecidableEq
structure Spell where
 from_ : Int
 to_ : Int
deriving DecidableEq
structure Cell where
 x : Int
 y : Int
deriving DecidableEq
structure Goal where
 kind : Int
 rows : List Int
 from_ : Int
 to_ : Int
 low : Int
 high : Int
 clear : Bool
 days : Int
 times : Int
 within : Int
 cents : List Int
 kids : List Goal
structure Order where
 id : Int
 owner : Int
 goal : Goal
 price : Int
 group : Int
 urgent : Bool
 known : Int
 due : Int
structure Event where
 kind : Int
 at_ : Int
 image : Int
 rows : List Int
 sun : Int
 look : Int
 clear : Bool
deriving DecidableEq
structure Evs where
 l : List Event
deriving DecidableEq

inductive U where
 | int | bool | str | u8 | u32 | u64 | arr5 | arr4 | arr3 | spell | cell | goal | order | event | evs
deriving DecidableEq

@[reducible] def U.El : U → Type
 | .int => Int
 | .bool => Bool
 | .str => List UInt8
 | .u8 => Int
 | .u32 => Int
 | .u64 => Int
 | .arr5 => A5
 | .arr4 => A4
 | .arr3 => A3
 | .spell => Spell
 | .cell => Cell
 | .goal => Goal
 | .order => Order
 | .event => Event
 | .evs => Evs
def U.dflt : (u : U) → u.El
 | .int => (0 : Int)
 | .bool => false
 | .str => ([] : List UInt8)
 | .u8 => (0 : Int)
 | .u32 => (0 : Int)
 | .u64 => (0 : Int)
 | .arr5 => (⟨0, 0, 0, 0, 0⟩ : A5)
 | .arr4 => (⟨0, 0, 0, 0⟩ : A4)
 | .arr3 => (⟨0, 0, 0⟩ : A3)
 | .spell => (⟨0, 0⟩ : Spell)
 | .cell => (⟨0, 0⟩ : Cell)
 | .goal => (⟨0, [], 0, 0, 0, 0, false, 0, 0, 0, [], []⟩ : Goal)
 | .order => (⟨0, 0, (⟨0, [], 0, 0, 0, 0, false, 0, 0, 0, [], []⟩), 0, 0, false, 0, 0⟩ : Order)
 | .event => (⟨0, 0, 0, [], 0, 0, false⟩ : Event)
 | .evs => (⟨[]⟩ : Evs)
def U.n : U → Nat
 | .int => 1
 | .bool => 1
 | .str => 1
 | .u8 => 1
 | .u32 => 1
 | .u64 => 1
 | .arr5 => 5
 | .arr4 => 4
 | .arr3 => 3
 | .spell => 2
 | .cell => 2
 | .goal => 12
 | .order => 19
 | .event => 7
 | .evs => 1
def U.glob : Nat → List Value
 | 1 => [.int .u8 0, .int .u8 1, .int .u8 56, .int .u8 2, .int .u8 57, .int .u8 49, .int .u8 28, .int .u8 3, .int .u8 61, .int .u8 58, .int .u8 42, .int .u8 50, .int .u8 38, .int .u8 29, .int .u8 17, .int .u8 4, .int .u8 62, .int .u8 47, .int .u8 59, .int .u8 36, .int .u8 45, .int .u8 43, .int .u8 51, .int .u8 22, .int .u8 53, .int .u8 39, .int .u8 33, .int .u8 30, .int .u8 24, .int .u8 18, .int .u8 12, .int .u8 5, .int .u8 63, .int .u8 55, .int .u8 48, .int .u8 27, .int .u8 60, .int .u8 41, .int .u8 37, .int .u8 16, .int .u8 46, .int .u8 35, .int .u8 44, .int .u8 21, .int .u8 52, .int .u8 32, .int .u8 23, .int .u8 11, .int .u8 54, .int .u8 26, .int .u8 40, .int .u8 15, .int .u8 34, .int .u8 20, .int .u8 31, .int .u8 10, .int .u8 25, .int .u8 14, .int .u8 19, .int .u8 9, .int .u8 13, .int .u8 8, .int .u8 7, .int .u8 6]
 | _ => []
def U.ty : U → Option TypeId
 | .u8 => some 5
 | _ => none
@[reducible] def Cd : Cod := { U := U, El := U.El, dflt := U.dflt, n := U.n, glob := U.glob, ty := U.ty }

def encU : (u : U) → u.El → List (PV Cd)
 | .int, x => [.int .i64 x]
 | .bool, x => [.bool x]
 | .str, x => [.str x]
 | .u8, x => [.int .u8 x]
 | .u32, x => [.int .u32 x]
 | .u64, x => [.int .u64 x]
 | .arr5, x => [.int .i64 x.a, .int .i64 x.b, .int .i64 x.c, .int .i64 x.d, .int .i64 x.e]
 | .arr4, x => [.int .i64 x.a, .int .i64 x.b, .int .i64 x.c, .int .i64 x.d]
 | .arr3, x => [.int .i64 x.a, .int .i64 x.b, .int .i64 x.c]
 | .spell, x => [.int .i64 x.from_, .int .i64 x.to_]
 | .cell, x => [.int .i64 x.x, .int .i64 x.y]
 | .goal, x => [.int .i64 x.kind, .dsl U.int x.rows, .int .i64 x.from_, .int .i64 x.to_, .int .i64 x.low, .int .i64 x.high, .bool x.clear, .int .i64 x.days, .int .i64 x.times, .int .i64 x.within, .dsl U.int x.cents, .dsl U.goal x.kids]
 | .order, x => [.int .i64 x.id, .int .i64 x.owner, .int .i64 x.goal.kind, .dsl U.int x.goal.rows, .int .i64 x.goal.from_, .int .i64 x.goal.to_, .int .i64 x.goal.low, .int .i64 x.goal.high, .bool x.goal.clear, .int .i64 x.goal.days, .int .i64 x.goal.times, .int .i64 x.goal.within, .dsl U.int x.goal.cents, .dsl U.goal x.goal.kids, .int .i64 x.price, .int .i64 x.group, .bool x.urgent, .int .i64 x.known, .int .i64 x.due]
 | .event, x => [.int .i64 x.kind, .int .i64 x.at_, .int .i64 x.image, .dsl U.int x.rows, .int .i64 x.sun, .int .i64 x.look, .bool x.clear]
 | .evs, x => [.dsl U.event x.l]
def decU : (u : U) → List (PV Cd) → Option u.El
 | .int, [.int .i64 a0] => some a0
 | .bool, [.bool a0] => some a0
 | .str, [.str a0] => some a0
 | .u8, [.int .u8 a0] => some a0
 | .u32, [.int .u32 a0] => some a0
 | .u64, [.int .u64 a0] => some a0
 | .arr5, [.int .i64 a0, .int .i64 a1, .int .i64 a2, .int .i64 a3, .int .i64 a4] => some (⟨a0, a1, a2, a3, a4⟩ : A5)
 | .arr4, [.int .i64 a0, .int .i64 a1, .int .i64 a2, .int .i64 a3] => some (⟨a0, a1, a2, a3⟩ : A4)
 | .arr3, [.int .i64 a0, .int .i64 a1, .int .i64 a2] => some (⟨a0, a1, a2⟩ : A3)
 | .spell, [.int .i64 a0, .int .i64 a1] => some (⟨a0, a1⟩ : Spell)
 | .cell, [.int .i64 a0, .int .i64 a1] => some (⟨a0, a1⟩ : Cell)
 | .goal, [.int .i64 a0, .dsl U.int a1, .int .i64 a2, .int .i64 a3, .int .i64 a4, .int .i64 a5, .bool a6, .int .i64 a7, .int .i64 a8, .int .i64 a9, .dsl U.int a10, .dsl U.goal a11] => some (⟨a0, a1, a2, a3, a4, a5, a6, a7, a8, a9, a10, a11⟩ : Goal)
 | .order, [.int .i64 a0, .int .i64 a1, .int .i64 a2, .dsl U.int a3, .int .i64 a4, .int .i64 a5, .int .i64 a6, .int .i64 a7, .bool a8, .int .i64 a9, .int .i64 a10, .int .i64 a11, .dsl U.int a12, .dsl U.goal a13, .int .i64 a14, .int .i64 a15, .bool a16, .int .i64 a17, .int .i64 a18] => some (⟨a0, a1, ⟨a2, a3, a4, a5, a6, a7, a8, a9, a10, a11, a12, a13⟩, a14, a15, a16, a17, a18⟩ : Order)
 | .event, [.int .i64 a0, .int .i64 a1, .int .i64 a2, .dsl U.int a3, .int .i64 a4, .int .i64 a5, .bool a6] => some (⟨a0, a1, a2, a3, a4, a5, a6⟩ : Event)
 | .evs, [.dsl U.event a0] => some (⟨a0⟩ : Evs)
 | _, _ => none
theorem decU_ok (u : U) (l : List (PV Cd)) (x : u.El) (h : decU u l = some x) : encU u x = l := by
 unfold decU at h
 split at h <;> first | (injection h with h; subst h; rfl) | (injection h)
def Dc : Codec Cd where
 enc := encU
 dec := decU
 dec_ok := decU_ok
 enc_len := by intro u x; cases u <;> rfl
 n_pos := by intro u; cases u <;> decide
def castU : (u u' : U) → List u'.El → Option (List u.El)
 | .int, .int, l => some l
 | .bool, .bool, l => some l
 | .str, .str, l => some l
 | .u8, .u8, l => some l
 | .u32, .u32, l => some l
 | .u64, .u64, l => some l
 | .arr5, .arr5, l => some l
 | .arr4, .arr4, l => some l
 | .arr3, .arr3, l => some l
 | .spell, .spell, l => some l
 | .cell, .cell, l => some l
 | .goal, .goal, l => some l
 | .order, .order, l => some l
 | .event, .event, l => some l
 | .evs, .evs, l => some l
 | _, _, _ => none
theorem castU_ok (u u' : U) (ys : List u'.El) (zs : List u.El) (h : castU u u' ys = some zs) : zs.map (encU u) = ys.map (encU u') ∧ u.n = u'.n := by
 unfold castU at h
 split at h <;> first | (injection h with h; subst h; exact ⟨rfl, rfl⟩) | (injection h)
def ckU : U → List CK
 | .int => [.int .i64]
 | .bool => [.bool]
 | .str => [.str]
 | .u8 => [.int .u8]
 | .u32 => [.int .u32]
 | .u64 => [.int .u64]
 | .arr5 => [.int .i64, .int .i64, .int .i64, .int .i64, .int .i64]
 | .arr4 => [.int .i64, .int .i64, .int .i64, .int .i64]
 | .arr3 => [.int .i64, .int .i64, .int .i64]
 | .spell => [.int .i64, .int .i64]
 | .cell => [.int .i64, .int .i64]
 | _ => []
theorem ckU_ok (u : U) (h : ckU u ≠ []) (x : u.El) : (encU u x).map pvCk = (ckU u).map some := by
 cases u <;> first | rfl | exact (h rfl).elim
theorem encU_inj (u : U) (h : ckU u ≠ []) (x y : u.El) (e : encU u x = encU u y) : x = y := by
 cases u <;> first | exact (h rfl).elim | (simp [encU] at e; first | exact e | (cases x; cases y; simp_all))
theorem flatMap_inj {α β : Type} (f : α → List β) (n : Nat) (hn : 0 < n) (hf : ∀ x, (f x).length = n) (hi : ∀ x y, f x = f y → x = y) : ∀ xs ys : List α, xs.flatMap f = ys.flatMap f → xs = ys
 | [], [], _ => rfl
 | [], y :: ys, h => by have := congrArg List.length h; simp [hf] at this; omega
 | x :: xs, [], h => by have := congrArg List.length h; simp [hf] at this; omega
 | x :: xs, y :: ys, h => by
  simp only [List.flatMap_cons] at h
  have h1 := List.append_inj h (by rw [hf, hf])
  rw [hi x y h1.1, flatMap_inj f n hn hf hi xs ys h1.2]
def eqU : (u u' : U) → List u.El → List u'.El → Option Bool
 | .int, .int, xs, ys => some (decide (xs = ys))
 | .bool, .bool, xs, ys => some (decide (xs = ys))
 | .str, .str, xs, ys => some (decide (xs = ys))
 | .u8, .u8, xs, ys => some (decide (xs = ys))
 | .u32, .u32, xs, ys => some (decide (xs = ys))
 | .u64, .u64, xs, ys => some (decide (xs = ys))
 | .arr5, .arr5, xs, ys => some (decide (xs = ys))
 | .arr4, .arr4, xs, ys => some (decide (xs = ys))
 | .arr3, .arr3, xs, ys => some (decide (xs = ys))
 | .spell, .spell, xs, ys => some (decide (xs = ys))
 | .cell, .cell, xs, ys => some (decide (xs = ys))
 | _, _, _, _ => none
theorem flatMap_one {α β : Type} (f : α → β) : ∀ xs : List α, (xs.flatMap fun x => [f x]) = xs.map f
 | [] => rfl
 | x :: xs => by rw [List.flatMap_cons, flatMap_one f xs]; rfl
def bytesU : (u : U) → List UInt8 → Option (List u.El)
 | .u8, l => some (l.map fun b => (b.toNat : Int))
 | _, _ => none
theorem bytesU_ok (u : U) (l : List UInt8) (xs : List u.El) (h : bytesU u l = some xs) : U.n u = 1 ∧ xs.flatMap (encU u) = l.map (fun b => PV.int .u8 b.toNat) := by
 unfold bytesU at h
 split at h
 ·injection h with h; subst h
  refine ⟨rfl, ?_⟩
  have h1 := flatMap_one (fun n : Int => (PV.int .u8 n : PV Cd)) (l.map fun b => (b.toNat : Int))
  rw [List.map_map] at h1
  exact h1
 ·cases h
def strU : (u : U) → List u.El → Option (List UInt8)
 | .u8, xs => some (xs.map fun n : Int => UInt8.ofNat n.toNat)
 | _, _ => none
theorem strU_ok (u : U) (xs : List u.El) (l : List UInt8) (h : strU u xs = some l) : U.n u = 1 ∧ ∃ ns : List Int, xs.flatMap (encU u) = ns.map (PV.int .u8) ∧ l = ns.map (fun n => UInt8.ofNat n.toNat) := by
 unfold strU at h
 split at h
 ·injection h with h; subst h
  exact ⟨rfl, _, flatMap_one (fun n : Int => (PV.int .u8 n : PV Cd)) _, rfl⟩
 ·cases h
theorem eqU_ok (u u' : U) (xs : List u.El) (ys : List u'.El) (b : Bool) (h : eqU u u' xs ys = some b) : ckU u ≠ [] ∧ ckU u' ≠ [] ∧ (b = true ↔ xs.flatMap (encU u) = ys.flatMap (encU u')) := by
 have key : ∀ (u : U) (hu : ckU u ≠ []) (xs ys : List u.El), (xs = ys ↔ xs.flatMap (encU u) = ys.flatMap (encU u)) := fun u hu xs ys =>
  ⟨fun e => by rw [e], flatMap_inj (encU u) u.n (Dc.n_pos u) (fun x => Dc.enc_len u x) (encU_inj u hu) xs ys⟩
 unfold eqU at h
 split at h
 all_goals first
  | (injection h with h; subst h; refine ⟨by decide, by decide, ?_⟩; rw [decide_eq_true_iff]; exact key _ (by decide) _ _)
  | (injection h)
def Ax : Aux Cd Dc where
 castL := castU
 castL_ok := castU_ok
 ckA := ckU
 ckA_ok := ckU_ok
 eqA := eqU
 eqA_ok := eqU_ok
 ofBytes := bytesU
 ofBytes_ok := bytesU_ok
 toBytes := strU
 toBytes_ok := strU_ok
theorem inR_i64 {n : Int} (h1 : -9223372036854775808 ≤ n) (h2 : n ≤ 9223372036854775807) : InR .i64 n := by
 show IntKind.i64.wrap n = n
 exact IntWalk.i64_in n ⟨h1, h2⟩
end Go.SX
