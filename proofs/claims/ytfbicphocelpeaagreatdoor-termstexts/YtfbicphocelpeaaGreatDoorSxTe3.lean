/-
  Walks: Te3, Pn, Kb, Ua2, Va, Ua3, Oq2, Ua4, Ua5: what single functions of the program compute.
-/
import Derived.Test.YtfbicphocelpeaaGreatDoorSxTe2
import Derived.Test.YtfbicphocelpeaaGreatDoorSxTd9
import Derived.Test.YtfbicphocelpeaaGreatDoorSxTp8
import Derived.Test.YtfbicphocelpeaaGreatDoorSxTa9
import Derived.Below
import Derived.Sort.Grow
import Derived.Test.YtfbicphocelpeaaGreatDoorSxOq0
import Derived.Test.YtfbicphocelpeaaGreatDoorSxTa1
set_option linter.unusedVariables false
set_option linter.unusedSimpArgs false
namespace Go.SX
open Go.Proofs
set_option maxHeartbeats 400000000
set_option maxRecDepth 100000
mutual
theorem Bu : ∀ (g : aI) (d n : Int), bQ g d = some n → pX g
 | ⟨kind, rows, from_, to_, low, high, clear, days, times, within, cents, kids⟩, d, n, hs => by
  have hL := sizeL_gall kids;obtain ⟨hok, hd, m, hm, rfl⟩ := iK hs;rw [dJ];refine ⟨?_, hL _ _ hm⟩;unfold okB at hok;simp only [Bool.and_eq_true] at hok;obtain ⟨⟨⟨h1, h2⟩, h3⟩, h4⟩ := hok;unfold eU at h4;simp only [Bool.and_eq_true, Bool.or_eq_true, decide_eq_true_eq] at h4;obtain ⟨⟨⟨h5, h6⟩, h7⟩, h8⟩ := h4;have hk : (kids.length : Int) ≤ 4 := by
   unfold mY at h5;split at h5
   ·simp only [decide_eq_true_eq] at h5; (try dsimp only at h5); omega
   ·split at h5
    ·rw [aK] at h5; exact h5.2
    ·simp only [decide_eq_true_eq] at h5; (try dsimp only at h5); omega
  have hc : (cents.length : Int) ≤ 4 := by
   unfold iB at h6;split at h6
   ·simp only [Bool.and_eq_true, decide_eq_true_eq] at h6; (try dsimp only at h6); omega
   ·simp only [decide_eq_true_eq] at h6; (try dsimp only at h6); omega
  have hr : (rows.length : Int) ≤ 24 := by
   rcases h7 with h7 | h7
   ·unfold vZ at h3;rw [if_pos h7] at h3;simp only [Bool.and_eq_true] at h3;have ha := h3.1.1.1.1.1;unfold bE at ha;simp only [Bool.and_eq_true, decide_eq_true_eq] at ha
    try dsimp only at ha
    omega
   ·(try dsimp only at h7); omega
  exact ⟨by dsimp only; omega, by dsimp only; omega, by dsimp only; omega⟩
theorem sizeL_gall : ∀ (l : List aI) (d n : Int), sizeL l d = some n → GAllL l
 | [], d, n, hs => by rw [GAllL]; trivial
 | k :: l, d, n, hs => by
  rw [sizeL] at hs;rw [GAllL];split at hs
  ·cases hs
  ·rename_i m hm;split at hs
   ·cases hs
   ·rename_i q hq;exact ⟨Bu k d m hm, sizeL_gall l d q hq⟩
end
theorem Q7 {g : aI} (h : cF g = true) : pX g := by
 unfold cF at h;split at h
 ·cases h
 ·rename_i n hn;exact Bu g 1 n hn
theorem q9u (xs : List A5) (ys : List A4) (hx : ∀ y ∈ xs, Ir y) (hxl : (xs.length : Int) ≤ 9223372036854775807) (hy : ∀ y ∈ ys, q79 y) (hyl : (ys.length : Int) ≤ 9223372036854775807) : aF Tryz.prog Dc 5 [.agg [a5S xs, a4S ys]] [] (.tuple [aM (mN xs), eS (qB (mN xs) ys)]) [] := by
 have h1 := q8m xs hx hxl;have h2 := q3c (mN xs) (Q7 (P5 xs)) ys hy hyl;generalize qB (mN xs) ys = l at *;generalize mN xs = g at *;refine aA Ax aD Tryz.func5 (c := _) rfl Tryz.call5 100 ?_
 (repeat' ((conv => whnf); first | refine cpC (h1) ?_ | refine dpC (h2) ?_ | refine x0C ?_ | refine taC ?_ | refine aE mixed ?_))
 all_goals exact vwV
theorem Ty {g : aI} {l : List aB} (hg : cF g = true) (hl : bM l = true) : wV g l = match bV g l with | some (p, im) => (p, im, true, 0) | none => (0, [], false, 0) := by
 unfold wV;rw [hg, hl]; rfl
end Go.SX
namespace Go.SX
open Go.RowKit
variable {C : Cod}
section
variable {P : Program} {D : aJ C} {tab : Tab C} {B : dP} {E : Env} {σ : Nat → SV C} {H : Nat → HS C} {df : List Deferred} {a : Act} {w : World} {o : Oper} {r : Option Nat}
variable {X : Ctx C} {R : kU C} {f : FuncId} {args : List (SV C)} {dst : Option Nat} {all rest : List Oper} {k : List (It C)} {T : List (SV C)} {Hp : List (HS C)} {ch : List PanicEntry}
structure q5m (P : Program) (D : aJ C) (f : FuncId) (args : List (SV C)) (H0 : List (HS C)) (ch : List PanicEntry) (H1 : List (HS C)) : Prop where
 enter : ∀ args w, (callFunc f args).run P w = .ok (.enter f args) w
 calls : ∀ w E (hm : ∀ c, H0.length ≤ c → E.β c = .fresh) vs, Sat D w E (aR H0) → DenA D w E args vs →
  CallsIn (Fc none) 0 P f vs.toArray w fun e w' => ∃ E', e = .panicked ch ∧ Sat D w' E' (aR H1) ∧ Fr ⟨w, E, fun b => ∃ c, E.β c = .loc b, H0.length, hm, [], false⟩ E' w'
def zQ (ch : List PanicEntry) (m0 : Nat) (H1 : List (HS C)) : J9 C := fun e T Hp => e = .panic ch ∧ ∃ θ, uG Hp θ H1 m0
theorem aW {m0 : Nat} {H1 : List (HS C)} (θ : List (Option Nat)) (hv : gI Hp θ θ H1) (hid : idO m0 0 θ = true := by rfl) (hnd : ndO θ = true := by rfl) : zQ ch m0 H1 (.panic ch) T Hp := ⟨rfl, θ, hv, hid, hnd⟩
theorem B7 {F : Fence} {n : Nat} {fn : Func} {R : Ending → World → Prop} (h : Rel D B E σ H df a w) (hK : ∀ w' E', Rel D B E' σ H [] { a with defers := [] } w' → R (.panicked ch) w') (hds : B.ds = [] := by rfl) : LeavesInM F n P fn a.tmps R a.defers (.panicking ch) w := by
 refine nY (by simp) h fun w' E' hR => ?_;rw [hds] at hR ⊢;exact hK w' E' hR
theorem Ou (A : Aux C D) (hT : bZ P D tab) {fn : Func} {c : Code} (hf : P.funcs[f]? = some fn) (hb : fn.body = some c) (henter : ∀ args w, (callFunc f args).run P w = .ok (.enter f args) w)
  {H0 : List (HS C)} {H1 : List (HS C)} (n : Nat)
  (h : dQ (args ++ xR (fn.ntmps - args.length)) fun T0 => cZ H0 fun Hp0 => gx P A tab ⟨none, [], H0.length, false⟩ (zQ ch H0.length H1) n [.code c] T0 Hp0) : q5m P D f args H0 ch H1 := by
 rw [bB, bH] at h;refine ⟨henter, fun w E hm vs hs hd => ?_⟩;refine callsIn_of_wp_marks hf hb trivial ?_ rfl;have hR := mX (n := fn.ntmps) (m := H0.length) (hm := hm) hs hd;have hX : vW D (⟨none, [], H0.length, false⟩ : Ctx C) (dP.here w E H0.length hm) none := ⟨rfl, fun c ri hc => by simp [lkR] at hc, trivial, rfl⟩;have := gY (r := none) (Q := bodyPostM (Fc none) 0 P fn fun e w' => ∃ E', e = .panicked ch ∧ Sat D w' E' (aR H1) ∧ Fr (dP.here w E H0.length hm) E' w') A hT hX
  (fun e a w' T Hp hΦ hRL => ?_) n _ _ _ h _ _ hR
 ·exact this
 ·obtain ⟨rfl, θ, h3⟩ := hΦ;obtain ⟨df, E1, hR1, _⟩ := hRL;refine B7 hR1 fun w2 E2 hR2 => ?_;obtain ⟨g1, g2, g3⟩ := gU hR2.sat hR2.fr h3;exact ⟨_, rfl, g2, g3⟩
theorem dH {op : Op} {vals : List (SV C)} {hs : List (Nat × HS C)} {Y : Prop} (x : Operand) (t : TypeId) (u : Value) (h1 : op = .panic x) (h2 : q93 D (evT T x) (.iface t u)) (h3 : R (.die [{ v := .iface t u, recovered := false }] :: k) T Hp) : oL op vals hs (Y ∨ q28 D X.m0 R op k T Hp ∨ Ex P D R op dst all rest k T Hp) :=
 ⟨.inr (.inl ⟨x, t, u, h1, h2, h3⟩)⟩
theorem Jd {op : Op} {vals : List (SV C)} {hs : List (Nat × HS C)} {Y : Prop} {v : SV C} (hnd : ∀ c, op ≠ .defer c) (h1 : ∀ (o : Oper) (E : Env) (a : Act) (w : World), o.op = op → (∀ x, Den D w E (evT T x) (a.eval x)) → ∃ u, (execOp a.eval o).run P w = .ok (.value u) w ∧ Den D w E v u)
  (h3 : dI T dst v fun T' => R (.ops all rest :: k) T' Hp) : oL op vals hs (Y ∨ q28 D X.m0 R op k T Hp ∨ Ex P D R op dst all rest k T Hp) :=
 ⟨.inr (.inr ⟨v, [], hnd, fun o B E df a w ho hR => by
  obtain ⟨u, h4, h5⟩ := h1 o E a w ho fun x => by rw [H3]; exact aS hR x
  exact aG hR h4 h5, h3⟩)⟩
theorem fD {vals : List (SV C)} {hs : List (Nat × HS C)} {Y : Prop} {t : TypeId} (h1 : ∀ (e : Operand → Value) (o : Oper) w, o.op = .build t #[] → (execOp e o).run P w = .ok (.value (.agg #[])) w)
  (h3 : dI T dst (.agg []) fun T' => R (.ops all rest :: k) T' Hp) : oL (.build t #[]) vals hs (Y ∨ q28 D X.m0 R (.build t #[]) k T Hp ∨ Ex P D R (.build t #[]) dst all rest k T Hp) :=
 Jd (fun c h => by cases h) (fun o E a w ho _ => ⟨.agg #[], h1 a.eval o w ho, by simp only [Den, DenC]; exact ⟨_, rfl, rfl⟩⟩) h3
theorem Ky {w : World} {E : Env} {u : Value} (h : Den D w E (.agg []) u) : u = .agg #[] := by
 simp only [Den, DenC] at h;obtain ⟨cs, e1, e2⟩ := h;have : cs = #[] := by simpa using e2
 rw [e1, this]
theorem dG {vals : List (SV C)} {hs : List (Nat × HS C)} {Y : Prop} {t : TypeId} {x : Operand} (h1 : ∀ (e : Operand → Value) (o : Oper) w, o.op = .makeInterface t x → (execOp e o).run P w = .ok (.value (.iface t (e x))) w)
    (h2 : evT T x = .agg []) (h3 : dI T dst (.p (.lit (.iface t (.agg #[])))) fun T' => R (.ops all rest :: k) T' Hp) : oL (.makeInterface t x) vals hs (Y ∨ q28 D X.m0 R (.makeInterface t x) k T Hp ∨ Ex P D R (.makeInterface t x) dst all rest k T Hp) :=
  Jd (fun c h => by cases h) (fun o E a w ho hd => ⟨.iface t (a.eval x), h1 a.eval o w ho, by
    have := hd x;rw [h2] at this;rw [Ky this];simp only [Den];exact .lit _ rfl⟩) h3
theorem Nr {vals : List (SV C)} {hs : List (Nat × HS C)} {Y : Prop} {s t : TypeId} {x : Operand} (h1 : ∀ (e : Operand → Value) (o : Oper) w, o.op = .typeAssert x s t true → e x = .iface t (.agg #[]) → (execOp e o).run P w = .ok (.value (.tuple #[.agg #[], .bool true])) w)
    (h2 : evT T x = .p (.lit (.iface t (.agg #[])))) (h3 : dI T dst (.tuple [.agg [], .p (.bool true)]) fun T' => R (.ops all rest :: k) T' Hp) : oL (.typeAssert x s t true) vals hs (Y ∨ q28 D X.m0 R (.typeAssert x s t true) k T Hp ∨ Ex P D R (.typeAssert x s t true) dst all rest k T Hp) :=
  Jd (fun c h => by cases h) (fun o E a w ho hd => ⟨_, h1 a.eval o w ho (by have := hd x; rw [h2] at this; exact cK this), by
    simp only [Den, DenA];exact ⟨_, rfl, _, _, rfl, ⟨#[], rfl, rfl⟩, _, _, rfl, cD true, rfl⟩⟩) h3
theorem Us {vals : List (SV C)} {hs : List (Nat × HS C)} {Y : Prop} {t : TypeId} (h1 : ∀ (e : Operand → Value) (o : Oper) w, o.op = .alloc t → (execOp e o).run P w = .ok (.value (.pointer (some ⟨w.heap.size, 0, none⟩))) (w.alloc (.cells #[] t)))
  (h3 : sQ Hp 0 fun m => dI T dst (.ptr m 0) fun T' => eP Hp [(m, .vart none [])] fun Hp' => R (.ops all rest :: k) T' Hp') : oL (.alloc t) vals hs (Y ∨ q28 D X.m0 R (.alloc t) k T Hp ∨ Ex P D R (.alloc t) dst all rest k T Hp) := by
 rw [eG, Nat.add_zero] at h3;exact ⟨.inr (.inr ⟨_, _, fun c h => (by cases h), fun o B E df a w ho hR => Ja hR (tL Hp) t none (fun _ h => (by cases h)) (by simp [DenC]) (h1 a.eval o w ho), h3⟩)⟩
theorem Uu {vals : List (SV C)} {hs : List (Nat × HS C)} {Y : Prop} {t : TypeId} {x y : Operand} (h1 : ∀ (e : Operand → Value) (o : Oper) w ad, o.op = .store t x y → e x = .pointer (some ad) → e y = .agg #[] → (execOp e o).run P w = .ok .skip w)
    {m : Nat} (h2 : evT T x = .ptr m 0) (h4 : aR Hp m = .vart none []) (h5 : evT T y = .agg []) (h3 : dI T dst .any fun T' => R (.ops all rest :: k) T' Hp) : oL (.store t x y) vals hs (Y ∨ q28 D X.m0 R (.store t x y) k T Hp ∨ Ex P D R (.store t x y) dst all rest k T Hp) :=
  ⟨.inr (.inr ⟨.any, [], fun c h => (by cases h), fun o B E df a w ho hR => by
    have hx := aS hR x;rw [← H3, h2] at hx;have hy := aS hR y;rw [← H3, h5] at hy;obtain ⟨b, cs, T', hb, _⟩ := Ea hR.sat h4;have e := iE hx hb;exact ⟨undef, w, E, .inr ⟨h1 a.eval o w _ ho e (Ky hy), rfl⟩, hR, by simp only [Den]⟩, h3⟩)⟩
theorem dK {x : SV C} {v : Value} (h : x = .p (.lit v)) : q93 D x v := fun w E u hd => by subst h; exact cK hd
theorem qb4 {args0 : List (SV C)} {H0 H0' H1 : List (HS C)} (ρ : List (Option Nat)) (hM : q5m P D f args0 H0 ch H1) (hargs : renL ρ args0 = some args) (hH0 : gR ρ H0 = some H0') (hat : eA (aR Hp) ρ H0')
  (h : B1 Hp ρ H0.length H1 (.tuple []) fun _ _ ws => eP Hp ws fun Hp' => R (.die ch :: k) T Hp') : kX P D X R f args dst all rest k T Hp := by
 unfold B1 at h;rw [eG, Nat.add_zero, iR] at h;unfold Wc at h;split at h
 ·rename_i hc;simp only [Bool.and_eq_true] at hc;unfold Oz at h;split at h
  ·rename_i H1' hH1;split at h
   ·dsimp only at h;rw [cS] at h;refine kX.dies ⟨hM.enter, fun B σ df a w E _ hR vs hd => ?_⟩ h;refine (D4 (Ω := fun e _ _ => e = .panicked ch) (fun w E hm vs hs hd => (hM.calls w E hm vs hs hd).mono fun e w' ⟨E', h1, h2, h3⟩ => ⟨E', h1, h2, h3⟩) ρ hargs hH0 hat _ rfl (fun k _ => qA Hp _ (by rw [← nR]; omega)) hc.1 (Nat.le_of_ble_eq_true hc.2) hH1 B σ df a w E hR vs hd).mono ?_;rintro e w' ⟨e1, E1, h1, _, _, h2⟩;exact ⟨E1, h1, by rw [eO]; exact h2⟩
   ·exact h.elim
  ·exact h.elim
 ·exact h.elim
end
end Go.SX
namespace Go.SX
open Go.RowKit
variable {C : Cod} {P : Program} {D : aJ C} {w w' : World} {E : Env}
theorem sZ {H : Nat → HS C} (hs : Sat D w E H) (hb : Below w.heap.size w w') : dW w E w' E :=
 ⟨fun b h => ⟨h, hb.block b (hs.F b h)⟩, fun _ => .inl rfl, fun _ _ _ _ cs T hcs => ⟨cs, T, Row.of (hb.block _ hcs.lt) hcs, rfl⟩⟩
theorem Sa {H : Nat → HS C} (hs : Sat D w E H) (hb : Below w.heap.size w w') : Sat D w' E H :=
 ⟨fun c => HS.ok_mono (sZ hs hb) (hs.ok c) fun b e => hb.block b (hs.own c b e).1, fun c b e => ⟨Nat.lt_of_lt_of_le (hs.own c b e).1 hb.size, (hs.own c b e).2⟩, hs.inj, fun b h => Nat.lt_of_lt_of_le (hs.F b h) hb.size, hs.glob.mono (sZ hs hb).F⟩
theorem kD {f : FuncId} {args : List (SV C)} {H0 : List (HS C)} {ret : SV C} (henter : ∀ args w, (callFunc f args).run P w = .ok (.enter f args) w)
  (h : ∀ w E vs, Sat D w E (aR H0) → DenA D w E args vs → Calls P f vs.toArray w fun e w' => ∃ v, e = .returned v ∧ Below w.heap.size w w' ∧ Den D w' E ret v) : aF P D f args H0 ret H0 := by
 refine ⟨henter, fun w E hm vs hs hd => ?_⟩;have h2 : CallsIn (Fc none) 0 P f vs.toArray w _ := callsIn_wide.2 (h w E vs hs hd);refine h2.mono ?_;rintro e w' ⟨v, rfl, hb, hv⟩;exact ⟨v, E, rfl, hv, Sa hs hb, ⟨hb.os, hb.tape, hb.output, hb.size, fun b hlt _ => hb.block b hlt, sZ hs hb, fun b hF => .inl hF, fun c b e => .inl ⟨c, e⟩⟩⟩
end Go.SX
namespace Go.SX
open Go.Proofs Go.Shelf Go.RowKit Go.Sort
set_option maxHeartbeats 400000000
set_option maxRecDepth 100000
@[reducible] def wS (l : Wd) : SV Cd := .p (.str l)
@[reducible] def wsS (l : List Wd) : SV Cd := .p (.dsl U.str l)
theorem q74 (l : Wd) (c : UInt8) : aF Tryz.prog Dc 116 [wS l, wS [c]] [] (iS (Go.Lib.countByte l c)) [] := by
 refine kD Tryz.call116 fun w E vs hs hd => ?_;simp only [DenA, Den] at hd;obtain ⟨v, v2, rfl, hv, v', v3, rfl, hv', rfl⟩ := hd;cases hv;cases hv';refine (Any.strings_Count_one Np ⟨⟨l⟩⟩ c w).mono ?_;rintro e w' ⟨rfl, rfl⟩;exact ⟨_, rfl, Below.refl _ _, .int _ _⟩
theorem q70 (l : Wd) (c : UInt8) : aF Tryz.prog Dc 117 [wS l, wS [c]] [] (iS (Go.Lib.indexByte l c)) [] := by
 refine kD Tryz.call117 fun w E vs hs hd => ?_;simp only [DenA, Den] at hd;obtain ⟨v, v2, rfl, hv, v', v3, rfl, hv', rfl⟩ := hd;cases hv;cases hv';refine (Any.strings_Index_one Nv ⟨⟨l⟩⟩ c w).mono ?_;rintro e w' ⟨rfl, rfl⟩;exact ⟨_, rfl, Below.refl _ _, .int _ _⟩
theorem q0h {w : World} {E : Env} (hg : oW Cd w E) {g : Nat} {name : String} (hn : Tryz.prog.globalNamed name = some g) (h : U.glob g ≠ []) : w.var? Tryz.prog name = some (U.glob g).toArray := by
 obtain ⟨_, ⟨cs, T, z, h2, h3⟩, _⟩ := hg.1 g h;unfold World.var?;rw [hn];simp only [Option.bind_some, h2];have h3 : cs.toList = U.glob g := h3;rw [← h3]
theorem E5 (w : World) (k : Nat) : Below w.heap.size w (w.drewN k) := ⟨rfl, rfl, rfl, Nat.le_refl _, fun _ _ => rfl⟩
theorem Oc (w : World) (os : Array Obj) : Below w.heap.size w (grow w os) :=
 ⟨rfl, rfl, rfl, by simp [grow], fun k hk => by simp only [grow]; rw [Array.getElem?_append_left hk]⟩
theorem Va (n : Int) (h : -9223372036854775808 ≤ n ∧ n ≤ 9223372036854775807) : aF Tryz.prog Dc 46 [iS n] [] (wS (bJ n)) [] := by
 refine kD Tryz.call46 fun w E vs hs hd => ?_;simp only [DenA, Den] at hd;obtain ⟨v, v2, rfl, hv, rfl⟩ := hd;cases hv;have htab : Go.Lib.TabIs Tryz.prog w "internal/strconv.uint64pow10" .u64 Go.Lib.pow10Tab := by
  unfold Go.Lib.TabIs;rw [q0h hs.glob (g := 3) (by kernel_rfl) (by decide)];exact congrArg some (by kernel_rfl)
 refine (Any.strconv_Itoa Up n h.1 h.2 w htab).mono ?_;rintro e w' ⟨rfl, k, os, rfl⟩;refine ⟨_, rfl, (E5 w k).trans ((Oc (w.drewN k) os).mono (E5 w k).size), ?_⟩;rw [q0m n h];exact .str _
def q2z (l : Wd) : Int := match Go.Lib.atoiAll l with
 | .ok n => n
 | Go.Lib.NumEnd.syntax => 0
 | .range => Go.Lib.atoiSat l
def q52 (l : Wd) : SV Cd := match Go.Lib.atoiAll l with
 | .ok _ => .p (.lit .nilIface)
 | _ => .iface 210 .any
theorem Dh {w : World} {E : Env} (hg : oW Cd w E) {g : Nat} (h : U.gifc g = true) : ∃ ev, w.cell? ⟨g, 0, none⟩ = some ev ∧ (ev = .nilIface ∨ ∃ te pe, ev = .iface te pe) := by
 obtain ⟨_, v, T, z, h1, h2⟩ := hg.2 g h;exact ⟨v, by simp [World.cell?, h1], h2⟩
theorem q9v (l : Wd) (h : l.length ≤ 281474976710656) : aF Tryz.prog Dc 81 [wS l] [] (.tuple [iS (q2z l), q52 l]) [] := by
 refine kD Tryz.call81 fun w E vs hs hd => ?_;simp only [DenA, Den] at hd;obtain ⟨v, v2, rfl, hv, rfl⟩ := hd;cases hv;unfold q2z q52;cases ha : Go.Lib.atoiAll l with
 | ok n =>
  refine (Any.strconv_Atoi_ok A7 ⟨⟨l⟩⟩ (by show l.length ≤ _; omega) n ha w).mono ?_;rintro e w' ⟨rfl, hw⟩;refine ⟨_, rfl, ?_, ?_⟩
  ·rcases hw with rfl | ⟨t, rfl⟩
   ·exact Below.refl _ _
   ·exact Go.Lib.bytesWorld_below _ _ _
  ·simp only [Den, DenA];exact ⟨_, rfl, _, _, rfl, .int _ _, _, _, rfl, .lit _ rfl, rfl⟩
 | range =>
  obtain ⟨ev, h1, h2⟩ := Dh hs.glob (g := 5) rfl;refine (Any.strconv_Atoi_range A7 ⟨⟨l⟩⟩ (by show l.length ≤ _; omega) ha ev w h1 h2).mono ?_;rintro e w' ⟨N, rfl, _, _, hb⟩;refine ⟨_, rfl, hb, ?_⟩;simp only [Den, DenA];exact ⟨_, rfl, _, _, rfl, .int _ _, _, _, rfl, ⟨_, rfl, trivial⟩, rfl⟩
 | _ =>
  obtain ⟨ev, h1, h2⟩ := Dh hs.glob (g := 4) rfl;refine (Any.strconv_Atoi_syntax A7 ⟨⟨l⟩⟩ (by show l.length ≤ _; omega) ha ev w h1 h2).mono ?_;rintro e w' ⟨N, rfl, _, _, hb⟩;refine ⟨_, rfl, hb, ?_⟩;simp only [Den, DenA];exact ⟨_, rfl, _, _, rfl, .int _ _, _, _, rfl, ⟨_, rfl, trivial⟩, rfl⟩
theorem qa4 (ws : List Wd) (hn : ws.length ≤ 140737488355328) (hl : (qG ws).length ≤ 140737488355328) : aF Tryz.prog Dc 26 [wsS ws, wS [32]] [] (wS (qG ws)) [] := by
 refine kD Tryz.call26 fun w E vs hs hd => ?_;simp only [DenA, Den] at hd;obtain ⟨v, v2, rfl, hv, v', v3, rfl, hv', rfl⟩ := hd;cases hv';cases hv with
 | dslNil _ ad cap =>
  refine (Any.strings_Join_none zY vU ad cap ⟨⟨[32]⟩⟩ w).mono ?_;rintro e w' ⟨rfl, rfl⟩;exact ⟨_, rfl, Below.refl _ _, .str _⟩
 | dsl _ _ b o cap cv hF hc hcell hden =>
  rcases Nat.eq_zero_or_pos ws.length with h0 | h0
  ·obtain rfl := List.eq_nil_of_length_eq_zero h0;refine (Any.strings_Join_none zY vU (some ⟨b, o, none⟩) cap ⟨⟨[32]⟩⟩ w).mono ?_;rintro e w' ⟨rfl, rfl⟩;exact ⟨_, rfl, Below.refl _ _, .str _⟩
  have hne : ws ≠ [] := fun e => by rw [e] at h0; exact absurd h0 (Nat.lt_irrefl _)
  have hmap : (ws.map fun l => (⟨⟨l⟩⟩ : ByteArray)).map (fun x : ByteArray => x.data.toList) = ws := by rw [List.map_map]; exact List.map_id _
  have hlen : (ws.map fun l => (⟨⟨l⟩⟩ : ByteArray)).length = ws.length := List.length_map ..;have := Any.strings_Join zY vU b o cap (ws.map fun l => (⟨⟨l⟩⟩ : ByteArray)) ⟨⟨[32]⟩⟩ w (fun j x hx => by
   rw [List.getElem?_map] at hx;cases hj : ws[j]? with
   | none => rw [hj] at hx; cases hx
   | some l =>
    rw [hj] at hx;obtain rfl := Option.some.inj hx;have h1 := hcell j l hj 0 (.str l) rfl;have h2 := hden j l hj 0 (.str l) rfl;have hcn : Cd.n U.str = 1 := rfl;rw [hcn, Nat.mul_one, Nat.add_zero] at h1;rw [h1];generalize cv j 0 = z at h2;cases h2;rfl) (hs.F b (hF hne)) (by rw [hlen]; exact hn) (by rw [hlen]; exact hc) (by rw [hmap]; exact hl)
  rw [hmap, hlen] at this;refine this.mono ?_;rintro e w' ⟨rfl, hb⟩;exact ⟨_, rfl, hb, .str _⟩
end Go.SX
namespace Go.SX
variable {C : Cod}
section
variable {Hp : List (HS C)} {θ : List (Option Nat)} {T T' : List (SV C)} {Hp' : List (HS C)} {m0 : Nat} {ret : SV C}
theorem bkW {m0 : Nat} (h1 : ViewL Hp θ T T' := by first | ((repeat' (first | exact trivial | exact rfl | refine And.intro ?_ ?_ | exact q6g | exact fzV | exact fvV | (refine slV (by first | omega | (simp; done) | (simp; omega)) rfl ?_))); done) | fail) (h2 : gI Hp θ θ Hp' := by
    first | ((repeat' (first | exact trivial | exact rfl | refine And.intro ?_ ?_ | exact ⟨_, rfl⟩ | exact q6g | (refine q5o ?_; assumption) | (refine q5o ?_; (apply Eq.symm); assumption) | exact fzV | exact fvV | (refine slV (by first | omega | (simp; done) | (simp; omega)) rfl ?_))); done) | fail) (h3 : idO m0 0 θ = true := by rfl) (h4 : ndO θ = true := by rfl) : Po m0 θ T Hp T' Hp' := ⟨h1, h2, h3, h4⟩
theorem hsW {θ l : List (Option Nat)} {m : List (HS C)} (h : gI Hp θ l m := by first | ((repeat' (first | exact trivial | exact rfl | refine And.intro ?_ ?_ | exact ⟨_, rfl⟩ | exact q6g | (refine q5o ?_; assumption) | (refine q5o ?_; (apply Eq.symm); assumption) | exact fzV | exact fvV | (refine slV (by first | omega | (simp; done) | (simp; omega)) rfl ?_))); done) | fail) : gI Hp θ l m := h
end
end Go.SX
namespace Go.SX
open Go.Proofs
set_option maxHeartbeats 400000000
set_option maxRecDepth 100000
def cX : bN → Wd
 | .n i => bJ i
 | .s l => l
def rM : bN → Prop
 | .n i => -9223372036854775808 ≤ i ∧ i ≤ 9223372036854775807
 | .s _ => True
@[reducible] def qd6 (ws : List Wd) (l : List bN) : List (HS Cd) := [.vart none [.slice 1 0 1 0 ws.length], .rows U.str ws, .rows U.anyv l]
@[reducible] def q9c (n : Nat) (ws : List Wd) (l : List bN) : List (HS Cd) := [.vart none [.slice 3 0 1 0 n], .dead, .rows U.anyv l, .rows U.str ws]
theorem q39 (l : List bN) (x : bN) (r : List bN) (hl : l = x :: r) (ws : List Wd) (hO : ∀ x ∈ l, rM x) (hn : ws.length + l.length ≤ 1000000) :
  aF Tryz.prog Dc 23 [.ptr 0 0, .slice 2 0 1 0 l.length] (qd6 ws l) (.tuple []) (q9c (ws.length + l.length) (ws ++ l.map cX) l) := by
 refine aA Ax aD Tryz.func23 (c := _) rfl Tryz.call23 200 ?_;have hlen : 0 < l.length := by rw [hl]; simp
 have hmap : (l.map cX).length = l.length := List.length_map ..;refine bP (fun i : Nat => [(10, iS i)]) (fun i => match i with
  | 0 => []
  | i + 1 => [(0, .vart none [.slice 3 0 1 0 (ws.length + (i + 1))]), (1, .dead), (3, .rows U.str (ws ++ (l.take (i + 1)).map cX))]) (fun i => i ≤ l.length) (fun i => l.length - i) 0 (Nat.zero_le _) (by exact bkI) ?_
 rintro i hi K hK;rcases Nat.lt_or_ge i l.length with hlt | hge
 ·have hx := hO _ (List.mem_of_getElem? (getD_some (d := Cd.dflt U.anyv) hlt));have ht := uE (d := Cd.dflt U.anyv) hlt;obtain ⟨a, ha⟩ : ∃ a, l.getD (i : Int).toNat (Cd.dflt U.anyv) = a := ⟨_, rfl⟩;have hs : l.getD (0 + (i : Int).toNat) (Cd.dflt U.anyv) = a := by rw [Nat.zero_add]; exact ha
  rw [show l.getD i (Cd.dflt U.anyv) = a from ha] at ht;rw [ha] at hx;have hm : (l.take (i + 1)).map cX = (l.take i).map cX ++ [cX a] := by rw [ht, List.map_append]; rfl
  have hi1 : (i : Int) + 1 = ((i + 1 : Nat) : Int) := rfl;cases i with
  | zero =>
   have hw : ∀ b : Wd, b = cX a → List.take ws.length ws ++ List.take 1 (List.drop 0 [b]) = ws ++ (l.take (0 + 1)).map cX := fun b e => by rw [hm, e]; simp
   (repeat' ((conv => whnf); first | (exfalso; omega) | refine spC (fun hb => ?_) fun hb => ?_ | refine saC ?_))
   rw [hs];cases a with
   | s w =>
    have hw1 := hw w rfl
    (repeat' ((conv => whnf); first | refine hK 1 [some 0, some 1, some 2, some 4] _ _ ⟨by omega⟩ ⟨by omega⟩ (by exact bkW) | refine saC ?_))
   | n z =>
    have h1 := Va z hx;have hw1 := hw (bJ z) rfl
    (repeat' ((conv => whnf); first | refine dpC (h1) ?_ | refine hK 1 [some 0, some 1, some 2, some 4] _ _ ⟨by omega⟩ ⟨by omega⟩ (by exact bkW) | refine taC ?_ | refine saC ?_ | refine aE mixed ?_))
  | succ i =>
   have hw : ∀ b : Wd, b = cX a → List.take (ws.length + (i + 1)) (ws ++ (l.take (i + 1)).map cX) ++ List.take 1 (List.drop 0 [b]) = ws ++ (l.take (i + 1 + 1)).map cX := fun b e => by
    rw [hm, e, List.take_of_length_le (by simp; omega)]; simp
   (repeat' ((conv => whnf); first | (exfalso; omega) | refine spC (fun hb => ?_) fun hb => ?_ | refine saC ?_))
   rw [hs];cases a with
   | s w =>
    have hw1 := hw w rfl
    (repeat' ((conv => whnf); first | refine hK (i + 2) [some 0, some 1, some 2, some 5] _ _ ⟨by omega⟩ ⟨by omega⟩ (by exact bkW) | refine saC ?_))
   | n z =>
    have h1 := Va z hx;have hw1 := hw (bJ z) rfl
    (repeat' ((conv => whnf); first | refine dpC (h1) ?_ | refine hK (i + 2) [some 0, some 1, some 2, some 5] _ _ ⟨by omega⟩ ⟨by omega⟩ (by exact bkW) | refine taC ?_ | refine saC ?_ | refine aE mixed ?_))
 ·cases i with
  | zero => omega
  | succ i =>
   have hw1 : ws ++ (l.take (i + 1)).map cX = ws ++ l.map cX := by rw [List.take_of_length_le hge]
   have hi2 : i + 1 = l.length := by omega
   (repeat' ((conv => whnf); first | (exfalso; omega) | (refine aZ [some 0, some 1, some 2, some 3] (.inl rfl) ?_ ?_ rfl rfl; (focus exact vwV); exact hsW) | refine spC (fun hb => ?_) fun hb => ?_))
@[reducible] def q8w (l : List bN) : List (HS Cd) := [.vart none [.p (.lit (.slice none 0 0))], .rows U.anyv l]
@[reducible] def qa1 (n : Nat) (ws : List Wd) (l : List bN) : List (HS Cd) := [.vart none [.slice 2 0 1 0 n], .rows U.anyv l, .rows U.str ws]
theorem qb7 (l : List bN) (x : bN) (r : List bN) (hl : l = x :: r) (hO : ∀ x ∈ l, rM x) (hn : l.length ≤ 1000000) :
  aF Tryz.prog Dc 23 [.ptr 0 0, .slice 1 0 1 0 l.length] (q8w l) (.tuple []) (qa1 l.length (l.map cX) l) := by
 refine aA Ax aD Tryz.func23 (c := _) rfl Tryz.call23 200 ?_;have hlen : 0 < l.length := by rw [hl]; simp
 have hmap : (l.map cX).length = l.length := List.length_map ..;refine bP (fun i : Nat => [(10, iS i)]) (fun i => match i with
  | 0 => []
  | i + 1 => [(0, .vart none [.slice 2 0 1 0 (i + 1)]), (2, .rows U.str ((l.take (i + 1)).map cX))]) (fun i => i ≤ l.length) (fun i => l.length - i) 0 (Nat.zero_le _) (by exact bkI) ?_
 rintro i hi K hK;rcases Nat.lt_or_ge i l.length with hlt | hge
 ·have hx := hO _ (List.mem_of_getElem? (getD_some (d := Cd.dflt U.anyv) hlt));have ht := uE (d := Cd.dflt U.anyv) hlt;obtain ⟨a, ha⟩ : ∃ a, l.getD (i : Int).toNat (Cd.dflt U.anyv) = a := ⟨_, rfl⟩;have hs : l.getD (0 + (i : Int).toNat) (Cd.dflt U.anyv) = a := by rw [Nat.zero_add]; exact ha
  rw [show l.getD i (Cd.dflt U.anyv) = a from ha] at ht;rw [ha] at hx;have hm : (l.take (i + 1)).map cX = (l.take i).map cX ++ [cX a] := by rw [ht, List.map_append]; rfl
  cases i with
  | zero =>
   have hw : ∀ b : Wd, b = cX a → List.take 1 (List.drop 0 [b]) = (l.take (0 + 1)).map cX := fun b e => by rw [hm, e]; simp
   (repeat' ((conv => whnf); first | (exfalso; omega) | refine spC (fun hb => ?_) fun hb => ?_ | refine saC ?_))
   rw [hs];cases a with
   | s w =>
    have hw1 := hw w rfl
    (repeat' ((conv => whnf); first | refine hK 1 [some 0, some 1, some 3] _ _ ⟨by omega⟩ ⟨by omega⟩ (by exact bkW) | refine saC ?_))
   | n z =>
    have h1 := Va z hx;have hw1 := hw (bJ z) rfl
    (repeat' ((conv => whnf); first | refine dpC (h1) ?_ | refine hK 1 [some 0, some 1, some 3] _ _ ⟨by omega⟩ ⟨by omega⟩ (by exact bkW) | refine taC ?_ | refine saC ?_ | refine aE mixed ?_))
  | succ i =>
   have hw : ∀ b : Wd, b = cX a → List.take (i + 1) ((l.take (i + 1)).map cX) ++ List.take 1 (List.drop 0 [b]) = (l.take (i + 1 + 1)).map cX := fun b e => by
    rw [hm, e, List.take_of_length_le (by simp; omega)]; simp
   (repeat' ((conv => whnf); first | (exfalso; omega) | refine spC (fun hb => ?_) fun hb => ?_ | refine saC ?_))
   rw [hs];cases a with
   | s w =>
    have hw1 := hw w rfl
    (repeat' ((conv => whnf); first | refine hK (i + 2) [some 0, some 1, some 4] _ _ ⟨by omega⟩ ⟨by omega⟩ (by exact bkW) | refine saC ?_))
   | n z =>
    have h1 := Va z hx;have hw1 := hw (bJ z) rfl
    (repeat' ((conv => whnf); first | refine dpC (h1) ?_ | refine hK (i + 2) [some 0, some 1, some 4] _ _ ⟨by omega⟩ ⟨by omega⟩ (by exact bkW) | refine taC ?_ | refine saC ?_ | refine aE mixed ?_))
 ·cases i with
  | zero => omega
  | succ i =>
   have hw1 : (l.take (i + 1)).map cX = l.map cX := by rw [List.take_of_length_le hge]
   have hi2 : i + 1 = l.length := by omega
   (repeat' ((conv => whnf); first | (exfalso; omega) | (refine aZ [some 0, some 1, some 2] (.inl rfl) ?_ ?_ rfl rfl; (focus exact vwV); exact hsW) | refine spC (fun hb => ?_) fun hb => ?_))
@[reducible] def q5t (ws : List Wd) : List (HS Cd) := [.vart none [.slice 1 0 1 0 ws.length], .rows U.str ws]
@[reducible] def K5 (n : Nat) (ws : List Wd) : List (HS Cd) := [.vart none [.slice 2 0 1 0 n], .dead, .rows U.str ws]
theorem q49 (b : Bool) (x y : Wd) (ws : List Wd) (hn : ws.length ≤ 900000) :
  aF Tryz.prog Dc 24 [.ptr 0 0, bS b, wS x, wS y] (q5t ws) (.tuple []) (K5 (ws.length + 1) (ws ++ [if b then x else y])) := by
 have h1 := q39 [.s x] (.s x) [] rfl ws (fun a ha => by simp at ha; subst ha; trivial) (by simp; omega);have h2 := q39 [.s y] (.s y) [] rfl ws (fun a ha => by simp at ha; subst ha; trivial) (by simp; omega);cases b with
 | true =>
  refine aA Ax aD Tryz.func24 (c := _) rfl Tryz.call24 100 ?_
  (repeat' ((conv => whnf); first | refine chC [some 0, some 1, some 2] h1 ?_ | (refine aZ [some 0, some 1, some 3] (.inl rfl) ?_ ?_ rfl rfl; (focus exact vwV); exact hsW) | refine saC ?_))
 | false =>
  refine aA Ax aD Tryz.func24 (c := _) rfl Tryz.call24 100 ?_
  (repeat' ((conv => whnf); first | refine chC [some 0, some 1, some 2] h2 ?_ | (refine aZ [some 0, some 1, some 3] (.inl rfl) ?_ ?_ rfl rfl; (focus exact vwV); exact hsW) | refine saC ?_))
@[reducible] def q7l (n : Nat) (ws : List Wd) (l : List bN) : List (HS Cd) := [.vart none [.slice 1 0 1 0 n], .rows U.str ws, .rows U.anyv l]
@[reducible] def wZ (n : Nat) (ws : List Wd) : List (HS Cd) := [.vart none [.slice 1 0 1 0 n], .rows U.str ws]
theorem Im (n : Nat) (l : List bN) (x : bN) (r : List bN) (hl : l = x :: r) (ws : List Wd) (hO : ∀ x ∈ l, rM x) (hw : n = ws.length) (hn : n + l.length ≤ 1000000) :
  aF Tryz.prog Dc 23 [.ptr 0 0, .slice 2 0 1 0 l.length] (q7l n ws l) (.tuple []) (q9c (n + l.length) (ws ++ l.map cX) l) := by
 subst hw; exact q39 l x r hl ws hO hn
theorem S6 (n : Nat) (b : Bool) (x y : Wd) (ws : List Wd) (hw : n = ws.length) (hn : n ≤ 900000) :
  aF Tryz.prog Dc 24 [.ptr 0 0, bS b, wS x, wS y] (wZ n ws) (.tuple []) (K5 (n + 1) (ws ++ [if b then x else y])) := by
 subst hw; exact q49 b x y ws hn
end Go.SX
namespace Go.SX
def bF (n : Nat) : Nat := tzF 64 n + toF 64 (n / 2 ^ tzF 64 n)
def jN (n : Nat) : Nat := n / 2 ^ bF n * 2 ^ bF n
def Dn (n : Nat) : Nat × Nat := (tzF 64 n, bF n - 1)
theorem R3 (f n : Nat) : W5 (f + 1) n = if n = 0 then [] else Dn n :: W5 f (jN n) := rfl
def bO : Nat → Nat → Nat
 | n, 0 => n
 | n, j + 1 => jN (bO n j)
theorem O7 : ∀ n j : Nat, bO (jN n) j = jN (bO n j)
 | n, 0 => rfl
 | n, j + 1 => by show jN (bO (jN n) j) = jN (jN (bO n j)); rw [O7 n j]
theorem iY : ∀ (f n : Nat), n ≠ 0 → n < 2 ^ f → n % 2 ^ tzF f n = 0 ∧ n / 2 ^ tzF f n % 2 = 1 ∧ tzF f n < f
 | 0, n, h0, h => by omega
 | f + 1, n, h0, h => by
  unfold tzF;split
  ·rename_i h1; simp; omega
  ·rename_i h1;have h2 : n / 2 < 2 ^ f := by rw [Nat.pow_succ] at h; omega
   obtain ⟨a, b, c⟩ := iY f (n / 2) (by omega) h2;have e : n / 2 ^ (1 + tzF f (n / 2)) = n / 2 / 2 ^ tzF f (n / 2) := by rw [Nat.pow_add, Nat.pow_one, Nat.div_div_eq_div_mul]
   refine ⟨?_, by rw [e]; exact b, by omega⟩;rw [Nat.pow_add, Nat.pow_one, Nat.mod_mul, a]; omega
theorem Gz {n : Nat} (h : n % 2 = 1) : 1 ≤ toF 64 n := by
 show 1 ≤ toF (63 + 1) n;unfold toF; rw [if_pos h]; omega
theorem uI {n : Nat} (h0 : n ≠ 0) (h : n < 2 ^ 64) : jN n < n := by
 obtain ⟨a, b, c⟩ := iY 64 n h0 h;have ht := Gz b;have h1 : n % 2 ^ bF n ≠ 0 := fun e => by
  have h2 : 2 ^ (tzF 64 n + 1) ∣ n := Nat.dvd_trans (Nat.pow_dvd_pow 2 (by unfold bF; omega)) (Nat.dvd_of_mod_eq_zero e);obtain ⟨q, hq⟩ := h2;have h3 : n / 2 ^ tzF 64 n = 2 * q := Nat.div_eq_of_eq_mul_right (Nat.two_pow_pos _) (by rw [← Nat.mul_assoc, ← Nat.pow_succ]; exact hq);omega
 have h4 := Nat.div_add_mod n (2 ^ bF n);have h5 : jN n = 2 ^ bF n * (n / 2 ^ bF n) := Nat.mul_comm _ _;omega
theorem Q5 : jN 0 = 0 := by unfold jN; simp
theorem qY {n : Nat} (h : n < 2 ^ 64) : ∀ j : Nat, bO n j ≤ n
 | 0 => Nat.le_refl _
 | j + 1 => by
  have := qY h j;show jN (bO n j) ≤ n
  by_cases h0 : bO n j = 0
  ·rw [h0, Q5]; omega
  ·have := uI h0 (by omega); omega
theorem Z4 : ∀ (f n j : Nat), n ≤ f → n < 2 ^ 64 → (W5 f n)[j]? = if bO n j = 0 then none else some (Dn (bO n j))
 | 0, n, j, hn, _ => by
  obtain rfl : n = 0 := by omega
  have : bO 0 j = 0 := by have := qY (n := 0) (by decide) j; omega
  rw [this]; rfl
 | f + 1, n, j, hn, h64 => by
  rw [R3]
  by_cases h0 : n = 0
  ·rw [if_pos h0];subst h0;have : bO 0 j = 0 := by have := qY (n := 0) (by decide) j; omega
   rw [this]; rfl
  ·rw [if_neg h0];cases j with
   | zero => rw [show bO n 0 = n from rfl, if_neg h0]; rfl
   | succ j =>
    have hs := uI h0 h64;rw [List.getElem?_cons_succ, Z4 f (jN n) j (by omega) (by omega), O7];rfl
def dX (n : Nat) : List (Nat × Nat) := W5 n n
theorem Eu {n j : Nat} (h : n < 2 ^ 64) (h0 : bO n j ≠ 0) : (dX n)[j]? = some (Dn (bO n j)) := by
 unfold dX; rw [Z4 n n j (Nat.le_refl _) h, if_neg h0]
theorem Rf {n j : Nat} (h : n < 2 ^ 64) (h0 : bO n j ≠ 0) : j < (dX n).length := by
 rcases Nat.lt_or_ge j (dX n).length with h1 | h1
 ·exact h1
 ·have := Eu h h0;rw [List.getElem?_eq_none h1] at this; cases this
theorem Fm {n j : Nat} (h : n < 2 ^ 64) (h0 : bO n j = 0) : (dX n).length ≤ j := by
 rcases Nat.lt_or_ge j (dX n).length with h1 | h1
 ·have := Z4 n n j (Nat.le_refl _) h;rw [if_pos h0] at this;have h2 : (dX n)[j]? = none := this;rw [List.getElem?_eq_none_iff] at h2; omega
 ·exact h1
theorem Mr {n j : Nat} (h : n < 2 ^ 64) (h0 : bO n j ≠ 0) : (dX n).take (j + 1) = (dX n).take j ++ [Dn (bO n j)] := by
 rw [List.take_add_one, Eu h h0]; rfl
theorem P9 (y : Nat) : ∀ (l : List Int) (r : Int), gQ y (l ++ [r]) = gQ y l ++ (dX r.toNat).flatMap (M1 (y + l.length))
 | [], r => by simp [gQ, dX]
 | a :: l, r => by
  simp only [List.cons_append, gQ, P9 (y + 1) l r, List.append_assoc, List.length_cons];rw [show y + 1 + l.length = y + (l.length + 1) by omega]
theorem P6 {n : Nat} (h : n < 2 ^ 64) : IntKind.u64.wrap (n : Int) = n := by
 simp only [IntKind.wrap, IntKind.signed, IntKind.bits];simp;omega
theorem q56 {n : Nat} (h0 : n ≠ 0) (h : n < 2 ^ 64) : n &&& (2 ^ 64 - n) = 2 ^ tzF 64 n := by
 obtain ⟨a, b, c⟩ := iY 64 n h0 h;generalize tzF 64 n = k at *;obtain ⟨m, hm⟩ := Nat.dvd_of_mod_eq_zero a;have hm2 : n / 2 ^ k = m := by rw [hm, Nat.mul_div_cancel_left _ (Nat.two_pow_pos _)]
 rw [hm2] at b;obtain ⟨j, rfl⟩ : ∃ j, m = 2 * j + 1 := ⟨m / 2, by omega⟩;refine Nat.eq_of_testBit_eq fun i => ?_;rw [Nat.testBit_and, show 2 ^ 64 - n = 2 ^ 64 - ((n - 1) + 1) by omega, Nat.testBit_two_pow_sub_succ (by omega), Nat.testBit_two_pow];have hn1 : n - 1 = 2 ^ k * (2 * j) + (2 ^ k - 1) := by rw [hm, Nat.mul_add]; have := Nat.two_pow_pos k; omega
 rcases Nat.lt_trichotomy i k with hi | hi | hi
 ·have e1 : n.testBit i = false := by
   rw [hm, Nat.testBit_two_pow_mul]; simp; omega
  rw [e1]; simp; omega
 ·subst hi;have e1 : n.testBit i = true := by
   rw [hm, Nat.testBit_two_pow_mul]; simp
  have e2 : (n - 1).testBit i = false := by
   rw [Nat.testBit_eq_decide_div_mod_eq, hn1];have : (2 ^ i * (2 * j) + (2 ^ i - 1)) / 2 ^ i = 2 * j := by
    rw [Nat.add_comm, Nat.add_mul_div_left _ _ (Nat.two_pow_pos i), Nat.div_eq_of_lt (by have := Nat.two_pow_pos i; omega)]; omega
   rw [this]; simp
  rw [e1, e2]; simp; omega
 ·have e1 : (n - 1).testBit i = n.testBit i := by
   obtain ⟨t, rfl⟩ : ∃ t, i = (k + 1) + t := ⟨i - (k + 1), by omega⟩;have d1 : n / 2 ^ (k + 1) = j := by
    rw [hm, Nat.pow_succ, ← Nat.div_div_eq_div_mul, Nat.mul_div_cancel_left _ (Nat.two_pow_pos _)]; omega
   have d2 : (n - 1) / 2 ^ (k + 1) = j := by
    have h5 : n - 1 = 2 ^ (k + 1) * j + (2 ^ k - 1) := by rw [hn1, Nat.pow_succ, Nat.mul_assoc]
    have h6 : 2 ^ (k + 1) = 2 * 2 ^ k := by rw [Nat.pow_succ, Nat.mul_comm]
    have h7 := Nat.two_pow_pos k;rw [h5, Nat.add_comm, Nat.add_mul_div_left _ _ (Nat.two_pow_pos (k + 1)), Nat.div_eq_of_lt (by omega), Nat.zero_add]
   rw [Nat.add_comm (k + 1) t, ← Nat.testBit_div_two_pow, ← Nat.testBit_div_two_pow, d1, d2]
  rw [e1];cases n.testBit i <;> simp <;> omega
theorem Z3 : ∀ (f m : Nat), m % 2 ^ toF f m = 2 ^ toF f m - 1
 | 0, m => by simp [toF, Nat.mod_one]
 | f + 1, m => by
  unfold toF;split
  ·rename_i h1;have ih := Z3 f (m / 2);have hp := Nat.two_pow_pos (toF f (m / 2));rw [Nat.add_comm 1, Nat.pow_succ, Nat.mul_comm _ 2, Nat.mod_mul, ih]; omega
  ·simp [Nat.mod_one]
theorem Rh : ∀ (f m : Nat), m < 2 ^ f → tzF f (2 ^ f - 1 - m) = toF f m
 | 0, m, h => rfl
 | f + 1, m, h => by
  have hp := Nat.two_pow_pos f;have e : 2 ^ (f + 1) = 2 * 2 ^ f := by rw [Nat.pow_succ, Nat.mul_comm]
  unfold tzF toF
  by_cases h1 : m % 2 = 1
  ·rw [if_pos h1, if_neg (by omega), show (2 ^ (f + 1) - 1 - m) / 2 = 2 ^ f - 1 - m / 2 by omega, Rh f (m / 2) (by omega)]
  ·rw [if_neg h1, if_pos (by omega)]
theorem uF {n : Nat} (h0 : n ≠ 0) (h : n < 2 ^ 48) : tzF 64 n < bF n ∧ bF n ≤ 48 := by
 obtain ⟨a, b, c⟩ := iY 64 n h0 (by omega);have ht := Gz b;have h2 := Z3 64 (n / 2 ^ tzF 64 n);refine ⟨by unfold bF; omega, ?_⟩;have h3 : 2 ^ toF 64 (n / 2 ^ tzF 64 n) - 1 ≤ n / 2 ^ tzF 64 n := by rw [← h2]; exact Nat.mod_le _ _
 have h4 : 2 ^ (toF 64 (n / 2 ^ tzF 64 n) - 1) ≤ n / 2 ^ tzF 64 n := by
  obtain ⟨t, ht'⟩ : ∃ t, toF 64 (n / 2 ^ tzF 64 n) = t + 1 := ⟨toF 64 (n / 2 ^ tzF 64 n) - 1, by omega⟩;rw [ht', Nat.pow_succ] at h3;rw [ht', Nat.add_sub_cancel];have := Nat.two_pow_pos t;omega
 have h5 : 2 ^ (toF 64 (n / 2 ^ tzF 64 n) - 1) * 2 ^ tzF 64 n ≤ n := Nat.le_trans (Nat.mul_le_mul_right _ h4) (Nat.div_mul_le_self _ _);rw [← Nat.pow_add] at h5;have h6 : 2 ^ (toF 64 (n / 2 ^ tzF 64 n) - 1 + tzF 64 n) < 2 ^ 48 := Nat.lt_of_le_of_lt h5 h;have h7 := (Nat.pow_lt_pow_iff_right (a := 2) (by omega)).1 h6;unfold bF;omega
theorem Pb {n : Nat} (h0 : n ≠ 0) (h : n < 2 ^ 64) : n &&& (2 ^ 64 - 1 - (2 ^ (bF n - tzF 64 n) - 1) * 2 ^ tzF 64 n) = jN n := by
 obtain ⟨a, b, c⟩ := iY 64 n h0 h;have ht := Gz b;have hlt : tzF 64 n < bF n := by unfold bF; omega
 unfold jN;generalize bF n = e at *;generalize tzF 64 n = k at *;refine Nat.eq_of_testBit_eq fun i => ?_;have hm : ((2 ^ (e - k) - 1) * 2 ^ k).testBit i = (decide (k ≤ i) && decide (i < e)) := by
  rw [Nat.mul_comm, Nat.testBit_two_pow_mul, Nat.testBit_two_pow_sub_one]
  by_cases h1 : k ≤ i
  ·simp [h1]; omega
  ·simp [h1]
 have hbit : n.testBit i = true → k ≤ i ∧ i < 64 := fun hb => by
  refine ⟨?_, ?_⟩
  ·rcases Nat.lt_or_ge i k with h1 | h1
   ·exfalso;obtain ⟨q, hq⟩ := Nat.dvd_of_mod_eq_zero a;rw [hq, Nat.testBit_two_pow_mul] at hb;simp at hb; omega
   ·exact h1
  ·rcases Nat.lt_or_ge i 64 with h1 | h1
   ·exact h1
   ·rw [Nat.testBit_lt_two_pow (Nat.lt_of_lt_of_le h (Nat.pow_le_pow_right (by omega) h1))] at hb; cases hb
 rw [Nat.testBit_and, Nat.mul_comm (n / 2 ^ e), Nat.testBit_two_pow_mul]
 by_cases hb : n.testBit i = true
 ·obtain ⟨h1, h2⟩ := hbit hb;have hr : e ≤ i → (n / 2 ^ e).testBit (i - e) = true := fun h3 => by rw [Nat.testBit_div_two_pow, Nat.sub_add_cancel h3]; exact hb
  rcases Nat.lt_or_ge ((2 ^ (e - k) - 1) * 2 ^ k) (2 ^ 64) with h4 | h4
  ·rw [show 2 ^ 64 - 1 - (2 ^ (e - k) - 1) * 2 ^ k = 2 ^ 64 - ((2 ^ (e - k) - 1) * 2 ^ k + 1) by omega, Nat.testBit_two_pow_sub_succ h4, hm, hb]
   by_cases h3 : e ≤ i
   ·simp [h1, h2, h3, hr h3]
   ·simp [h1, h2, h3]; omega
  ·rw [show 2 ^ 64 - 1 - (2 ^ (e - k) - 1) * 2 ^ k = 0 by omega]
   by_cases h3 : e ≤ i
   ·exfalso;have h5 : (2 ^ (e - k) - 1) * 2 ^ k < 2 ^ e := by
     have : 2 ^ (e - k) * 2 ^ k = 2 ^ e := by rw [← Nat.pow_add, Nat.sub_add_cancel (by omega)]
     have h6 := Nat.two_pow_pos k;have h7 := Nat.two_pow_pos (e - k);have h9 := Nat.two_pow_pos e;rw [Nat.sub_mul, this]; omega
    have h8 : 2 ^ e ≤ 2 ^ 64 := Nat.pow_le_pow_right (by omega) (by omega);omega
   ·simp [h3]
 ·have hb : n.testBit i = false := by simpa using hb
  rw [hb, Bool.false_and]
  by_cases h3 : e ≤ i
  ·have : (n / 2 ^ e).testBit (i - e) = false := by rw [Nat.testBit_div_two_pow, Nat.sub_add_cancel h3]; exact hb
   rw [this]; simp
  ·simp [h3]
theorem xK : ∀ (y : Nat) (a b : List Int), gQ y (a ++ b) = gQ y a ++ gQ (y + a.length) b
 | y, [], b => by simp [gQ]
 | y, x :: a, b => by
  simp only [List.cons_append, gQ, xK (y + 1) a b, List.append_assoc, List.length_cons];rw [show y + 1 + a.length = y + (a.length + 1) by omega]
theorem rP (rows : List Int) (i : Nat) : (gQ 0 (rows.take i)).length ≤ (gQ 0 rows).length := by
 have : gQ 0 rows = gQ 0 (rows.take i) ++ gQ (0 + (rows.take i).length) (rows.drop i) := by rw [← xK, List.take_append_drop]
 rw [this]; simp
theorem U2 {α β : Type} (f : α → List β) (l : List α) (j : Nat) : ((l.take j).flatMap f).length ≤ (l.flatMap f).length := by
 have : l.flatMap f = (l.take j).flatMap f ++ (l.drop j).flatMap f := by rw [← List.flatMap_append, List.take_append_drop]
 rw [this]; simp
end Go.SX
namespace Go.SX
open Go.Proofs
set_option maxHeartbeats 400000000
set_option maxRecDepth 100000
theorem qL {n : Nat} (h : n < 2 ^ 64) : (BitVec.ofInt 64 (n : Int)).toNat = n := by simp; omega
theorem q6j : ∀ k : Fin 64, J7 tzL (0 + (cQ .u64 (IntKind.u64.wrap (((2 ^ k.val : Nat) : Int) * 285870213051353865)) 58).toNat) = k.val := by decide +kernel
theorem q42 {n : Nat} (h0 : n ≠ 0) (h : n < 2 ^ 64) : tzN (n : Int) = (tzF 64 n : Nat) := by
 unfold tzN tzI;rw [if_neg (by omega)];have h1 : IntKind.u64.wrap (0 - (n : Int)) = ((2 ^ 64 - n : Nat) : Int) := by
  simp only [IntKind.wrap, IntKind.signed, IntKind.bits];simp;omega
 have h2 : cE .and .u64 (n : Int) (IntKind.u64.wrap (0 - (n : Int))) = ((2 ^ tzF 64 n : Nat) : Int) := by
  rw [h1];unfold cE;rw [show IntKind.u64.bits = 64 from rfl];have : ((BitVec.ofInt 64 (n : Int) &&& BitVec.ofInt 64 ((2 ^ 64 - n : Nat) : Int)).toNat : Int) = ((2 ^ tzF 64 n : Nat) : Int) := by
   rw [BitVec.toNat_and, qL h, qL (by omega), q56 h0 h]
  simp only [this];refine P6 ?_;exact Nat.pow_lt_pow_right (by omega) (iY 64 n h0 h).2.2
 rw [h2];exact q6j ⟨tzF 64 n, (iY 64 n h0 h).2.2⟩
theorem ktz (n : Nat) (h0 : n ≠ 0) (h : n < 2 ^ 64) : aF Tryz.prog Dc 76 [.p (.int .u64 n)] [] (iS (tzF 64 n : Nat)) [] := by
 have := tz (n : Int);rw [q42 h0 h] at this;exact this
theorem q5a {n k : Nat} (h : k ≤ 64) : cQ .u64 (n : Int) (k : Int) = ((n / 2 ^ k : Nat) : Int) := by
 unfold cQ;rw [show min (k : Int).toNat IntKind.u64.bits = k by simp [IntKind.bits]; omega, Int.fdiv_eq_ediv_of_nonneg _ (Int.le_of_lt (Int.pow_pos (by omega)))];simp
theorem q3r {m : Nat} (h : m < 2 ^ 64) : cE .xor .u64 (if IntKind.u64.signed then -1 else IntKind.u64.max) (m : Int) = ((2 ^ 64 - 1 - m : Nat) : Int) := by
 unfold cE;rw [show IntKind.u64.bits = 64 from rfl, show (if IntKind.u64.signed = true then (-1 : Int) else IntKind.u64.max) = ((2 ^ 64 - 1 : Nat) : Int) from rfl];have : ((BitVec.ofInt 64 ((2 ^ 64 - 1 : Nat) : Int) ^^^ BitVec.ofInt 64 (m : Int)).toNat : Int) = ((2 ^ 64 - 1 - m : Nat) : Int) := by
  rw [BitVec.toNat_xor, qL h, qL (by omega)];refine congrArg _ (Nat.eq_of_testBit_eq fun i => ?_);rw [Nat.testBit_xor, Nat.testBit_two_pow_sub_one, show 2 ^ 64 - 1 - m = 2 ^ 64 - (m + 1) by omega, Nat.testBit_two_pow_sub_succ h]
  by_cases h1 : i < 64
  ·simp [h1]
  ·rw [Nat.testBit_lt_two_pow (Nat.lt_of_lt_of_le h (Nat.pow_le_pow_right (by omega) (by omega)))]; simp [h1]
 simp only [this];exact P6 (by omega)
theorem qc6 (n : Nat) (h0 : n ≠ 0) (h : n < 2 ^ 48) : aF Tryz.prog Dc 76 [.p (.int .u64 (cE .xor .u64 (if IntKind.u64.signed then -1 else IntKind.u64.max) (cQ .u64 (n : Int) ((tzF 64 n : Nat) : Int))))] [] (iS ((bF n - tzF 64 n : Nat) : Int)) [] := by
 obtain ⟨a, b, c⟩ := iY 64 n h0 (by omega);have hle : n / 2 ^ tzF 64 n ≤ n := Nat.div_le_self _ _;rw [q5a (by omega), q3r (by omega), show bF n - tzF 64 n = toF 64 (n / 2 ^ tzF 64 n) by unfold bF; omega, ← Rh 64 (n / 2 ^ tzF 64 n) (by omega)];clear a;generalize n / 2 ^ tzF 64 n = m at *;exact ktz (2 ^ 64 - 1 - m) (by omega) (by omega)
theorem Su {n k : Nat} (h : k ≤ 64) (h2 : n * 2 ^ k < 2 ^ 64) : gX .u64 (n : Int) (k : Int) = ((n * 2 ^ k : Nat) : Int) := by
 unfold gX;rw [show min (k : Int).toNat IntKind.u64.bits = k by simp [IntKind.bits]; omega];rw [← P6 h2]; simp
theorem Ra {n : Nat} (h0 : n ≠ 0) (h : n < 2 ^ 48) : cE .andNot .u64 (n : Int) (gX .u64 (IntKind.u64.wrap (gX .u64 1 ((bF n - tzF 64 n : Nat) : Int) - 1)) ((tzF 64 n : Nat) : Int)) = ((jN n : Nat) : Int) := by
 obtain ⟨e1, e2⟩ := uF h0 h;have h64 : n < 2 ^ 64 := by omega
 have hp : 2 ^ (bF n - tzF 64 n) * 2 ^ tzF 64 n ≤ 2 ^ 48 := by
  rw [← Nat.pow_add, Nat.sub_add_cancel (by omega)]; exact Nat.pow_le_pow_right (by omega) e2
 have hq : 2 ^ (bF n - tzF 64 n) ≤ 2 ^ 48 := Nat.pow_le_pow_right (by omega) (by omega);have q1 := Nat.two_pow_pos (bF n - tzF 64 n);have q2 := Nat.two_pow_pos (tzF 64 n);have s1 : gX .u64 1 ((bF n - tzF 64 n : Nat) : Int) = ((2 ^ (bF n - tzF 64 n) : Nat) : Int) := by
  have := Su (n := 1) (k := bF n - tzF 64 n) (by omega) (by omega);rw [Nat.one_mul] at this;exact this
 have s2 : IntKind.u64.wrap (((2 ^ (bF n - tzF 64 n) : Nat) : Int) - 1) = ((2 ^ (bF n - tzF 64 n) - 1 : Nat) : Int) := by
  rw [show ((2 ^ (bF n - tzF 64 n) : Nat) : Int) - 1 = ((2 ^ (bF n - tzF 64 n) - 1 : Nat) : Int) by omega];exact P6 (by omega)
 have hm : (2 ^ (bF n - tzF 64 n) - 1) * 2 ^ tzF 64 n < 2 ^ 64 := by rw [Nat.sub_mul]; omega
 rw [s1, s2, Su (by omega) hm, ← Pb h0 h64];unfold cE;rw [show IntKind.u64.bits = 64 from rfl];generalize (2 ^ (bF n - tzF 64 n) - 1) * 2 ^ tzF 64 n = M at *;have : ((BitVec.ofInt 64 (n : Int) &&& ~~~BitVec.ofInt 64 (M : Int)).toNat : Int) = ((n &&& (2 ^ 64 - 1 - M) : Nat) : Int) := by
  rw [BitVec.toNat_and, qL h64, BitVec.toNat_not, qL hm]
 simp only [this];exact P6 (Nat.lt_of_le_of_lt Nat.and_le_left h64)
def cY (ws : List Wd) (rows : List Int) (i : Nat) : List Wd := ws ++ [uK] ++ gQ 0 (rows.take i)
theorem qc4 (g : aI) (hk : g.kind = 1) (hG : Lx g) (hr : bE g.rows = true) (ws : List Wd) (hn : ws.length + (xV g).length ≤ 100000)
  (hbd : ∀ n ∈ [g.from_, g.to_, g.low, g.high], -9223372036854775808 ≤ n ∧ n ≤ 9223372036854775807) :
  aF Tryz.prog Dc 25 [.ptr 0 0, aM g] (q5t ws) (.tuple []) (K5 (ws.length + (xV g).length) (ws ++ xV g)) := by
 have hl := lA hr;have p1 := q39 [.s uK] (.s uK) [] rfl ws (fun a ha => by simp at ha; subst ha; trivial) (by simp; omega);refine aA Ax aD Tryz.func25 (c := _) rfl Tryz.call25 600 ?_
 (repeat' ((conv => whnf); first | (exfalso; omega) | refine chC [some 0, some 1, some 4] p1 ?_ | refine spC (fun hb => ?_) fun hb => ?_ | refine saC ?_))
 have w0 : ws ++ List.map cX [bN.s uK] = cY ws g.rows 0 := by simp [cY, cX, gQ]
 have w0l : (cY ws g.rows 0).length = ws.length + 1 := by rw [← w0]; simp
 refine bP (fun i : Nat => [(65, iS i)]) (fun i => [(0, .vart none [.slice 5 0 1 0 (cY ws g.rows i).length]), (5, .rows U.str (cY ws g.rows i))]) (fun i => i ≤ 24) (fun i => 24 - i) 0 (Nat.zero_le _) (by exact bkW) ?_;intro i hi K hK;rcases Nat.lt_or_ge i 24 with hlt | hge
 ·have hg := getD_some (d := Cd.dflt U.int) (show i < g.rows.length by omega);have hrow : pW (g.rows.getD (i : Int).toNat (Cd.dflt U.int)) = true := by
   simp only [bE, Bool.and_eq_true] at hr;exact List.all_eq_true.1 hr.2 _ (List.mem_of_getElem? hg)
  have h3 := (aK _ _ _).1 hrow;obtain ⟨r, hrr⟩ : ∃ r : Nat, g.rows.getD (i : Int).toNat (Cd.dflt U.int) = (r : Int) := ⟨(g.rows.getD (i : Int).toNat (Cd.dflt U.int)).toNat, by omega⟩;rw [hrr] at h3;have hr48 : r < 2 ^ 48 := by omega
  have hwr : IntKind.u64.wrap (g.rows.getD (i : Int).toNat (Cd.dflt U.int)) = ((bO r 0 : Nat) : Int) := by rw [hrr, P6 (by omega)]; rfl
  (repeat' ((conv => whnf); first | (exfalso; omega) | (refine Uv Ax aD Tryz.func47 (c := _) rfl Tryz.call47 60 ?_) | (refine Jn Ax aD rfl Tryz.func75 (c := _) rfl Tryz.call75 rfl rfl 300 ?_) | refine spC (fun hb => ?_) fun hb => ?_ | refine saC ?_))
  intro gn tmps bd
  (repeat' ((conv => whnf); first | fail))
  refine bP (fun j : Nat => [(3, .p (.int .u64 (bO r j : Nat)))]) (fun j => match j with
   | 0 => []
   | j + 1 => [(0, .vart none [.slice 9 0 1 0 (cY ws g.rows i ++ ((dX r).take (j + 1)).flatMap (M1 i)).length]), (5, .dead), (9, .rows U.str (cY ws g.rows i ++ ((dX r).take (j + 1)).flatMap (M1 i)))]) (fun j => j ≤ (dX r).length) (fun j => bO r j) 0 (Nat.zero_le _) (by (rw [hwr]; exact bkW)) ?_
  intro j hj K' hK';have hnext : cY ws g.rows (i + 1) = cY ws g.rows i ++ (dX r).flatMap (M1 i) := by
   unfold cY;rw [uE (d := Cd.dflt U.int) (show i < g.rows.length by omega), show g.rows.getD i (Cd.dflt U.int) = (r : Int) from hrr, P9, List.length_take, Nat.zero_add, Nat.min_eq_left (by omega), Int.toNat_natCast];simp [List.append_assoc]
  have hsz : (cY ws g.rows i).length + ((dX r).flatMap (M1 i)).length ≤ 100000 := by
   have h1 := rP g.rows (i + 1);have h2 : (cY ws g.rows (i + 1)).length = (cY ws g.rows i).length + ((dX r).flatMap (M1 i)).length := by rw [hnext]; simp
   rw [← h2];unfold cY xV at *;simp only [List.length_append, List.length_cons, List.length_nil] at *;omega
  by_cases h0 : bO r j = 0
  ·have he := Fm (by omega) h0;have hall : (dX r).take j = dX r := List.take_of_length_le he;cases j with
   | zero =>
    have hnil : cY ws g.rows i = cY ws g.rows (i + 1) := by
     rw [hnext, List.eq_nil_of_length_eq_zero (by omega : (dX r).length = 0)]; simp
    have hz : ((bO r 0 : Nat) : Int) = 0 := by rw [h0]; rfl
    rw [hnil] at *
    (repeat' ((conv => whnf); first | (exfalso; omega) | refine hK (i + 1) [some 0, some 1, some 2, some 3, some 4, some 5] _ _ ⟨by omega⟩ ⟨by omega⟩ (by exact bkW) | refine spC (fun hb => ?_) fun hb => ?_ | refine saC ?_))
   | succ j =>
    have hV : cY ws g.rows i ++ ((dX r).take (j + 1)).flatMap (M1 i) = cY ws g.rows (i + 1) := by rw [hall, ← hnext]
    have hVl := congrArg List.length hV;have hz : ((bO r (j + 1) : Nat) : Int) = 0 := by rw [h0]; rfl
    (repeat' ((conv => whnf); first | (exfalso; omega) | refine hK (i + 1) [some 0, some 1, some 2, some 3, some 4, some 9] _ _ ⟨by omega⟩ ⟨by omega⟩ (by exact bkW) | refine spC (fun hb => ?_) fun hb => ?_ | refine saC ?_))
  ·have hjle := qY (n := r) (by omega) j;have hk1 := ktz (bO r j) h0 (by omega);have hk2 := qc6 (bO r j) h0 (by omega);have hst := Ra (n := bO r j) h0 (by omega);obtain ⟨hl1, hl2⟩ := uF (n := bO r j) h0 (by omega);have hdec := uI (n := bO r j) h0 (by omega);have hlenj := Rf (n := r) (j := j) (by omega) h0;have htk := Mr (n := r) (j := j) (by omega) h0;have hst' : cE .andNot .u64 ((bO r j : Nat) : Int) (gX .u64 (IntKind.u64.wrap (gX .u64 1 ((bF (bO r j) - tzF 64 (bO r j) : Nat) : Int) - 1)) ((tzF 64 (bO r j) : Nat) : Int)) = ((bO r (j + 1) : Nat) : Int) := hst;have hne : ¬ ((bO r j : Nat) : Int) = 0 := by omega
   have hdec2 : bO r (j + 1) < bO r j := hdec;generalize hM : (bF (bO r j) - tzF 64 (bO r j) : Nat) = M at *;have hW : List.map cX [.s Nw, .n (i : Int), .n ((tzF 64 (bO r j) : Nat) : Int), .n (((tzF 64 (bO r j) : Nat) : Int) + (M : Int) - 1)] = M1 i (Dn (bO r j)) := by
    simp only [List.map, cX, M1, Dn];rw [show ((tzF 64 (bO r j) : Nat) : Int) + (M : Int) - 1 = ((bF (bO r j) - 1 : Nat) : Int) by omega]
   have hO : ∀ x ∈ [bN.s Nw, .n (i : Int), .n ((tzF 64 (bO r j) : Nat) : Int), .n (((tzF 64 (bO r j) : Nat) : Int) + (M : Int) - 1)], rM x := fun x hx => by
    simp at hx; rcases hx with rfl | rfl | rfl | rfl <;> simp only [rM] <;> omega
   have hsj := U2 (M1 i) (dX r) j;cases j with
   | zero =>
    have p2 := q39 _ _ _ rfl (cY ws g.rows i) hO (by simp; omega);have hV : cY ws g.rows i ++ List.map cX [.s Nw, .n (i : Int), .n ((tzF 64 (bO r 0) : Nat) : Int), .n (((tzF 64 (bO r 0) : Nat) : Int) + (M : Int) - 1)] = cY ws g.rows i ++ ((dX r).take (0 + 1)).flatMap (M1 i) := by
     rw [hW, htk]; simp
    have hVl := congrArg List.length hV;rw [List.length_append, List.length_map] at hVl;have hst0 : cE .andNot .u64 ((bO r 0 : Nat) : Int) (gX .u64 (IntKind.u64.wrap (gX .u64 1 (M : Int) - 1)) ((tzF 64 (bO r 0) : Nat) : Int)) = ((bO r 1 : Nat) : Int) := hst';have hdec1 : bO r 1 < bO r 0 := hdec2
    (repeat' ((conv => whnf); first | (exfalso; omega) | refine cpC (hk1) ?_ | refine cpC (hk2) ?_ | (refine V4 Ax aD rfl rfl rfl 200 200 ?_) | refine chC [some 0, some 5, some 9] p2 ?_ | refine hK' 1 [some 0, some 1, some 2, some 3, some 4, some 5, some 6, some 7, some 8, some 10] _ _ ⟨by omega⟩ ⟨by omega⟩ (by exact bkW) | refine spC (fun hb => ?_) fun hb => ?_ | refine saC ?_))
   | succ j =>
    have p2 := q39 _ _ _ rfl (cY ws g.rows i ++ ((dX r).take (j + 1)).flatMap (M1 i)) hO (by rw [List.length_append]; simp only [List.length_cons, List.length_nil]; omega);have hV : (cY ws g.rows i ++ ((dX r).take (j + 1)).flatMap (M1 i)) ++ List.map cX [.s Nw, .n (i : Int), .n ((tzF 64 (bO r (j + 1)) : Nat) : Int), .n (((tzF 64 (bO r (j + 1)) : Nat) : Int) + (M : Int) - 1)] = cY ws g.rows i ++ ((dX r).take (j + 1 + 1)).flatMap (M1 i) := by
     rw [hW, htk]; simp [List.append_assoc]
    have hVl := congrArg List.length hV;rw [List.length_append, List.length_map] at hVl
    (repeat' ((conv => whnf); first | (exfalso; omega) | refine cpC (hk1) ?_ | refine cpC (hk2) ?_ | (refine V4 Ax aD rfl rfl rfl 200 200 ?_) | refine chC [some 0, some 9, some 10] p2 ?_ | refine hK' (j + 2) [some 0, some 1, some 2, some 3, some 4, some 5, some 6, some 7, some 8, some 11] _ _ ⟨by omega⟩ ⟨by omega⟩ (by exact bkW) | refine spC (fun hb => ?_) fun hb => ?_ | refine saC ?_))
 ·have hV : cY ws g.rows i = ws ++ [uK] ++ gQ 0 g.rows := by unfold cY; rw [List.take_of_length_le (by omega)]
  have hsz := rP g.rows i;have hO : ∀ x ∈ [bN.s gM, .n g.from_, .s Cn, .n g.to_, .s X6, .n g.low, .s Cn, .n g.high], rM x := fun x hx => by
   have b1 := hbd g.from_ (by simp);have b2 := hbd g.to_ (by simp);have b3 := hbd g.low (by simp);have b4 := hbd g.high (by simp);simp at hx; rcases hx with rfl | rfl | rfl | rfl | rfl | rfl | rfl | rfl <;> simp only [rM] <;> omega
  have p3 := q39 _ _ _ rfl (cY ws g.rows i) hO (by rw [hV]; simp [xV] at *; omega);have p4 := S6 ((cY ws g.rows i).length + [bN.s gM, .n g.from_, .s Cn, .n g.to_, .s X6, .n g.low, .s Cn, .n g.high].length) g.clear wF mZ (cY ws g.rows i ++ List.map cX [bN.s gM, .n g.from_, .s Cn, .n g.to_, .s X6, .n g.low, .s Cn, .n g.high]) (by rw [List.length_append, List.length_map]) (by rw [hV]; simp [xV] at *; omega);have hF : (cY ws g.rows i ++ List.map cX [bN.s gM, .n g.from_, .s Cn, .n g.to_, .s X6, .n g.low, .s Cn, .n g.high]) ++ [if g.clear then wF else mZ] = ws ++ xV g := by
   rw [hV]; simp [xV, cX, List.append_assoc]
  have hFl := congrArg List.length hF;simp only [List.length_append, List.length_map] at hFl
  (repeat' ((conv => whnf); first | (exfalso; omega) | refine chC [some 0, some 5, some 6] p3 ?_ | refine chC [some 0, some 7] p4 ?_ | (refine aZ [some 0, some 1, some 8] (.inr rfl) ?_ ?_ rfl rfl; (focus exact vwV); exact hsW) | refine spC (fun hb => ?_) fun hb => ?_ | refine saC ?_))
end Go.SX
