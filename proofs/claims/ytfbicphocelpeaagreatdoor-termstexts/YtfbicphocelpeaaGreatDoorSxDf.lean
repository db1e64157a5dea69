/-
  SX, part Df: functions that are called when another one leaves, and may recover.
-/
import Derived.Test.YtfbicphocelpeaaGreatDoorSxOq3
import Derived.RecoverIn
import Derived.Test.YtfbicphocelpeaaGreatDoorSxUb1
import Derived.Test.YtfbicphocelpeaaGreatDoorSxTp8
set_option linter.unusedVariables false
set_option linter.unusedSimpArgs false
namespace Go.SX
open Go.RowKit
variable {C : Cod}
section
variable {P : Program} {D : aJ C} {tab : Tab C} {B : dP} {E : Env} {σ : Nat → SV C} {H : Nat → HS C} {df : List Deferred} {a : Act} {w : World} {o : Oper} {r : Option Nat}
variable {T : List (SV C)} {Hp : List (HS C)}
structure zZ (P : Program) (D : aJ C) (f : FuncId) (args : List (SV C)) (H0 : List (HS C)) (u u' : FrameMode) (H1 : List (HS C)) : Prop where
 calls : ∀ w E (hm : ∀ c, H0.length ≤ c → E.β c = .fresh) vs, Sat D w E (aR H0) → DenA D w E args vs →
  CallsDIn (Fc none) 0 P f vs.toArray u w fun e u2 w' => u2 = u' ∧ ∃ E', (∃ v, e = .returned v) ∧ Sat D w' E' (aR H1) ∧ Fr ⟨w, E, fun b => ∃ c, E.β c = .loc b, H0.length, hm, [], false⟩ E' w'
def Ze (m0 : Nat) (H1 : List (HS C)) : J9 C := fun e T Hp => (e = .normal ∨ e = .ret) ∧ ∃ θ, uG Hp θ H1 m0
theorem Fr.other {ds : List Deferred} {nm : Bool} (h : Fr B E w) : Fr { B with ds := ds, nm := nm } E w := ⟨h.os, h.tape, h.output, h.size, h.same, h.late, h.newF, h.newO⟩
theorem Fr.back {ds : List Deferred} {nm : Bool} (h : Fr { B with ds := ds, nm := nm } E w) : Fr B E w := ⟨h.os, h.tape, h.output, h.size, h.same, h.late, h.newF, h.newO⟩
theorem Lm (h : An D B df T Hp a w) (d : Nat) {x : SV C} {v : Value} (hd : ∀ E, Den D w E x v) : An D B df (wK T d x) Hp (a.put (some d) v) w := by
 obtain ⟨E, hR, hsz⟩ := h;have := hR.put hsz (some d) (.inr (hd E));exact ⟨E, by rw [← show mD T (some d) x = wK T d x from rfl, gT]; exact this, by rw [iW, hsz, iO]⟩
theorem Q0 {vs : List Value} {n : Nat} {args : List (SV C)} {m : Nat} {hm : ∀ c, m ≤ c → E.β c = .fresh} (hs : Sat D w E (aR Hp)) (hd : DenA D w E args vs) :
  An D { dP.here w E m hm with nm := true } [] (args ++ xR (n - args.length)) Hp { tmps := vs.toArray ++ Array.replicate (n - vs.toArray.size) undef, defers := [] } w := by
 have hlen := nZ _ _ hd;refine ⟨E, ⟨fun i => ?_, hs, Fr.here.other, rfl, sK.nil⟩, by simp [oK, hlen]⟩;rw [sE];split
 ·rename_i hi;have := H4 _ _ hd i hi;have e : (vs.toArray ++ Array.replicate (n - vs.toArray.size) undef).getD i undef = vs.getD i undef := by
   rw [Array.getD_eq_getD_getElem?, Array.getElem?_append_left (by simp; omega)];simp [List.getD_eq_getElem?_getD]
  rw [e]; exact this
 ·rw [mM]; trivial
theorem wX (A : Aux C D) (hT : bZ P D tab) {f : FuncId} {fn : Func} {id : Nat} {o1 o2 : Oper} {rest : Code} (hf : P.funcs[f]? = some fn) (hb : fn.body = some (.seq (.region id #[o1, o2] false) rest)) (hres : fn.results = #[])
  {t7 t4 : Nat} (g1 : o1.guard = none) (d1 : o1.dst = some t7) (g2 : o2.guard = none) (d2 : o2.dst = some t4) (h7 : t7 < fn.ntmps)
  (r1 : ∀ e w, (execOp e o1).run P w = .ok .recover w) (r2 : ∀ (e : Operand → Value) w, (execOp e o2).run P w = .ok (.value (e (.tmp t7))) w)
  {v : Value} {u u' : FrameMode} (hv : v.oneCell' = true)
  (hrec : ∀ (c0 : Frame) (cs : List Frame), c0.mode = u → recoverD (c0 :: cs) = some (v, { c0 with mode := u' } :: cs) ∨ (recoverD (c0 :: cs) = none ∧ v = .nilIface ∧ u' = u))
  {args : List (SV C)} {H0 H1 : List (HS C)} (n : Nat)
  (h : dQ (wK (wK (args ++ xR (fn.ntmps - args.length)) t7 (.p (.lit v))) t4 (.p (.lit v))) fun T0 => cZ H0 fun Hp0 => gx P A tab ⟨none, [], H0.length, true⟩ (Ze H0.length H1) n [.code rest] T0 Hp0) : zZ P D f args H0 u u' H1 := by
 rw [bB, bH] at h;refine ⟨fun w E hm vs hs hd => callsDIn_of_wpSIn hf hb trivial fun c0 cs hu => ?_⟩;have hR0 := Q0 (n := fn.ntmps) (m := H0.length) (hm := hm) hs hd;have hsz : (vs.toArray ++ Array.replicate (fn.ntmps - vs.toArray.size) undef : Array Value).size = (args ++ xR (fn.ntmps - args.length)).length := by obtain ⟨_, _, h⟩ := hR0; exact h
 have hlt : t7 < (vs.toArray ++ Array.replicate (fn.ntmps - vs.toArray.size) undef : Array Value).size := by simp; omega
 have hR1 := Lm hR0 t7 (x := .p (.lit v)) (v := v) (fun _ => by simp only [Den]; exact .lit v hv);have hR2 := Lm hR1 t4 (x := .p (.lit v)) (v := v) (fun _ => by simp only [Den]; exact .lit v hv);refine wpSIn_seq (wpSIn_region ?_);obtain ⟨cs1, hcs1, hrun⟩ : ∃ cs1, cs1 = { c0 with mode := u' } :: cs ∧ ∀ next : Act → List Frame → Prop, next (({ tmps := vs.toArray ++ Array.replicate (fn.ntmps - vs.toArray.size) undef, defers := [] } : Act).put (some t7) v) cs1 →
   (match recoverD (c0 :: cs) with
    | some (v, cs') => next (({ tmps := vs.toArray ++ Array.replicate (fn.ntmps - vs.toArray.size) undef, defers := [] } : Act).put (some t7) v) cs'
    | none => next (({ tmps := vs.toArray ++ Array.replicate (fn.ntmps - vs.toArray.size) undef, defers := [] } : Act).put (some t7) .nilIface) (c0 :: cs)) := by
  rcases hrec c0 cs hu with hh | ⟨hh, rfl, rfl⟩
  ·exact ⟨_, rfl, fun next hn => by rw [hh]; exact hn⟩
  ·refine ⟨c0 :: cs, by rw [← hu], fun next hn => by rw [hh]; exact hn⟩
 have hw1 : Region.wanted o1 (yielded #[o1, o2] ({ tmps := vs.toArray ++ Array.replicate (fn.ntmps - vs.toArray.size) undef, defers := [] } : Act).tmps) = true := gB g1;have hev : (({ tmps := vs.toArray ++ Array.replicate (fn.ntmps - vs.toArray.size) undef, defers := [] } : Act).put (some t7) v).eval (.tmp t7) = v := by
  simp [Act.eval, Act.put, hlt];intro hx;simp at hlt;omega
 generalize hQQ : Exit.thenS (Code.wpSIn (Fc none) 0 P rest (bodyPostS P fn c0 cs _)) (bodyPostS P fn c0 cs _) = QQ;show wpOpsSIn _ _ _ _ QQ [0, 1] _ _ _;simp only [wpOpsSIn, List.getElem?_toArray, List.getElem?_cons_zero, List.getElem?_cons_succ, hw1, if_true, r1, d1];refine ⟨fun _ _ => trivial, hrun (fun a cs => wpOpsSIn (Fc none) 0 P #[o1, o2] QQ [1] a cs w) ?_⟩;simp only [wpOpsSIn, List.getElem?_toArray, List.getElem?_cons_zero, List.getElem?_cons_succ, gB g2, if_true, r2, d2, hev];refine ⟨fun _ _ => trivial, ?_⟩;rw [← hQQ];show Code.wpSIn _ _ _ _ _ _ _ _;refine wpSIn_of_wpIn rfl ?_;have hX : vW D (⟨none, [], H0.length, true⟩ : Ctx C) { dP.here w E H0.length hm with nm := true } none := ⟨rfl, fun c ri hc => by simp [lkR] at hc, trivial, rfl⟩;refine gY (r := none) (Q := fun e a' w' => bodyPostS P fn c0 cs (fun e u2 w' => u2 = u' ∧ ∃ E', (∃ v, e = .returned v) ∧ Sat D w' E' (aR H1) ∧ Fr ⟨w, E, fun b => ∃ c, E.β c = .loc b, H0.length, hm, [], false⟩ E' w') e a' cs1 w') A hT hX (fun e a w' T Hp hΦ hRL => ?_) n _ _ _ h _ _ ⟨_, hR2⟩;obtain ⟨he, θ, h3⟩ := hΦ;obtain ⟨df, E1, hR1, _⟩ := hRL;obtain ⟨g1, g2, g3⟩ := gU hR1.sat hR1.fr h3;have hdf : a.defers = [] := by
  obtain ⟨bs, e, _, _, hn⟩ := hR1.marks;rw [hR1.defers, e, hn rfl];rfl
 have key : a.defers = [] ∧ ∃ u2, cs1 = { c0 with mode := u2 } :: cs ∧ ∃ v, (results fn a.tmps).run P w' = .ok v w' ∧ u2 = u' ∧ ∃ E', (∃ v', Ending.returned v = .returned v') ∧ Sat D w' E' (aR H1) ∧ Fr ⟨w, E, fun b => ∃ c, E.β c = .loc b, H0.length, hm, [], false⟩ E' w' := by
  refine ⟨hdf, u', hcs1, .tuple #[], ?_, rfl, _, ⟨_, rfl⟩, g2, g3.back⟩;unfold results;simp [hres]
 rcases he with rfl | rfl
 ·exact key
 ·exact key
theorem zZ.at {f : FuncId} {args0 args : List (SV C)} {H0 H0' H1 H1' : List (HS C)} {u u' : FrameMode} (hM : zZ P D f args0 H0 u u' H1) (ρ : List (Option Nat))
  (hargs : renL ρ args0 = some args) (hH0 : gR ρ H0 = some H0') (hat : eA (aR Hp) ρ H0') (θ : List (Option Nat)) (hθ : θ = ρ ++ gL (H1.length - H0.length) (hlen Hp)) (hnd : ndO θ = true) (hle : H0.length ≤ H1.length)
  (hH1 : gR θ H1 = some H1') (hR : Rel D B E σ (aR Hp) df a w) {vs : List Value} (hd : DenA D w E args vs) :
  CallsDIn (Fc none) 0 P f vs.toArray u w fun e u2 w' => u2 = u' ∧ ∃ E1, (∃ v, e = .returned v) ∧ Rel D B E1 σ (rE (aR Hp) (J6 θ H1')) df a w' := by
 refine (L9 (XX := fun w vs R => CallsDIn (Fc none) 0 P f vs.toArray u w fun e u2 w' => u2 = u' ∧ R e w') (Ω := fun e _ _ => ∃ v, e = .returned v) (fun _ _ _ _ hm h => h.mono fun e u2 w' h => ⟨h.1, hm _ _ h.2⟩)
  (fun w E hm vs hs hd => (hM.calls w E hm vs hs hd).mono fun e u2 w' ⟨h1, E', h2, h3, h4⟩ => ⟨h1, E', h2, h3, h4⟩) ρ hargs hH0 hat θ hθ (fun k _ => qA Hp _ (by rw [← nR]; omega)) hnd hle hH1 B σ df a w E hR vs hd).mono ?_
 rintro e u2 w' ⟨h1, e1, E1, h2, _, _, h3⟩;exact ⟨h1, E1, h2, h3⟩
end
end Go.SX
namespace Go.SX
open Go.Proofs
set_option maxHeartbeats 400000000
set_option maxRecDepth 100000
theorem q26 : ∃ i, Tryz.prog.info? 81 = some i ∧ i.zero = some (.agg #[]) ∧ i.size = 0 := by
 have : (Tryz.prog.info? 81).map (fun i => (i.zero, i.size)) = some (some (.agg #[]), 0) := by kernel_rfl
 cases h : Tryz.prog.info? 81 with
 | none => rw [h] at this; cases this
 | some i =>
  rw [h] at this;simp only [Option.map_some, Option.some.injEq, Prod.mk.injEq] at this;exact ⟨i, rfl, this.1, this.2⟩
theorem q06 (x : Operand) (e : Operand → Value) (o : Oper) (w : World) (ho : o.op = .typeAssert x 20 81 true) (hx : e x = .iface 81 (.agg #[])) : (execOp e o).run Tryz.prog w = .ok (.value (.tuple #[.agg #[], .bool true])) w := by
 simp only [execOp, ho, Instr.typeAssert, Sem.run_bind, run_underlying q4t, Result.andThen_ok, hx];simp
theorem q4l (e : Operand → Value) (o : Oper) (w : World) (ho : o.op = .alloc 81) : (execOp e o).run Tryz.prog w = .ok (.value (.pointer (some ⟨w.heap.size, 0, none⟩))) (w.alloc (.cells #[] 81)) := by
 obtain ⟨i, h1, h2, _⟩ := q26;simp [execOp, ho, Instr.alloc, zeroValue, typeInfo, h1, h2, newVar, newRow, Value.cells]
theorem q3l (x y : Operand) (e : Operand → Value) (o : Oper) (w : World) (ad : Addr) (ho : o.op = .store 81 x y) (hx : e x = .pointer (some ad)) (hy : e y = .agg #[]) : (execOp e o).run Tryz.prog w = .ok .skip w := by
 obtain ⟨i, h1, h2, h3⟩ := q26;simp [execOp, ho, hx, hy, Instr.storeAt, Instr.sureAddr, storeVar, storeCells, sizeOf, typeInfo, h1, h3, Value.cells]
@[reducible] def q9a : List (SV Cd) := [.ptr 4 0, .ptr 0 0, .ptr 1 0, .ptr 2 0]
@[reducible] def Ce (o n e : List (SV Cd)) (ws : List Wd) (a m : Int) : List (HS Cd) := [.vart none o, .vart none n, .vart none e, .vart none [wsS ws, iS a, iS m], .vart none [.ptr 3 0]]
@[reducible] def q4j (o : iF) : List (SV Cd) := [iS o.id, iS o.owner, iS o.goal.kind, lS o.goal.rows, iS o.goal.from_, iS o.goal.to_, iS o.goal.low, iS o.goal.high, bS o.goal.clear, iS o.goal.days, iS o.goal.times, iS o.goal.within, lS o.goal.cents, .p (.dsl U.goal o.goal.kids), iS o.price, iS o.group, bS o.urgent, iS o.known, iS o.due]
@[reducible] def Ww : List (SV Cd) := [iS 0, iS 0, iS 0, q1p, iS 0, iS 0, iS 0, iS 0, bS false, iS 0, iS 0, iS 0, q1p, q1p, iS 0, iS 0, bS false, iS 0, iS 0]
def chR : List PanicEntry := [{ v := .iface 81 (.agg #[]), recovered := true }]
theorem qc2 (o : iF) (n e : Int) (ws : List Wd) (a m : Int) : zZ Tryz.prog Dc 28 q9a (Ce (q4j o) [iS n] [iS e] ws a m) .returning .returning (Ce (q4j o) [iS n] [iS e] ws a m) := by
 refine wX Ax aD (o1 := _) (o2 := _) (rest := _) (id := _) Tryz.func28 rfl rfl (t7 := 7) (t4 := 4) rfl rfl rfl rfl (by decide) (fun _ _ => rfl) (fun _ _ => rfl) (v := .nilIface) rfl (fun c0 cs h => .inr ⟨by simp [recoverD, h], rfl, rfl⟩) 200 ?_
 (repeat' ((conv => whnf); first | exact ⟨[some 0, some 1, some 2, some 3, some 4], ⟨hsW, rfl, rfl⟩⟩ | refine saC ?_))
theorem qc9 (ws : List Wd) (a m : Int) : zZ Tryz.prog Dc 28 q9a (Ce Ww [iS 0] [iS 0] ws a m) (.panicking chS) (.panicking chR) (Ce Ww [iS a] [iS 130] ws a m) := by
 refine wX Ax aD (o1 := _) (o2 := _) (rest := _) (id := _) Tryz.func28 rfl rfl (t7 := 7) (t4 := 4) rfl rfl rfl rfl (by decide) (fun _ _ => rfl) (fun _ _ => rfl) (v := .iface 81 (.agg #[])) rfl (fun c0 cs h => .inl (by simp [recoverD, h, chR])) 200 ?_
 (repeat' ((conv => whnf); first | refine Nr (q06 _) rfl ?_ | refine Us q4l ?_ | refine Uu (q3l _ _) rfl rfl rfl ?_ | exact ⟨[some 0, some 1, some 2, some 3, some 4], ⟨hsW, rfl, rfl⟩⟩ | refine saC ?_))
end Go.SX
namespace Go.SX
open Go.Proofs
open Go.RowKit
set_option maxHeartbeats 400000000
set_option maxRecDepth 100000
theorem qP : ∀ (s : Wd) (w : Wd), w ∈ bC s → w.length ≤ s.length
 | [], w, h => by simp [bC] at h; simp [h]
 | c :: s, w, h => by
  unfold bC at h;split at h
  ·rcases List.mem_cons.1 h with rfl | h
   ·simp
   ·have := qP s w h; simp; omega
  ·split at h
   ·simp at h; subst h; simp
   ·rename_i t l e;rcases List.mem_cons.1 h with rfl | h
    ·have := qP s t (by rw [e]; simp); simp; omega
    ·have := qP s w (by rw [e]; simp [h]); simp; omega
theorem Oe {s : Wd} (h : s.length ≤ 20000) : wA (dC s) := by
 unfold dC;split
 ·exact ⟨fun w h => by simp at h, by simp⟩
 ·exact ⟨fun w hw => by have := qP s w hw; omega, by have := O4 s; omega⟩
def q9m : List Code → Code → Code
 | [], z => z
 | x :: l, z => .seq x (q9m l z)
theorem sN {P : Program} {D : aJ Cd} {B : dP} {Q : Exit → Act → World → Prop} {z : Code} : ∀ (l : List Code) (e : Exit) (a : Act) (w : World), eK none P D B (Exit.then (z.wpIn (Fc none) 0 P Q) Q) (l.map fun c => (It.code c : It Cd)) e a w → Exit.then ((q9m l z).wpIn (Fc none) 0 P Q) Q e a w
 | [], e, a, w, h => h
 | x :: l, e, a, w, h => by
  cases e with
  | normal =>
   refine wpIn_seq (wpIn_mono h ?_);exact sN l
  | exit i => exact sN l (.exit i) a w h
  | goto i => exact sN l (.goto i) a w h
  | ret => exact sN l .ret a w h
  | panic c => exact sN l (.panic c) a w h
  | outgrown => exact sN l .outgrown a w h
structure q8f (T : List (SV Cd)) : Prop where
 len : T.length = 22
 t2 : bX T 2 = .ptr 0 0
 t3 : bX T 3 = .ptr 1 0
 t4 : bX T 4 = .ptr 2 0
def q3p (ok : Prop) (ws : List Wd) (ret : SV Cd) (rs : List ResultVar) : J9 Cd := fun e T Hp =>
 (e = .normal ∧ ok ∧ q8f T ∧ bX T 5 = .ptr 4 0 ∧ Hp = Ce Ww [iS 0] [iS 0] ws 0 11) ∨ (e = .ret ∧ wQ Dc tab rs 0 ret [] e T Hp)
def q38 (ws : List Wd) (S : Rs iF) : J9 Cd := fun e T Hp =>
 (∃ o n m, S = .ok o n m ∧ e = .ret ∧ q8f T ∧ Hp = Ce (q4j o) [iS n] [iS 0] ws n m) ∨ (∃ n m, S = .no n m ∧ e = .panic chS ∧ q8f T ∧ Hp = Ce Ww [iS 0] [iS 0] ws n m)
def sq1 : Code → Code
 | .seq a _ => a
 | c => c
def sq2 : Code → Code
 | .seq _ b => b
 | c => c
def q41 (s : Wd) : SV Cd := .tuple [q8k (pZ s).1, iS (pZ s).2.1, iS (pZ s).2.2]
theorem qc3 (s : Wd) (hs : s.length ≤ 20000) : aF Tryz.prog Dc 27 [wS s] [] (wsS (dC s)) [] := q2p s (by omega)
theorem qc5 (s : Wd) (hs : s.length ≤ 140737488355328) : dQ ([wS s] ++ xR (22 - 1)) fun T0 => cZ ([] : List (HS Cd)) fun Hp0 =>
  gx Tryz.prog Ax tab ⟨none, [], 0, true⟩ (q3p (¬ 20000 < s.length) (dC s) (q41 s) Tryz.f8.results.toList) 300 [.code (sq1 (Tryz.f8.body.getD .skip)), .code (sq1 (sq2 (Tryz.f8.body.getD .skip))), .code (sq1 (sq2 (sq2 (Tryz.f8.body.getD .skip))))] T0 Hp0 := by
 by_cases h : 20000 < s.length
 ·have e : pZ s = (Xu, 0, 130) := by unfold pZ; rw [if_pos h]
  unfold q41;rw [e]
  (repeat' ((conv => whnf); first | (exfalso; omega) | exact .inr ⟨rfl, aZ [] (.inr rfl) (by exact vwV) (by exact hsW) rfl rfl⟩ | refine spC (fun hb => ?_) fun hb => ?_))
 ·have ht := qc3 s (by omega);clear hs;generalize q41 s = rr;obtain ⟨ok, hok⟩ : ∃ ok : Prop, ok = (¬ 20000 < s.length) := ⟨_, rfl⟩;rw [← hok];have h2 : ok := hok ▸ h;clear hok;generalize dC s = ws at *
  (repeat' ((conv => whnf); first | (exfalso; omega) | refine cpC (ht) ?_ | exact .inl ⟨rfl, h2, ⟨rfl, rfl, rfl, rfl⟩, rfl, rfl⟩ | refine spC (fun hb => ?_) fun hb => ?_))
theorem qd8 (ws : List Wd) (hn : wA ws) : dQ ([.any, .any, .ptr 0 0, .ptr 1 0, .ptr 2 0, .ptr 4 0] ++ xR 16) fun T0 => cZ (Ce Ww [iS 0] [iS 0] ws 0 11) fun Hp0 =>
  gx Tryz.prog Ax tab ⟨none, [], 5, true⟩ (q38 ws (rO ws 0 11)) 300 [.code (sq2 (sq2 (sq2 (sq2 (Tryz.f8.body.getD .skip)))))] T0 Hp0 := by
 have hi : InW ws 0 11 := ⟨by omega, by omega, by omega, by omega⟩;have hR := q5y hi hn;cases e : rO ws 0 11 with
 | ok o n m =>
  have hb := hR.bd;rw [e] at hb;have hi2 := hi.step hb;have h1 := hi2.a1;have h2 := hn.n;have q := hR.ok _ _ _ e
  (repeat' ((conv => whnf); first | refine chC [some 3] q ?_ | exact .inl ⟨_, _, _, rfl, rfl, ⟨rfl, rfl, rfl, rfl⟩, rfl⟩ | refine taC ?_ | refine aE mixed ?_))
 | no n m =>
  have q := hR.no _ _ e
  (repeat' ((conv => whnf); first | (refine qb4 [some 3] q rfl rfl ⟨rfl, trivial⟩ ?_) | exact .inr ⟨_, _, rfl, rfl, ⟨rfl, rfl, rfl, rfl⟩, rfl⟩))
open Go.RowKit
set_option maxHeartbeats 400000000
set_option maxRecDepth 100000
theorem Ge {fn : Func} {B : dP} {E : Env} {T : List (SV Cd)} {Hp : List (HS Cd)} {df : List Deferred} {a : Act} {w : World} {ret : SV Cd} {e : Exit} {w0 : World} {E0 : Env} {hm : ∀ c, 0 ≤ c → E0.β c = .fresh} (hR : Rel Dc B E (bX T) (aR Hp) df a w)
  (hf : Fr (dP.here w0 E0 0 hm) E w) (h : wQ Dc tab fn.results.toList 0 ret [] e T Hp) :
  LeavesInM (Fc none) 0 Tryz.prog fn a.tmps (fun e w' => ∃ v E', e = .returned v ∧ Den Dc w' E' ret v ∧ Sat Dc w' E' (aR []) ∧ Fr ⟨w0, E0, fun b => ∃ c, E0.β c = .loc b, 0, hm, [], false⟩ E' w') [] .returning w := by
 obtain ⟨_, θ, l, h1, h2, h3⟩ := h;have hR2 : Rel Dc (dP.here w0 E0 0 hm) E (bX T) (aR Hp) [] { a with defers := [] } w := ⟨hR.den, hR.sat, hf, rfl, sK.nil⟩;obtain ⟨v, h4, h5⟩ := nN (P := Tryz.prog ) (fn := fn) aD hR2 h1;obtain ⟨g1, g2, g3⟩ := gU hR2.sat hR2.fr h3;exact ⟨v, h4, v, _, rfl, nT hR2.sat g1 _ _ _ h2 h5, g2, g3⟩
theorem Lv {B : dP} {E : Env} {σ σ' : Nat → SV Cd} {H : Nat → HS Cd} {df : List Deferred} {a : Act} {w : World} (h : Rel Dc B E σ H df a w) (hs : ∀ i, σ' i = .any ∨ σ' i = σ i) : Rel Dc B E σ' H df a w :=
  ⟨fun i => by rcases hs i with e | e <;> rw [e]; · trivial
               · exact h.den i, h.sat, h.fr, h.defers, h.marks⟩
@[reducible] def T3 : List (SV Cd) := [.any, .any, .ptr 0 0, .ptr 1 0, .ptr 2 0] ++ xR 17
theorem q85 {T : List (SV Cd)} (h : q8f T) : ∀ i, bX T3 i = .any ∨ bX T3 i = bX T i
 | 0 => .inl rfl
 | 1 => .inl rfl
 | 2 => .inr h.t2.symm
 | 3 => .inr h.t3.symm
 | 4 => .inr h.t4.symm
 | i + 5 => .inl (mM 17 i)
theorem q9w {w : World} {E : Env} {x1 x2 x3 x4 : SV Cd} {v1 v2 v3 v4 : Value} (h1 : Den Dc w E x1 v1) (h2 : Den Dc w E x2 v2) (h3 : Den Dc w E x3 v3) (h4 : Den Dc w E x4 v4) : DenA Dc w E [x1, x2, x3, x4] [v1, v2, v3, v4] := by
 simp only [DenA];exact ⟨_, _, rfl, h1, _, _, rfl, h2, _, _, rfl, h3, _, _, rfl, h4, rfl⟩
theorem q7q (s : Wd) (hs : s.length ≤ 140737488355328) : aF Tryz.prog Dc 8 [wS s] [] (q41 s) [] := by
 refine ⟨Tryz.call8, fun w E hm vs hsat hd => ?_⟩;refine callsIn_of_wp_marks Tryz.func8 (c := q9m [sq1 (Tryz.f8.body.getD .skip), sq1 (sq2 (Tryz.f8.body.getD .skip)), sq1 (sq2 (sq2 (Tryz.f8.body.getD .skip)))] (sq2 (sq2 (sq2 (Tryz.f8.body.getD .skip))))) rfl trivial ?_ rfl;have hR0 := Q0 (n := 22) (m := 0) (hm := hm) hsat hd;have hX : vW Dc (⟨none, [], 0, true⟩ : Ctx Cd) { dP.here w E 0 hm with nm := true } none := ⟨rfl, fun c ri hc => by simp [lkR] at hc, trivial, rfl⟩;refine sN (D := Dc) (B := { dP.here w E 0 hm with nm := true }) _ .normal _ _ ?_;have hp1 := qc5 s hs;rw [bB, bH] at hp1;refine gY (r := none) Ax aD hX ?_ 300 _ _ _ hp1 _ _ ⟨_, hR0⟩;intro e a w1 T Hp hΦ hRL;obtain ⟨df, E1, hR1, hsz1⟩ := hRL;have hdf : df = [] := by
  obtain ⟨bs, e, _, _, hn⟩ := hR1.marks;rw [e, hn rfl]; rfl
 subst hdf;rcases hΦ with ⟨rfl, hok, hpt, ht5, rfl⟩ | ⟨rfl, hend⟩
 rotate_left
 ·have := Ge (fn := Tryz.f8) hR1 hR1.fr.back hend;show LeavesInM (Fc none) 0 Tryz.prog Tryz.f8 a.tmps _ a.defers .returning w1;rw [hR1.defers];exact this
 show Code.wpIn _ _ _ _ _ _ _;obtain ⟨id4, mf, dfo, hr4, gm, om, dm, gd, od, dd⟩ : ∃ id4 mf dfo, sq2 (sq2 (sq2 (Tryz.f8.body.getD .skip))) = .seq (.region id4 #[mf, dfo] false) (sq2 (sq2 (sq2 (sq2 (Tryz.f8.body.getD .skip))))) ∧
  mf.guard = none ∧ mf.op = .makeFunc (.func 28) #[] #[.tmp 5, .tmp 2, .tmp 3, .tmp 4] ∧ mf.dst = some 14 ∧ dfo.guard = none ∧ dfo.op = .defer { callee := .value (.tmp 14), args := #[], argTypes := #[] } ∧ dfo.dst = none := ⟨_, _, _, rfl, rfl, rfl, rfl, rfl, rfl, rfl⟩
 rw [hr4];refine wpIn_seq (wpIn_region_list ?_);obtain ⟨caps, hcaps⟩ : ∃ caps : List Value, caps = [a.tmps.getD 5 undef, a.tmps.getD 2 undef, a.tmps.getD 3 undef, a.tmps.getD 4 undef] := ⟨_, rfl⟩;have hmf : (execOp a.eval mf).run Tryz.prog w1 = .ok (.value (.func (.func 28) #[] caps.toArray)) w1 := by
  rw [hcaps]; simp [execOp, om, Instr.makeFunc, Act.eval]
 have hd1 : DenA Dc w1 E1 q9a caps := by
  rw [hcaps];have h2 := hR1.den 2;have h3 := hR1.den 3;have h4 := hR1.den 4;have h5 := hR1.den 5;rw [hpt.t2] at h2;rw [hpt.t3] at h3;rw [hpt.t4] at h4;rw [ht5] at h5;exact q9w h5 h2 h3 h4
 obtain ⟨d, hdd⟩ : ∃ d : Deferred, d = ⟨.fn (.func 28) caps.toArray, #[]⟩ := ⟨_, rfl⟩;have hlt : 14 < a.tmps.size := by rw [hsz1, hpt.len]; omega
 have hdf : (execOp (a.put mf.dst (.func (.func 28) #[] caps.toArray)).eval dfo).run Tryz.prog w1 = .ok (.defer d) w1 := by
  have hev : (a.put mf.dst (.func (.func 28) #[] caps.toArray)).eval (.tmp 14) = .func (.func 28) #[] caps.toArray := by
   rw [dm]; simp [Act.eval, Act.put, hlt]
  simp only [execOp, od, resolve, hev, Deferred.ofValue, hdd];simp
 show wpListIn _ _ _ _ _ [mf, dfo] _ _;rw [wpListIn, if_pos (gB gm)];refine ⟨fun _ _ => trivial, ?_⟩;rw [show (Fc none).round = none from rfl, Oper.semAt_none, hmf];show wpListIn _ _ _ _ _ [dfo] _ _;rw [wpListIn, if_pos (gB gd)];refine ⟨fun _ _ => trivial, ?_⟩;rw [show (Fc none).round = none from rfl, Oper.semAt_none, hdf];show Code.wpIn _ _ _ _ _ _ _;have hm1 : ∀ c, 5 ≤ c → E1.β c = .fresh := lP hR1.sat;have hX2 : vW Dc (⟨none, [], 5, true⟩ : Ctx Cd) { dP.here w1 E1 5 hm1 with ds := [d], nm := true } none := ⟨rfl, fun c ri hc => by simp [lkR] at hc, trivial, rfl⟩;have hR2 : An Dc { dP.here w1 E1 5 hm1 with ds := [d], nm := true } [d] ([.any, .any, .ptr 0 0, .ptr 1 0, .ptr 2 0, .ptr 4 0] ++ xR 16) (Ce Ww [iS 0] [iS 0] (dC s) 0 11) ({ a.put mf.dst (.func (.func 28) #[] caps.toArray) with defers := d :: (a.put mf.dst (.func (.func 28) #[] caps.toArray)).defers }.put dfo.dst undef) w1 := by
  rw [dm, dd];refine ⟨E1, ⟨fun i => ?_, hR1.sat, Fr.here.other, ?_, sK.nil⟩, ?_⟩
  ·have hne : ∀ j, j ≠ 14 → (a.tmps.setIfInBounds 14 (.func (.func 28) #[] caps.toArray)).getD j undef = a.tmps.getD j undef := fun j hj => by rw [Array.getD_eq_getD_getElem?, Array.getD_eq_getD_getElem?, Array.getElem?_setIfInBounds_ne (Ne.symm hj)]
   match i with
   | 0 => trivial
   | 1 => trivial
   | 2 => have h := hR1.den 2; rw [hpt.t2] at h; show Den _ _ _ _ ((a.tmps.setIfInBounds 14 _).getD 2 undef); rw [hne 2 (by omega)]; exact h
   | 3 => have h := hR1.den 3; rw [hpt.t3] at h; show Den _ _ _ _ ((a.tmps.setIfInBounds 14 _).getD 3 undef); rw [hne 3 (by omega)]; exact h
   | 4 => have h := hR1.den 4; rw [hpt.t4] at h; show Den _ _ _ _ ((a.tmps.setIfInBounds 14 _).getD 4 undef); rw [hne 4 (by omega)]; exact h
   | 5 => have h := hR1.den 5; rw [ht5] at h; show Den _ _ _ _ ((a.tmps.setIfInBounds 14 _).getD 5 undef); rw [hne 5 (by omega)]; exact h
   | i + 6 => show Den _ _ _ (bX (xR 16) i) _; rw [mM]; trivial
  ·show d :: a.defers = [d];rw [hR1.defers]
  ·show (a.tmps.setIfInBounds 14 _).size = 22;rw [Array.size_setIfInBounds, hsz1, hpt.len]
 have hp2 := qd8 (dC s) (Oe (by omega));rw [bB, bH] at hp2;refine gY (r := none) Ax aD hX2 ?_ 300 _ _ _ hp2 _ _ ⟨_, hR2⟩;intro e2 a2 w2 T2 Hp2 hΦ2 hRL2;obtain ⟨df2, E2, hRE, _⟩ := hRL2;have hinv : ∀ w3, (invoke d.target d.args).run Tryz.prog w3 = .ok (.enter 28 caps.toArray) w3 := fun w3 => by
  rw [hdd];simp only [invoke];have : (#[] ++ caps.toArray : Array Value) = caps.toArray := by simp
  rw [this];exact Tryz.call28 _ _
 rcases hΦ2 with ⟨o, n, m, hS, rfl, hpt2, rfl⟩ | ⟨n, m, hS, rfl, hpt2, rfl⟩
 ·have e : pZ s = (o, n, 0) := by unfold pZ; rw [if_neg hok, hS]
  unfold q41;rw [e];show LeavesInM (Fc none) 0 Tryz.prog Tryz.f8 a2.tmps _ a2.defers .returning w2;refine nY (by simp) hRE fun w3 E3 hR3 => ?_;refine ⟨by simp, .inr ⟨fun h => by simp [Fc] at h, .func 28, caps.toArray, 28, caps.toArray, by rw [hdd], hinv w3, fun _ _ => trivial, ?_⟩⟩;refine (zZ.at (qc2 o n 0 (dC s) n m) [some 0, some 1, some 2, some 3, some 4] rfl rfl ⟨rfl, rfl, rfl, rfl, rfl, trivial⟩ [some 0, some 1, some 2, some 3, some 4] rfl rfl (Nat.le_refl _) rfl hR3 (DenA.mono hR3.fr.late _ _ hd1)).mono ?_;rintro e4 u4 w4 ⟨rfl, E4, ⟨v4, rfl⟩, hR4⟩;have hR5 := Lv hR4 (q85 hpt2);rw [← eO, show fS (Ce (q4j o) [iS n] [iS 0] (dC s) n m) (J6 [some 0, some 1, some 2, some 3, some 4] (Ce (q4j o) [iS n] [iS 0] (dC s) n m)) = Ce (q4j o) [iS n] [iS 0] (dC s) n m from rfl] at hR5;exact Ge (a := { a2 with defers := [d] }) (T := T3) (Hp := Ce (q4j o) [iS n] [iS 0] (dC s) n m) (fn := Tryz.f8) hR5 (Fr.trans hR1.fr.back hR5.fr.back) (e := .ret) (aZ [] (.inr rfl) (by exact vwV) (by exact hsW) rfl rfl)
 ·have e : pZ s = (Xu, n, 130) := by unfold pZ; rw [if_neg hok, hS]
  unfold q41;rw [e];show LeavesInM (Fc none) 0 Tryz.prog Tryz.f8 a2.tmps _ a2.defers (.panicking chS) w2;refine nY (by simp) hRE fun w3 E3 hR3 => ?_;refine ⟨by simp, .inr ⟨fun h => by simp [Fc] at h, .func 28, caps.toArray, 28, caps.toArray, by rw [hdd], hinv w3, fun _ _ => trivial, ?_⟩⟩;refine (zZ.at (qc9 (dC s) n m) [some 0, some 1, some 2, some 3, some 4] rfl rfl ⟨rfl, rfl, rfl, rfl, rfl, trivial⟩ [some 0, some 1, some 2, some 3, some 4] rfl rfl (Nat.le_refl _) rfl hR3 (DenA.mono hR3.fr.late _ _ hd1)).mono ?_;rintro e4 u4 w4 ⟨rfl, E4, ⟨v4, rfl⟩, hR4⟩;have hR5 := Lv hR4 (q85 hpt2);rw [← eO, show fS (Ce Ww [iS 0] [iS 0] (dC s) n m) (J6 [some 0, some 1, some 2, some 3, some 4] (Ce Ww [iS n] [iS 130] (dC s) n m)) = Ce Ww [iS n] [iS 130] (dC s) n m from rfl] at hR5;exact Ge (a := { a2 with defers := [d] }) (T := T3) (Hp := Ce Ww [iS n] [iS 130] (dC s) n m) (fn := Tryz.f8) hR5 (Fr.trans hR1.fr.back hR5.fr.back) (e := .ret) (aZ [] (.inr rfl) (by exact vwV) (by exact hsW) rfl rfl)
end Go.SX
namespace Go.SX
def NB (l : List Wd) : Prop := ∀ w ∈ l, (32 : UInt8) ∉ w
theorem NB.nil : NB [] := fun w h => by cases h
theorem NB.cons {w : Wd} {l : List Wd} (h : (32 : UInt8) ∉ w) (hl : NB l) : NB (w :: l) := fun x hx => by
 rcases List.mem_cons.1 hx with rfl | hx
 ·exact h
 ·exact hl x hx
theorem NB.app {a b : List Wd} (h : NB a) (h' : NB b) : NB (a ++ b) := fun x hx => by
 rcases List.mem_append.1 hx with hx | hx
 ·exact h x hx
 ·exact h' x hx
theorem L3 : ∀ (w t : Wd), (32 : UInt8) ∉ w → bC (w ++ 32 :: t) = w :: bC t
 | [], t, _ => by rw [List.nil_append, bC, if_pos rfl]
 | c :: w, t, h => by
  have hc : c ≠ 32 := fun e => h (by simp [e]);rw [List.cons_append, bC, if_neg hc, L3 w t (fun h2 => h (List.mem_cons_of_mem _ h2))]
theorem B5 : ∀ w : Wd, (32 : UInt8) ∉ w → bC w = [w]
 | [], _ => rfl
 | c :: w, h => by
  have hc : c ≠ 32 := fun e => h (by simp [e]);rw [bC, if_neg hc, B5 w (fun h2 => h (List.mem_cons_of_mem _ h2))]
theorem pV : ∀ (l : List Wd) (w : Wd), NB (w :: l) → bC (w ++ Go.Lib.joinTail [32] l) = w :: l
 | [], w, h => by
  show bC (w ++ []) = [w];rw [List.append_nil];exact B5 w (h w (by simp))
 | x :: l, w, h => by
  show bC (w ++ 32 :: (x ++ Go.Lib.joinTail [32] l)) = _;rw [L3 w _ (h w (by simp)), pV l x fun y hy => h y (List.mem_cons_of_mem _ hy)]
theorem X3 : ∀ f n : Nat, (32 : UInt8) ∉ mQ f n
 | 0, n => by simp [mQ]
 | f + 1, n => by
  have hd : ∀ k : Nat, k < 10 → (32 : UInt8) ≠ UInt8.ofNat (48 + k) := by decide
  unfold mQ;split
  ·rename_i h;simp only [List.mem_singleton];exact hd n h
  ·simp only [List.mem_append, List.mem_singleton, not_or];exact ⟨X3 f _, hd _ (Nat.mod_lt _ (by omega))⟩
theorem cJ (n : Int) : (32 : UInt8) ∉ bJ n := by
 unfold bJ;split
 ·simp only [List.mem_cons, not_or]; exact ⟨by decide, X3 _ _⟩
 ·exact X3 _ _
theorem q4u (y : Nat) (p : Nat × Nat) : NB (M1 y p) := .cons (by decide) (.cons (cJ _) (.cons (cJ _) (.cons (cJ _) .nil)))
theorem Qr {α : Type} (f : α → List Wd) (h : ∀ a, NB (f a)) : ∀ l : List α, NB (l.flatMap f)
 | [] => .nil
 | a :: l => by rw [List.flatMap_cons]; exact (h a).app (Qr f h l)
theorem Lo : ∀ (y : Nat) (l : List Int), NB (gQ y l)
 | _, [] => .nil
 | y, r :: l => (Qr _ (q4u y) _).app (Lo (y + 1) l)
theorem q4d (g : aI) : NB (xV g) := by
 unfold xV;refine .app (.cons (by decide) (Lo _ _)) (.cons (by decide) (.cons (cJ _) (.cons (by decide) (.cons (cJ _) (.cons (by decide) (.cons (cJ _) (.cons (by decide) (.cons (cJ _) (.cons ?_ .nil)))))))));split <;> decide
theorem Xr (g : aI) : NB (iG g) := by
 unfold iG;split
 ·exact .cons (by decide) (.cons (by decide) (.cons (cJ _) (.cons (by decide) (.cons (cJ _) (.cons (by decide) .nil)))))
 ·split
  ·exact .cons (by decide) (.cons (cJ _) (.cons (by decide) (.cons (cJ _) (.cons (by decide) (.cons (by decide) (.cons (cJ _) (.cons (by decide) (.cons (cJ _) (.cons (by decide) .nil)))))))))
  ·exact .cons (by decide) (.cons (by decide) (.cons (cJ _) (.cons (by decide) .nil)))
mutual
theorem U9 : ∀ g : aI, NB (aP g)
 | ⟨kind, rows, from_, to_, low, high, clear, days, times, within, cents, kids⟩ => by
  rw [aP];split
  ·exact q4d _
  ·split
   ·exact (Xr _).app (firstW_nb kids)
   ·refine .app (.app (.cons ?_ (.cons (by decide) .nil)) (kidsW_nb _ _ _ kids)) (.cons (by decide) .nil);split <;> decide
theorem firstW_nb : ∀ l : List aI, NB (firstW l)
 | [] => .nil
 | k :: _ => by rw [firstW]; exact U9 k
theorem kidsW_nb : ∀ (any first : Bool) (cents : List Int) (l : List aI), NB (kidsW any first cents l)
 | _, _, _, [] => by rw [kidsW]; exact .nil
 | any, first, cents, k :: l => by
  rw [kidsW];refine .app (.app (.app ?_ ?_) (U9 k)) (kidsW_nb _ _ _ l)
  ·split
   ·exact .nil
   ·exact .cons (by decide) .nil
  ·split
   ·exact .cons (cJ _) .nil
   ·exact .nil
end
def Kr (o : iF) : List Wd := [bK, bJ o.id, sI, bJ o.owner, gE, bJ o.price, bW, if o.group < 0 then iD else bJ o.group, if o.urgent then eF else gC, dV, bJ o.known, mU, bJ o.due, dT]
theorem Dp (o : iF) : dY o = Kr o ++ aP o.goal ++ [rN] := rfl
theorem Qn (o : iF) : NB (Kr o) := by
 unfold Kr;refine .cons (by decide) (.cons (cJ _) (.cons (by decide) (.cons (cJ _) (.cons (by decide) (.cons (cJ _) (.cons (by decide) (.cons ?_ (.cons ?_ (.cons (by decide) (.cons (cJ _) (.cons (by decide) (.cons (cJ _) (.cons (by decide) .nil)))))))))))))
 ·split
  ·decide
  ·exact cJ _
 ·split <;> decide
theorem Rk (o : iF) : NB (dY o) := by
 rw [Dp];exact .app (.app (Qn o) (U9 _)) (.cons (by decide) .nil)
theorem Ia (o : iF) : dC (qG (dY o)) = dY o := by
 have hnb := Rk o;obtain ⟨l, hl⟩ : ∃ l, dY o = bK :: l := ⟨_, rfl⟩;rw [hl] at hnb ⊢;have e : qG (bK :: l) = bK ++ Go.Lib.joinTail [32] l := Go.Lib.join_cons _ _ _;have hne : qG (bK :: l) ≠ [] := by rw [e]; simp
 unfold dC;rw [if_neg hne, e, pV l _ hnb]
end Go.SX
namespace Go.SX
def q3m (a b : Int) : Int := if a ≤ b then b else a
mutual
def Hq : aI → Int
 | ⟨_, _, _, _, _, _, _, _, _, _, _, kids⟩ => 1 + manyL kids
def manyL : List aI → Int
 | [] => 0
 | k :: l => Hq k + manyL l
end
mutual
def B3 : aI → Int
 | ⟨_, _, _, _, _, _, _, _, _, _, _, kids⟩ => deepL kids + 1
def deepL : List aI → Int
 | [] => 0
 | k :: l => q3m (B3 k) (deepL l)
end
mutual
def Fp : aI → Bool
 | ⟨kind, rows, from_, to_, low, high, clear, days, times, within, cents, kids⟩ => okB ⟨kind, rows, from_, to_, low, high, clear, days, times, within, cents, kids⟩ && allOKL kids
def allOKL : List aI → Bool
 | [] => true
 | k :: l => Fp k && allOKL l
end
theorem q04 (g : aI) : Fp g = (okB g && allOKL g.kids) := by cases g; rw [Fp]
theorem Hu (a b c : Int) : q3m a b ≤ c ↔ a ≤ c ∧ b ≤ c := by unfold q3m; split <;> omega
mutual
theorem Tv : ∀ g : aI, 1 ≤ B3 g
 | ⟨_, _, _, _, _, _, _, _, _, _, _, kids⟩ => by rw [B3]; have := deepL_nn kids; omega
theorem deepL_nn : ∀ l : List aI, 0 ≤ deepL l
 | [] => by simp [deepL]
 | k :: l => by rw [deepL]; have := deepL_nn l; unfold q3m; split <;> omega
end
mutual
theorem U0 : ∀ (g : aI) (d : Int), bQ g d = if Fp g = true ∧ d + B3 g ≤ 5 then some (Hq g) else none
  | ⟨kind, rows, from_, to_, low, high, clear, days, times, within, cents, kids⟩, d => by
    have hL := sizeL_law kids (d + 1);have hp := deepL_nn kids;rw [bQ, Fp, B3, Hq, hL];cases hk : okB ⟨kind, rows, from_, to_, low, high, clear, days, times, within, cents, kids⟩ with
    | false => simp
    | true =>
      by_cases hd : 4 < d
      · rw [if_pos (by simp [hd]), if_neg (by simp; omega)]
      · rw [if_neg (by simp [hd])]
        by_cases hc : allOKL kids = true ∧ (kids = [] ∨ d + 1 + deepL kids ≤ 5)
        · rw [if_pos hc];simp only;rw [if_pos ⟨by simp [hc.1], by
            rcases hc.2 with h | h
            · rw [h]; simp [deepL]; omega
            · omega⟩]
        · rw [if_neg hc];simp only;rw [if_neg (fun h => hc ⟨by simpa using h.1, .inr (by omega)⟩)]
theorem sizeL_law : ∀ (l : List aI) (d : Int), sizeL l d = if allOKL l = true ∧ (l = [] ∨ d + deepL l ≤ 5) then some (manyL l) else none
  | [], d => by simp [sizeL, allOKL, manyL]
  | k :: l, d => by
    have h1 := U0 k d;have h2 := sizeL_law l d;have hk := Tv k;rw [sizeL, h1, allOKL, deepL, manyL, h2]
    by_cases ha : Fp k = true ∧ d + B3 k ≤ 5
    · rw [if_pos ha];simp only
      by_cases hb : allOKL l = true ∧ (l = [] ∨ d + deepL l ≤ 5)
      · rw [if_pos hb];simp only;rw [if_pos ⟨by simp [ha.1, hb.1], .inr (by
          have : q3m (B3 k) (deepL l) ≤ 5 - d := (Hu _ _ _).2 ⟨by omega, by
            rcases hb.2 with h | h
            · rw [h]; simp [deepL]; omega
            · omega⟩
          omega)⟩]
      · rw [if_neg hb];simp only;rw [if_neg (fun h => hb ⟨by have := h.1; simp at this; exact this.2, .inr (by
          have h3 := h.2;simp at h3;have : q3m (B3 k) (deepL l) ≤ 5 - d := by omega
          have := (Hu _ _ _).1 this;omega)⟩)]
    · rw [if_neg ha];simp only;rw [if_neg (fun h => ha ⟨by have := h.1; simp at this; exact this.1, by
        have h3 := h.2;simp at h3;have : q3m (B3 k) (deepL l) ≤ 5 - d := by omega
        have := (Hu _ _ _).1 this;omega⟩)]
end
theorem Vw (g : aI) : cF g = true ↔ Fp g = true ∧ B3 g ≤ 4 ∧ Hq g ≤ 12 := by
 unfold cF;rw [U0]
 by_cases h : Fp g = true ∧ 1 + B3 g ≤ 5
 ·rw [if_pos h];simp only [decide_eq_true_eq];constructor
  ·intro h2; exact ⟨h.1, by omega, h2⟩
  ·intro h2; exact h2.2.2
 ·rw [if_neg h];simp only;constructor
  ·intro h2; cases h2
  ·intro h2; exact absurd ⟨h2.1, by omega⟩ h
end Go.SX
namespace Go.SX
def Fh (W : List Wd) : Nat → List aI → Prop
 | P, [] => P < W.length
 | P, k :: l => ∃ p, P ≤ p ∧ (W.drop p).take (aP k).length = aP k ∧ Fh W (p + (aP k).length) l
theorem Fh.mono {W : List Wd} : ∀ (l : List aI) {P Q : Nat}, Q ≤ P → Fh W P l → Fh W Q l
 | [], P, Q, h, h1 => by unfold Fh at *; omega
 | k :: l, P, Q, h, ⟨p, h1, h2, h3⟩ => ⟨p, by omega, h2, h3⟩
theorem Fh.lt {W : List Wd} : ∀ (l : List aI) {P : Nat}, Fh W P l → P < W.length
 | [], P, h => h
 | k :: l, P, ⟨p, h1, h2, h3⟩ => by have := Fh.lt l h3; omega
end Go.SX
namespace Go.SX
theorem Cr : ∀ (l : List UInt8) (acc v : Nat) (r : List UInt8), Go.Lib.parseUint10 acc l = .ok v → Go.Lib.parseUint10 acc (l ++ r) = Go.Lib.parseUint10 v r
 | [], acc, v, r, h => by simp only [Go.Lib.parseUint10] at h; injection h with h; subst h; rfl
 | c :: l, acc, v, r, h => by
  simp only [Go.Lib.parseUint10, List.cons_append] at h ⊢;split at h
  ·rename_i hc;rw [if_pos hc];split at h
   ·cases h
   ·rename_i h1;rw [if_neg h1];split at h
    ·cases h
    ·rename_i h2;rw [if_neg h2];exact Cr l _ v r h
  ·cases h
theorem vH {k : Nat} (h : k < 10) : (UInt8.ofNat (48 + k)).toNat = 48 + k := by
 rw [UInt8.toNat_ofNat']; omega
theorem F1 : ∀ (f u : Nat), u < 10 ^ (f + 1) → u < 1000000000000000 → Go.Lib.parseUint10 0 (mQ (f + 1) u) = .ok u ∧ mQ (f + 1) u ≠ [] ∧ ∃ c r, mQ (f + 1) u = c :: r ∧ c.toNat ≠ 43 ∧ c.toNat ≠ 45
 | f, u, h, hb => by
  by_cases h10 : u < 10
  ·have e : mQ (f + 1) u = [UInt8.ofNat (48 + u)] := by rw [mQ, if_pos h10]
   rw [e];refine ⟨?_, by simp, _, _, rfl, ?_, ?_⟩
   ·simp only [Go.Lib.parseUint10];rw [vH h10, if_pos (by omega), if_neg (by omega), if_neg (by omega)];congr 1; omega
   ·rw [vH h10]; omega
   ·rw [vH h10]; omega
  ·cases f with
   | zero => omega
   | succ f =>
    have e : mQ (f + 1 + 1) u = mQ (f + 1) (u / 10) ++ [UInt8.ofNat (48 + u % 10)] := by rw [mQ, if_neg h10]
    obtain ⟨h1, h2, c, r, h3, h4, h5⟩ := F1 f (u / 10) (by rw [Nat.pow_succ] at h; omega) (by omega);rw [e];refine ⟨?_, by simp, c, r ++ [UInt8.ofNat (48 + u % 10)], by rw [h3]; rfl, h4, h5⟩;rw [Cr _ _ _ _ h1];simp only [Go.Lib.parseUint10];rw [vH (Nat.mod_lt _ (by omega)), if_pos (by omega), if_neg (by omega), if_neg (by omega)];congr 1; omega
theorem Ei {n : Int} (h0 : 0 ≤ n) (h1 : n ≤ 1000000000000) : q5s (bJ n) = some n := by
 have e : bJ n = mQ 20 n.toNat := by unfold bJ; rw [if_neg (by omega)]
 obtain ⟨p1, p2, c, r, p3, p4, p5⟩ := F1 19 n.toNat (by omega) (by omega);have ha : Go.Lib.atoiAll (bJ n) = .ok n := by
  rw [e];rw [p3] at p1 p2 ⊢;unfold Go.Lib.atoiAll;simp only;rw [if_neg (by omega)];unfold Go.Lib.parseMag;rw [if_neg p2, p1];simp only;rw [if_neg (by omega), if_neg (by omega), if_neg p5];congr 1; omega
 unfold q5s;rw [ha];simp
theorem oI {ws : List Wd} {a : Nat} {w : Wd} {r : List Wd} (h : ws.drop a = w :: r) : cH ws a = w := by
 have hl := congrArg List.length h;rw [List.length_drop, List.length_cons] at hl;unfold cH;rw [if_neg (by omega)];show ws.getD a [] = w;rw [List.getD_eq_getElem?_getD, ← List.head?_drop, h]; rfl
theorem Xv {ws : List Wd} {a : Int} {w : Wd} (h : cH ws a = w) (hw : w ≠ [32]) (h0 : 0 ≤ a) (h1 : a ≤ ws.length) : a < ws.length ∧ ws.drop a.toNat = w :: ws.drop (a + 1).toNat := by
 rcases Int.lt_or_eq_of_le h1 with h2 | h2
 ·refine ⟨h2, ?_⟩;unfold cH at h;rw [if_neg (by omega)] at h;have h3 : a.toNat < ws.length := by omega
  rw [List.drop_eq_getElem_cons h3];rw [List.getD_eq_getElem?_getD, List.getElem?_eq_getElem h3] at h;rw [show (a + 1).toNat = a.toNat + 1 by omega, ← h]; rfl
 ·unfold cH at h;rw [if_pos h2] at h;exact absurd h.symm hw
theorem rK {ws l r : List Wd} {a : Nat} (h : ws.drop a = l ++ r) : ws.drop (a + l.length) = r := by
 rw [← List.drop_drop, h, List.drop_left]
theorem Jb {ws : List Wd} : ∀ (l : List Wd) {r : List Wd} {a : Nat} {m : Int}, ws.drop a = l ++ r → dL ws l a m = .ok () ((a + l.length : Nat) : Int) m
 | [], r, a, m, h => rfl
 | w :: l, r, a, m, h => by
  rw [dL, oI h, if_pos rfl];have h2 : ws.drop (a + 1) = l ++ r := rK (l := [w]) h;have := Jb l (a := a + 1) (m := m) h2;rw [show ((a : Int) + 1) = ((a + 1 : Nat) : Int) from rfl, this, List.length_cons];congr 2; omega
theorem aU {ws r : List Wd} {a : Nat} {w : Wd} (h : ws.drop a = w :: r) : ws.drop (a + 1) = r := rK (l := [w]) h
theorem Zz {ws l r : List Wd} {a : Nat} {w : Wd} (h : ws.drop a = w :: l ++ r) : ws.drop (a + 1) = l ++ r := aU (r := l ++ r) h
theorem jS {ws r : List Wd} {w : Wd} {a : Nat} {m : Int} (h : ws.drop a = w :: r) : dL ws [w] a m = .ok () ((a + 1 : Nat) : Int) m := Jb [w] h
theorem q8p {ws r : List Wd} {w v : Wd} {a : Nat} {m : Int} (h : ws.drop a = w :: v :: r) : dL ws [w, v] a m = .ok () ((a + 1 + 1 : Nat) : Int) m := Jb [w, v] h
theorem fW {ws r : List Wd} {a : Nat} {m n lo hi : Int} (h : ws.drop a = bJ n :: r) (h1 : lo ≤ n) (h2 : n ≤ hi) (h0 : 0 ≤ n) (hb : n ≤ 1000000000000) : pF ws lo hi a m = .ok n ((a + 1 : Nat) : Int) m := by
 unfold pF;rw [oI h, Ei h0 hb];simp only;rw [if_pos ⟨h1, h2⟩];rfl
theorem Tu {ws r : List Wd} {s t : Wd} {b : Bool} {a : Nat} {m : Int} (hst : t ≠ s) (h : ws.drop a = (if b then s else t) :: r) : Z2 ws s t a m = .ok b ((a + 1 : Nat) : Int) m := by
 unfold Z2;rw [oI h];cases b
 ·rw [if_neg (by simpa using hst), if_pos (by simp)]; rfl
 ·rw [if_pos (by simp)]; rfl
structure Bc (ws : List Wd) (a : Int) (l : List Wd) (a' : Int) : Prop where
 lo : 0 ≤ a
 hi : a' ≤ ws.length
 len : a' = a + l.length
 eq : ws.drop a.toNat = l ++ ws.drop a'.toNat
theorem Bc.app {ws l l' : List Wd} {a b c : Int} (h : Bc ws a l b) (h' : Bc ws b l' c) : Bc ws a (l ++ l') c :=
 ⟨h.lo, h'.hi, by rw [h'.len, h.len, List.length_append]; omega, by rw [h.eq, h'.eq, List.append_assoc]⟩
theorem Bc.nil {ws : List Wd} {a : Int} (h : 0 ≤ a) (h' : a ≤ ws.length) : Bc ws a [] a := ⟨h, h', by simp, rfl⟩
theorem Bc.one {ws : List Wd} {a : Int} {w : Wd} (h0 : 0 ≤ a) (h1 : a ≤ ws.length) (h : cH ws a = w) (hw : w ≠ [32]) : Bc ws a [w] (a + 1) := by
 obtain ⟨h2, h3⟩ := Xv h hw h0 h1;exact ⟨h0, by omega, by simp, h3⟩
end Go.SX
namespace Go.SX
abbrev Run := Nat × Nat
def RC : Nat → List Run → Prop
 | _, [] => True
 | c, p :: l => c ≤ p.1 ∧ p.1 ≤ p.2 ∧ p.2 ≤ 47 ∧ RC (p.2 + 2) l
def mk (p : Run) : Nat := 2 ^ p.1 * (2 ^ (p.2 - p.1 + 1) - 1)
def val : List Run → Nat
 | [] => 0
 | p :: l => mk p + val l
theorem RC.mono : ∀ {l : List Run} {c d : Nat}, d ≤ c → RC c l → RC d l
 | [], _, _, _, _ => trivial
 | p :: l, c, d, h, h1 => ⟨by have := h1.1; omega, h1.2.1, h1.2.2.1, h1.2.2.2⟩
theorem q24 : ∀ (x f m : Nat), x < f → m % 2 = 1 → tzF f (2 ^ x * m) = x
 | 0, f + 1, m, _, h => by unfold tzF; rw [Nat.pow_zero, Nat.one_mul, if_pos h]
 | x + 1, f + 1, m, hf, h => by
  have e : 2 ^ (x + 1) * m = 2 * (2 ^ x * m) := by rw [Nat.pow_succ, Nat.mul_comm (2 ^ x) 2, Nat.mul_assoc]
  unfold tzF;rw [e, if_neg (by omega), Nat.mul_div_cancel_left _ (by omega), q24 x f m (by omega) h]; omega
theorem Wa : ∀ (t f q : Nat), t < f → toF f (2 ^ t - 1 + 2 ^ (t + 1) * q) = t
 | 0, f + 1, q, _ => by unfold toF; rw [if_neg (by simp)]
 | t + 1, f + 1, q, hf => by
  have e : 2 ^ (t + 1) = 2 * 2 ^ t := by rw [Nat.pow_succ, Nat.mul_comm]
  have e2 : 2 ^ (t + 1 + 1) * q = 2 * (2 ^ (t + 1) * q) := by rw [Nat.pow_succ 2 (t + 1), Nat.mul_comm (2 ^ (t + 1)) 2, Nat.mul_assoc]
  have hp := Nat.two_pow_pos t;unfold toF;rw [e2, if_pos (by omega), show (2 ^ (t + 1) - 1 + 2 * (2 ^ (t + 1) * q)) / 2 = 2 ^ t - 1 + 2 ^ (t + 1) * q by omega, Wa t f q (by omega)]; omega
theorem W6 : ∀ {l : List Run} {c : Nat}, RC c l → 2 ^ c ∣ val l
 | [], c, _ => Nat.dvd_zero _
 | p :: l, c, h => by
  unfold val mk;exact Nat.dvd_add (Nat.dvd_trans (Nat.pow_dvd_pow 2 h.1) ⟨_, rfl⟩) (Nat.dvd_trans (Nat.pow_dvd_pow 2 (show c ≤ p.2 + 2 by have := h.1; have := h.2.1; omega)) (W6 h.2.2.2))
theorem N2 {p : Run} (h : p.1 ≤ p.2) : mk p + 2 ^ p.1 = 2 ^ (p.2 + 1) := by
 unfold mk;have h1 := Nat.two_pow_pos (p.2 - p.1 + 1);have h2 : 2 ^ p.1 * (2 ^ (p.2 - p.1 + 1) - 1) + 2 ^ p.1 * 1 = 2 ^ p.1 * 2 ^ (p.2 - p.1 + 1) := by rw [← Nat.mul_add]; congr 1; omega
 rw [← Nat.pow_add, show p.1 + (p.2 - p.1 + 1) = p.2 + 1 by omega] at h2;omega
theorem Zv {l : List Run} {c : Nat} (h : RC c l) : val l < 2 ^ 48 := by
 induction l generalizing c with
 | nil => show 0 < 2 ^ 48; omega
 | cons p l ih =>
  cases l with
  | nil =>
   have h1 := N2 h.2.1;have h2 : 2 ^ (p.2 + 1) ≤ 2 ^ 48 := Nat.pow_le_pow_right (by omega) (by have := h.2.2.1; omega);have h3 := Nat.two_pow_pos p.1;show mk p + 0 < 2 ^ 48;omega
  | cons q l =>
   have h1 := N2 h.2.1;have h2 := N2 h.2.2.2.2.1;obtain ⟨k, hk⟩ := W6 (l := q :: l) (c := p.2 + 2) h.2.2.2;have h3 := ih h.2.2.2;have h4 : p.2 + 2 ≤ 47 := by have := h.2.2.2.1; have := h.2.2.2.2.1; have := h.2.2.2.2.2.1; omega
   have h5 : 2 ^ (p.2 + 2) ∣ 2 ^ 48 := Nat.pow_dvd_pow 2 (by omega);obtain ⟨j, hj⟩ := h5;have h6 : 2 ^ (p.2 + 1) < 2 ^ (p.2 + 2) := Nat.pow_lt_pow_right (by omega) (by omega);have h7 : k + 1 ≤ j := by
    rw [hk, hj] at h3;exact Nat.lt_of_mul_lt_mul_left h3
   have h8 := Nat.mul_le_mul_left (2 ^ (p.2 + 2)) h7;rw [Nat.mul_add, ← hk, ← hj] at h8;show mk p + val (q :: l) < 2 ^ 48;have := Nat.two_pow_pos p.1;omega
theorem Ec {p : Run} {l : List Run} {c : Nat} (h : RC c (p :: l)) : Dn (val (p :: l)) = p ∧ jN (val (p :: l)) = val l ∧ val (p :: l) ≠ 0 := by
 obtain ⟨q, hq⟩ := W6 h.2.2.2;obtain ⟨x, z⟩ := p;have hxz : x ≤ z := h.2.1;have hz : z ≤ 47 := h.2.2.1;obtain ⟨t, ht⟩ : ∃ t, z = x + t := ⟨z - x, by omega⟩;subst ht;have hm : val ((x, x + t) :: l) = 2 ^ x * (2 ^ (t + 1) - 1 + 2 ^ (t + 1 + 1) * q) := by
  show 2 ^ x * (2 ^ (x + t - x + 1) - 1) + val l = _;rw [show x + t - x + 1 = t + 1 by omega, Nat.mul_add, hq];congr 1;rw [← Nat.mul_assoc, ← Nat.pow_add];congr 2
 have h1 : 2 ^ (t + 1) = 2 * 2 ^ t := by rw [Nat.pow_succ, Nat.mul_comm]
 have h2 : 2 ^ (t + 1 + 1) * q = 2 * (2 ^ (t + 1) * q) := by rw [Nat.pow_succ 2 (t + 1), Nat.mul_comm (2 ^ (t + 1)) 2, Nat.mul_assoc]
 have hp := Nat.two_pow_pos t;have hodd : (2 ^ (t + 1) - 1 + 2 ^ (t + 1 + 1) * q) % 2 = 1 := by omega
 have htz : tzF 64 (val ((x, x + t) :: l)) = x := by rw [hm]; exact q24 x 64 _ (by omega) hodd
 have hlen : bF (val ((x, x + t) :: l)) = x + (t + 1) := by
  unfold bF;rw [htz, hm, Nat.mul_div_cancel_left _ (Nat.two_pow_pos x), Wa (t + 1) 64 q (by omega)]
 refine ⟨?_, ?_, ?_⟩
 ·unfold Dn; rw [htz, hlen]; rfl
 ·unfold jN;have hdd : ∀ N : Nat, N / 2 ^ (x + (t + 1)) = N / 2 ^ x / 2 ^ (t + 1) := fun N => by rw [Nat.pow_add, Nat.div_div_eq_div_mul]
  rw [hlen, hm, hdd, Nat.mul_div_cancel_left _ (Nat.two_pow_pos x)];have h5 : (2 ^ (t + 1) - 1 + 2 ^ (t + 1 + 1) * q) / 2 ^ (t + 1) = 2 * q := by
   rw [show 2 ^ (t + 1 + 1) * q = 2 ^ (t + 1) * (2 * q) by rw [Nat.pow_succ 2 (t + 1), Nat.mul_assoc], Nat.add_mul_div_left _ _ (Nat.two_pow_pos _), Nat.div_eq_of_lt (by omega), Nat.zero_add]
  rw [h5, hq];show 2 * q * 2 ^ (x + (t + 1)) = 2 ^ ((x + (t + 1)) + 1) * q;rw [Nat.pow_succ 2 (x + (t + 1)), Nat.mul_assoc, Nat.mul_comm]; simp only [Nat.mul_assoc, Nat.mul_comm, Nat.mul_left_comm]
 ·rw [hm];exact Nat.mul_ne_zero (by have := Nat.two_pow_pos x; omega) (by omega)
theorem Lh : ∀ (f : Nat) (l : List Run) (c : Nat), RC c l → val l ≤ f → W5 f (val l) = l
 | 0, l, c, h, hf => by
  cases l with
  | nil => rfl
  | cons p l => have := (Ec h).2.2; omega
 | f + 1, l, c, h, hf => by
  cases l with
  | nil => rfl
  | cons p l =>
   obtain ⟨h1, h2, h3⟩ := Ec h;have h4 := uI h3 (Nat.lt_trans (Zv h) (by omega));rw [R3, if_neg h3, h1, h2, Lh f l _ h.2.2.2 (by omega)]
theorem Rm {l : List Run} {c : Nat} (h : RC c l) : dX (val l) = l := Lh _ l c h (Nat.le_refl _)
theorem Rn : ∀ (f m : Nat), toF f m < f → m / 2 ^ toF f m % 2 = 0
 | 0, m, h => by omega
 | f + 1, m, h => by
  unfold toF at h ⊢;split
  ·rename_i h1;rw [if_pos h1] at h;have ih := Rn f (m / 2) (by omega);rw [Nat.pow_add, Nat.pow_one, ← Nat.div_div_eq_div_mul]; exact ih
  ·simp; omega
theorem q1v : ∀ (b n : Nat), n ≤ b → n < 2 ^ 48 → ∀ c, 2 ^ c ∣ n → ∃ l, RC c l ∧ val l = n
 | b, n, hb, h, c, hc => by
  by_cases h0 : n = 0
  ·exact ⟨[], trivial, h0.symm⟩
  ·cases b with
   | zero => omega
   | succ b =>
    have h64 : n < 2 ^ 64 := by omega
    obtain ⟨a1, a2, a3⟩ := iY 64 n h0 h64;have hs := uI h0 h64;obtain ⟨l1, l2⟩ := uF h0 h;have ht := Z3 64 (n / 2 ^ tzF 64 n);have hmx := Rn 64 (n / 2 ^ tzF 64 n) (by unfold bF at l2; omega);have hdef : bF n = tzF 64 n + toF 64 (n / 2 ^ tzF 64 n) := rfl;have hq : n / 2 ^ bF n = n / 2 ^ tzF 64 n / 2 ^ toF 64 (n / 2 ^ tzF 64 n) := by rw [hdef, Nat.pow_add, Nat.div_div_eq_div_mul]
    have hsd : 2 ^ (bF n + 1) ∣ jN n := by
     unfold jN;rw [hq, Nat.pow_succ, Nat.mul_comm];exact Nat.mul_dvd_mul (Nat.dvd_of_mod_eq_zero hmx) (Nat.dvd_refl _)
    obtain ⟨l, hl1, hl2⟩ := q1v b (jN n) (by omega) (by omega) (bF n + 1) hsd;have hcx : c ≤ tzF 64 n := by
     rcases Nat.lt_or_ge (tzF 64 n) c with h4 | h4
     ·exfalso;obtain ⟨q, hq⟩ := Nat.dvd_trans (Nat.pow_dvd_pow 2 (show tzF 64 n + 1 ≤ c by omega)) hc;have h5 : n / 2 ^ tzF 64 n = 2 * q := Nat.div_eq_of_eq_mul_right (Nat.two_pow_pos _) (by rw [← Nat.mul_assoc, ← Nat.pow_succ]; exact hq);omega
     ·exact h4
    refine ⟨(tzF 64 n, bF n - 1) :: l, ⟨hcx, by show tzF 64 n ≤ bF n - 1; omega, by show bF n - 1 ≤ 47; omega, by show RC (bF n - 1 + 2) l; rw [show bF n - 1 + 2 = bF n + 1 by omega]; exact hl1⟩, ?_⟩;show 2 ^ tzF 64 n * (2 ^ (bF n - 1 - tzF 64 n + 1) - 1) + val l = n;rw [hl2, show bF n - 1 - tzF 64 n + 1 = toF 64 (n / 2 ^ tzF 64 n) by omega, ← ht];have e1 := Nat.div_add_mod (n / 2 ^ tzF 64 n) (2 ^ toF 64 (n / 2 ^ tzF 64 n));have e2 := Nat.div_add_mod n (2 ^ tzF 64 n);rw [a1, Nat.add_zero] at e2;have e3 : jN n = 2 ^ tzF 64 n * (2 ^ toF 64 (n / 2 ^ tzF 64 n) * (n / 2 ^ tzF 64 n / 2 ^ toF 64 (n / 2 ^ tzF 64 n))) := by
     unfold jN;rw [hq, hdef, Nat.pow_add, Nat.mul_comm, Nat.mul_assoc]
    rw [e3, ← Nat.mul_add, Nat.add_comm, e1, e2]
theorem X7 {n : Nat} (h : n < 2 ^ 48) : RC 0 (dX n) ∧ val (dX n) = n := by
 obtain ⟨l, h1, h2⟩ := q1v n n (Nat.le_refl _) h 0 ⟨n, by simp⟩;have := Rm h1;rw [h2] at this;rw [this];exact ⟨h1, h2⟩
def K3 : Nat → List (List Run) → List (Nat × Run)
 | _, [] => []
 | y, l :: ls => l.map (fun p => (y, p)) ++ K3 (y + 1) ls
def xB (L : List (Nat × Run)) : List Wd := L.flatMap fun p => M1 p.1 p.2
def J5 : Nat → Nat → List (Nat × Run) → Prop
 | _, _, [] => True
 | y, c, p :: L => y ≤ p.1 ∧ p.1 ≤ 23 ∧ (p.1 = y → c ≤ p.2.1) ∧ p.2.1 ≤ p.2.2 ∧ p.2.2 ≤ 47 ∧ J5 p.1 (p.2.2 + 2) L
def Vn (rows : List Int) (p : Nat × Run) : List Int := rows.set p.1 (cE .or .i64 (rows.getD p.1 0) (I3 p.2.1 p.2.2))
def build (rows : List Int) (L : List (Nat × Run)) : List Int := L.foldl Vn rows
theorem E7 : ∀ (rows : List Int) (y : Nat), gQ y rows = xB (K3 y (rows.map fun r => dX r.toNat))
 | [], y => rfl
 | r :: rows, y => by
  rw [gQ, List.map_cons, K3, E7 rows (y + 1)];unfold xB;rw [List.flatMap_append, List.flatMap_map];rfl
theorem Cx : ∀ (l : List Run) (y c : Nat) (ls : List (List Run)), y ≤ 23 → RC c l → (∀ d, J5 y d (K3 (y + 1) ls)) → J5 y c (l.map (fun p => (y, p)) ++ K3 (y + 1) ls)
 | [], y, c, ls, hy, h, h2 => h2 c
 | p :: l, y, c, ls, hy, h, h2 => ⟨Nat.le_refl _, hy, fun _ => h.1, h.2.1, h.2.2.1, Cx l y _ ls hy h.2.2.2 h2⟩
theorem J5.up : ∀ {L : List (Nat × Run)} {y z c d : Nat}, y < z → J5 z c L → J5 y d L
 | [], y, z, c, d, h, h1 => trivial
 | p :: L, y, z, c, d, h, h1 => ⟨by have := h1.1; omega, h1.2.1, fun e => by have := h1.1; omega, h1.2.2.2.1, h1.2.2.2.2.1, h1.2.2.2.2.2⟩
theorem N7 : ∀ (ls : List (List Run)) (y c : Nat), y + ls.length ≤ 24 → (∀ l ∈ ls, RC 0 l) → (∀ l, ls.head? = some l → RC c l) → J5 y c (K3 y ls)
  | [], y, c, h, _, _ => trivial
  | l :: ls, y, c, h, hl, hc => by
    rw [List.length_cons] at h;refine Cx l y c ls (by omega) (hc l rfl) fun d => ?_;cases ls with
    | nil => trivial
    | cons k ls =>
      exact J5.up (Nat.lt_succ_self y) (N7 (k :: ls) (y + 1) 0 (by omega) (fun x hx => hl x (List.mem_cons_of_mem _ hx)) fun x hx => by
        simp at hx; subst hx; exact hl k (by simp))
theorem Ys {p : Run} (h : p.1 ≤ p.2) : I3 p.1 p.2 = (mk p : Int) := by
 unfold I3 mk;rw [show ((p.2 : Int) - p.1 + 1).toNat = p.2 - p.1 + 1 by omega, show ((p.1 : Nat) : Int).toNat = p.1 from rfl];have := Nat.two_pow_pos (p.2 - p.1 + 1);rw [Int.natCast_mul, Int.natCast_sub (by omega), Int.natCast_pow, Int.natCast_pow, Int.mul_comm];rfl
theorem q9t {p : Run} (h : p.1 ≤ p.2) (h' : p.2 ≤ 47) : mk p < 2 ^ 48 := by
 have h1 := N2 h;have h2 : 2 ^ (p.2 + 1) ≤ 2 ^ 48 := Nat.pow_le_pow_right (by omega) (by omega);have := Nat.two_pow_pos p.1;omega
theorem q73 {p : Run} (h : p.1 ≤ p.2) (h' : p.2 ≤ 47) {v : Nat} (hv : v < 2 ^ p.1) : cE .or .i64 (v : Int) (I3 p.1 p.2) = ((v + mk p : Nat) : Int) := by
 have h1 : v < 2 ^ 48 := Nat.lt_of_lt_of_le hv (Nat.pow_le_pow_right (by omega) (by omega));rw [Ys h, Qe h1 (q9t h h')];congr 1;rw [Nat.or_comm];unfold mk;rw [← Nat.two_pow_add_eq_or_of_lt hv, Nat.add_comm]
theorem Em : ∀ (l : List Run) (y c v : Nat) (pre post : List Int), RC c l → v < 2 ^ c → pre.length = y → build (pre ++ (v : Int) :: post) (l.map fun p => (y, p)) = pre ++ ((v + val l : Nat) : Int) :: post
 | [], y, c, v, pre, post, _, _, _ => rfl
 | p :: l, y, c, v, pre, post, h, hv, hy => by
  subst hy;have hv1 : v < 2 ^ p.1 := Nat.lt_of_lt_of_le hv (Nat.pow_le_pow_right (by omega) h.1);have e : Vn (pre ++ (v : Int) :: post) (pre.length, p) = pre ++ ((v + mk p : Nat) : Int) :: post := by
   unfold Vn;simp only;rw [show (pre ++ (v : Int) :: post).getD pre.length 0 = (v : Int) by simp [List.getD_eq_getElem?_getD], q73 h.2.1 h.2.2.1 hv1];simp
  show build (Vn (pre ++ (v : Int) :: post) (pre.length, p)) (l.map fun p => (pre.length, p)) = _;rw [e, Em l pre.length (p.2 + 2) (v + mk p) pre post h.2.2.2 ?_ rfl]
  ·rw [val]; congr 3; omega
  ·have h1 := N2 h.2.1;have h2 : 2 ^ (p.2 + 1) ≤ 2 ^ (p.2 + 2) := Nat.pow_le_pow_right (by omega) (by omega);omega
theorem Se (rows : List Int) (a b : List (Nat × Run)) : build rows (a ++ b) = build (build rows a) b := List.foldl_append ..
theorem S1 : ∀ (ls : List (List Run)) (y : Nat) (pre : List Int), (∀ l ∈ ls, RC 0 l) → pre.length = y → build (pre ++ List.replicate ls.length 0) (K3 y ls) = pre ++ ls.map fun l => (val l : Int)
 | [], y, pre, _, _ => by simp [build, K3]
 | l :: ls, y, pre, h, hy => by
  rw [K3, Se, List.length_cons, List.replicate_succ];have h1 := Em l y 0 0 pre (List.replicate ls.length 0) (h l (by simp)) (by simp) hy;rw [show ((0 : Nat) : Int) = 0 from rfl] at h1;rw [h1, Nat.zero_add];have h2 := S1 ls (y + 1) (pre ++ [(val l : Int)]) (fun k hk => h k (List.mem_cons_of_mem _ hk)) (by simp [hy]);rw [List.append_assoc] at h2;rw [show pre ++ (val l : Int) :: List.replicate ls.length 0 = pre ++ ([(val l : Int)] ++ List.replicate ls.length 0) from rfl, h2];simp
theorem Of {rows : List Int} (h : bE rows = true) : ∃ L, J5 0 0 L ∧ gQ 0 rows = xB L ∧ build (List.replicate 24 0) L = rows := by
 simp only [bE, Bool.and_eq_true, decide_eq_true_eq, List.all_eq_true] at h;obtain ⟨hl, hr⟩ := h;have hl : rows.length = 24 := by omega
 have hR : ∀ r ∈ rows, r.toNat < 2 ^ 48 ∧ 0 ≤ r := fun r hm => by
  have := (aK _ _ _).1 (hr r hm);exact ⟨by omega, by omega⟩
 have h0 : ∀ l ∈ rows.map (fun r => dX r.toNat), RC 0 l := fun l hm => by
  obtain ⟨r, h1, rfl⟩ := List.mem_map.1 hm;exact (X7 (hR r h1).1).1
 refine ⟨K3 0 (rows.map fun r => dX r.toNat), N7 _ 0 0 (by simp [hl]) h0 (fun l hm => h0 l (List.mem_of_mem_head? hm)), E7 rows 0, ?_⟩;have := S1 (rows.map fun r => dX r.toNat) 0 [] h0 rfl;rw [List.length_map, hl, List.nil_append, List.nil_append] at this;rw [this, List.map_map];refine Eq.trans (b := rows.map id) (List.map_congr_left fun r hm => ?_) (List.map_id _);show ((val (dX r.toNat) : Nat) : Int) = r;rw [(X7 (hR r hm).1).2];have := (hR r hm).2;omega
end Go.SX
