/-
  SX, part V2: the strict generator: states are reckoned out at each step, so that 'whnf' goes from stop to stop. Calls in place; ranges over functions.
-/
import Derived.Test.YtfbicphocelpeaaGreatDoorSxP
set_option linter.unusedVariables false
set_option linter.unusedSimpArgs false
namespace Go.SX
open Go.RowKit
variable {C : Cod}
section
variable {β : Type} {γ : Type}
def vA {δ : Sort _} : List (SV C) → Nat → SV C → (List (SV C) → δ) → δ
 | [], _, _, K => K []
 | _ :: l, 0, v, K => K (v :: l)
 | x :: l, n + 1, v, K => vA l n v (fun m => K (x :: m))
theorem tX : ∀ (T : List (SV C)) (d : Nat) (v : SV C) (K : List (SV C) → Prop), vA T d v K = K (wK T d v)
 | [], _, _, _ => rfl
 | _ :: _, 0, _, _ => rfl
 | x :: l, n + 1, v, K => by simp only [vA, wK, tX l n v]
def cZ {α : Type} : List α → (List α → Prop) → Prop
 | [], K => K []
 | x :: l, K => cZ l (fun m => K (x :: m))
theorem bH {α : Type} : ∀ (l : List α) (K : List α → Prop), cZ l K = K l
 | [], _ => rfl
 | x :: l, K => by simp only [cZ, bH l]
def Ns (n : Nat) (K : Nat → Prop) : Prop :=
 match n with
 | 0 => K 0
 | n + 1 => K (n + 1)
theorem pK (n : Nat) (K : Nat → Prop) : Ns n K = K n := by cases n <;> rfl
def sQ : List (HS C) → Nat → (Nat → Prop) → Prop
 | [], n, K => Ns n K
 | _ :: l, n, K => sQ l (n + 1) K
theorem eG : ∀ (l : List (HS C)) (n : Nat) (K : Nat → Prop), sQ l n K = K (hlen l + n)
 | [], n, K => by simp only [sQ, pK, hlen, Nat.zero_add]
 | _ :: l, n, K => by simp only [sQ, eG l, hlen]; congr 1; omega
def Vt (x : SV C) (K : SV C → Prop) : Prop :=
 match x with
 | .p y => match y with
  | .int k n => K (.p (.int k n))
  | .bool b => K (.p (.bool b))
  | .str l => K (.p (.str l))
  | .lit v => K (.p (.lit v))
  | .dsl u xs => K (.p (.dsl u xs))
  | .fds u xs => K (.p (.fds u xs))
 | .any => K .any
 | .ptr c o => Ns c fun c => Ns o fun o => K (.ptr c o)
 | .eptr c o n i f => K (.eptr c o n i f)
 | .dptr l f => K (.dptr l f)
 | .slice c o n off len => Ns c fun c => Ns o fun o => Ns n fun n => K (.slice c o n off len)
 | .arr u N xs => K (.arr u N xs)
 | .agg vs => cZ vs fun vs => K (.agg vs)
 | .fn f a b => cZ a fun a => cZ b fun b => K (.fn f a b)
 | .iface t v => K (.iface t v)
 | .tuple vs => cZ vs fun vs => K (.tuple vs)
 | .yieldv c => K (.yieldv c)
 | .mapp c => Ns c fun c => K (.mapp c)
theorem Fi (x : SV C) (K : SV C → Prop) : Vt x K = K x := by
 cases x with
 | p y => cases y <;> rfl
 | ptr c o => exact (pK c (fun c => Ns o fun o => K (.ptr c o))).trans (pK o (fun o => K (.ptr c o)))
 | slice c o n off len => exact ((pK c (fun c => Ns o fun o => Ns n fun n => K (.slice c o n off len))).trans (pK o (fun o => Ns n fun n => K (.slice c o n off len)))).trans (pK n (fun n => K (.slice c o n off len)))
 | agg vs => exact bH vs (fun vs => K (.agg vs))
 | fn f a b => exact (bH a (fun a => cZ b fun b => K (.fn f a b))).trans (bH b (fun b => K (.fn f a b)))
 | tuple vs => exact bH vs (fun vs => K (.tuple vs))
 | mapp c => exact pK c (fun c => K (.mapp c))
 | _ => rfl
def dQ : List (SV C) → (List (SV C) → Prop) → Prop
 | [], K => K []
 | x :: l, K => Vt x fun y => dQ l fun m => K (y :: m)
theorem bB : ∀ (l : List (SV C)) (K : List (SV C) → Prop), dQ l K = K l
 | [], _ => rfl
 | x :: l, K => by simp only [dQ, Fi, bB l]
def dI (T : List (SV C)) (d : Option Nat) (v : SV C) (K : List (SV C) → Prop) : Prop :=
 match d with
 | none => K T
 | some d => Vt v fun v => vA T d v K
theorem bU (T : List (SV C)) (d : Option Nat) (v : SV C) (K : List (SV C) → Prop) : dI T d v K = K (mD T d v) := by
 cases d with
 | none => rfl
 | some d => exact (Fi v (fun v => vA T d v K)).trans (tX T d v K)
def q1i (h : HS C) (K : HS C → Prop) : Prop :=
 match h with
 | .vart t vs => cZ vs (fun l => K (.vart t l))
 | .fresh => K .fresh
 | .dead => K .dead
 | .rows u xs => K (.rows u xs)
 | .obj o => K (.obj o)
theorem Qa (h : HS C) (K : HS C → Prop) : q1i h K = K h := by
 cases h <;> first | rfl | exact bH _ _
def A8 : List (HS C) → Nat → HS C → (List (HS C) → Prop) → Prop
 | [], 0, h, K => K [h]
 | [], n + 1, h, K => A8 [] n h (fun m => K (.fresh :: m))
 | _ :: l, 0, h, K => K (h :: l)
 | x :: l, n + 1, h, K => A8 l n h (fun m => K (x :: m))
theorem lJ : ∀ (Hp : List (HS C)) (c : Nat) (h : HS C) (K : List (HS C) → Prop), A8 Hp c h K = K (Am Hp c h)
 | [], 0, _, _ => rfl
 | [], n + 1, h, K => by simp only [A8, Am, lJ [] n h]
 | _ :: _, 0, _, _ => rfl
 | x :: l, n + 1, h, K => by simp only [A8, Am, lJ l n h]
def eP : List (HS C) → List (Nat × HS C) → (List (HS C) → Prop) → Prop
 | Hp, [], K => K Hp
 | Hp, (c, h) :: l, K => q1i h (fun h' => A8 Hp c h' (fun Hp' => eP Hp' l K))
theorem cS : ∀ (ws : List (Nat × HS C)) (Hp : List (HS C)) (K : List (HS C) → Prop), eP Hp ws K = K (fS Hp ws)
 | [], _, _ => rfl
 | (c, h) :: l, Hp, K => by simp only [eP, fS, Qa, lJ, cS l]
end
structure RI (C : Cod) where
 fn : FuncId
 tmps : Array Value
 bd : Nat
 ps : Array Tmp
 assign : Code
 body : Code
 T : List (SV C)
def jH (i : RI C) (st : LoopState) (pd : Option Code) : Loop :=
 { state := st, pending := pd, fn := i.fn, tmps := i.tmps, params := i.ps, assign := i.assign, body := i.body, defers := i.bd }
abbrev Re (C : Cod) := List (Nat × RI C)
def lkR : Re C → Nat → Option (RI C)
 | [], _ => none
 | (c, r) :: l, d => if c = d then some r else lkR l d
structure Ctx (C : Cod) where
 ar : Option Nat
 L : Re C
 m0 : Nat
 nm : Bool
def rY (D : aJ C) (L : Re C) (w : World) (E : Env) : Prop :=
 ∀ c ri, lkR L c = some ri → ri.tmps.size = ri.T.length ∧ ∀ i, Den D w E (bX ri.T i) (ri.tmps.getD i undef)
def qb2 (ar r : Option Nat) (E : Env) : Prop := match ar, r with
 | none, none => True
 | some c, some l => E.β c = .loc l
 | _, _ => False
structure vW (D : aJ C) (X : Ctx C) (B : dP) (r : Option Nat) : Prop where
 m0 : B.m0 = X.m0
 L : rY D X.L B.w0 B.E0
 ar : qb2 X.ar r B.E0
 nm : B.nm = X.nm
theorem rY.mono {D : aJ C} {L : Re C} {w w' : World} {E E' : Env} (h : rY D L w E) (hL : dW w E w' E') : rY D L w' E' :=
 fun c ri hc => ⟨(h c ri hc).1, fun i => Den.mono hL _ _ ((h c ri hc).2 i)⟩
def yB (D : aJ C) (B : dP) (T : List (SV C)) (Hp : List (HS C)) (a : Act) (w : World) : Prop := ∃ df, An D B df T Hp a w
structure Xd (P : Program) (D : aJ C) (L : Re C) (f : FuncId) (args : List (SV C)) (Hp : List (HS C)) (S : SV C → List (HS C) → Prop) : Prop where
 run : ((∀ args w, (callFunc f args).run P w = .ok (.enter f args) w) ∧ ∀ B σ df a w E, rY D L B.w0 B.E0 → Rel D B E σ (aR Hp) df a w → ∀ vs, DenA D w E args vs →
  CallsIn (Fc none) 0 P f vs.toArray w fun e w' => ∃ v E' ret Hp', e = .returned v ∧ Den D w' E' ret v ∧ Rel D B E' σ (aR Hp') df a w' ∧ S ret Hp') ∨
  ∀ B σ df a w E, Rel D B E σ (aR Hp) df a w → ∀ vs, DenA D w E args vs → ∃ v w' E' ret Hp', (callFunc f vs.toArray).run P w = .ok (.value v) w' ∧ Den D w' E' ret v ∧ Rel D B E' σ (aR Hp') df a w' ∧ S ret Hp'
def q0c (D : aJ C) (m0 : Nat) (T : List (SV C)) (Hp : List (HS C)) (args : List (SV C)) (T' : List (SV C)) (Hp' : List (HS C)) (args' : List (SV C)) : Prop :=
 ∀ B E df a w, B.m0 = m0 → Rel D B E (bX T) (aR Hp) df a w → a.tmps.size = T.length → ∃ E', Rel D B E' (bX T') (aR Hp') df a w ∧ a.tmps.size = T'.length ∧ ∀ vs, DenA D w E args vs → DenA D w E' args' vs
theorem q0c.refl {D : aJ C} {m0 : Nat} {T : List (SV C)} {Hp : List (HS C)} {args : List (SV C)} : q0c D m0 T Hp args T Hp args := fun B E df a w _ hR hsz => ⟨E, hR, hsz, fun _ h => h⟩
structure qa3 (P : Program) (D : aJ C) (L : Re C) (f : FuncId) (args : List (SV C)) (Hp : List (HS C)) (ch : List PanicEntry) (Hp' : List (HS C)) : Prop where
 run : (∀ args w, (callFunc f args).run P w = .ok (.enter f args) w) ∧ ∀ B σ df a w E, rY D L B.w0 B.E0 → Rel D B E σ (aR Hp) df a w → ∀ vs, DenA D w E args vs →
  CallsIn (Fc none) 0 P f vs.toArray w fun e w' => ∃ E', e = .panicked ch ∧ Rel D B E' σ (aR Hp') df a w'
structure kX (P : Program) (D : aJ C) (X : Ctx C) (R : kU C) (f : FuncId) (args : List (SV C)) (dst : Option Nat) (all rest : List Oper) (k : List (It C)) (T : List (SV C)) (Hp : List (HS C)) : Prop where
 h : ∃ T1 Hp1 args1, q0c D X.m0 T Hp args T1 Hp1 args1 ∧ ((∃ S, Xd P D X.L f args1 Hp1 S ∧ ∀ ret Hp', S ret Hp' → R (.ops all rest :: k) (mD T1 dst ret) Hp') ∨ ∃ ch Hp', qa3 P D X.L f args1 Hp1 ch Hp' ∧ R (.die ch :: k) T1 Hp')
theorem kX.of {P : Program} {D : aJ C} {X : Ctx C} {R : kU C} {f : FuncId} {args : List (SV C)} {dst : Option Nat} {all rest : List Oper} {k : List (It C)} {T : List (SV C)} {Hp : List (HS C)} (S : SV C → List (HS C) → Prop)
  (h1 : Xd P D X.L f args Hp S) (h2 : ∀ ret Hp', S ret Hp' → R (.ops all rest :: k) (mD T dst ret) Hp') : kX P D X R f args dst all rest k T Hp := ⟨_, _, _, q0c.refl, .inl ⟨S, h1, h2⟩⟩
theorem kX.dies {P : Program} {D : aJ C} {X : Ctx C} {R : kU C} {f : FuncId} {args : List (SV C)} {dst : Option Nat} {all rest : List Oper} {k : List (It C)} {T : List (SV C)} {Hp : List (HS C)} {ch : List PanicEntry} {Hp' : List (HS C)}
  (h1 : qa3 P D X.L f args Hp ch Hp') (h2 : R (.die ch :: k) T Hp') : kX P D X R f args dst all rest k T Hp := ⟨_, _, _, q0c.refl, .inr ⟨ch, Hp', h1, h2⟩⟩
def Sp (P : Program) (D : aJ C) (L : Re C) (c : Nat) (args : List (SV C)) (Hp : List (HS C)) (S : Bool → List (HS C) → Prop) : Prop :=
 ∀ (r : Option Nat) B σ df a w E, rY D L B.w0 B.E0 → Rel D B E σ (aR Hp) df a w → ∃ b, E.β c = .loc b ∧ ∀ vs, DenA D w E args vs →
  ∃ f tmps assign body, (Instr.yield b vs.toArray).run P w = .ok (.round b f tmps assign body) w ∧
   RoundIn (Fc r) 0 P b f tmps assign body w fun e w' => ∃ q E' Hp', e = .returned (.bool q) ∧ Rel D B E' σ (aR Hp') df a w' ∧ S q Hp'
structure q0y (P : Program) (D : aJ C) (X : Ctx C) (R : kU C) (c : Nat) (args : List (SV C)) (dst : Option Nat) (all rest : List Oper) (k : List (It C)) (T : List (SV C)) (Hp : List (HS C)) : Prop where
 h : ∃ S, Sp P D X.L c args Hp S ∧ ∀ q Hp', S q Hp' → R (.ops all rest :: k) (mD T dst (.p (.bool q))) Hp'
def q11 (P : Program) (D : aJ C) (X : Ctx C) (g : Operand) (ps : Array Tmp) (assign body : Code) (T : List (SV C)) (Hp : List (HS C)) (S : Option Code → List (HS C) → Prop) : Prop :=
 ∀ r B a w Q, vW D X B r → yB D B T Hp a w →
  (∀ j Hp' a' w', S j Hp' → yB D B T Hp' a' w' → match j with
   | none => Q .normal a' w'
   | some c => c.wpIn (Fc r) 0 P Q a' w') →
  (Code.rangeFunc g ps assign body).wpIn (Fc r) 0 P Q a w
def qT (R : kU C) (k : List (It C)) (T : List (SV C)) (Hp : List (HS C)) : Option Code → Prop
 | none => R k T Hp
 | some c => R (.code c :: k) T Hp
structure q15 (P : Program) (D : aJ C) (X : Ctx C) (R : kU C) (g : Operand) (gv : SV C) (ps : Array Tmp) (assign body : Code) (k : List (It C)) (T : List (SV C)) (Hp : List (HS C)) : Prop where
 h : ∃ S, q11 P D X g ps assign body T Hp S ∧ ∀ j Hp', S j Hp' → qT R k T Hp' j
structure Ye (D : aJ C) (m0 : Nat) (R : kU C) (body : Code) (k : List (It C)) (T : List (SV C)) (Hp : List (HS C)) : Prop where
 h : q7h D m0 R body k T Hp
structure oL (o : Op) (vals : List (SV C)) (hs : List (Nat × HS C)) (Y : Prop) : Prop where
 h : Y
structure qc0 (p X Y : Prop) : Prop where
 t : p → X
 f : Y
structure qa8 (q : Option (Option (Nat × Value))) (Y : Option (Nat × Value) → Prop) : Prop where
 h : ∃ r, q = some r ∧ Y r
inductive Tk (o : Operand) (v : SV C) : Prop
inductive q7r (i : It C) : Prop
def yS (b : Bool) (X Y : Prop) : Prop := match b with
 | true => X
 | false => Y
def sB (P : Program) (D : aJ C) (X : Ctx C) (R : kU C) (Y : Prop) (dst : Option Nat) (all rest : List Oper) (k : List (It C)) (T : List (SV C)) (Hp : List (HS C)) : Out C → Prop
 | .stuck => Y
 | .ask q K => qa8 q fun r => dI T dst (K r) fun T' => R (.ops all rest :: k) T' Hp
 | .may p v => qc0 p (dI T dst (v true) fun T' => R (.ops all rest :: k) T' Hp) (dI T dst (v false) fun T' => R (.ops all rest :: k) T' Hp)
 | .val v => dI T dst v fun T' => R (.ops all rest :: k) T' Hp
 | .side p v => p ∧ dI T dst v fun T' => R (.ops all rest :: k) T' Hp
 | .mem v ws => dI T dst v fun T' => eP Hp ws fun Hp' => R (.ops all rest :: k) T' Hp'
 | .smem p v ws => p ∧ dI T dst v fun T' => eP Hp ws fun Hp' => R (.ops all rest :: k) T' Hp'
 | .call f args => dQ args fun args => kX P D X R f args dst all rest k T Hp
 | .yieldc c args => q0y P D X R c args dst all rest k T Hp
def qb8 (P : Program) {D : aJ C} (A : Aux C D) (tab : Tab C) (X : Ctx C) (R : kU C) (op : Op) (dst : Option Nat) (all rest : List Oper) (k : List (It C)) (T : List (SV C)) (Hp : List (HS C)) : Prop :=
 ∃ T1 Hp1, q0c D X.m0 T Hp [] T1 Hp1 [] ∧ sB P D X R False dst all rest k T1 Hp1 (exec A tab op (bD T1 (aN op)) (rC Hp1 (bD T1 (aN op))) (hlen Hp1))
def q93 (D : aJ C) (x : SV C) (v : Value) : Prop := ∀ w E u, Den D w E x u → u = v
def Ex (P : Program) (D : aJ C) (R : kU C) (op : Op) (dst : Option Nat) (all rest : List Oper) (k : List (It C)) (T : List (SV C)) (Hp : List (HS C)) : Prop :=
 ∃ v ws, (∀ c, op ≠ .defer c) ∧ (∀ (o : Oper) (B : dP) (E : Env) (df : List Deferred) (a : Act) (w : World), o.op = op → Rel D B E (bX T) (aR Hp) df a w → kW P D B (bX T) (aR Hp) df a w o v ws) ∧ dI T dst v fun T' => eP Hp ws fun Hp' => R (.ops all rest :: k) T' Hp'
def q28 (D : aJ C) (m0 : Nat) (R : kU C) (op : Op) (k : List (It C)) (T : List (SV C)) (Hp : List (HS C)) : Prop :=
 ∃ x t u, op = .panic x ∧ q93 D (evT T x) (.iface t u) ∧ R (.die [{ v := .iface t u, recovered := false }] :: k) T Hp
def q1k (R : kU C) (d : Nat) (want : Bool) (all : List Oper) (o : Oper) (rest : List Oper) (k : List (It C)) (T : List (SV C)) (Hp : List (HS C)) : SV C → Prop
 | .p (.bool b) => match want with
  | true => yS b (vA T d (.p (.bool true)) fun T' => R (.op1 all o rest :: k) T' Hp) (vA T d (.p (.bool false)) fun T' => dI T' o.dst (.tuple []) fun T'' => R (.ops all rest :: k) T'' Hp)
  | false => yS b (vA T d (.p (.bool true)) fun T' => dI T' o.dst (.tuple []) fun T'' => R (.ops all rest :: k) T'' Hp) (vA T d (.p (.bool false)) fun T' => R (.op1 all o rest :: k) T' Hp)
 | .tuple [] => dI T o.dst (.tuple []) fun T' => R (.ops all rest :: k) T' Hp
 | v => Tk (.tmp d) v
def q6w (R : kU C) (c : Operand) (x y : Code) (k : List (It C)) (T : List (SV C)) (Hp : List (HS C)) : SV C → Prop
 | .p (.bool b) => yS b (R (.code x :: k) T Hp) (R (.code y :: k) T Hp)
 | v => Tk c v
def q1q (R : kU C) (want : Bool) (all : List Oper) (o : Oper) (rest : List Oper) (k : List (It C)) (T : List (SV C)) (Hp : List (HS C)) : Option Nat → Prop
 | none => False
 | some d => q1k R d want all o rest k T Hp (bX T d)
def q88 (P : Program) {D : aJ C} (A : Aux C D) (tab : Tab C) (X : Ctx C) (R : kU C) (op : Op) (dst : Option Nat) (all rest : List Oper) (k : List (It C)) (T : List (SV C)) (Hp : List (HS C)) (vals : List (SV C)) (m : Nat) : Prop :=
 sB P D X R (oL op vals (rC Hp vals) (qb8 P A tab X R op dst all rest k T Hp ∨ q28 D X.m0 R op k T Hp ∨ Ex P D R op dst all rest k T Hp)) dst all rest k T Hp (exec A tab op vals (rC Hp vals) m)
structure Ub (P : Program) {D : aJ C} (A : Aux C D) (tab : Tab C) (m0 : Nat) (R : kU C) (ops : List Oper) (k : List (It C)) (T : List (SV C)) (Hp : List (HS C)) : Prop where
 h : ∃ T1 Hp1, q5k D m0 T Hp T1 Hp1 ∧ (q1a P A tab R ops k T1 Hp1 ∨ Rg P A tab R ops k T1 Hp1)
def q0z (P : Program) {D : aJ C} (A : Aux C D) (tab : Tab C) (X : Ctx C) (Φ : J9 C) (R : kU C) : kU C
 | [], T, Hp => Φ .normal T Hp
 | .code .skip :: k, T, Hp => R k T Hp
 | .code (.label _) :: k, T, Hp => R k T Hp
 | .code (.seq x y) :: k, T, Hp => R (.code x :: .code y :: k) T Hp
 | .code (.region _ ops false) :: k, T, Hp => R (.ops ops.toList ops.toList :: k) T Hp
 | .code (.region _ ops true) :: k, T, Hp => Ub P A tab X.m0 R ops.toList k T Hp
 | .code (.cond c x y) :: k, T, Hp => q6w R c x y k T Hp (evT T c)
 | .code (.block id body) :: k, T, Hp => R (.code body :: .blk id :: k) T Hp
 | .code (.loop body) :: k, T, Hp => Ye D X.m0 R body k T Hp
 | .code (.exit id) :: k, T, Hp => q1f Φ R id T Hp (M7 id k)
 | .code .ret :: _, T, Hp => Φ .ret T Hp
 | .code (.scope c) :: k, T, Hp => R (.code c :: .scp :: k) T Hp
 | .scp :: k, T, Hp => R k T Hp
 | .die ch :: _, T, Hp => Φ (.panic ch) T Hp
 | .code (.rangeFunc g ps assign body) :: k, T, Hp => q15 P D X R g (evT T g) ps assign body k T Hp
 | .blk _ :: k, T, Hp => R k T Hp
 | .endLoop J :: _, T, Hp => J T Hp
 | .ops _ [] :: k, T, Hp => R k T Hp
 | .ops all (⟨dst, op, ty, pos, after, none⟩ :: rest) :: k, T, Hp => R (.op1 all ⟨dst, op, ty, pos, after, none⟩ rest :: k) T Hp
 | .ops all (⟨dst, op, ty, pos, after, some (j, want)⟩ :: rest) :: k, T, Hp => q1q R want all ⟨dst, op, ty, pos, after, some (j, want)⟩ rest k T Hp (K6 all j)
 | .op1 all o rest :: k, T, Hp => dQ (bD T (aN o.op)) fun vals => sQ Hp 0 fun m => q88 P A tab X R o.op o.dst all rest k T Hp vals m
 | i :: _, _, _ => q7r i
def gx (P : Program) {D : aJ C} (A : Aux C D) (tab : Tab C) (X : Ctx C) (Φ : J9 C) : Nat → kU C
 | 0 => fun _ _ _ => False
 | n + 1 => q0z P A tab X Φ (gx P A tab X Φ n)
section
variable {P : Program} {D : aJ C} {tab : Tab C} {B : dP} {E : Env} {σ : Nat → SV C} {H : Nat → HS C} {df : List Deferred} {a : Act} {w : World} {o : Oper} {r : Option Nat}
variable (r) in
def eK (P : Program) (D : aJ C) (B : dP) (Q : Exit → Act → World → Prop) : List (It C) → Exit → Act → World → Prop
 | [] => Q
 | .code c :: k => Exit.then (c.wpIn (Fc r) 0 P (eK P D B Q k)) (eK P D B Q k)
 | .ops all rest :: k => Exit.then (wpListIn (Fc r) 0 P all.toArray (eK P D B Q k) rest) (eK P D B Q k)
 | .op1 all o rest :: k => Exit.then (fun a w => o.wpIn (Fc r) 0 P a w (wpListIn (Fc r) 0 P all.toArray (eK P D B Q k) rest) (eK P D B Q k)) (eK P D B Q k)
 | .blk id :: k => Exit.inBlock id (eK P D B Q k)
 | .endLoop J :: k => fun e a w => match e with
  | .normal => ∃ T Hp, J T Hp ∧ yB D B T Hp a w
  | e => eK P D B Q k e a w
 | .beginR :: k => eK P D B Q k
 | .scp :: k => Exit.noGoto (eK P D B Q k)
 | .die ch :: k => fun e a w => match e with
  | .normal => eK P D B Q k (.panic ch) a w
  | e => eK P D B Q k e a w
variable {Q : Exit → Act → World → Prop}
theorem gZ : ∀ k : List (It C), Q .ret a w → eK r P D B Q k .ret a w
 | [], h => h
 | .code _ :: k, h => gZ k h
 | .ops _ _ :: k, h => gZ k h
 | .op1 _ _ _ :: k, h => gZ k h
 | .blk _ :: k, h => gZ k h
 | .endLoop _ :: k, h => gZ k h
 | .beginR :: k, h => gZ k h
 | .scp :: k, h => gZ k h
 | .die _ :: k, h => gZ k h
theorem eC {ch : List PanicEntry} : ∀ k : List (It C), Q (.panic ch) a w → eK r P D B Q k (.panic ch) a w
 | [], h => h
 | .code _ :: k, h => eC k h
 | .ops _ _ :: k, h => eC k h
 | .op1 _ _ _ :: k, h => eC k h
 | .blk _ :: k, h => eC k h
 | .endLoop _ :: k, h => eC k h
 | .beginR :: k, h => eC k h
 | .scp :: k, h => eC k h
 | .die _ :: k, h => eC k h
theorem fK (id : Nat) : ∀ k : List (It C), (match M7 id k with | some k' => eK r P D B Q k' .normal a w | none => Q (.exit id) a w) → eK r P D B Q k (.exit id) a w
 | [], h => h
 | .code _ :: k, h => fK id k h
 | .ops _ _ :: k, h => fK id k h
 | .op1 _ _ _ :: k, h => fK id k h
 | .blk i :: k, h => by
  simp only [eK, Exit.inBlock];simp only [M7] at h
  by_cases hi : i = id
  ·rw [if_pos hi] at h; rw [if_pos hi.symm]; exact h
  ·rw [if_neg hi] at h; rw [if_neg (Ne.symm hi)]; exact fK id k h
 | .endLoop _ :: k, h => fK id k h
 | .beginR :: k, h => fK id k h
 | .scp :: k, h => fK id k h
 | .die _ :: k, h => fK id k h
theorem V0 {next : Act → World → Prop} {Q : Exit → Act → World → Prop} (hnd : ∀ c, o.op ≠ .defer c) {f : FuncId} {args0 args : List (SV C)} {L : Re C} {S : SV C → List (HS C) → Prop} {T0 T : List (SV C)} {Hp0 Hp : List (HS C)} {m0 : Nat} (hm0 : B.m0 = m0)
  (hBL : rY D L B.w0 B.E0) (hR : yB D B T0 Hp0 a w) (h : ∀ df, cB P D B (bX T0) (aR Hp0) df a w o (.call f args0)) (hsub : q0c D m0 T0 Hp0 args0 T Hp args) (hc : Xd P D L f args Hp S)
  (hn : ∀ ret Hp', S ret Hp' → ∀ a' w', yB D B (mD T o.dst ret) Hp' a' w' → next a' w') : o.wpIn (Fc r) 0 P a w next Q := by
 refine ⟨fun _ _ => trivial, ?_⟩;obtain ⟨df, E, hR, hsz⟩ := hR;obtain ⟨vs, hd, hrun⟩ := h df E hR;obtain ⟨E1, hR1, hsz1, hd1⟩ := hsub B E df a w hm0 hR hsz;have hd := hd1 vs hd;clear hR hd1 hsz;have hR := hR1;have hsz := hsz1;clear hR1 hsz1;generalize E1 = E at *;rcases hc.run with ⟨hc1, hc2⟩ | hx
 rotate_left
 ·obtain ⟨v, w', E', ret, Hp', h1, hv, hR', hS⟩ := hx B _ df a w E hR vs hd;rw [show (Fc r).round = r from rfl, Oper.semAt_eq r _ _ hnd, hrun, h1];have hput := hR'.put hsz o.dst (.inr hv);refine hn _ _ hS _ _ ⟨df, E', ?_, by rw [iW, hsz, gA]⟩;rw [gT];exact hput
 rw [show (Fc r).round = r from rfl, Oper.semAt_eq r _ _ hnd, hrun, hc1];refine ⟨fun h => by simp [Fc] at h, ?_⟩;have hcalls := hc2 B _ df a w E hBL hR vs hd;have hcalls' : CallsIn (Fc r) (0 - 1) P f vs.toArray w fun e w' => ∃ v E' ret Hp', e = .returned v ∧ Den D w' E' ret v ∧ Rel D B E' (bX T) (aR Hp') df a w' ∧ S ret Hp' := hcalls;refine hcalls'.mono ?_;rintro e w' ⟨v, E', ret, Hp', rfl, hv, hR', hS⟩;have hput := hR'.put hsz o.dst (.inr hv);refine hn _ _ hS _ _ ⟨df, E', ?_, by rw [iW, hsz, gA]⟩;rw [gT];exact hput
theorem Dw {next : Act → World → Prop} {Q : Exit → Act → World → Prop} (hnd : ∀ c, o.op ≠ .defer c) {f : FuncId} {args0 args : List (SV C)} {L : Re C} {ch : List PanicEntry} {Hp' : List (HS C)} {T0 T : List (SV C)} {Hp0 Hp : List (HS C)} {m0 : Nat} (hm0 : B.m0 = m0)
  (hBL : rY D L B.w0 B.E0) (hR : yB D B T0 Hp0 a w) (h : ∀ df, cB P D B (bX T0) (aR Hp0) df a w o (.call f args0)) (hsub : q0c D m0 T0 Hp0 args0 T Hp args) (hc : qa3 P D L f args Hp ch Hp')
  (hn : ∀ w', yB D B T Hp' a w' → Q (.panic ch) a w') : o.wpIn (Fc r) 0 P a w next Q := by
 refine ⟨fun _ _ => trivial, ?_⟩;obtain ⟨df, E, hR, hsz⟩ := hR;obtain ⟨vs, hd, hrun⟩ := h df E hR;obtain ⟨E1, hR1, hsz1, hd1⟩ := hsub B E df a w hm0 hR hsz;have hd := hd1 vs hd;obtain ⟨hc1, hc2⟩ := hc.run;rw [show (Fc r).round = r from rfl, Oper.semAt_eq r _ _ hnd, hrun, hc1];refine ⟨fun h => by simp [Fc] at h, ?_⟩;have hcalls := hc2 B _ df a w E1 hBL hR1 vs hd;have hcalls' : CallsIn (Fc r) (0 - 1) P f vs.toArray w fun e w' => ∃ E', e = .panicked ch ∧ Rel D B E' (bX T) (aR Hp') df a w' := hcalls;refine hcalls'.mono ?_;rintro e w' ⟨E', rfl, hR'⟩;exact hn w' ⟨df, E', hR', hsz1⟩
theorem K0 {next : Act → World → Prop} {Q : Exit → Act → World → Prop} (hnd : ∀ c, o.op ≠ .defer c) {c : Nat} {args : List (SV C)} {L : Re C} {S : Bool → List (HS C) → Prop} {T : List (SV C)} {Hp : List (HS C)}
  (hBL : rY D L B.w0 B.E0) (hR : yB D B T Hp a w) (h : ∀ df, cB P D B (bX T) (aR Hp) df a w o (.yieldc c args)) (hc : Sp P D L c args Hp S)
  (hn : ∀ q Hp', S q Hp' → ∀ a' w', yB D B (mD T o.dst (.p (.bool q))) Hp' a' w' → next a' w') : o.wpIn (Fc r) 0 P a w next Q := by
 refine ⟨fun _ _ => trivial, ?_⟩;obtain ⟨df, E, hR, hsz⟩ := hR;obtain ⟨b, hb, hy⟩ := hc r B _ df a w E hBL hR;obtain ⟨vs, hd, hrun⟩ := h df E hR b hb;obtain ⟨f, tmps, assign, body, hy1, hy2⟩ := hy vs hd;rw [show (Fc r).round = r from rfl, Oper.semAt_eq r _ _ hnd, hrun, hy1, Oper.uponIn_round];refine ⟨fun h => by simp [Fc] at h, ?_⟩;refine RoundIn.mono hy2 ?_;rintro e w' ⟨q, E', Hp', rfl, hR', hS⟩;have hput := hR'.put hsz o.dst (x := .p (.bool q)) (.inr (by simp only [Den]; exact .bool q));refine hn _ _ hS _ _ ⟨df, E', ?_, by rw [iW, hsz, gA]⟩;rw [gT];exact hput
theorem Sc {T : List (SV C)} {Hp : List (HS C)} {d : Nat} {b : Bool} (h : yB D B T Hp a w) (hd : bX T d = .p (.bool b)) : a.tmps.getD d undef = .bool b ∧ yB D B (wK T d (.p (.bool b))) Hp a w := by
 obtain ⟨df, h⟩ := h;exact ⟨(Fg h hd).1, df, (Fg h hd).2⟩
theorem F2 {T : List (SV C)} {Hp : List (HS C)} (h : yB D B T Hp a w) (d : Option Nat) : yB D B (mD T d (.tuple [])) Hp (a.put d undef) w := by
 obtain ⟨df, h⟩ := h;exact ⟨df, Tf h d⟩
theorem iU {b : Frame} {k : List Item} {cs : List Frame} {c : Code} : step P (lone (b.atR a (.code (.scope c) :: k)) cs w) = .next (lone (b.atR a (.code c :: .inScope c :: k)) cs w) :=
 step_lone_go (by simp [stepG, stepG.exec, Frame.atR])
theorem Ae {b : Frame} {k : List Item} {cs : List Frame} {c : Code} : step P (lone (b.atR a (.inScope c :: k)) cs w) = .next (lone (b.atR a k) cs w) :=
 step_lone_go (by simp [stepG, stepG.exec, Frame.atR])
theorem tG {F : Fence} {n : Nat} {c : Code} (h : c.wpIn F n P (Exit.noGoto Q) a w) : (Code.scope c).wpIn F n P Q a w := by
  intro b k cs hro hb hr;have h0 : (lone (b.atR a (.code (.scope c) :: k)) cs w).fenced P F := fenced_calm hb hr rfl;obtain ⟨e, a₁, w₁, hq, harr⟩ := h b (.inScope c :: k) cs hro hb hr;cases e with
  | normal => exact ⟨.normal, a₁, w₁, hq, .head h0 iU (StepsIn.trans harr (.one (fenced_calm hb hr rfl) Ae))⟩
  | exit id =>
    have hx : exitTo id (.inScope c :: k) = exitTo id k := by simp [exitTo]
    exact ⟨.exit id, a₁, w₁, hq, fun k' hk => .head h0 iU (harr.1 k' (by rw [hx]; exact hk)),
      fun hr' hk => let ⟨k₁, h1, h2⟩ := harr.2 hr' (by rw [hx]; exact hk); ⟨k₁, h1, .head h0 iU h2⟩⟩
  | goto l => exact hq.elim
  | ret => exact ⟨_, a₁, w₁, hq, .of_steps (.one h0 iU) harr⟩
  | panic ch => exact ⟨_, a₁, w₁, hq, .of_steps (.one h0 iU) harr⟩
  | outgrown => exact ⟨_, a₁, w₁, hq, .of_steps (.one h0 iU) harr⟩
theorem Kc (A : Aux C D) (hT : bZ P D tab) {X : Ctx C} (hX : vW D X B r) {R : kU C} {all rest : List Oper} {k : List (It C)} {T : List (SV C)} {Hp : List (HS C)} {Y : Prop}
  (ih : ∀ (k : List (It C)) (T : List (SV C)) (Hp : List (HS C)), R k T Hp → ∀ a w, yB D B T Hp a w → eK r P D B Q k .normal a w) (hR : yB D B T Hp a w)
  (h : sB P D X R Y o.dst all rest k T Hp (exec A tab o.op (bD T (aN o.op)) (rC Hp (bD T (aN o.op))) (hlen Hp))) : eK r P D B Q (.op1 all o rest :: k) .normal a w ∨ Y := by
 have hR0 := hR;obtain ⟨df, E, hR', hsz⟩ := hR;have hok : ∀ df E, Rel D B E (bX T) (aR Hp) df a w → cB P D B (bX T) (aR Hp) df a w o (q5b A tab o.op (bD T (aN o.op)) Hp) := fun df E hR' => Xz (o := o) A hT hR';have hok0 := hok df E hR';have hnd : exec A tab o.op (bD T (aN o.op)) (rC Hp (bD T (aN o.op))) (hlen Hp) ≠ .stuck → ∀ c, o.op ≠ .defer c := by
  intro hne c hc;exact hne (by rw [hc]; rfl)
 unfold q5b at hok hok0;generalize exec A tab o.op (bD T (aN o.op)) (rC Hp (bD T (aN o.op))) (hlen Hp) = out at hok hok0 h hnd;simp only [eK, Exit.then];cases out with
 | stuck => exact .inr h
 | ask q K =>
  obtain ⟨q', hq, h2⟩ := h.h;rw [bU] at h2;exact .inl (fG (hnd (by simp)) ⟨E, hR', hsz⟩ (hok0 q' hq) fun a' w' hr => ih _ _ _ h2 a' w' ⟨df, hr⟩)
 | may p v =>
  obtain ⟨ht, hf⟩ := h;rw [bU] at ht hf;obtain ⟨b, hb, hrun⟩ := hok0;cases b with
  | true => exact .inl (fG (hnd (by simp)) ⟨E, hR', hsz⟩ hrun fun a' w' hr => ih _ _ _ (ht (hb rfl)) a' w' ⟨df, hr⟩)
  | false => exact .inl (fG (hnd (by simp)) ⟨E, hR', hsz⟩ hrun fun a' w' hr => ih _ _ _ hf a' w' ⟨df, hr⟩)
 | val v => simp only [sB, bU] at h; exact .inl (fG (hnd (by simp)) ⟨E, hR', hsz⟩ hok0 fun a' w' hr => ih _ _ _ h a' w' ⟨df, hr⟩)
 | side p v => simp only [sB, bU] at h; exact .inl (fG (hnd (by simp)) ⟨E, hR', hsz⟩ (hok0 h.1) fun a' w' hr => ih _ _ _ h.2 a' w' ⟨df, hr⟩)
 | mem v ws => simp only [sB, bU, cS] at h; exact .inl (fG (hnd (by simp)) ⟨E, hR', hsz⟩ hok0 fun a' w' hr => ih _ _ _ h a' w' ⟨df, hr⟩)
 | smem p v ws => simp only [sB, bU, cS] at h; exact .inl (fG (hnd (by simp)) ⟨E, hR', hsz⟩ (hok0 h.1) fun a' w' hr => ih _ _ _ h.2 a' w' ⟨df, hr⟩)
 | call f args =>
  simp only [sB, bB] at h;obtain ⟨T1, Hp1, args1, hsub, hor⟩ := h.h;have hokc : ∀ df, cB P D B (bX T) (aR Hp) df a w o (.call f args) := fun df E' hR'' => (hok df E' hR'') E' hR'';rcases hor with ⟨S, hc, h2⟩ | ⟨ch, Hp', hc, h2⟩
  rotate_left
  ·exact .inl (Dw (hnd (by simp)) hX.m0 hX.L hR0 hokc hsub hc fun w' hr => ih _ _ _ h2 a w' hr)
  exact .inl (V0 (hnd (by simp)) hX.m0 hX.L hR0 hokc hsub hc fun ret Hp' hS a' w' hr => ih _ _ _ (h2 ret Hp' hS) a' w' hr)
 | yieldc c args =>
  simp only [sB] at h;obtain ⟨S, hc, h2⟩ := h.h;have hokc : ∀ df, cB P D B (bX T) (aR Hp) df a w o (.yieldc c args) := fun df E' hR'' => (hok df E' hR'') E' hR'';exact .inl (K0 (hnd (by simp)) hX.L hR0 hokc hc fun q Hp' hS a' w' hr => ih _ _ _ (h2 q Hp' hS) a' w' hr)
theorem gY (A : Aux C D) (hT : bZ P D tab) {X : Ctx C} (hX : vW D X B r) {Φ : J9 C} (hQ : ∀ e a w T Hp, Φ e T Hp → yB D B T Hp a w → Q e a w) : ∀ (n : Nat) (k : List (It C)) (T : List (SV C)) (Hp : List (HS C)), gx P A tab X Φ n k T Hp →
  ∀ a w, yB D B T Hp a w → eK r P D B Q k .normal a w := by
 intro n
 induction n with
 | zero => intro k T Hp h; exact h.elim
 | succ n ih =>
  intro k T Hp h a w hR;simp only [gx] at h;generalize gx P A tab X Φ n = R at ih h;unfold q0z at h;split at h
  ·exact hQ _ _ _ _ _ h hR
  ·exact wpIn_skip (ih _ _ _ h a w hR)
  ·exact wpIn_label (ih _ _ _ h a w hR)
  ·exact wpIn_seq (ih _ _ _ h a w hR)
  ·refine wpIn_region_list ?_;have := ih _ _ _ h a w hR;simpa [eK, Exit.then] using this
  ·rename_i id ops k;obtain ⟨df, hR⟩ := hR;obtain ⟨T1, Hp1, hsub, h1⟩ := h.h;have hR := hsub B df _ _ hX.m0 hR;rcases h1 with h1 | h1
   rotate_left
   ·have := W7 (r := r) (id := id) (Q := eK r P D B Q k) A hT h1 hR fun ch T' Hp' a' w' hk hr => ih _ _ _ hk a' w' ⟨df, hr⟩;simpa [eK, Exit.then] using this
   have := Bs (r := r) (id := id) (Q := eK r P D B Q k) A hT h1 hR fun T' Hp' a' w' hk hr => ih _ _ _ hk a' w' ⟨df, hr⟩;simpa [eK, Exit.then] using this
  ·rename_i c x y k;unfold q6w at h;split at h
   ·rename_i b hb;obtain ⟨df, E, hR', hsz⟩ := hR;have hd := aS hR' c;rw [← H3, hb] at hd;have hc := jR hd;cases b with
    | true => exact wpIn_cond_true hc (ih _ _ _ h a w ⟨df, E, hR', hsz⟩)
    | false => exact wpIn_cond_false hc (ih _ _ _ h a w ⟨df, E, hR', hsz⟩)
   ·cases h
  ·exact wpIn_block (ih _ _ _ h a w hR)
  ·rename_i body k;obtain ⟨γ, I, good, μ, g0, h0, hs0, hround⟩ := h.h;have hsub : ∀ {T Hp T' Hp' a w}, q5k D X.m0 T Hp T' Hp' → yB D B T Hp a w → yB D B T' Hp' a w := fun hs ⟨df, hr⟩ => ⟨df, hs B df _ _ hX.m0 hr⟩;refine zF (fun n a w => ∃ g, good g ∧ μ g = n ∧ yB D B (I g).1 (I g).2 a w) (μ g0) ⟨g0, h0, rfl, hsub hs0 hR⟩ ?_;rintro _ a w ⟨g, hg, rfl, hRg⟩;have := ih _ _ _ (hround g hg (fun T' Hp' => ∃ g', good g' ∧ μ g' < μ g ∧ q5k D X.m0 T' Hp' (I g').1 (I g').2) fun T' Hp' g' h1 h2 h3 => ⟨g', h1, h2, h3⟩) a w hRg;refine wpIn_mono this ?_;intro e a' w' he;cases e with
   | normal =>
    obtain ⟨T', Hp', ⟨g', h1, h2, h3⟩, hR'⟩ := he;exact ⟨μ g', h2, g', h1, rfl, hsub h3 hR'⟩
   | exit id => exact he
   | goto l => exact he
   | ret => exact he
   | panic c => exact he
   | outgrown => exact he
  ·rename_i id k;refine wpIn_exit (fK id k ?_);unfold q1f at h;cases hu : M7 id k with
   | none => rw [hu] at h; exact hQ _ _ _ _ _ h hR
   | some k' => rw [hu] at h; exact ih _ _ _ h a w hR
  ·exact wpIn_ret (gZ _ (hQ _ _ _ _ _ h hR))
  ·exact tG (ih _ _ _ h a w hR)
  ·exact ih _ _ _ h a w hR
  ·exact eC _ (hQ _ _ _ _ _ h hR)
  ·rename_i g ps assign body k;obtain ⟨S, hS, hn⟩ := h.h;refine hS r B a w _ hX hR ?_;intro j Hp' a' w' hj hR';have := hn j Hp' hj;cases j with
   | none => exact ih _ _ _ this a' w' hR'
   | some c => exact ih _ _ _ this a' w' hR'
  ·exact ih _ _ _ h a w hR
  ·exact ⟨_, _, h, hR⟩
  ·have := ih _ _ _ h a w hR;simp only [eK, Exit.then, wpListIn];exact this
  ·rename_i all dst op ty pos after rest k;have := ih _ _ _ h a w hR;simp only [eK, Exit.then] at this ⊢;simp only [wpListIn, Region.wanted, if_true];exact this
  ·rename_i all dst op ty pos after j want rest k;cases hg : K6 all j with
   | none => rw [hg] at h; exact h.elim
   | some d =>
    rw [hg] at h;simp only [q1q] at h;unfold q1k at h;split at h
    ·rename_i b hb;obtain ⟨hv, hR2⟩ := Sc hR hb;have hy := xN hg b hv;simp only [eK, Exit.then, wpListIn, Region.wanted, hy];cases want <;> cases b <;> simp only [yS, tX, bU] at h
     ·have := ih _ _ _ h a w hR2;simp only [eK, Exit.then] at this;simp only [beq_self_eq_true, if_true];exact this
     ·have := ih _ _ _ h (a.put dst undef) w (F2 hR2 dst);simp only [eK, Exit.then] at this;exact ⟨fun _ _ => trivial, this⟩
     ·have := ih _ _ _ h (a.put dst undef) w (F2 hR2 dst);simp only [eK, Exit.then] at this;exact ⟨fun _ _ => trivial, this⟩
     ·have := ih _ _ _ h a w hR2;simp only [eK, Exit.then] at this;simp only [beq_self_eq_true, if_true];exact this
    ·rename_i hb;have hv : a.tmps.getD d undef = .tuple #[] := by
      obtain ⟨df, E, hR', hsz⟩ := hR;have hden := hR'.den d;rw [hb] at hden;simp only [Den, DenA] at hden;obtain ⟨xs, e, hx⟩ := hden;have : xs = #[] := by simpa using hx
      rw [e, this]
     have hy := uN hg hv;rw [bU] at h;have := ih _ _ _ h (a.put dst undef) w (F2 hR dst);simp only [eK, Exit.then] at this;simp only [eK, Exit.then, wpListIn, Region.wanted, hy];exact ⟨fun _ _ => trivial, this⟩
    ·cases h
  ·rename_i all o rest k;rw [bB, eG, Nat.add_zero] at h;unfold q88 at h;rcases Kc A hT hX ih hR h with h | h
   ·exact h
   ·rcases h.h with ⟨T1, Hp1, hsub, h1⟩ | ⟨x, t, u, hop, honly, h2⟩ | ⟨v, ws, hnd, hrun, h2⟩
    rotate_left
    rotate_left
    ·rw [bU, cS] at h2;obtain ⟨df, E, hR', hsz⟩ := hR;exact fG hnd ⟨E, hR', hsz⟩ (hrun o B E df a w rfl hR') fun a' w' hr => ih _ _ _ h2 a' w' ⟨df, hr⟩
    rotate_right
    ·have hE := ih _ _ _ h2 a w hR;obtain ⟨df, E, hR', hsz⟩ := hR;have hd := aS hR' x;rw [← H3] at hd;have hev := honly w E _ hd;have hrun : (execOp a.eval o).run P w = .halt (.panic (.iface t u)) w := by
      unfold execOp;rw [hop];simp only [hev];rfl
     refine ⟨fun _ _ => trivial, ?_⟩;rw [show (Fc r).round = r from rfl, Oper.semAt_eq r _ _ (fun c hc => by rw [hop] at hc; cases hc), hrun];exact hE
    obtain ⟨df, E, hR', hsz⟩ := hR;obtain ⟨E1, hR1, hsz1, _⟩ := hsub B E df a w hX.m0 hR' hsz;rcases Kc A hT hX ih ⟨df, E1, hR1, hsz1⟩ h1 with h | h
    ·exact h
    ·exact h.elim
  ·cases h
end
end Go.SX
namespace Go.SX
open Go.RowKit
variable {C : Cod}
section
variable {P : Program} {D : aJ C} {tab : Tab C} {B : dP} {E : Env} {σ : Nat → SV C} {H : Nat → HS C} {df : List Deferred} {a : Act} {w : World} {o : Oper} {r : Option Nat}
variable {X : Ctx C} {R : kU C} {f : FuncId} {args : List (SV C)} {dst : Option Nat} {all rest : List Oper} {k : List (It C)} {T : List (SV C)} {Hp : List (HS C)}
def dP.here (w : World) (E : Env) (m : Nat) (hm : ∀ c, m ≤ c → E.β c = .fresh) : dP := ⟨w, E, fun b => ∃ c, E.β c = .loc b, m, hm, [], false⟩
theorem lP (hs : Sat D w E (aR Hp)) : ∀ c, hlen Hp ≤ c → E.β c = .fresh := fun c hc => nGβ hs (qA Hp c (by rw [← nR]; exact hc))
theorem Fr.here {m : Nat} {hm : ∀ c, m ≤ c → E.β c = .fresh} : Fr (dP.here w E m hm) E w :=
 ⟨rfl, rfl, rfl, Nat.le_refl _, fun b _ _ => rfl, dW.refl w E, fun b hb => .inl hb, fun c b hb => .inl ⟨c, hb⟩⟩
theorem Fr.trans {w' : World} {E' : Env} {m : Nat} {hm : ∀ c, m ≤ c → E.β c = .fresh} (h : Fr B E w) (h' : Fr (dP.here w E m hm) E' w') : Fr B E' w' := by
 have hO : ∀ b, (∃ c, E.β c = .loc b) → B.O b ∨ B.w0.heap.size ≤ b := fun b ⟨c, hc⟩ => h.newO c b hc;refine ⟨h'.os.trans h.os, h'.tape.trans h.tape, h'.output.trans h.output, Nat.le_trans h.size h'.size, fun b hb ho => ?_, h.late.trans h'.late, fun b hb => ?_, fun c b hc => ?_⟩
 ·refine (h'.same b (Nat.lt_of_lt_of_le hb h.size) fun hx => ?_).trans (h.same b hb ho);rcases hO b hx with h1 | h1
  ·exact ho h1
  ·omega
 ·rcases h'.newF b hb with h1 | h1 | h1
  ·exact h.newF b h1
  ·exact .inr (hO b h1)
  ·exact .inr (.inr (Nat.le_trans h.size h1))
 ·rcases h'.newO c b hc with h1 | h1
  ·exact hO b h1
  ·exact .inr (Nat.le_trans h.size h1)
theorem mX {vs : List Value} {n : Nat} {args : List (SV C)} {m : Nat} {hm : ∀ c, m ≤ c → E.β c = .fresh} (hs : Sat D w E (aR Hp)) (hd : DenA D w E args vs) :
  yB D (dP.here w E m hm) (args ++ xR (n - args.length)) Hp { tmps := vs.toArray ++ Array.replicate (n - vs.toArray.size) undef, defers := [] } w := by
 have hlen := nZ _ _ hd;refine ⟨[], E, ⟨fun i => ?_, hs, Fr.here, rfl, sK.nil⟩, by simp [oK, hlen]⟩;rw [sE];split
 ·rename_i hi;have := H4 _ _ hd i hi;have e : (vs.toArray ++ Array.replicate (n - vs.toArray.size) undef).getD i undef = vs.getD i undef := by
   rw [Array.getD_eq_getD_getElem?, Array.getElem?_append_left (by simp; omega)];simp [List.getD_eq_getElem?_getD]
  rw [e]; exact this
 ·rw [mM]; trivial
theorem aA (A : Aux C D) (hT : bZ P D tab) {f : FuncId} {fn : Func} {c : Code} (hf : P.funcs[f]? = some fn) (hb : fn.body = some c) (henter : ∀ args w, (callFunc f args).run P w = .ok (.enter f args) w)
  {args : List (SV C)} {H0 : List (HS C)} {ret : SV C} {H1 : List (HS C)} (n : Nat)
  (h : dQ (args ++ xR (fn.ntmps - args.length)) fun T0 => cZ H0 fun Hp0 => gx P A tab ⟨none, [], H0.length, false⟩ (wQ D tab fn.results.toList H0.length ret H1) n [.code c] T0 Hp0) : aF P D f args H0 ret H1 := by
 rw [bB, bH] at h;refine ⟨henter, fun w E hm vs hs hd => ?_⟩;refine callsIn_of_wp_marks hf hb trivial ?_ rfl;have hR := mX (n := fn.ntmps) (m := H0.length) (hm := hm) hs hd;have hX : vW D (⟨none, [], H0.length, false⟩ : Ctx C) (dP.here w E H0.length hm) none := ⟨rfl, fun c ri hc => by simp [lkR] at hc, trivial, rfl⟩;have := gY (r := none) (Q := bodyPostM (Fc none) 0 P fn fun e w' => ∃ v E', e = .returned v ∧ Den D w' E' ret v ∧ Sat D w' E' (aR H1) ∧ Fr (dP.here w E H0.length hm) E' w') A hT hX
  (fun e a w' T Hp hΦ hRL => ?_) n _ _ _ h _ _ hR
 ·exact this
 ·obtain ⟨he, θ, l, h1, h2, h3⟩ := hΦ;obtain ⟨df, E1, hR1, _⟩ := hRL;have key : LeavesInM (Fc none) 0 P fn a.tmps (fun e w' => ∃ v E', e = .returned v ∧ Den D w' E' ret v ∧ Sat D w' E' (aR H1) ∧ Fr (dP.here w E H0.length hm) E' w') a.defers .returning w' := by
   refine qM hR1 fun w2 E2 hR2 => ?_;obtain ⟨v, h4, h5⟩ := nN (P := P) (fn := fn) hT hR2 h1;obtain ⟨g1, g2, g3⟩ := gU hR2.sat hR2.fr h3;exact ⟨v, h4, v, _, rfl, nT hR2.sat g1 _ _ _ h2 h5, g2, g3⟩
  rcases he with rfl | rfl
  ·exact key
  ·exact key
def q8e (D : aJ C) (tab : Tab C) (rs : List ResultVar) (R : kU C) (dst : Option Nat) (all rest : List Oper) (k : List (It C)) (T : List (SV C)) : J9 C := fun e T' Hp' =>
 match e with
 | .normal => endR (jD D tab T' Hp' rs) Hp'
 | .ret => endR (jD D tab T' Hp' rs) Hp'
 | _ => False
where endR (l : Option (List (SV C))) (Hp' : List (HS C)) : Prop := match l with
 | some l => dI T dst (xU l) fun T'' => R (.ops all rest :: k) T'' Hp'
 | none => False
def Vx (D : aJ C) (tab : Tab C) (rs : List ResultVar) (S : SV C → List (HS C) → Prop) : J9 C := fun e T' Hp' =>
 (e = .normal ∨ e = .ret) ∧ ∃ l, jD D tab T' Hp' rs = some l ∧ S (xU l) Hp'
theorem Te {rs : List ResultVar} {e : Exit} {T' : List (SV C)} {Hp' : List (HS C)} (h : q8e D tab rs R dst all rest k T e T' Hp') :
  Vx D tab rs (fun ret Hp' => R (.ops all rest :: k) (mD T dst ret) Hp') e T' Hp' := by
 have key : q8e.endR R dst all rest k T (jD D tab T' Hp' rs) Hp' → ∃ l, jD D tab T' Hp' rs = some l ∧ R (.ops all rest :: k) (mD T dst (xU l)) Hp' := by
  intro h;unfold q8e.endR at h;split at h
  ·rename_i l hl; rw [bU] at h; exact ⟨l, hl, h⟩
  ·exact h.elim
 cases e with
 | normal => exact ⟨.inl rfl, key h⟩
 | ret => exact ⟨.inr rfl, key h⟩
 | _ => exact h.elim
theorem Jc (A : Aux C D) (hT : bZ P D tab) {L : Re C} {fn : Func} {c : Code} (hf : P.funcs[f]? = some fn) (hb : fn.body = some c) (henter : ∀ args w, (callFunc f args).run P w = .ok (.enter f args) w) (n : Nat)
  {S : SV C → List (HS C) → Prop} {Φ : J9 C} (hΦ : ∀ e T' Hp', Φ e T' Hp' → Vx D tab fn.results.toList S e T' Hp')
  (h : gx P A tab ⟨none, L, hlen Hp, false⟩ Φ n [.code c] (args ++ xR (fn.ntmps - args.length)) Hp) : Xd P D L f args Hp S := by
 refine ⟨.inl ⟨henter, fun B σ df a w E hBL hR vs hd => ?_⟩⟩;refine callsIn_of_wp_marks hf hb trivial ?_ rfl;have hm := lP hR.sat;have hR0 := mX (n := fn.ntmps) (m := hlen Hp) (hm := hm) hR.sat hd;have hX : vW D (⟨none, L, hlen Hp, false⟩ : Ctx C) (dP.here w E (hlen Hp) hm) none := ⟨rfl, hBL.mono hR.fr.late, trivial, rfl⟩;have := gY (r := none) (Q := bodyPostM (Fc none) 0 P fn fun e w' => ∃ v E' ret Hp', e = .returned v ∧ Den D w' E' ret v ∧ Rel D B E' σ (aR Hp') df a w' ∧ S ret Hp') A hT hX
  (fun e a' w' T Hp' hΦ' hRL => ?_) n _ _ _ h _ _ hR0
 ·exact this
 ·obtain ⟨he, l, h1, h2⟩ := hΦ _ _ _ hΦ';obtain ⟨df', E1, hR1, _⟩ := hRL;have key : LeavesInM (Fc none) 0 P fn a'.tmps (fun e w' => ∃ v E' ret Hp', e = .returned v ∧ Den D w' E' ret v ∧ Rel D B E' σ (aR Hp') df a w' ∧ S ret Hp') a'.defers .returning w' := by
   refine qM hR1 fun w2 E2 hR2 => ?_;obtain ⟨v, h4, h5⟩ := nN (P := P) (fn := fn) hT hR2 h1;exact ⟨v, h4, v, E2, _, _, rfl, h5, hR.later hR2.fr.late hR2.sat (hR.fr.trans hR2.fr), h2⟩
  rcases he with rfl | rfl
  ·exact key
  ·exact key
theorem Uv (A : Aux C D) (hT : bZ P D tab) {fn : Func} {c : Code} (hf : P.funcs[f]? = some fn) (hb : fn.body = some c) (henter : ∀ args w, (callFunc f args).run P w = .ok (.enter f args) w) (n : Nat)
  (h : dQ (args ++ xR (fn.ntmps - args.length)) fun T0 => sQ Hp 0 fun m => gx P A tab ⟨none, X.L, m, false⟩ (q8e D tab fn.results.toList R dst all rest k T) n [.code c] T0 Hp) : kX P D X R f args dst all rest k T Hp := by
 rw [bB, eG, Nat.add_zero] at h;exact kX.of _ (Jc A hT hf hb henter n (fun e T' Hp' => Te) h) fun ret Hp' hS => hS
theorem G6 {ret : SV C} {ws : List (Nat × HS C)} (hc : O2 P D f args (aR Hp) ret ws) (h : dI T dst ret fun T' => eP Hp ws fun Hp' => R (.ops all rest :: k) T' Hp') : kX P D X R f args dst all rest k T Hp := by
 rw [bU, cS] at h;refine kX.of (fun ret' Hp' => ret' = ret ∧ Hp' = fS Hp ws) ⟨?_⟩ ?_
 ·rcases hc.run with ⟨hc1, hc2⟩ | hx
  ·refine .inl ⟨hc1, fun B σ df a w E _ hR vs hd => (hc2 B σ df a w E hR vs hd).mono ?_⟩;rintro e w' ⟨v, E', rfl, hv, hR'⟩;exact ⟨v, E', ret, fS Hp ws, rfl, hv, by rw [eO]; exact hR', rfl, rfl⟩
  ·refine .inr fun B σ df a w E hR vs hd => ?_;obtain ⟨v, w', E', h1, hv, hR'⟩ := hx B σ df a w E hR vs hd;exact ⟨v, w', E', ret, fS Hp ws, h1, hv, by rw [eO]; exact hR', rfl, rfl⟩
 ·rintro ret' Hp' ⟨rfl, rfl⟩; exact h
theorem Ob {ret : SV C} (hM : aF P D f args [] ret []) (hargs : renL [] args = some args) (hret : nJ [] ret = some ret) (h : dI T dst ret fun T' => R (.ops all rest :: k) T' Hp) : kX P D X R f args dst all rest k T Hp :=
 G6 (Gj hM hargs hret Hp) h
theorem Ov {args0 : List (SV C)} {H0 H0' H1 H1' : List (HS C)} {ret0 ret : SV C} (ρ : List (Option Nat)) (hM : aF P D f args0 H0 ret0 H1)
  (hargs : renL ρ args0 = some args) (hH0 : gR ρ H0 = some H0') (hat : eA (aR Hp) ρ H0') (θ : List (Option Nat)) (hθ : θ = ρ ++ gL (H1.length - H0.length) (hlen Hp)) (hnd : ndO θ = true) (hle : H0.length ≤ H1.length)
  (hH1 : gR θ H1 = some H1') (hret : nJ θ ret0 = some ret) (h : dI T dst ret fun T' => eP Hp (J6 θ H1') fun Hp' => R (.ops all rest :: k) T' Hp') : kX P D X R f args dst all rest k T Hp :=
 G6 (pI hM ρ hargs hH0 hat θ hθ hnd hle hH1 hret) h
def yH (R : kU C) (cl : Nat) (k : List (It C)) (T : List (SV C)) : J9 C := fun e _ Hp' =>
 match e with
 | .normal => endR Hp' (aR Hp' cl)
 | .ret => endR Hp' (aR Hp' cl)
 | _ => False
where endR (Hp' : List (HS C)) (h : HS C) : Prop := match h with
 | .obj (.loop r) => match r.state with
  | .busy => False
  | _ => A8 Hp' cl (.obj (.loop { r with state := .exhausted })) fun Hp'' => qT R k T Hp'' r.pending
 | _ => False
def Lr (cl : Nat) (S : Option Code → List (HS C) → Prop) : J9 C := fun e _ Hp' =>
 (e = .normal ∨ e = .ret) ∧ ∃ r, aR Hp' cl = .obj (.loop r) ∧ r.state ≠ .busy ∧ S r.pending (Am Hp' cl (.obj (.loop { r with state := .exhausted })))
theorem Cq {cl : Nat} {e : Exit} {T' : List (SV C)} {Hp' : List (HS C)} (h : yH R cl k T e T' Hp') : Lr cl (fun j Hp' => qT R k T Hp' j) e T' Hp' := by
 have key : yH.endR R cl k T Hp' (aR Hp' cl) → ∃ r, aR Hp' cl = .obj (.loop r) ∧ r.state ≠ .busy ∧ qT R k T (Am Hp' cl (.obj (.loop { r with state := .exhausted }))) r.pending := by
  intro h;unfold yH.endR at h;split at h
  ·rename_i r hr;split at h
   ·exact h.elim
   ·rename_i hst; rw [lJ] at h; exact ⟨r, hr, hst, h⟩
  ·exact h.elim
 cases e with
 | normal => exact ⟨.inl rfl, key h⟩
 | ret => exact ⟨.inr rfl, key h⟩
 | _ => exact h.elim
theorem Ur {x : SV C} {l : List (SV C)} {v : Value} {vs : List Value} (h1 : Den D w E x v) (h2 : DenA D w E l vs) : DenA D w E (x :: l) (v :: vs) := by
 simp only [DenA]; exact ⟨v, vs, rfl, h1, h2⟩
theorem Co {w' : World} {E' : Env} (hL : dW w E w' E') {l : List (SV C)} {vs : List Value} (h : DenA D w E l vs) : DenA D w' E' l vs := DenA.mono hL _ _ h
theorem Do (A : Aux C D) (hT : bZ P D tab) {fn : Func} {c : Code} {first captured : List (SV C)} {g : Operand} {ps : Array Tmp} {assign body : Code} (hg : evT T g = .fn (.func f) first captured)
  (hf : P.funcs[f]? = some fn) (hb : fn.body = some c) (henter : ∀ args w, (callFunc f args).run P w = .ok (.enter f args) w) (hres : fn.results = #[]) (n : Nat) {S : Option Code → List (HS C) → Prop} {Φ : (RI C) → J9 C}
  (hΦ : ∀ ri e T' Hp', Φ ri e T' Hp' → Lr (hlen Hp) S e T' Hp')
  (hlive : ∀ c, X.ar = some c → ∃ r, aR Hp c = .obj (.loop r))
  (h : ∀ (gn : FuncId) (tmps : Array Value) (bd : Nat), gx P A tab ⟨none, (hlen Hp, ⟨gn, tmps, bd, ps, assign, body, T⟩) :: X.L, hlen Hp + 1, false⟩ (Φ ⟨gn, tmps, bd, ps, assign, body, T⟩) n [.code c]
   ((first ++ (.yieldv (hlen Hp) :: captured)) ++ xR (fn.ntmps - (first ++ (.yieldv (hlen Hp) :: captured)).length)) (Hp ++ [.obj (.loop (jH ⟨gn, tmps, bd, ps, assign, body, T⟩ .ready none))]))
  (hnm : X.nm = false) : q11 P D X g ps assign body T Hp S := by
 intro r B a w Q hX hRX hQ;obtain ⟨df, E, hR, hsz⟩ := hRX;have hgd := aS hR g;rw [← H3, hg] at hgd;simp only [Den] at hgd;obtain ⟨xs, ys, hgv, hd1, hd2⟩ := hgd;refine wpIn_rangeFunc ?_;intro gn hgn;obtain ⟨w1, E1, bd, mark, l, hent, hE1, hl, hL1, hmk, hfr⟩ : ∃ (w1 : World) (E1 : Env) (bd : Nat) (mark : List Deferred) (l : Nat),
   (Instr.enterLoop gn a.tmps ps assign body (Fc r).round).run P w = .ok (l, mark) w1 ∧ E1 = { F := E1.F, β := (E.up (hlen Hp) (.loc l)).β } ∧ w1.heap[l]? = some (.loop (jH ⟨gn, a.tmps, bd, ps, assign, body, T⟩ .ready none)) ∧
   dW w E w1 E1 ∧ (∃ df1, mark ++ df = df1 ∧ sK B E1 w1 df1) ∧ Sat D w1 E1 (aR (Hp ++ [.obj (.loop (jH ⟨gn, a.tmps, bd, ps, assign, body, T⟩ .ready none))])) ∧ Fr B E1 w1 := by
  have hfresh : aR Hp (hlen Hp) = .fresh := tL Hp;have happ : ∀ h : HS C, aR (Hp ++ [h]) = upH (aR Hp) (hlen Hp) h := by
   intro h; funext i;have : ∀ (l : List (HS C)) (i : Nat), aR (l ++ [h]) i = if i = hlen l then h else aR l i := by
    intro l
    induction l with
    | nil => intro i; cases i <;> simp [aR, hlen]
    | cons x l ih => intro i; cases i with
     | zero => simp [aR, hlen]
     | succ i => simp [aR, hlen, ih i]
   rw [this]; rfl
  cases hr : r with
  | none =>
   have e1 := run_enterLoop_outer (P := P) (w := w) gn a.tmps ps assign body;have hwF : ∀ b, E.F b → b ≠ w.heap.size := fun b hb e => by have := hR.sat.F b hb; omega
   have hL0 : dW w E (w.alloc (.deferred (some []))) { E with F := fun k => E.F k ∨ k = w.heap.size } :=
    ⟨fun b hb => ⟨.inl hb, Below.heap_alloc w _ b (hR.sat.F b hb)⟩, fun c => .inl rfl, fun c b _ _ cs T hcs => ⟨cs, T, Row.of (Below.heap_alloc w _ b hcs.lt) hcs, rfl⟩⟩
   have hR0 : Rel D B { E with F := fun k => E.F k ∨ k = w.heap.size } (bX T) (aR Hp) df a (w.alloc (.deferred (some []))) := by
    refine hR.later hL0 ⟨fun c => ?_, fun c b e => ?_, hR.sat.inj, fun b hb => ?_, hR.sat.glob.mono hL0.F⟩ ?_
    ·exact HS.ok_mono hL0 (hR.sat.ok c) fun b e => Below.heap_alloc w _ b (hR.sat.own c b e).1
    ·have := hR.sat.own c b e;exact ⟨by simp; omega, fun h => h.elim this.2 (fun e => by omega)⟩
    ·rcases hb with hb | rfl
     ·have := hR.sat.F b hb; simp; omega
     ·simp
    ·refine ⟨hR.fr.os, hR.fr.tape, hR.fr.output, by have := hR.fr.size; simp; omega, fun b hb ho => (Below.heap_alloc w _ b (Nat.lt_of_lt_of_le hb hR.fr.size)).trans (hR.fr.same b hb ho), hR.fr.late.trans hL0, ?_, hR.fr.newO⟩;rintro b (hb | rfl)
     ·exact hR.fr.newF b hb
     ·exact .inr (.inr hR.fr.size)
   have hR1 := hR0.allocO (c := hlen Hp) hfresh (.loop (jH ⟨gn, a.tmps, w.heap.size, ps, assign, body, T⟩ .ready none)) (hs := .obj (.loop (jH ⟨gn, a.tmps, w.heap.size, ps, assign, body, T⟩ .ready none)))
    ⟨World.alloc_heap_new _ _, by simp⟩
   have hβ : E.β (hlen Hp) = .fresh := nGβ hR.sat hfresh;have hL2 := eH (w := w.alloc (.deferred (some []))) (E := { E with F := fun k => E.F k ∨ k = w.heap.size }) (c := hlen Hp) hβ (.loop (jH ⟨gn, a.tmps, w.heap.size, ps, assign, body, T⟩ .ready none)) hR0.sat.F;refine ⟨_, _, w.heap.size, _, _, e1, ?_, ?_, hL0.trans hL2, ⟨_, rfl, ?_⟩, ?_, hR1.fr⟩
   ·simp only [World.size_alloc]; rfl
   ·have := World.alloc_heap_new (w.alloc (.deferred (some []))) (.loop (jH ⟨gn, a.tmps, w.heap.size, ps, assign, body, T⟩ .ready none)); rwa [World.size_alloc] at this
   ·obtain ⟨bs, hb1, hb2, hb3, _⟩ := hR1.marks;refine ⟨w.heap.size :: bs, by simp [hb1], List.nodup_cons.2 ⟨fun hmem => ?_, hb2⟩, fun b hb => ?_, fun hn => by rw [hX.nm, hnm] at hn; cases hn⟩
    ·obtain ⟨bs', hb1', _, hb3', _⟩ := hR.marks;have : bs = bs' := zJ _ _ (List.append_cancel_right (hb1.symm.trans hb1'));subst this;have := hR.sat.F _ (hb3' _ hmem).1;omega
    ·rcases List.mem_cons.1 hb with rfl | hb
     ·refine ⟨.inr rfl, (Below.heap_alloc _ _ _ (by simp)).trans (World.alloc_heap_new w _), hR.fr.size, fun hF => ?_⟩;have := (hR.fr.late.F _ hF).1;have := hR.sat.F _ this;omega
     ·exact hb3 b hb
   ·rw [happ]; exact hR1.sat
  | some l0 =>
   have har := hX.ar;unfold qb2 at har;rw [hr] at har;cases hc0 : X.ar with
   | none => rw [hc0] at har; exact har.elim
   | some c0 =>
    rw [hc0] at har;simp only at har;obtain ⟨r0, hr0⟩ := hlive c0 hc0;have hb0 : E.β c0 = .loc l0 := by
     have hok := hR.sat.ok c0;rcases hR.fr.late.β c0 with e | e | e
     ·rw [e]; exact har
     ·rw [e, hr0] at hok; cases hok
     ·rw [har] at e; cases e
    have hok := hR.sat.ok c0;rw [hb0, hr0] at hok;have e1 := run_enterLoop_inner (P := P) hok.1 gn a.tmps ps assign body;have hR1 := hR.allocO (c := hlen Hp) hfresh (.loop (jH ⟨gn, a.tmps, r0.defers, ps, assign, body, T⟩ .ready none)) (hs := .obj (.loop (jH ⟨gn, a.tmps, r0.defers, ps, assign, body, T⟩ .ready none)))
     ⟨World.alloc_heap_new _ _, by simp⟩
    have hβ : E.β (hlen Hp) = .fresh := nGβ hR.sat hfresh;have hL2 := eH (w := w) (E := E) (c := hlen Hp) hβ (.loop (jH ⟨gn, a.tmps, r0.defers, ps, assign, body, T⟩ .ready none)) hR.sat.F;refine ⟨_, _, r0.defers, _, _, e1, rfl, World.alloc_heap_new _ _, hL2, ⟨_, rfl, hR1.marks⟩, ?_, hR1.fr⟩;rw [happ]; exact hR1.sat
 obtain ⟨⟨df1, hdf1, hmk⟩, hfr⟩ := And.intro hmk hfr;have hlb : E1.β (hlen Hp) = .loc l := by rw [hE1]; exact Env.up_same E _ _
 refine ⟨l, mark, w1, { target := .fn (.func f) ys, args := xs ++ #[.func (.yield l) #[] #[]] }, w1, f, (xs ++ #[.func (.yield l) #[] #[]]) ++ ys, w1, hent, ?_, ?_, ?_, ?_, ?_⟩
 ·simp only [resolve, hgv];simp [Act.eval, Deferred.ofValue, Sem.run_pure, go_sem]
 ·intro f' _; exact trivial
 ·simp [invoke, go_sem, henter]
 ·intro h; simp [Fc] at h
 ·
  have hR1 : Rel D B E1 (bX T) (aR (Hp ++ [.obj (.loop (jH ⟨gn, a.tmps, bd, ps, assign, body, T⟩ .ready none))])) df1 { a with defers := mark ++ a.defers } w1 :=
   ⟨fun i => Den.mono hL1 _ _ (hR.den i), hfr.1, hfr.2, by rw [hR.defers]; exact hdf1, hmk⟩
  have hlen1 : hlen (Hp ++ [.obj (.loop (jH ⟨gn, a.tmps, bd, ps, assign, body, T⟩ .ready none))]) = hlen Hp + 1 := by
   rw [nR, nR]; simp
  have hm : ∀ c, hlen Hp + 1 ≤ c → E1.β c = .fresh := by
   have := lP hR1.sat;rw [hlen1] at this;exact this
  have hd : DenA D w1 E1 (first ++ (.yieldv (hlen Hp) :: captured)) (xs.toList ++ (.func (.yield l) #[] #[] :: ys.toList)) :=
   nM _ _ _ _ (Co hL1 hd1) (Ur (by simp only [Den, hlb]) (Co hL1 hd2))
  have hvs : (xs ++ #[.func (.yield l) #[] #[]]) ++ ys = (xs.toList ++ (.func (.yield l) #[] #[] :: ys.toList)).toArray := by
   apply Array.ext'; simp
  rw [hvs];have hR0 := mX (n := fn.ntmps) (m := hlen Hp + 1) (hm := hm) hR1.sat hd;have hX1 : vW D (⟨none, (hlen Hp, ⟨gn, a.tmps, bd, ps, assign, body, T⟩) :: X.L, hlen Hp + 1, false⟩ : Ctx C) (dP.here w1 E1 (hlen Hp + 1) hm) none := by
   refine ⟨rfl, fun c ri hc => ?_, trivial, rfl⟩;simp only [lkR] at hc;split at hc
   ·injection hc with hc; subst hc;exact ⟨hsz, fun i => hR1.den i⟩
   ·exact (hX.L.mono (hR.fr.late.trans hL1)) c ri hc
  refine callsIn_of_wp_marks (F := Fc none) hf hb trivial ?_ rfl;have := gY (r := none) (Q := bodyPostM (Fc none) 0 P fn (rangePost (Fc r) 0 P l Q { a with defers := mark ++ a.defers })) A hT hX1
   (fun e a' w' T' Hp' hΦ' hRL => ?_) n _ _ _ (h gn a.tmps bd) _ _ hR0
  ·exact this
  ·obtain ⟨he, rr, hrr, hst, hS⟩ := hΦ _ _ _ _ hΦ';obtain ⟨df', E2, hR2, _⟩ := hRL;have key : LeavesInM (Fc none) 0 P fn a'.tmps (rangePost (Fc r) 0 P l Q { a with defers := mark ++ a.defers }) a'.defers .returning w' := by
    refine qM hR2 fun w3 E3 hR3 => ?_;have hrun : ∃ v, (results fn a'.tmps).run P w3 = .ok v w3 := by
     refine ⟨.tuple #[], ?_⟩;unfold results;simp [hres]
    obtain ⟨v, hv⟩ := hrun;have hl3 : E3.β (hlen Hp) = .loc l := by
     have hok := hR3.sat.ok (hlen Hp);rcases hR3.fr.late.β (hlen Hp) with e | e | e
     ·exact e.trans hlb
     ·rw [e, hrr] at hok; cases hok
     ·have e' : E1.β (hlen Hp) = .fresh := e;rw [hlb] at e'; cases e'
    have hok := hR3.sat.ok (hlen Hp);rw [hl3, hrr] at hok;obtain ⟨h1, h2⟩ := hR3.putO hl3 hrr (o' := .loop { rr with state := .exhausted }) (by simp);refine ⟨v, hv, rr.pending, _, run_endLoop hok.1 hst, ?_⟩;have hLall : dW w1 E1 (w3.putObj l (.loop { rr with state := .exhausted })) E3 := h1.fr.late;have hRfin : yB D B T (Am Hp' (hlen Hp) (.obj (.loop { rr with state := .exhausted }))) { a with defers := mark ++ a.defers } (w3.putObj l (.loop { rr with state := .exhausted })) := by
     refine ⟨df1, E3, ?_, hsz⟩;rw [qK];exact hR1.later hLall h1.sat (hR1.fr.trans h1.fr)
    have := hQ rr.pending _ _ _ hS hRfin;cases hp : rr.pending with
    | none => rw [hp] at this; exact this
    | some c => rw [hp] at this; exact this
   rcases he with rfl | rfl
   ·exact key
   ·exact key
def q2j (X : Ctx C) (Hp : List (HS C)) : Bool := match X.ar with
 | none => true
 | some c => match aR Hp c with
  | .obj (.loop _) => true
  | _ => false
theorem Yk (h : q2j X Hp = true) : ∀ c, X.ar = some c → ∃ r, aR Hp c = .obj (.loop r) := by
 intro c hc;unfold q2j at h;rw [hc] at h;simp only at h;split at h
 ·rename_i r hr; exact ⟨r, hr⟩
 ·cases h
theorem Jn (A : Aux C D) (hT : bZ P D tab) {fn : Func} {c : Code} {g : Operand} {first captured : List (SV C)} {ps : Array Tmp} {assign body : Code} (hg : evT T g = .fn (.func f) first captured)
  (hf : P.funcs[f]? = some fn) (hb : fn.body = some c) (henter : ∀ args w, (callFunc f args).run P w = .ok (.enter f args) w) (hres : fn.results = #[]) (hlive : q2j X Hp = true) (n : Nat)
  (h : ∀ (gn : FuncId) (tmps : Array Value) (bd : Nat), sQ Hp 0 fun cl => dQ ((first ++ (.yieldv cl :: captured)) ++ xR (fn.ntmps - (first ++ (.yieldv cl :: captured)).length)) fun T0 =>
   cZ (Hp ++ [.obj (.loop (jH ⟨gn, tmps, bd, ps, assign, body, T⟩ .ready none))]) fun Hp0 =>
   gx P A tab ⟨none, (cl, ⟨gn, tmps, bd, ps, assign, body, T⟩) :: X.L, cl + 1, false⟩ (yH R cl k T) n [.code c] T0 Hp0) (hnm : X.nm = false := by rfl) :
  q15 P D X R g (.fn (.func f) first captured) ps assign body k T Hp := by
 refine ⟨_, Do A hT hg hf hb henter hres n (fun ri e T' Hp' => Cq) (Yk hlive) ?_ hnm, fun j Hp' hS => hS⟩;intro gn tmps bd;have := h gn tmps bd;rw [eG, Nat.add_zero, bB, bH] at this;exact this
def endRound (R : kU C) (c : Nat) (dst : Option Nat) (all rest : List Oper) (k : List (It C)) (T : List (SV C)) : J9 C := fun e _ Hp' => at_ e Hp' (aR Hp' c)
where at_ (e : Exit) (Hp' : List (HS C)) (h : HS C) : Prop := match h with
 | .obj (.loop r) => match e with
  | .normal => A8 Hp' c (.obj (.loop { r with state := .ready, pending := none })) fun Hp'' => dI T dst (.p (.bool true)) fun T' => R (.ops all rest :: k) T' Hp''
  | .ret => A8 Hp' c (.obj (.loop { r with state := .done, pending := some .ret })) fun Hp'' => dI T dst (.p (.bool false)) fun T' => R (.ops all rest :: k) T' Hp''
  | .exit id => A8 Hp' c (.obj (.loop { r with state := .done, pending := some (.exit id) })) fun Hp'' => dI T dst (.p (.bool false)) fun T' => R (.ops all rest :: k) T' Hp''
  | _ => False
 | _ => False
def Bk : List (SV C) → List Tmp → List (SV C) → List (SV C)
 | T, p :: ps, v :: vs => Bk (wK T p v) ps vs
 | T, _, _ => T
def wO {α β : Type} : List α → List β → Bool
 | [], [] => true
 | _ :: l, _ :: m => wO l m
 | _, _ => false
theorem O8 {α β : Type} : ∀ {l : List α} {m : List β}, wO l m = true → l.length = m.length
 | [], [], _ => rfl
 | _ :: l, _ :: m, h => by simp [O8 (l := l) (m := m) h]
 | [], _ :: _, h => by simp [wO] at h
 | _ :: _, [], h => by simp [wO] at h
theorem Bj : ∀ (ps : List Tmp) (args : List (SV C)) (vs : List Value) (T : List (SV C)) (tm : Array Value), ps.length = args.length → DenA D w E args vs → tm.size = T.length → (∀ i, Den D w E (bX T i) (tm.getD i undef)) →
  ((ps.zip vs).foldl (fun t (p, v) => t.setIfInBounds p v) tm).size = (Bk T ps args).length ∧ ∀ i, Den D w E (bX (Bk T ps args) i) (((ps.zip vs).foldl (fun t (p, v) => t.setIfInBounds p v) tm).getD i undef)
 | [], [], vs, T, tm, _, _, hz, h => by simp only [Bk, List.zip_nil_left, List.foldl_nil]; exact ⟨hz, h⟩
 | p :: ps, x :: args, vs, T, tm, hl, hd, hz, h => by
  simp only [DenA] at hd;obtain ⟨v, vs', rfl, h1, h2⟩ := hd;simp only [Bk, List.zip_cons_cons, List.foldl_cons];refine Bj ps args vs' (wK T p x) (tm.setIfInBounds p v) (by simpa using hl) h2 (by simp [iO, hz]) fun i => ?_;rw [vE]
  by_cases hi : i = p
  ·subst hi
   by_cases hlt : i < T.length
   ·rw [if_pos ⟨rfl, hlt⟩];have : (tm.setIfInBounds i v).getD i undef = v := by
     rw [Array.getD_eq_getD_getElem?, Array.getElem?_setIfInBounds_self_of_lt (by omega)]; rfl
    rw [this]; exact h1
   ·rw [if_neg (fun hh => hlt hh.2)];have : (tm.setIfInBounds i v).getD i undef = tm.getD i undef := by
     rw [Array.getD_eq_getD_getElem?, Array.getD_eq_getD_getElem?];congr 1;rw [Array.getElem?_eq_none (by simp; omega), Array.getElem?_eq_none (by omega)]
    rw [this]; exact h i
  ·rw [if_neg (fun hh => hi hh.1)];have : (tm.setIfInBounds p v).getD i undef = tm.getD i undef := by
    rw [Array.getD_eq_getD_getElem?, Array.getD_eq_getD_getElem?, Array.getElem?_setIfInBounds_ne (Ne.symm hi)]
   rw [this]; exact h i
def beginRound (c : Nat) (K : kU C) (body : Code) : J9 C := fun e T1 Hp1 => match e with
 | .normal => at_ T1 Hp1 (aR Hp1 c)
 | _ => False
where at_ (T1 : List (SV C)) (Hp1 : List (HS C)) (h : HS C) : Prop := match h with
 | .obj (.loop r) => match r.state with
  | .ready => A8 Hp1 c (.obj (.loop { r with state := .busy })) fun Hp2 => K [.code body] T1 Hp2
  | _ => False
 | _ => False
theorem Cb (A : Aux C D) (hT : bZ P D tab) {c : Nat} {ri : RI C} (hri : lkR X.L c = some ri) (hc : aR Hp c = .obj (.loop (jH ri .ready none))) (hlen' : wO ri.ps.toList args = true) (n n' : Nat)
  (h : gx P A tab ⟨some c, X.L, hlen Hp, false⟩ (beginRound c (gx P A tab ⟨some c, X.L, hlen Hp, false⟩ (endRound R c dst all rest k T) n') ri.body) n [.code ri.assign] (Bk ri.T ri.ps.toList args) Hp) :
  Sp P D X.L c args Hp (fun q Hp' => R (.ops all rest :: k) (mD T dst (.p (.bool q))) Hp') := by
 intro r B σ df a w E hBL hR;have hok := hR.sat.ok c;have hb : ∃ b, E.β c = .loc b := by
  rw [hc] at hok;cases hb : E.β c with
  | fresh => rw [hb] at hok; simp [HS.ok] at hok
  | dead => rw [hb] at hok; simp [HS.ok] at hok
  | virt => rw [hb] at hok; simp [HS.ok] at hok
  | loc b => exact ⟨b, rfl⟩
 obtain ⟨b, hb⟩ := hb;rw [hb, hc] at hok;refine ⟨b, hb, fun vs hd => ?_⟩;have hl1 := O8 hlen';have hl2 := nZ _ _ hd;have hy := run_yield (P := P) (args := vs.toArray) hok.1 (by simp [jH]; rw [← hl2, ← hl1]; simp);refine ⟨_, _, _, _, hy, ?_⟩;have hm := lP hR.sat;have hrec := (hBL.mono hR.fr.late) c ri hri;obtain ⟨hz, hden⟩ := Bj (D := D) (w := w) (E := E) ri.ps.toList args vs ri.T ri.tmps hl1 hd hrec.1 hrec.2;have htm : (ri.ps.zip vs.toArray).foldl (fun tmps (t, a) => tmps.setIfInBounds t a) ri.tmps = (ri.ps.toList.zip vs).foldl (fun t (p, v) => t.setIfInBounds p v) ri.tmps := by
  rw [← Array.foldl_toList];simp
 have hR0 : yB D (dP.here w E (hlen Hp) hm) (Bk ri.T ri.ps.toList args) Hp { tmps := (ri.ps.toList.zip vs).foldl (fun t (p, v) => t.setIfInBounds p v) ri.tmps, defers := [] } w :=
  ⟨[], E, ⟨hden, hR.sat, Fr.here, rfl, sK.nil⟩, hz⟩
 have hX1 : vW D (⟨some c, X.L, hlen Hp, false⟩ : Ctx C) (dP.here w E (hlen Hp) hm) (some b) := ⟨rfl, hBL.mono hR.fr.late, hb, rfl⟩;have hb1 : ∀ {T' Hp' a' w' E1 df'} {rr : Loop}, Rel D (dP.here w E (hlen Hp) hm) E1 T' (aR Hp') df' a' w' → aR Hp' c = .obj (.loop rr) → E1.β c = .loc b := by
  intro T' Hp' a' w' E1 df' rr hR1 hrr;have hok := hR1.sat.ok c;rcases hR1.fr.late.β c with e' | e' | e'
  ·exact e'.trans hb
  ·rw [e', hrr] at hok; cases hok
  ·have e'' : E.β c = .fresh := e';rw [hb] at e''; cases e''
 have body : ∀ T' Hp', gx P A tab ⟨some c, X.L, hlen Hp, false⟩ (endRound R c dst all rest k T) n' [.code ri.body] T' Hp' → ∀ a' w', yB D (dP.here w E (hlen Hp) hm) T' Hp' a' w' →
   ri.body.wpIn (Fc (some b)) 0 P (roundPost P b fun e w' => ∃ q E' Hp', e = .returned (.bool q) ∧ Rel D B E' σ (aR Hp') df a w' ∧ R (.ops all rest :: k) (mD T dst (.p (.bool q))) Hp') a' w' := by
  intro T' Hp' h a' w' hRL;have := gY (r := some b) (Q := roundPost P b fun e w' => ∃ q E' Hp', e = .returned (.bool q) ∧ Rel D B E' σ (aR Hp') df a w' ∧ R (.ops all rest :: k) (mD T dst (.p (.bool q))) Hp') A hT hX1
   (fun e a' w' T' Hp' hΦ hRL => ?_) n' [.code ri.body] T' Hp' h a' w' hRL
  ·simp only [eK, Exit.then] at this;exact this
  ·obtain ⟨df', E1, hR1, _⟩ := hRL;unfold endRound endRound.at_ at hΦ;split at hΦ
   ·rename_i rr hrr;have hb1 := hb1 hR1 hrr;have hok1 := hR1.sat.ok c;rw [hb1, hrr] at hok1;have fin : ∀ (jump : Option Code) , R (.ops all rest :: k) (mD T dst (.p (.bool jump.isNone))) (Am Hp' c (.obj (.loop { rr with state := if jump.isNone then .ready else .done, pending := jump }))) →
      ∃ v w'', (Instr.endRound b jump).run P w' = .ok v w'' ∧ ∃ q E' Hp', (Ending.returned v) = .returned (.bool q) ∧ Rel D B E' σ (aR Hp') df a w'' ∧ R (.ops all rest :: k) (mD T dst (.p (.bool q))) Hp' := by
     intro jump hRj;obtain ⟨h1, h2⟩ := hR1.putO hb1 hrr (o' := .loop { rr with state := if jump.isNone then .ready else .done, pending := jump }) (by simp);refine ⟨_, _, run_endRound jump hok1.1, _, E1, _, rfl, ?_, hRj⟩;rw [qK];exact hR.later h1.fr.late h1.sat (hR.fr.trans h1.fr)
    split at hΦ
    ·rw [lJ, bU] at hΦ; exact fin none hΦ
    ·rw [lJ, bU] at hΦ; exact fin (some .ret) hΦ
    ·rw [lJ, bU] at hΦ; exact fin (some (.exit _)) hΦ
    ·exact hΦ.elim
   ·exact hΦ.elim
 have := gY (r := some b) (Q := Exit.then (fun a₁ w₁ => ∃ w₂, (Instr.beginRound b).run P w₁ = .ok () w₂ ∧ ri.body.wpIn (Fc (some b)) 0 P (roundPost P b fun e w' => ∃ q E' Hp', e = .returned (.bool q) ∧ Rel D B E' σ (aR Hp') df a w' ∧ R (.ops all rest :: k) (mD T dst (.p (.bool q))) Hp') a₁ w₂) (fun _ _ _ => False)) A hT hX1
  (fun e a' w' T' Hp' hΦ hRL => ?_) n _ _ _ h _ _ hR0
 ·refine roundIn_of_wpIn trivial ?_;simp only [jH];rw [htm];exact this
 ·obtain ⟨df', E1, hR1, hz1⟩ := hRL;unfold beginRound beginRound.at_ at hΦ;split at hΦ
  ·split at hΦ
   ·rename_i rr hrr;split at hΦ
    ·rename_i hst;rw [lJ] at hΦ;have hbb := hb1 hR1 hrr;have hok1 := hR1.sat.ok c;rw [hbb, hrr] at hok1;obtain ⟨h1, h2⟩ := hR1.putO hbb hrr (o' := .loop { rr with state := .busy }) (by simp);refine ⟨_, run_beginRound hok1.1 hst, ?_⟩;exact body _ _ hΦ a' _ ⟨df', E1, by rw [qK]; exact h1, hz1⟩
    ·exact hΦ.elim
   ·exact hΦ.elim
  ·exact hΦ.elim
end
end Go.SX
namespace Go.SX
open Go.RowKit
variable {C : Cod}
def q3f : List Oper → Nat → Nat
 | [], m => m
 | ⟨some d, _, _, _, _, _⟩ :: l, m => q3f l (Nat.lor m (Nat.shiftLeft 1 d))
 | ⟨none, _, _, _, _, _⟩ :: l, m => q3f l m
def Hv : Code → Nat → Nat
 | .region _ ops _, m => q3f ops.toList m
 | .seq a b, m => Hv b (Hv a m)
 | .cond _ a b, m => Hv b (Hv a m)
 | .block _ b, m => Hv b m
 | .loop b, m => Hv b m
 | _, m => m
def q10 : Nat → List (SV C) → List (SV C)
 | _, [] => []
 | m, x :: l => (match Nat.mod m 2 with | 0 => x | _ + 1 => .any) :: q10 (Nat.div m 2) l
def pD : List (SV C) → List (Nat × SV C) → List (SV C)
 | T, [] => T
 | T, (d, v) :: l => pD (wK T d v) l
def K7 (body : Code) (T : List (SV C)) (us : List (Nat × SV C)) : List (SV C) := pD (q10 (Hv body 0) T) us
structure Po (m0 : Nat) (θ : List (Option Nat)) (T : List (SV C)) (Hp : List (HS C)) (T' : List (SV C)) (Hp' : List (HS C)) : Prop where
 T : ViewL Hp θ T T'
 H : gI Hp θ θ Hp'
 id : idO m0 0 θ = true
 nd : ndO θ = true
section
variable {P : Program} {D : aJ C} {tab : Tab C} {A : Aux C D} {X : Ctx C} {R : kU C} {Φ : J9 C} {n m0 : Nat} {body : Code} {k : List (It C)} {T : List (SV C)} {Hp : List (HS C)}
structure Pt (p : Prop) : Prop where
 h : p
theorem cW {p q : Prop} (h1 : Pt p) (h2 : q) : p ∧ q := ⟨h1.h, h2⟩
theorem yG {γ : Type} (I : γ → List (Nat × SV C)) (J : γ → List (HS C)) (good : γ → Prop) (μ : γ → Nat) (g0 : γ) (h0 : good g0) (θ0 : List (Option Nat)) (hent : Po m0 θ0 T Hp (K7 body T (I g0)) (J g0))
  (hround : ∀ g, good g → ∀ K : List (SV C) → List (HS C) → Prop, (∀ g' θ T' Hp', Pt (good g') → Pt (μ g' < μ g) → Po m0 θ T' Hp' (K7 body T (I g')) (J g') → K T' Hp') →
   dQ (K7 body T (I g)) fun T1 => cZ (J g) fun Hp1 => R (.code body :: .endLoop K :: k) T1 Hp1) : Ye D m0 R body k T Hp := by
 refine ⟨γ, fun g => (K7 body T (I g), J g), good, μ, g0, h0, Sn θ0 hent.T ⟨hent.H, hent.id, hent.nd⟩, ?_⟩;intro g hg K hK;have := hround g hg K fun g' θ T' Hp' h1 h2 h3 => hK _ _ g' h1.h h2.h (Sn θ h3.T ⟨h3.H, h3.id, h3.nd⟩);rw [bB, bH] at this;exact this
theorem q3e {b : Bool} {X Y : Prop} (h1 : b = true → X) (h2 : b = false → Y) : yS b X Y := by
 cases b with
 | true => exact h1 rfl
 | false => exact h2 rfl
theorem V4 {args : List (SV C)} {dst : Option Nat} {all rest : List Oper} (A : Aux C D) (hT : bZ P D tab) {c : Nat} {ri : RI C} (hri : lkR X.L c = some ri) (hc : aR Hp c = .obj (.loop (jH ri .ready none))) (hlen' : wO ri.ps.toList args = true) (n n' : Nat)
  (h : dQ (Bk ri.T ri.ps.toList args) fun T0 => sQ Hp 0 fun m => gx P A tab ⟨some c, X.L, m, false⟩ (beginRound c (gx P A tab ⟨some c, X.L, m, false⟩ (endRound R c dst all rest k T) n') ri.body) n [.code ri.assign] T0 Hp) :
  q0y P D X R c args dst all rest k T Hp := by
 rw [bB, eG, Nat.add_zero] at h;exact ⟨_, Cb A hT hri hc hlen' n n' h, fun q Hp' hS => hS⟩
def q9d (Hp : List (HS C)) (θ : List (Option Nat)) (ret : SV C) : Option (List (SV C)) → Prop
 | some l => nS Hp θ (xU l) ret
 | none => False
structure q54 (Hp : List (HS C)) (θ : List (Option Nat)) (ret : SV C) (l : Option (List (SV C))) : Prop where
 h : q9d Hp θ ret l
theorem aZ {rs : List ResultVar} {ret : SV C} {H1 : List (HS C)} {e : Exit} (θ : List (Option Nat)) (he : e = .normal ∨ e = .ret) (hE : q54 Hp θ ret (jD D tab T Hp rs)) (hv : gI Hp θ θ H1) (hid : idO m0 0 θ = true) (hnd : ndO θ = true) :
  (e = .normal ∨ e = .ret) ∧ ∃ θ l, jD D tab T Hp rs = some l ∧ nS Hp θ (xU l) ret ∧ uG Hp θ H1 m0 := by
 refine ⟨he, ?_⟩;have h := hE.h;generalize hr : jD D tab T Hp rs = r at h;cases r with
 | none => exact h.elim
 | some l => exact ⟨θ, l, rfl, h, ⟨hv, hid, hnd⟩⟩
end
end Go.SX
namespace Go.SX
open Go.RowKit
variable {C : Cod}
structure Jf (all : List Oper) (tr : List Ent) : Prop where
 h : N4 all tr.reverse = true
structure By (P : Program) (D : aJ C) (next : DK C) (f : FuncId) (args : List (SV C)) (dst : Option Nat) (fs fc0 : List Nat) (tr : List Ent) (T : List (SV C)) (Hp : List (HS C)) : Prop where
 h : Y4 P D next f args dst fs fc0 tr T Hp
def rD (P : Program) (D : aJ C) (next : DK C) (o : Op) (vals : List (SV C)) (dst : Option Nat) (fs fc : List Nat) (tr : List Ent) (T : List (SV C)) (Hp : List (HS C)) : Out C → Prop
 | .stuck => oL o vals (rC Hp vals) False
 | .val v => dI T dst v fun T' => next (⟨dst, fs, fc, []⟩ :: tr) T' Hp
 | .side p v => p ∧ dI T dst v fun T' => next (⟨dst, fs, fc, []⟩ :: tr) T' Hp
 | .mem v ws => cZ (vY ws) fun ids => dI T dst v fun T' => eP Hp ws fun Hp' => next (⟨dst, fs, fc, ids⟩ :: tr) T' Hp'
 | .smem p v ws => p ∧ cZ (vY ws) fun ids => dI T dst v fun T' => eP Hp ws fun Hp' => next (⟨dst, fs, fc, ids⟩ :: tr) T' Hp'
 | .call f args => dQ args fun args => By P D next f args dst fs fc tr T Hp
 | .yieldc _ _ => False
 | .may _ _ => False
 | .ask q K => qa8 q fun r => dI T dst (K r) fun T' => next (⟨dst, fs, fc, []⟩ :: tr) T' Hp
def q21 (h : HS C) (X : Prop) : Prop := match h with
 | .fresh => X
 | _ => False
def Ue (o : Op) (big : Nat) (Hp : List (HS C)) (K : Nat → Prop) : Prop := match q9o o with
 | true => sQ Hp 0 K
 | false => K big
theorem Qv {o : Op} {big : Nat} {Hp : List (HS C)} {K : Nat → Prop} : Ue o big Hp K = K (Ro o big Hp) := by
 unfold Ue Ro;cases q9o o with
 | true => exact (eG Hp 0 K)
 | false => rfl
def vO (P : Program) {D : aJ C} (A : Aux C D) (tab : Tab C) (big : Nat) (next : DK C) (dst : Option Nat) (op : Op) (gs : List Nat) (tr : List Ent) (T : List (SV C)) (Hp : List (HS C)) : Prop :=
 dQ (bD T (aN op)) fun vals => Ue op big Hp fun m => q21 (aR Hp m) (cZ (gs ++ gN (aN op)) fun fs => cZ (m :: q7w op vals) fun fc =>
  rD P D next op vals dst fs fc tr T Hp (exec A tab op vals (rC Hp vals) m))
def Vj (P : Program) {D : aJ C} (A : Aux C D) (tab : Tab C) (big : Nat) (next : DK C) (dst : Option Nat) (op : Op) (d : Nat) (want : Bool) (tr : List Ent) (T : List (SV C)) (Hp : List (HS C)) : SV C → Prop
 | .p (.bool b) => match want with
  | true => yS b (vA T d (.p (.bool true)) fun T => vO P A tab big next dst op [d] tr T Hp) (vA T d (.p (.bool false)) fun T => dI T dst (.tuple []) fun T' => next (⟨dst, [d], [], []⟩ :: tr) T' Hp)
  | false => yS b (vA T d (.p (.bool true)) fun T => dI T dst (.tuple []) fun T' => next (⟨dst, [d], [], []⟩ :: tr) T' Hp) (vA T d (.p (.bool false)) fun T => vO P A tab big next dst op [d] tr T Hp)
 | .tuple [] => dI T dst (.tuple []) fun T' => next (⟨dst, [d], [], []⟩ :: tr) T' Hp
 | v => Tk (.tmp d) v
def Mb (P : Program) {D : aJ C} (A : Aux C D) (tab : Tab C) (big : Nat) (next : DK C) (dst : Option Nat) (op : Op) (want : Bool) (tr : List Ent) (T : List (SV C)) (Hp : List (HS C)) : Option Nat → Prop
 | none => False
 | some d => Vj P A tab big next dst op d want tr T Hp (bX T d)
def B6 (P : Program) {D : aJ C} (A : Aux C D) (tab : Tab C) (K : DK C) (all : List Oper) (big : Nat) : List Oper → DK C
 | [] => K
 | ⟨dst, op, _, _, _, none⟩ :: rest => fun tr T Hp => vO P A tab big (B6 P A tab K all big rest) dst op [] tr T Hp
 | ⟨dst, op, _, _, _, some (j, want)⟩ :: rest => fun tr T Hp => Mb P A tab big (B6 P A tab K all big rest) dst op want tr T Hp (K6 all j)
def q6c (R : kU C) (all : List Oper) (k : List (It C)) : DK C := fun tr T Hp => Jf all tr ∧ R k T Hp
section
variable {P : Program} {D : aJ C} {A : Aux C D} {tab : Tab C} {R : kU C} {k : List (It C)} {T : List (SV C)} {Hp : List (HS C)}
theorem Fk : ∀ (T : List (SV C)) (d : Nat), wK T d (bX T d) = T
 | [], d => by simp [wK]
 | x :: l, 0 => rfl
 | x :: l, d + 1 => by simp only [wK, bX, Fk l d]
theorem nL {big : Nat} {next next' : DK C} (hn : ∀ tr T Hp, next' tr T Hp → next tr T Hp) {dst : Option Nat} {op : Op} {gs : List Nat} {tr : List Ent} (h : vO P A tab big next' dst op gs tr T Hp) : xG P A tab big next dst op gs tr T Hp := by
 unfold vO at h;rw [bB, Qv] at h;unfold xG W0;unfold q21 at h;unfold Hc;split at h
 ·rename_i hm;rw [hm];simp only;rw [bH, bH] at h;generalize exec A tab op (bD T (aN op)) (rC Hp (bD T (aN op))) (Ro op big Hp) = out at h ⊢;cases out with
  | stuck => exact h.h.elim
  | val v => simp only [rD, bU] at h; exact hn _ _ _ h
  | side p v => simp only [rD, bU] at h; exact ⟨h.1, hn _ _ _ h.2⟩
  | mem v ws => simp only [rD, bU, cS, bH] at h; exact hn _ _ _ h
  | smem p v ws => simp only [rD, bU, cS, bH] at h; exact ⟨h.1, hn _ _ _ h.2⟩
  | call f args =>
   simp only [rD, bB] at h;obtain ⟨ret, ws, fc, hc, h2⟩ := h.h;exact ⟨ret, ws, fc, hc, hn _ _ _ h2⟩
  | yieldc c args => exact h.elim
  | may p v => exact h.elim
  | ask q K =>
   obtain ⟨r, hq, h2⟩ := h.h;rw [bU] at h2;exact ⟨r, hq, hn _ _ _ h2⟩
 ·exact h.elim
theorem zS {all : List Oper} {big : Nat} {K K' : DK C} (hK : ∀ tr T Hp, K' tr T Hp → K tr T Hp) : ∀ (rest : List Oper) (tr : List Ent) (T : List (SV C)) (Hp : List (HS C)),
  B6 P A tab K' all big rest tr T Hp → oN P A tab K all big rest tr T Hp
 | [], tr, T, Hp, h => hK _ _ _ h
 | ⟨dst, op, ty, pos, after, guard⟩ :: rest, tr, T, Hp, h => by
  have ih := zS (all := all) (big := big) hK rest;cases guard with
  | none => exact nL ih h
  | some g =>
   obtain ⟨j, want⟩ := g;simp only [B6] at h;simp only [oN];cases hg : K6 all j with
   | none => rw [hg] at h; exact h.elim
   | some d =>
    rw [hg] at h;simp only [Mb, Vj] at h;simp only [Gt];split at h
    ·rename_i b hb;rw [hb];simp only [Qm];have hsame : wK T d (.p (.bool b)) = T := by
      rw [← hb];exact Fk T d
     cases want <;> cases b <;> simp only [yS, tX, bU, hsame] at h
     ·exact nL ih h
     ·exact ih _ _ _ h
     ·exact ih _ _ _ h
     ·exact nL ih h
    ·rename_i hb;rw [bU] at h;rw [hb];exact ih _ _ _ h
    ·cases h
theorem aE {m0 : Nat} {ops : List Oper} (hmix : P.follows .mixedOrders = true) (h : sQ Hp 1000 fun big => B6 P A tab (q6c R ops k) ops big ops [] T Hp) : Ub P A tab m0 R ops k T Hp := by
 rw [eG] at h;exact ⟨⟨_, _, fun _ _ _ _ _ h => h, .inl ⟨hmix, zS (fun tr T Hp hk => ⟨hk.1.h, hk.2⟩) ops [] T Hp h⟩⟩⟩
theorem Hb {next : DK C} {f : FuncId} {args : List (SV C)} {ret : SV C} {dst : Option Nat} {fs fc : List Nat} {tr : List Ent} (hM : aF P D f args [] ret []) (hargs : renL [] args = some args) (hret : nJ [] ret = some ret)
  (h : cZ fc fun fc => dI T dst ret fun T' => next (⟨dst, fs, fc, []⟩ :: tr) T' Hp) : By P D next f args dst fs fc tr T Hp := by
 rw [bH, bU] at h;exact ⟨Ow hM hargs hret (by simpa using h)⟩
theorem Gd {next : DK C} {f : FuncId} {args0 args : List (SV C)} {H0 H0' H1 H1' : List (HS C)} {ret0 ret : SV C} {dst : Option Nat} {fs fc : List Nat} {tr : List Ent}
  (ρ : List (Option Nat)) (hM : aF P D f args0 H0 ret0 H1) (hargs : renL ρ args0 = some args) (hH0 : gR ρ H0 = some H0') (hat : eA (aR Hp) ρ H0') (θ : List (Option Nat)) (hθ : θ = ρ ++ gL (H1.length - H0.length) (hlen Hp)) (hnd : ndO θ = true)
  (hle : H0.length ≤ H1.length) (hH1 : gR θ H1 = some H1') (hret : nJ θ ret0 = some ret)
  (h : cZ (fc ++ Nf θ) fun fc => cZ (vY (J6 θ H1')) fun ids => dI T dst ret fun T' => eP Hp (J6 θ H1') fun Hp' => next (⟨dst, fs, fc, ids⟩ :: tr) T' Hp') : By P D next f args dst fs fc tr T Hp := by
 rw [bH, bH, bU, cS] at h;exact ⟨Od ρ hM hargs hH0 hat θ hθ hnd hle hH1 hret h⟩
end
end Go.SX
