/-
  SX, part V2: the strict generator: states are reckoned out at each step, so that 'whnf' goes from stop to stop. Calls in place; ranges over functions.
-/
import Derived.Test.YtiflflnmonljeaaGreatDoorSxMq0
set_option linter.unusedVariables false
set_option linter.unusedSimpArgs false
namespace Go.SX
open Go.RowKit
variable {C : Cod}
section
variable {β : Type} {γ : Type}
def qC {δ : Sort _} : List (SV C) → Nat → SV C → (List (SV C) → δ) → δ
 | [], _, _, K => K []
 | _ :: l, 0, v, K => K (v :: l)
 | x :: l, n + 1, v, K => qC l n v (fun m => K (x :: m))
theorem sR : ∀ (T : List (SV C)) (d : Nat) (v : SV C) (K : List (SV C) → Prop), qC T d v K = K (tN T d v)
 | [], _, _, _ => rfl
 | _ :: _, 0, _, _ => rfl
 | x :: l, n + 1, v, K => by simp only [qC, tN, sR l n v]
def cK {α : Type} : List α → (List α → Prop) → Prop
 | [], K => K []
 | x :: l, K => cK l (fun m => K (x :: m))
theorem bA {α : Type} : ∀ (l : List α) (K : List α → Prop), cK l K = K l
 | [], _ => rfl
 | x :: l, K => by simp only [cK, bA l]
def Dm (n : Nat) (K : Nat → Prop) : Prop :=
 match n with
 | 0 => K 0
 | n + 1 => K (n + 1)
theorem lI (n : Nat) (K : Nat → Prop) : Dm n K = K n := by cases n <;> rfl
def rU : List (HS C) → Nat → (Nat → Prop) → Prop
 | [], n, K => Dm n K
 | _ :: l, n, K => rU l (n + 1) K
theorem eF : ∀ (l : List (HS C)) (n : Nat) (K : Nat → Prop), rU l n K = K (hlen l + n)
 | [], n, K => by simp only [rU, lI, hlen, Nat.zero_add]
 | _ :: l, n, K => by simp only [rU, eF l, hlen]; congr 1; omega
def In (x : SV C) (K : SV C → Prop) : Prop :=
 match x with
 | .p y => match y with
  | .int k n => K (.p (.int k n))
  | .bool b => K (.p (.bool b))
  | .str l => K (.p (.str l))
  | .lit v => K (.p (.lit v))
  | .dsl u xs => K (.p (.dsl u xs))
  | .fds u xs => K (.p (.fds u xs))
 | .any => K .any
 | .ptr c o => Dm c fun c => Dm o fun o => K (.ptr c o)
 | .eptr c o n i f => K (.eptr c o n i f)
 | .dptr l f => K (.dptr l f)
 | .slice c o n off len => Dm c fun c => Dm o fun o => Dm n fun n => K (.slice c o n off len)
 | .arr u N xs => K (.arr u N xs)
 | .agg vs => cK vs fun vs => K (.agg vs)
 | .fn f a b => cK a fun a => cK b fun b => K (.fn f a b)
 | .iface t v => K (.iface t v)
 | .tuple vs => cK vs fun vs => K (.tuple vs)
 | .yieldv c => K (.yieldv c)
 | .mapp c => Dm c fun c => K (.mapp c)
theorem N7 (x : SV C) (K : SV C → Prop) : In x K = K x := by
 cases x with
 | p y => cases y <;> rfl
 | ptr c o => exact (lI c (fun c => Dm o fun o => K (.ptr c o))).trans (lI o (fun o => K (.ptr c o)))
 | slice c o n off len => exact ((lI c (fun c => Dm o fun o => Dm n fun n => K (.slice c o n off len))).trans (lI o (fun o => Dm n fun n => K (.slice c o n off len)))).trans (lI n (fun n => K (.slice c o n off len)))
 | agg vs => exact bA vs (fun vs => K (.agg vs))
 | fn f a b => exact (bA a (fun a => cK b fun b => K (.fn f a b))).trans (bA b (fun b => K (.fn f a b)))
 | tuple vs => exact bA vs (fun vs => K (.tuple vs))
 | mapp c => exact lI c (fun c => K (.mapp c))
 | _ => rfl
def eN : List (SV C) → (List (SV C) → Prop) → Prop
 | [], K => K []
 | x :: l, K => In x fun y => eN l fun m => K (y :: m)
theorem bK : ∀ (l : List (SV C)) (K : List (SV C) → Prop), eN l K = K l
 | [], _ => rfl
 | x :: l, K => by simp only [eN, N7, bK l]
def cO (T : List (SV C)) (d : Option Nat) (v : SV C) (K : List (SV C) → Prop) : Prop :=
 match d with
 | none => K T
 | some d => In v fun v => qC T d v K
theorem bB (T : List (SV C)) (d : Option Nat) (v : SV C) (K : List (SV C) → Prop) : cO T d v K = K (iV T d v) := by
 cases d with
 | none => rfl
 | some d => exact (N7 v (fun v => qC T d v K)).trans (sR T d v K)
def Ps (h : HS C) (K : HS C → Prop) : Prop :=
 match h with
 | .vart t vs => cK vs (fun l => K (.vart t l))
 | .fresh => K .fresh
 | .dead => K .dead
 | .rows u xs => K (.rows u xs)
 | .obj o => K (.obj o)
theorem Ii (h : HS C) (K : HS C → Prop) : Ps h K = K h := by
 cases h <;> first | rfl | exact bA _ _
def vI : List (HS C) → Nat → HS C → (List (HS C) → Prop) → Prop
 | [], 0, h, K => K [h]
 | [], n + 1, h, K => vI [] n h (fun m => K (.fresh :: m))
 | _ :: l, 0, h, K => K (h :: l)
 | x :: l, n + 1, h, K => vI l n h (fun m => K (x :: m))
theorem iH : ∀ (Hp : List (HS C)) (c : Nat) (h : HS C) (K : List (HS C) → Prop), vI Hp c h K = K (F1 Hp c h)
 | [], 0, _, _ => rfl
 | [], n + 1, h, K => by simp only [vI, F1, iH [] n h]
 | _ :: _, 0, _, _ => rfl
 | x :: l, n + 1, h, K => by simp only [vI, F1, iH l n h]
def dI : List (HS C) → List (Nat × HS C) → (List (HS C) → Prop) → Prop
 | Hp, [], K => K Hp
 | Hp, (c, h) :: l, K => Ps h (fun h' => vI Hp c h' (fun Hp' => dI Hp' l K))
theorem bQ : ∀ (ws : List (Nat × HS C)) (Hp : List (HS C)) (K : List (HS C) → Prop), dI Hp ws K = K (dR Hp ws)
 | [], _, _ => rfl
 | (c, h) :: l, Hp, K => by simp only [dI, dR, Ii, iH, bQ l]
end
structure RI (C : Cod) where
 fn : FuncId
 tmps : Array Value
 bd : Nat
 ps : Array Tmp
 assign : Code
 body : Code
 T : List (SV C)
def fK (i : RI C) (st : LoopState) (pd : Option Code) : Loop :=
 { state := st, pending := pd, fn := i.fn, tmps := i.tmps, params := i.ps, assign := i.assign, body := i.body, defers := i.bd }
abbrev Km (C : Cod) := List (Nat × RI C)
def lkR : Km C → Nat → Option (RI C)
 | [], _ => none
 | (c, r) :: l, d => if c = d then some r else lkR l d
structure Ctx (C : Cod) where
 ar : Option Nat
 L : Km C
 m0 : Nat
 nm : Bool
def mT (D : aL C) (L : Km C) (w : World) (E : Env) : Prop :=
 ∀ c ri, lkR L c = some ri → ri.tmps.size = ri.T.length ∧ ∀ i, Den D w E (bI ri.T i) (ri.tmps.getD i undef)
def q18 (ar r : Option Nat) (E : Env) : Prop := match ar, r with
 | none, none => True
 | some c, some l => E.β c = .loc l
 | _, _ => False
structure U4 (D : aL C) (X : Ctx C) (B : dZ) (r : Option Nat) : Prop where
 m0 : B.m0 = X.m0
 L : mT D X.L B.w0 B.E0
 ar : q18 X.ar r B.E0
 nm : B.nm = X.nm
theorem mT.mono {D : aL C} {L : Km C} {w w' : World} {E E' : Env} (h : mT D L w E) (hL : cI w E w' E') : mT D L w' E' :=
 fun c ri hc => ⟨(h c ri hc).1, fun i => Den.mono hL _ _ ((h c ri hc).2 i)⟩
def sF (D : aL C) (B : dZ) (T : List (SV C)) (Hp : List (HS C)) (a : Act) (w : World) : Prop := ∃ df, Bm D B df T Hp a w
structure Mf (P : Program) (D : aL C) (L : Km C) (f : FuncId) (args : List (SV C)) (Hp : List (HS C)) (S : SV C → List (HS C) → Prop) : Prop where
 run : ((∀ args w, (callFunc f args).run P w = .ok (.enter f args) w) ∧ ∀ B σ df a w E, mT D L B.w0 B.E0 → Rel D B E σ (aS Hp) df a w → ∀ vs, DenA D w E args vs →
  CallsIn (Fc none) 0 P f vs.toArray w fun e w' => ∃ v E' ret Hp', e = .returned v ∧ Den D w' E' ret v ∧ Rel D B E' σ (aS Hp') df a w' ∧ S ret Hp') ∨
  ∀ B σ df a w E, Rel D B E σ (aS Hp) df a w → ∀ vs, DenA D w E args vs → ∃ v w' E' ret Hp', (callFunc f vs.toArray).run P w = .ok (.value v) w' ∧ Den D w' E' ret v ∧ Rel D B E' σ (aS Hp') df a w' ∧ S ret Hp'
def Qd (D : aL C) (m0 : Nat) (T : List (SV C)) (Hp : List (HS C)) (args : List (SV C)) (T' : List (SV C)) (Hp' : List (HS C)) (args' : List (SV C)) : Prop :=
 ∀ B E df a w, B.m0 = m0 → Rel D B E (bI T) (aS Hp) df a w → a.tmps.size = T.length → ∃ E', Rel D B E' (bI T') (aS Hp') df a w ∧ a.tmps.size = T'.length ∧ ∀ vs, DenA D w E args vs → DenA D w E' args' vs
theorem Qd.refl {D : aL C} {m0 : Nat} {T : List (SV C)} {Hp : List (HS C)} {args : List (SV C)} : Qd D m0 T Hp args T Hp args := fun B E df a w _ hR hsz => ⟨E, hR, hsz, fun _ h => h⟩
structure q1h (P : Program) (D : aL C) (L : Km C) (f : FuncId) (args : List (SV C)) (Hp : List (HS C)) (ch : List PanicEntry) (Hp' : List (HS C)) : Prop where
 run : (∀ args w, (callFunc f args).run P w = .ok (.enter f args) w) ∧ ∀ B σ df a w E, mT D L B.w0 B.E0 → Rel D B E σ (aS Hp) df a w → ∀ vs, DenA D w E args vs →
  CallsIn (Fc none) 0 P f vs.toArray w fun e w' => ∃ E', e = .panicked ch ∧ Rel D B E' σ (aS Hp') df a w'
structure kR (P : Program) (D : aL C) (X : Ctx C) (R : jN C) (f : FuncId) (args : List (SV C)) (dst : Option Nat) (all rest : List Oper) (k : List (It C)) (T : List (SV C)) (Hp : List (HS C)) : Prop where
 h : ∃ T1 Hp1 args1, Qd D X.m0 T Hp args T1 Hp1 args1 ∧ ((∃ S, Mf P D X.L f args1 Hp1 S ∧ ∀ ret Hp', S ret Hp' → R (.ops all rest :: k) (iV T1 dst ret) Hp') ∨ ∃ ch Hp', q1h P D X.L f args1 Hp1 ch Hp' ∧ R (.die ch :: k) T1 Hp')
theorem kR.of {P : Program} {D : aL C} {X : Ctx C} {R : jN C} {f : FuncId} {args : List (SV C)} {dst : Option Nat} {all rest : List Oper} {k : List (It C)} {T : List (SV C)} {Hp : List (HS C)} (S : SV C → List (HS C) → Prop)
  (h1 : Mf P D X.L f args Hp S) (h2 : ∀ ret Hp', S ret Hp' → R (.ops all rest :: k) (iV T dst ret) Hp') : kR P D X R f args dst all rest k T Hp := ⟨_, _, _, Qd.refl, .inl ⟨S, h1, h2⟩⟩
def Ga (P : Program) (D : aL C) (L : Km C) (c : Nat) (args : List (SV C)) (Hp : List (HS C)) (S : Bool → List (HS C) → Prop) : Prop :=
 ∀ (r : Option Nat) B σ df a w E, mT D L B.w0 B.E0 → Rel D B E σ (aS Hp) df a w → ∃ b, E.β c = .loc b ∧ ∀ vs, DenA D w E args vs →
  ∃ f tmps assign body, (Instr.yield b vs.toArray).run P w = .ok (.round b f tmps assign body) w ∧
   RoundIn (Fc r) 0 P b f tmps assign body w fun e w' => ∃ q E' Hp', e = .returned (.bool q) ∧ Rel D B E' σ (aS Hp') df a w' ∧ S q Hp'
structure Pf (P : Program) (D : aL C) (X : Ctx C) (R : jN C) (c : Nat) (args : List (SV C)) (dst : Option Nat) (all rest : List Oper) (k : List (It C)) (T : List (SV C)) (Hp : List (HS C)) : Prop where
 h : ∃ S, Ga P D X.L c args Hp S ∧ ∀ q Hp', S q Hp' → R (.ops all rest :: k) (iV T dst (.p (.bool q))) Hp'
def Qg (P : Program) (D : aL C) (X : Ctx C) (g : Operand) (ps : Array Tmp) (assign body : Code) (T : List (SV C)) (Hp : List (HS C)) (S : Option Code → List (HS C) → Prop) : Prop :=
 ∀ r B a w Q, U4 D X B r → sF D B T Hp a w →
  (∀ j Hp' a' w', S j Hp' → sF D B T Hp' a' w' → match j with
   | none => Q .normal a' w'
   | some c => c.wpIn (Fc r) 0 P Q a' w') →
  (Code.rangeFunc g ps assign body).wpIn (Fc r) 0 P Q a w
def mA (R : jN C) (k : List (It C)) (T : List (SV C)) (Hp : List (HS C)) : Option Code → Prop
 | none => R k T Hp
 | some c => R (.code c :: k) T Hp
structure Pt (P : Program) (D : aL C) (X : Ctx C) (R : jN C) (g : Operand) (gv : SV C) (ps : Array Tmp) (assign body : Code) (k : List (It C)) (T : List (SV C)) (Hp : List (HS C)) : Prop where
 h : ∃ S, Qg P D X g ps assign body T Hp S ∧ ∀ j Hp', S j Hp' → mA R k T Hp' j
structure Oo (D : aL C) (m0 : Nat) (R : jN C) (body : Code) (k : List (It C)) (T : List (SV C)) (Hp : List (HS C)) : Prop where
 h : Xw D m0 R body k T Hp
structure L0 (o : Op) (vals : List (SV C)) (hs : List (Nat × HS C)) (Y : Prop) : Prop where
 h : Y
structure q1e (p X Y : Prop) : Prop where
 t : p → X
 f : Y
structure q0z (q : Option (Option (Nat × Value))) (Y : Option (Nat × Value) → Prop) : Prop where
 h : ∃ r, q = some r ∧ Y r
inductive Iu (o : Operand) (v : SV C) : Prop
inductive Wm (i : It C) : Prop
def zY (b : Bool) (X Y : Prop) : Prop := match b with
 | true => X
 | false => Y
def mQ (P : Program) (D : aL C) (X : Ctx C) (R : jN C) (Y : Prop) (dst : Option Nat) (all rest : List Oper) (k : List (It C)) (T : List (SV C)) (Hp : List (HS C)) : Out C → Prop
 | .stuck => Y
 | .ask q K W => q0z q fun r => cO T dst (K r) fun T' => dI Hp (W r) fun Hp' => R (.ops all rest :: k) T' Hp'
 | .may p v => q1e p (cO T dst (v true) fun T' => R (.ops all rest :: k) T' Hp) (cO T dst (v false) fun T' => R (.ops all rest :: k) T' Hp)
 | .val v => cO T dst v fun T' => R (.ops all rest :: k) T' Hp
 | .side p v => p ∧ cO T dst v fun T' => R (.ops all rest :: k) T' Hp
 | .mem v ws => cO T dst v fun T' => dI Hp ws fun Hp' => R (.ops all rest :: k) T' Hp'
 | .smem p v ws => p ∧ cO T dst v fun T' => dI Hp ws fun Hp' => R (.ops all rest :: k) T' Hp'
 | .call f args => eN args fun args => kR P D X R f args dst all rest k T Hp
 | .yieldc c args => Pf P D X R c args dst all rest k T Hp
def q19 (P : Program) {D : aL C} (A : Aux C D) (tab : Tab C) (X : Ctx C) (R : jN C) (op : Op) (dst : Option Nat) (all rest : List Oper) (k : List (It C)) (T : List (SV C)) (Hp : List (HS C)) : Prop :=
 ∃ T1 Hp1, Qd D X.m0 T Hp [] T1 Hp1 [] ∧ mQ P D X R False dst all rest k T1 Hp1 (exec A tab op (aV T1 (aO op)) (mI Hp1 (aV T1 (aO op))) (hlen Hp1))
def q1j (D : aL C) (x : SV C) (v : Value) : Prop := ∀ w E u, Den D w E x u → u = v
def q09 (P : Program) (D : aL C) (R : jN C) (op : Op) (dst : Option Nat) (all rest : List Oper) (k : List (It C)) (T : List (SV C)) (Hp : List (HS C)) : Prop :=
 ∃ v ws, (∀ c, op ≠ .defer c) ∧ (∀ (o : Oper) (B : dZ) (E : Env) (df : List Deferred) (a : Act) (w : World), o.op = op → Rel D B E (bI T) (aS Hp) df a w → fX P D B (bI T) (aS Hp) df a w o v ws) ∧ cO T dst v fun T' => dI Hp ws fun Hp' => R (.ops all rest :: k) T' Hp'
def q1s (D : aL C) (m0 : Nat) (R : jN C) (op : Op) (k : List (It C)) (T : List (SV C)) (Hp : List (HS C)) : Prop :=
 ∃ x t u, op = .panic x ∧ q1j D (evT T x) (.iface t u) ∧ R (.die [{ v := .iface t u, recovered := false }] :: k) T Hp
def Py (R : jN C) (d : Nat) (want : Bool) (all : List Oper) (o : Oper) (rest : List Oper) (k : List (It C)) (T : List (SV C)) (Hp : List (HS C)) : SV C → Prop
 | .p (.bool b) => match want with
  | true => zY b (qC T d (.p (.bool true)) fun T' => R (.op1 all o rest :: k) T' Hp) (qC T d (.p (.bool false)) fun T' => cO T' o.dst (.tuple []) fun T'' => R (.ops all rest :: k) T'' Hp)
  | false => zY b (qC T d (.p (.bool true)) fun T' => cO T' o.dst (.tuple []) fun T'' => R (.ops all rest :: k) T'' Hp) (qC T d (.p (.bool false)) fun T' => R (.op1 all o rest :: k) T' Hp)
 | .tuple [] => cO T o.dst (.tuple []) fun T' => R (.ops all rest :: k) T' Hp
 | v => Iu (.tmp d) v
def Xh (R : jN C) (c : Operand) (x y : Code) (k : List (It C)) (T : List (SV C)) (Hp : List (HS C)) : SV C → Prop
 | .p (.bool b) => zY b (R (.code x :: k) T Hp) (R (.code y :: k) T Hp)
 | v => Iu c v
def Qo (R : jN C) (want : Bool) (all : List Oper) (o : Oper) (rest : List Oper) (k : List (It C)) (T : List (SV C)) (Hp : List (HS C)) : Option Nat → Prop
 | none => False
 | some d => Py R d want all o rest k T Hp (bI T d)
def Xj (P : Program) {D : aL C} (A : Aux C D) (tab : Tab C) (X : Ctx C) (R : jN C) (op : Op) (dst : Option Nat) (all rest : List Oper) (k : List (It C)) (T : List (SV C)) (Hp : List (HS C)) (vals : List (SV C)) (m : Nat) : Prop :=
 mQ P D X R (L0 op vals (mI Hp vals) (q19 P A tab X R op dst all rest k T Hp ∨ q1s D X.m0 R op k T Hp ∨ q09 P D R op dst all rest k T Hp)) dst all rest k T Hp (exec A tab op vals (mI Hp vals) m)
structure Mi (P : Program) {D : aL C} (A : Aux C D) (tab : Tab C) (m0 : Nat) (R : jN C) (ops : List Oper) (k : List (It C)) (T : List (SV C)) (Hp : List (HS C)) : Prop where
 h : ∃ T1 Hp1, Vl D m0 T Hp T1 Hp1 ∧ (Pv P A tab R ops k T1 Hp1 ∨ Fl P A tab R ops k T1 Hp1)
def Ql (P : Program) {D : aL C} (A : Aux C D) (tab : Tab C) (X : Ctx C) (Φ : Ca C) (R : jN C) : jN C
 | [], T, Hp => Φ .normal T Hp
 | .code .skip :: k, T, Hp => R k T Hp
 | .code (.label _) :: k, T, Hp => R k T Hp
 | .code (.seq x y) :: k, T, Hp => R (.code x :: .code y :: k) T Hp
 | .code (.region _ ops false) :: k, T, Hp => R (.ops ops.toList ops.toList :: k) T Hp
 | .code (.region _ ops true) :: k, T, Hp => Mi P A tab X.m0 R ops.toList k T Hp
 | .code (.cond c x y) :: k, T, Hp => Xh R c x y k T Hp (evT T c)
 | .code (.block id body) :: k, T, Hp => R (.code body :: .blk id :: k) T Hp
 | .code (.loop body) :: k, T, Hp => Oo D X.m0 R body k T Hp
 | .code (.exit id) :: k, T, Hp => Qa Φ R id T Hp (yQ id k)
 | .code .ret :: _, T, Hp => Φ .ret T Hp
 | .code (.scope c) :: k, T, Hp => R (.code c :: .scp :: k) T Hp
 | .scp :: k, T, Hp => R k T Hp
 | .die ch :: _, T, Hp => Φ (.panic ch) T Hp
 | .code (.rangeFunc g ps assign body) :: k, T, Hp => Pt P D X R g (evT T g) ps assign body k T Hp
 | .blk _ :: k, T, Hp => R k T Hp
 | .endLoop J :: _, T, Hp => J T Hp
 | .ops _ [] :: k, T, Hp => R k T Hp
 | .ops all (⟨dst, op, ty, pos, after, none⟩ :: rest) :: k, T, Hp => R (.op1 all ⟨dst, op, ty, pos, after, none⟩ rest :: k) T Hp
 | .ops all (⟨dst, op, ty, pos, after, some (j, want)⟩ :: rest) :: k, T, Hp => Qo R want all ⟨dst, op, ty, pos, after, some (j, want)⟩ rest k T Hp (wP all j)
 | .op1 all o rest :: k, T, Hp => eN (aV T (aO o.op)) fun vals => rU Hp 0 fun m => Xj P A tab X R o.op o.dst all rest k T Hp vals m
 | i :: _, _, _ => Wm i
def gx (P : Program) {D : aL C} (A : Aux C D) (tab : Tab C) (X : Ctx C) (Φ : Ca C) : Nat → jN C
 | 0 => fun _ _ _ => False
 | n + 1 => Ql P A tab X Φ (gx P A tab X Φ n)
section
variable {P : Program} {D : aL C} {tab : Tab C} {B : dZ} {E : Env} {σ : Nat → SV C} {H : Nat → HS C} {df : List Deferred} {a : Act} {w : World} {o : Oper} {r : Option Nat}
variable (r) in
def cQ (P : Program) (D : aL C) (B : dZ) (Q : Exit → Act → World → Prop) : List (It C) → Exit → Act → World → Prop
 | [] => Q
 | .code c :: k => Exit.then (c.wpIn (Fc r) 0 P (cQ P D B Q k)) (cQ P D B Q k)
 | .ops all rest :: k => Exit.then (wpListIn (Fc r) 0 P all.toArray (cQ P D B Q k) rest) (cQ P D B Q k)
 | .op1 all o rest :: k => Exit.then (fun a w => o.wpIn (Fc r) 0 P a w (wpListIn (Fc r) 0 P all.toArray (cQ P D B Q k) rest) (cQ P D B Q k)) (cQ P D B Q k)
 | .blk id :: k => Exit.inBlock id (cQ P D B Q k)
 | .endLoop J :: k => fun e a w => match e with
  | .normal => ∃ T Hp, J T Hp ∧ sF D B T Hp a w
  | e => cQ P D B Q k e a w
 | .beginR :: k => cQ P D B Q k
 | .scp :: k => Exit.noGoto (cQ P D B Q k)
 | .die ch :: k => fun e a w => match e with
  | .normal => cQ P D B Q k (.panic ch) a w
  | e => cQ P D B Q k e a w
variable {Q : Exit → Act → World → Prop}
theorem eG : ∀ k : List (It C), Q .ret a w → cQ r P D B Q k .ret a w
 | [], h => h
 | .code _ :: k, h => eG k h
 | .ops _ _ :: k, h => eG k h
 | .op1 _ _ _ :: k, h => eG k h
 | .blk _ :: k, h => eG k h
 | .endLoop _ :: k, h => eG k h
 | .beginR :: k, h => eG k h
 | .scp :: k, h => eG k h
 | .die _ :: k, h => eG k h
theorem cH {ch : List PanicEntry} : ∀ k : List (It C), Q (.panic ch) a w → cQ r P D B Q k (.panic ch) a w
 | [], h => h
 | .code _ :: k, h => cH k h
 | .ops _ _ :: k, h => cH k h
 | .op1 _ _ _ :: k, h => cH k h
 | .blk _ :: k, h => cH k h
 | .endLoop _ :: k, h => cH k h
 | .beginR :: k, h => cH k h
 | .scp :: k, h => cH k h
 | .die _ :: k, h => cH k h
theorem dG (id : Nat) : ∀ k : List (It C), (match yQ id k with | some k' => cQ r P D B Q k' .normal a w | none => Q (.exit id) a w) → cQ r P D B Q k (.exit id) a w
 | [], h => h
 | .code _ :: k, h => dG id k h
 | .ops _ _ :: k, h => dG id k h
 | .op1 _ _ _ :: k, h => dG id k h
 | .blk i :: k, h => by
  simp only [cQ, Exit.inBlock]
  simp only [yQ] at h
  by_cases hi : i = id
  ·rw [if_pos hi] at h; rw [if_pos hi.symm]; exact h
  ·rw [if_neg hi] at h; rw [if_neg (Ne.symm hi)]; exact dG id k h
 | .endLoop _ :: k, h => dG id k h
 | .beginR :: k, h => dG id k h
 | .scp :: k, h => dG id k h
 | .die _ :: k, h => dG id k h
theorem B8 {next : Act → World → Prop} {Q : Exit → Act → World → Prop} (hnd : ∀ c, o.op ≠ .defer c) {f : FuncId} {args0 args : List (SV C)} {L : Km C} {S : SV C → List (HS C) → Prop} {T0 T : List (SV C)} {Hp0 Hp : List (HS C)} {m0 : Nat} (hm0 : B.m0 = m0)
  (hBL : mT D L B.w0 B.E0) (hR : sF D B T0 Hp0 a w) (h : ∀ df, bF P D B (bI T0) (aS Hp0) df a w o (.call f args0)) (hsub : Qd D m0 T0 Hp0 args0 T Hp args) (hc : Mf P D L f args Hp S)
  (hn : ∀ ret Hp', S ret Hp' → ∀ a' w', sF D B (iV T o.dst ret) Hp' a' w' → next a' w') : o.wpIn (Fc r) 0 P a w next Q := by
 refine ⟨fun _ _ => trivial, ?_⟩
 obtain ⟨df, E, hR, hsz⟩ := hR
 obtain ⟨vs, hd, hrun⟩ := h df E hR
 obtain ⟨E1, hR1, hsz1, hd1⟩ := hsub B E df a w hm0 hR hsz
 have hd := hd1 vs hd
 clear hR hd1 hsz
 have hR := hR1
 have hsz := hsz1
 clear hR1 hsz1
 generalize E1 = E at *
 rcases hc.run with ⟨hc1, hc2⟩ | hx
 rotate_left
 ·obtain ⟨v, w', E', ret, Hp', h1, hv, hR', hS⟩ := hx B _ df a w E hR vs hd
  rw [show (Fc r).round = r from rfl, Oper.semAt_eq r _ _ hnd, hrun, h1]
  have hput := hR'.put hsz o.dst (.inr hv)
  refine hn _ _ hS _ _ ⟨df, E', ?_, by rw [gA, hsz, dS]⟩
  rw [fE]
  exact hput
 rw [show (Fc r).round = r from rfl, Oper.semAt_eq r _ _ hnd, hrun, hc1]
 refine ⟨fun h => by simp [Fc] at h, ?_⟩
 have hcalls := hc2 B _ df a w E hBL hR vs hd
 have hcalls' : CallsIn (Fc r) (0 - 1) P f vs.toArray w fun e w' => ∃ v E' ret Hp', e = .returned v ∧ Den D w' E' ret v ∧ Rel D B E' (bI T) (aS Hp') df a w' ∧ S ret Hp' := hcalls
 refine hcalls'.mono ?_
 rintro e w' ⟨v, E', ret, Hp', rfl, hv, hR', hS⟩
 have hput := hR'.put hsz o.dst (.inr hv)
 refine hn _ _ hS _ _ ⟨df, E', ?_, by rw [gA, hsz, dS]⟩
 rw [fE]
 exact hput
theorem L5 {next : Act → World → Prop} {Q : Exit → Act → World → Prop} (hnd : ∀ c, o.op ≠ .defer c) {f : FuncId} {args0 args : List (SV C)} {L : Km C} {ch : List PanicEntry} {Hp' : List (HS C)} {T0 T : List (SV C)} {Hp0 Hp : List (HS C)} {m0 : Nat} (hm0 : B.m0 = m0)
  (hBL : mT D L B.w0 B.E0) (hR : sF D B T0 Hp0 a w) (h : ∀ df, bF P D B (bI T0) (aS Hp0) df a w o (.call f args0)) (hsub : Qd D m0 T0 Hp0 args0 T Hp args) (hc : q1h P D L f args Hp ch Hp')
  (hn : ∀ w', sF D B T Hp' a w' → Q (.panic ch) a w') : o.wpIn (Fc r) 0 P a w next Q := by
 refine ⟨fun _ _ => trivial, ?_⟩
 obtain ⟨df, E, hR, hsz⟩ := hR
 obtain ⟨vs, hd, hrun⟩ := h df E hR
 obtain ⟨E1, hR1, hsz1, hd1⟩ := hsub B E df a w hm0 hR hsz
 have hd := hd1 vs hd
 obtain ⟨hc1, hc2⟩ := hc.run
 rw [show (Fc r).round = r from rfl, Oper.semAt_eq r _ _ hnd, hrun, hc1]
 refine ⟨fun h => by simp [Fc] at h, ?_⟩
 have hcalls := hc2 B _ df a w E1 hBL hR1 vs hd
 have hcalls' : CallsIn (Fc r) (0 - 1) P f vs.toArray w fun e w' => ∃ E', e = .panicked ch ∧ Rel D B E' (bI T) (aS Hp') df a w' := hcalls
 refine hcalls'.mono ?_
 rintro e w' ⟨E', rfl, hR'⟩
 exact hn w' ⟨df, E', hR', hsz1⟩
theorem wO {next : Act → World → Prop} {Q : Exit → Act → World → Prop} (hnd : ∀ c, o.op ≠ .defer c) {c : Nat} {args : List (SV C)} {L : Km C} {S : Bool → List (HS C) → Prop} {T : List (SV C)} {Hp : List (HS C)}
  (hBL : mT D L B.w0 B.E0) (hR : sF D B T Hp a w) (h : ∀ df, bF P D B (bI T) (aS Hp) df a w o (.yieldc c args)) (hc : Ga P D L c args Hp S)
  (hn : ∀ q Hp', S q Hp' → ∀ a' w', sF D B (iV T o.dst (.p (.bool q))) Hp' a' w' → next a' w') : o.wpIn (Fc r) 0 P a w next Q := by
 refine ⟨fun _ _ => trivial, ?_⟩
 obtain ⟨df, E, hR, hsz⟩ := hR
 obtain ⟨b, hb, hy⟩ := hc r B _ df a w E hBL hR
 obtain ⟨vs, hd, hrun⟩ := h df E hR b hb
 obtain ⟨f, tmps, assign, body, hy1, hy2⟩ := hy vs hd
 rw [show (Fc r).round = r from rfl, Oper.semAt_eq r _ _ hnd, hrun, hy1, Oper.uponIn_round]
 refine ⟨fun h => by simp [Fc] at h, ?_⟩
 refine RoundIn.mono hy2 ?_
 rintro e w' ⟨q, E', Hp', rfl, hR', hS⟩
 have hput := hR'.put hsz o.dst (x := .p (.bool q)) (.inr (by simp only [Den]; exact .bool q))
 refine hn _ _ hS _ _ ⟨df, E', ?_, by rw [gA, hsz, dS]⟩
 rw [fE]
 exact hput
theorem Fm {T : List (SV C)} {Hp : List (HS C)} {d : Nat} {b : Bool} (h : sF D B T Hp a w) (hd : bI T d = .p (.bool b)) : a.tmps.getD d undef = .bool b ∧ sF D B (tN T d (.p (.bool b))) Hp a w := by
 obtain ⟨df, h⟩ := h
 exact ⟨(O8 h hd).1, df, (O8 h hd).2⟩
theorem uC {T : List (SV C)} {Hp : List (HS C)} (h : sF D B T Hp a w) (d : Option Nat) : sF D B (iV T d (.tuple [])) Hp (a.put d undef) w := by
 obtain ⟨df, h⟩ := h
 exact ⟨df, Et h d⟩
theorem eV {b : Frame} {k : List Item} {cs : List Frame} {c : Code} : step P (lone (b.atR a (.code (.scope c) :: k)) cs w) = .next (lone (b.atR a (.code c :: .inScope c :: k)) cs w) :=
 step_lone_go (by simp [stepG, stepG.exec, Frame.atR])
theorem zZ {b : Frame} {k : List Item} {cs : List Frame} {c : Code} : step P (lone (b.atR a (.inScope c :: k)) cs w) = .next (lone (b.atR a k) cs w) :=
 step_lone_go (by simp [stepG, stepG.exec, Frame.atR])
theorem mU {F : Fence} {n : Nat} {c : Code} (h : c.wpIn F n P (Exit.noGoto Q) a w) : (Code.scope c).wpIn F n P Q a w := by
  intro b k cs hro hb hr
  have h0 : (lone (b.atR a (.code (.scope c) :: k)) cs w).fenced P F := fenced_calm hb hr rfl
  obtain ⟨e, a₁, w₁, hq, harr⟩ := h b (.inScope c :: k) cs hro hb hr
  cases e with
  | normal => exact ⟨.normal, a₁, w₁, hq, .head h0 eV (StepsIn.trans harr (.one (fenced_calm hb hr rfl) zZ))⟩
  | exit id =>
    have hx : exitTo id (.inScope c :: k) = exitTo id k := by simp [exitTo]
    exact ⟨.exit id, a₁, w₁, hq, fun k' hk => .head h0 eV (harr.1 k' (by rw [hx]; exact hk)),
      fun hr' hk => let ⟨k₁, h1, h2⟩ := harr.2 hr' (by rw [hx]; exact hk); ⟨k₁, h1, .head h0 eV h2⟩⟩
  | goto l => exact hq.elim
  | ret => exact ⟨_, a₁, w₁, hq, .of_steps (.one h0 eV) harr⟩
  | panic ch => exact ⟨_, a₁, w₁, hq, .of_steps (.one h0 eV) harr⟩
  | outgrown => exact ⟨_, a₁, w₁, hq, .of_steps (.one h0 eV) harr⟩
theorem Bf (A : Aux C D) (hT : bH P D tab) {X : Ctx C} (hX : U4 D X B r) {R : jN C} {all rest : List Oper} {k : List (It C)} {T : List (SV C)} {Hp : List (HS C)} {Y : Prop}
  (ih : ∀ (k : List (It C)) (T : List (SV C)) (Hp : List (HS C)), R k T Hp → ∀ a w, sF D B T Hp a w → cQ r P D B Q k .normal a w) (hR : sF D B T Hp a w)
  (h : mQ P D X R Y o.dst all rest k T Hp (exec A tab o.op (aV T (aO o.op)) (mI Hp (aV T (aO o.op))) (hlen Hp))) : cQ r P D B Q (.op1 all o rest :: k) .normal a w ∨ Y := by
 have hR0 := hR
 obtain ⟨df, E, hR', hsz⟩ := hR
 have hok : ∀ df E, Rel D B E (bI T) (aS Hp) df a w → bF P D B (bI T) (aS Hp) df a w o (Tl A tab o.op (aV T (aO o.op)) Hp) := fun df E hR' => Mj (o := o) A hT hR'
 have hok0 := hok df E hR'
 have hnd : exec A tab o.op (aV T (aO o.op)) (mI Hp (aV T (aO o.op))) (hlen Hp) ≠ .stuck → ∀ c, o.op ≠ .defer c := by
  intro hne c hc
  exact hne (by rw [hc]; rfl)
 unfold Tl at hok hok0
 generalize exec A tab o.op (aV T (aO o.op)) (mI Hp (aV T (aO o.op))) (hlen Hp) = out at hok hok0 h hnd
 simp only [cQ, Exit.then]
 cases out with
 | stuck => exact .inr h
 | ask q K W =>
  obtain ⟨q', hq, h2⟩ := h.h
  rw [bB, bQ] at h2
  exact .inl (cX (hnd (by simp)) ⟨E, hR', hsz⟩ (hok0 q' hq) fun a' w' hr => ih _ _ _ h2 a' w' ⟨df, hr⟩)
 | may p v =>
  obtain ⟨ht, hf⟩ := h
  rw [bB] at ht hf
  obtain ⟨b, hb, hrun⟩ := hok0
  cases b with
  | true => exact .inl (cX (hnd (by simp)) ⟨E, hR', hsz⟩ hrun fun a' w' hr => ih _ _ _ (ht (hb rfl)) a' w' ⟨df, hr⟩)
  | false => exact .inl (cX (hnd (by simp)) ⟨E, hR', hsz⟩ hrun fun a' w' hr => ih _ _ _ hf a' w' ⟨df, hr⟩)
 | val v => simp only [mQ, bB] at h; exact .inl (cX (hnd (by simp)) ⟨E, hR', hsz⟩ hok0 fun a' w' hr => ih _ _ _ h a' w' ⟨df, hr⟩)
 | side p v => simp only [mQ, bB] at h; exact .inl (cX (hnd (by simp)) ⟨E, hR', hsz⟩ (hok0 h.1) fun a' w' hr => ih _ _ _ h.2 a' w' ⟨df, hr⟩)
 | mem v ws => simp only [mQ, bB, bQ] at h; exact .inl (cX (hnd (by simp)) ⟨E, hR', hsz⟩ hok0 fun a' w' hr => ih _ _ _ h a' w' ⟨df, hr⟩)
 | smem p v ws => simp only [mQ, bB, bQ] at h; exact .inl (cX (hnd (by simp)) ⟨E, hR', hsz⟩ (hok0 h.1) fun a' w' hr => ih _ _ _ h.2 a' w' ⟨df, hr⟩)
 | call f args =>
  simp only [mQ, bK] at h
  obtain ⟨T1, Hp1, args1, hsub, hor⟩ := h.h
  have hokc : ∀ df, bF P D B (bI T) (aS Hp) df a w o (.call f args) := fun df E' hR'' => (hok df E' hR'') E' hR''
  rcases hor with ⟨S, hc, h2⟩ | ⟨ch, Hp', hc, h2⟩
  rotate_left
  ·exact .inl (L5 (hnd (by simp)) hX.m0 hX.L hR0 hokc hsub hc fun w' hr => ih _ _ _ h2 a w' hr)
  exact .inl (B8 (hnd (by simp)) hX.m0 hX.L hR0 hokc hsub hc fun ret Hp' hS a' w' hr => ih _ _ _ (h2 ret Hp' hS) a' w' hr)
 | yieldc c args =>
  simp only [mQ] at h
  obtain ⟨S, hc, h2⟩ := h.h
  have hokc : ∀ df, bF P D B (bI T) (aS Hp) df a w o (.yieldc c args) := fun df E' hR'' => (hok df E' hR'') E' hR''
  exact .inl (wO (hnd (by simp)) hX.L hR0 hokc hc fun q Hp' hS a' w' hr => ih _ _ _ (h2 q Hp' hS) a' w' hr)
theorem pN (A : Aux C D) (hT : bH P D tab) {X : Ctx C} (hX : U4 D X B r) {Φ : Ca C} (hQ : ∀ e a w T Hp, Φ e T Hp → sF D B T Hp a w → Q e a w) : ∀ (n : Nat) (k : List (It C)) (T : List (SV C)) (Hp : List (HS C)), gx P A tab X Φ n k T Hp →
  ∀ a w, sF D B T Hp a w → cQ r P D B Q k .normal a w := by
 intro n
 induction n with
 | zero => intro k T Hp h; exact h.elim
 | succ n ih =>
  intro k T Hp h a w hR
  simp only [gx] at h
  generalize gx P A tab X Φ n = R at ih h
  unfold Ql at h
  split at h
  ·exact hQ _ _ _ _ _ h hR
  ·exact wpIn_skip (ih _ _ _ h a w hR)
  ·exact wpIn_label (ih _ _ _ h a w hR)
  ·exact wpIn_seq (ih _ _ _ h a w hR)
  ·refine wpIn_region_list ?_
   have := ih _ _ _ h a w hR
   simpa [cQ, Exit.then] using this
  ·rename_i id ops k
   obtain ⟨df, hR⟩ := hR
   obtain ⟨T1, Hp1, hsub, h1⟩ := h.h
   have hR := hsub B df _ _ hX.m0 hR
   rcases h1 with h1 | h1
   rotate_left
   ·have := zM (r := r) (id := id) (Q := cQ r P D B Q k) A hT h1 hR fun ch T' Hp' a' w' hk hr => ih _ _ _ hk a' w' ⟨df, hr⟩
    simpa [cQ, Exit.then] using this
   have := K8 (r := r) (id := id) (Q := cQ r P D B Q k) A hT h1 hR fun T' Hp' a' w' hk hr => ih _ _ _ hk a' w' ⟨df, hr⟩
   simpa [cQ, Exit.then] using this
  ·rename_i c x y k
   unfold Xh at h
   split at h
   ·rename_i b hb
    obtain ⟨df, E, hR', hsz⟩ := hR
    have hd := aR hR' c
    rw [← Ao, hb] at hd
    have hc := fZ hd
    cases b with
    | true => exact wpIn_cond_true hc (ih _ _ _ h a w ⟨df, E, hR', hsz⟩)
    | false => exact wpIn_cond_false hc (ih _ _ _ h a w ⟨df, E, hR', hsz⟩)
   ·cases h
  ·exact wpIn_block (ih _ _ _ h a w hR)
  ·rename_i body k
   obtain ⟨γ, I, good, μ, g0, h0, hs0, hround⟩ := h.h
   have hsub : ∀ {T Hp T' Hp' a w}, Vl D X.m0 T Hp T' Hp' → sF D B T Hp a w → sF D B T' Hp' a w := fun hs ⟨df, hr⟩ => ⟨df, hs B df _ _ hX.m0 hr⟩
   refine vW (fun n a w => ∃ g, good g ∧ μ g = n ∧ sF D B (I g).1 (I g).2 a w) (μ g0) ⟨g0, h0, rfl, hsub hs0 hR⟩ ?_
   rintro _ a w ⟨g, hg, rfl, hRg⟩
   have := ih _ _ _ (hround g hg (fun T' Hp' => ∃ g', good g' ∧ μ g' < μ g ∧ Vl D X.m0 T' Hp' (I g').1 (I g').2) fun T' Hp' g' h1 h2 h3 => ⟨g', h1, h2, h3⟩) a w hRg
   refine wpIn_mono this ?_
   intro e a' w' he
   cases e with
   | normal =>
    obtain ⟨T', Hp', ⟨g', h1, h2, h3⟩, hR'⟩ := he
    exact ⟨μ g', h2, g', h1, rfl, hsub h3 hR'⟩
   | exit id => exact he
   | goto l => exact he
   | ret => exact he
   | panic c => exact he
   | outgrown => exact he
  ·rename_i id k
   refine wpIn_exit (dG id k ?_)
   unfold Qa at h
   cases hu : yQ id k with
   | none => rw [hu] at h; exact hQ _ _ _ _ _ h hR
   | some k' => rw [hu] at h; exact ih _ _ _ h a w hR
  ·exact wpIn_ret (eG _ (hQ _ _ _ _ _ h hR))
  ·exact mU (ih _ _ _ h a w hR)
  ·exact ih _ _ _ h a w hR
  ·exact cH _ (hQ _ _ _ _ _ h hR)
  ·rename_i g ps assign body k
   obtain ⟨S, hS, hn⟩ := h.h
   refine hS r B a w _ hX hR ?_
   intro j Hp' a' w' hj hR'
   have := hn j Hp' hj
   cases j with
   | none => exact ih _ _ _ this a' w' hR'
   | some c => exact ih _ _ _ this a' w' hR'
  ·exact ih _ _ _ h a w hR
  ·exact ⟨_, _, h, hR⟩
  ·have := ih _ _ _ h a w hR
   simp only [cQ, Exit.then, wpListIn]
   exact this
  ·rename_i all dst op ty pos after rest k
   have := ih _ _ _ h a w hR
   simp only [cQ, Exit.then] at this ⊢
   simp only [wpListIn, Region.wanted, if_true]
   exact this
  ·rename_i all dst op ty pos after j want rest k
   cases hg : wP all j with
   | none => rw [hg] at h; exact h.elim
   | some d =>
    rw [hg] at h
    simp only [Qo] at h
    unfold Py at h
    split at h
    ·rename_i b hb
     obtain ⟨hv, hR2⟩ := Fm hR hb
     have hy := rQ hg b hv
     simp only [cQ, Exit.then, wpListIn, Region.wanted, hy]
     cases want <;> cases b <;> simp only [zY, sR, bB] at h
     ·have := ih _ _ _ h a w hR2
      simp only [cQ, Exit.then] at this
      simp only [beq_self_eq_true, if_true]
      exact this
     ·have := ih _ _ _ h (a.put dst undef) w (uC hR2 dst)
      simp only [cQ, Exit.then] at this
      exact ⟨fun _ _ => trivial, this⟩
     ·have := ih _ _ _ h (a.put dst undef) w (uC hR2 dst)
      simp only [cQ, Exit.then] at this
      exact ⟨fun _ _ => trivial, this⟩
     ·have := ih _ _ _ h a w hR2
      simp only [cQ, Exit.then] at this
      simp only [beq_self_eq_true, if_true]
      exact this
    ·rename_i hb
     have hv : a.tmps.getD d undef = .tuple #[] := by
      obtain ⟨df, E, hR', hsz⟩ := hR
      have hden := hR'.den d
      rw [hb] at hden
      simp only [Den, DenA] at hden
      obtain ⟨xs, e, hx⟩ := hden
      have : xs = #[] := by simpa using hx
      rw [e, this]
     have hy := pM hg hv
     rw [bB] at h
     have := ih _ _ _ h (a.put dst undef) w (uC hR dst)
     simp only [cQ, Exit.then] at this
     simp only [cQ, Exit.then, wpListIn, Region.wanted, hy]
     exact ⟨fun _ _ => trivial, this⟩
    ·cases h
  ·rename_i all o rest k
   rw [bK, eF, Nat.add_zero] at h
   unfold Xj at h
   rcases Bf A hT hX ih hR h with h | h
   ·exact h
   ·rcases h.h with ⟨T1, Hp1, hsub, h1⟩ | ⟨x, t, u, hop, honly, h2⟩ | ⟨v, ws, hnd, hrun, h2⟩
    rotate_left
    rotate_left
    ·rw [bB, bQ] at h2
     obtain ⟨df, E, hR', hsz⟩ := hR
     exact cX hnd ⟨E, hR', hsz⟩ (hrun o B E df a w rfl hR') fun a' w' hr => ih _ _ _ h2 a' w' ⟨df, hr⟩
    rotate_right
    ·have hE := ih _ _ _ h2 a w hR
     obtain ⟨df, E, hR', hsz⟩ := hR
     have hd := aR hR' x
     rw [← Ao] at hd
     have hev := honly w E _ hd
     have hrun : (execOp a.eval o).run P w = .halt (.panic (.iface t u)) w := by
      unfold execOp
      rw [hop]
      simp only [hev]
      rfl
     refine ⟨fun _ _ => trivial, ?_⟩
     rw [show (Fc r).round = r from rfl, Oper.semAt_eq r _ _ (fun c hc => by rw [hop] at hc; cases hc), hrun]
     exact hE
    obtain ⟨df, E, hR', hsz⟩ := hR
    obtain ⟨E1, hR1, hsz1, _⟩ := hsub B E df a w hX.m0 hR' hsz
    rcases Bf A hT hX ih ⟨df, E1, hR1, hsz1⟩ h1 with h | h
    ·exact h
    ·exact h.elim
  ·cases h
end
end Go.SX
namespace Go.SX
open Go.RowKit
variable {C : Cod}
section
variable {P : Program} {D : aL C} {tab : Tab C} {B : dZ} {E : Env} {σ : Nat → SV C} {H : Nat → HS C} {df : List Deferred} {a : Act} {w : World} {o : Oper} {r : Option Nat}
variable {X : Ctx C} {R : jN C} {f : FuncId} {args : List (SV C)} {dst : Option Nat} {all rest : List Oper} {k : List (It C)} {T : List (SV C)} {Hp : List (HS C)}
def dZ.here (w : World) (E : Env) (m : Nat) (hm : ∀ c, m ≤ c → E.β c = .fresh) : dZ := ⟨w, E, fun b => ∃ c, E.β c = .loc b, m, hm, [], false⟩
theorem lK (hs : Sat D w E (aS Hp)) : ∀ c, hlen Hp ≤ c → E.β c = .fresh := fun c hc => jHβ hs (uB Hp c (by rw [← qZ]; exact hc))
theorem Fr.here {m : Nat} {hm : ∀ c, m ≤ c → E.β c = .fresh} : Fr (dZ.here w E m hm) E w :=
 ⟨rfl, rfl, rfl, Nat.le_refl _, fun b _ _ => rfl, cI.refl w E, fun b hb => .inl hb, fun c b hb => .inl ⟨c, hb⟩⟩
theorem Fr.trans {w' : World} {E' : Env} {m : Nat} {hm : ∀ c, m ≤ c → E.β c = .fresh} (h : Fr B E w) (h' : Fr (dZ.here w E m hm) E' w') : Fr B E' w' := by
 have hO : ∀ b, (∃ c, E.β c = .loc b) → B.O b ∨ B.w0.heap.size ≤ b := fun b ⟨c, hc⟩ => h.newO c b hc
 refine ⟨h'.os.trans h.os, h'.tape.trans h.tape, h'.output.trans h.output, Nat.le_trans h.size h'.size, fun b hb ho => ?_, h.late.trans h'.late, fun b hb => ?_, fun c b hc => ?_⟩
 ·refine (h'.same b (Nat.lt_of_lt_of_le hb h.size) fun hx => ?_).trans (h.same b hb ho)
  rcases hO b hx with h1 | h1
  ·exact ho h1
  ·omega
 ·rcases h'.newF b hb with h1 | h1 | h1
  ·exact h.newF b h1
  ·exact .inr (hO b h1)
  ·exact .inr (.inr (Nat.le_trans h.size h1))
 ·rcases h'.newO c b hc with h1 | h1
  ·exact hO b h1
  ·exact .inr (Nat.le_trans h.size h1)
theorem uP {vs : List Value} {n : Nat} {args : List (SV C)} {m : Nat} {hm : ∀ c, m ≤ c → E.β c = .fresh} (hs : Sat D w E (aS Hp)) (hd : DenA D w E args vs) :
  sF D (dZ.here w E m hm) (args ++ Er (n - args.length)) Hp { tmps := vs.toArray ++ Array.replicate (n - vs.toArray.size) undef, defers := [] } w := by
 have hlen := nR _ _ hd
 refine ⟨[], E, ⟨fun i => ?_, hs, Fr.here, rfl, uD.nil⟩, by simp [nK, hlen]⟩
 rw [uM]
 split
 ·rename_i hi
  have := O7 _ _ hd i hi
  have e : (vs.toArray ++ Array.replicate (n - vs.toArray.size) undef).getD i undef = vs.getD i undef := by
   rw [Array.getD_eq_getD_getElem?, Array.getElem?_append_left (by simp; omega)]
   simp [List.getD_eq_getElem?_getD]
  rw [e]; exact this
 ·rw [uV]; trivial
theorem aC (A : Aux C D) (hT : bH P D tab) {f : FuncId} {fn : Func} {c : Code} (hf : P.funcs[f]? = some fn) (hb : fn.body = some c) (henter : ∀ args w, (callFunc f args).run P w = .ok (.enter f args) w)
  {args : List (SV C)} {H0 : List (HS C)} {ret : SV C} {H1 : List (HS C)} (n : Nat)
  (h : eN (args ++ Er (fn.ntmps - args.length)) fun T0 => cK H0 fun Hp0 => gx P A tab ⟨none, [], H0.length, false⟩ (Uw D tab fn.results.toList H0.length ret H1) n [.code c] T0 Hp0) : aG P D f args H0 ret H1 := by
 rw [bK, bA] at h
 refine ⟨henter, fun w E hm vs hs hd => ?_⟩
 refine callsIn_of_wp_marks hf hb trivial ?_ rfl
 have hR := uP (n := fn.ntmps) (m := H0.length) (hm := hm) hs hd
 have hX : U4 D (⟨none, [], H0.length, false⟩ : Ctx C) (dZ.here w E H0.length hm) none := ⟨rfl, fun c ri hc => by simp [lkR] at hc, trivial, rfl⟩
 have := pN (r := none) (Q := bodyPostM (Fc none) 0 P fn fun e w' => ∃ v E', e = .returned v ∧ Den D w' E' ret v ∧ Sat D w' E' (aS H1) ∧ Fr (dZ.here w E H0.length hm) E' w') A hT hX
  (fun e a w' T Hp hΦ hRL => ?_) n _ _ _ h _ _ hR
 ·exact this
 ·obtain ⟨he, θ, l, h1, h2, h3⟩ := hΦ
  obtain ⟨df, E1, hR1, _⟩ := hRL
  have key : LeavesInM (Fc none) 0 P fn a.tmps (fun e w' => ∃ v E', e = .returned v ∧ Den D w' E' ret v ∧ Sat D w' E' (aS H1) ∧ Fr (dZ.here w E H0.length hm) E' w') a.defers .returning w' := by
   refine qM hR1 fun w2 E2 hR2 => ?_
   obtain ⟨v, h4, h5⟩ := sZ (P := P) (fn := fn) hT hR2 h1
   obtain ⟨g1, g2, g3⟩ := oK hR2.sat hR2.fr h3
   exact ⟨v, h4, v, _, rfl, pJ hR2.sat g1 _ _ _ h2 h5, g2, g3⟩
  rcases he with rfl | rfl
  ·exact key
  ·exact key
def Zm (D : aL C) (tab : Tab C) (rs : List ResultVar) (R : jN C) (dst : Option Nat) (all rest : List Oper) (k : List (It C)) (T : List (SV C)) : Ca C := fun e T' Hp' =>
 match e with
 | .normal => endR (fL D tab T' Hp' rs) Hp'
 | .ret => endR (fL D tab T' Hp' rs) Hp'
 | _ => False
where endR (l : Option (List (SV C))) (Hp' : List (HS C)) : Prop := match l with
 | some l => cO T dst (rX l) fun T'' => R (.ops all rest :: k) T'' Hp'
 | none => False
def Fg (D : aL C) (tab : Tab C) (rs : List ResultVar) (S : SV C → List (HS C) → Prop) : Ca C := fun e T' Hp' =>
 (e = .normal ∨ e = .ret) ∧ ∃ l, fL D tab T' Hp' rs = some l ∧ S (rX l) Hp'
theorem Kn {rs : List ResultVar} {e : Exit} {T' : List (SV C)} {Hp' : List (HS C)} (h : Zm D tab rs R dst all rest k T e T' Hp') :
  Fg D tab rs (fun ret Hp' => R (.ops all rest :: k) (iV T dst ret) Hp') e T' Hp' := by
 have key : Zm.endR R dst all rest k T (fL D tab T' Hp' rs) Hp' → ∃ l, fL D tab T' Hp' rs = some l ∧ R (.ops all rest :: k) (iV T dst (rX l)) Hp' := by
  intro h
  unfold Zm.endR at h
  split at h
  ·rename_i l hl; rw [bB] at h; exact ⟨l, hl, h⟩
  ·exact h.elim
 cases e with
 | normal => exact ⟨.inl rfl, key h⟩
 | ret => exact ⟨.inr rfl, key h⟩
 | _ => exact h.elim
theorem S9 (A : Aux C D) (hT : bH P D tab) {L : Km C} {fn : Func} {c : Code} (hf : P.funcs[f]? = some fn) (hb : fn.body = some c) (henter : ∀ args w, (callFunc f args).run P w = .ok (.enter f args) w) (n : Nat)
  {S : SV C → List (HS C) → Prop} {Φ : Ca C} (hΦ : ∀ e T' Hp', Φ e T' Hp' → Fg D tab fn.results.toList S e T' Hp')
  (h : gx P A tab ⟨none, L, hlen Hp, false⟩ Φ n [.code c] (args ++ Er (fn.ntmps - args.length)) Hp) : Mf P D L f args Hp S := by
 refine ⟨.inl ⟨henter, fun B σ df a w E hBL hR vs hd => ?_⟩⟩
 refine callsIn_of_wp_marks hf hb trivial ?_ rfl
 have hm := lK hR.sat
 have hR0 := uP (n := fn.ntmps) (m := hlen Hp) (hm := hm) hR.sat hd
 have hX : U4 D (⟨none, L, hlen Hp, false⟩ : Ctx C) (dZ.here w E (hlen Hp) hm) none := ⟨rfl, hBL.mono hR.fr.late, trivial, rfl⟩
 have := pN (r := none) (Q := bodyPostM (Fc none) 0 P fn fun e w' => ∃ v E' ret Hp', e = .returned v ∧ Den D w' E' ret v ∧ Rel D B E' σ (aS Hp') df a w' ∧ S ret Hp') A hT hX
  (fun e a' w' T Hp' hΦ' hRL => ?_) n _ _ _ h _ _ hR0
 ·exact this
 ·obtain ⟨he, l, h1, h2⟩ := hΦ _ _ _ hΦ'
  obtain ⟨df', E1, hR1, _⟩ := hRL
  have key : LeavesInM (Fc none) 0 P fn a'.tmps (fun e w' => ∃ v E' ret Hp', e = .returned v ∧ Den D w' E' ret v ∧ Rel D B E' σ (aS Hp') df a w' ∧ S ret Hp') a'.defers .returning w' := by
   refine qM hR1 fun w2 E2 hR2 => ?_
   obtain ⟨v, h4, h5⟩ := sZ (P := P) (fn := fn) hT hR2 h1
   exact ⟨v, h4, v, E2, _, _, rfl, h5, hR.later hR2.fr.late hR2.sat (hR.fr.trans hR2.fr), h2⟩
  rcases he with rfl | rfl
  ·exact key
  ·exact key
theorem U8 (A : Aux C D) (hT : bH P D tab) {fn : Func} {c : Code} (hf : P.funcs[f]? = some fn) (hb : fn.body = some c) (henter : ∀ args w, (callFunc f args).run P w = .ok (.enter f args) w) (n : Nat)
  (h : eN (args ++ Er (fn.ntmps - args.length)) fun T0 => rU Hp 0 fun m => gx P A tab ⟨none, X.L, m, false⟩ (Zm D tab fn.results.toList R dst all rest k T) n [.code c] T0 Hp) : kR P D X R f args dst all rest k T Hp := by
 rw [bK, eF, Nat.add_zero] at h
 exact kR.of _ (S9 A hT hf hb henter n (fun e T' Hp' => Kn) h) fun ret Hp' hS => hS
theorem uF {ret : SV C} {ws : List (Nat × HS C)} (hc : wV P D f args (aS Hp) ret ws) (h : cO T dst ret fun T' => dI Hp ws fun Hp' => R (.ops all rest :: k) T' Hp') : kR P D X R f args dst all rest k T Hp := by
 rw [bB, bQ] at h
 refine kR.of (fun ret' Hp' => ret' = ret ∧ Hp' = dR Hp ws) ⟨?_⟩ ?_
 ·rcases hc.run with ⟨hc1, hc2⟩ | hx
  ·refine .inl ⟨hc1, fun B σ df a w E _ hR vs hd => (hc2 B σ df a w E hR vs hd).mono ?_⟩
   rintro e w' ⟨v, E', rfl, hv, hR'⟩
   exact ⟨v, E', ret, dR Hp ws, rfl, hv, by rw [gI]; exact hR', rfl, rfl⟩
  ·refine .inr fun B σ df a w E hR vs hd => ?_
   obtain ⟨v, w', E', h1, hv, hR'⟩ := hx B σ df a w E hR vs hd
   exact ⟨v, w', E', ret, dR Hp ws, h1, hv, by rw [gI]; exact hR', rfl, rfl⟩
 ·rintro ret' Hp' ⟨rfl, rfl⟩; exact h
theorem Ce {ret : SV C} (hM : aG P D f args [] ret []) (hargs : renL [] args = some args) (hret : jO [] ret = some ret) (h : cO T dst ret fun T' => R (.ops all rest :: k) T' Hp) : kR P D X R f args dst all rest k T Hp :=
 uF (W4 hM hargs hret Hp) h
theorem De {args0 : List (SV C)} {H0 H0' H1 H1' : List (HS C)} {ret0 ret : SV C} (ρ : List (Option Nat)) (hM : aG P D f args0 H0 ret0 H1)
  (hargs : renL ρ args0 = some args) (hH0 : fA ρ H0 = some H0') (hat : dC (aS Hp) ρ H0') (θ : List (Option Nat)) (hθ : θ = ρ ++ eK (H1.length - H0.length) (hlen Hp)) (hnd : ndO θ = true) (hle : H0.length ≤ H1.length)
  (hH1 : fA θ H1 = some H1') (hret : jO θ ret0 = some ret) (h : cO T dst ret fun T' => dI Hp (wA θ H1') fun Hp' => R (.ops all rest :: k) T' Hp') : kR P D X R f args dst all rest k T Hp :=
 uF (kV hM ρ hargs hH0 hat θ hθ hnd hle hH1 hret) h
def sK (R : jN C) (cl : Nat) (k : List (It C)) (T : List (SV C)) : Ca C := fun e _ Hp' =>
 match e with
 | .normal => endR Hp' (aS Hp' cl)
 | .ret => endR Hp' (aS Hp' cl)
 | _ => False
where endR (Hp' : List (HS C)) (h : HS C) : Prop := match h with
 | .obj (.loop r) => match r.state with
  | .busy => False
  | _ => vI Hp' cl (.obj (.loop { r with state := .exhausted })) fun Hp'' => mA R k T Hp'' r.pending
 | _ => False
def Z8 (cl : Nat) (S : Option Code → List (HS C) → Prop) : Ca C := fun e _ Hp' =>
 (e = .normal ∨ e = .ret) ∧ ∃ r, aS Hp' cl = .obj (.loop r) ∧ r.state ≠ .busy ∧ S r.pending (F1 Hp' cl (.obj (.loop { r with state := .exhausted })))
theorem G4 {cl : Nat} {e : Exit} {T' : List (SV C)} {Hp' : List (HS C)} (h : sK R cl k T e T' Hp') : Z8 cl (fun j Hp' => mA R k T Hp' j) e T' Hp' := by
 have key : sK.endR R cl k T Hp' (aS Hp' cl) → ∃ r, aS Hp' cl = .obj (.loop r) ∧ r.state ≠ .busy ∧ mA R k T (F1 Hp' cl (.obj (.loop { r with state := .exhausted }))) r.pending := by
  intro h
  unfold sK.endR at h
  split at h
  ·rename_i r hr
   split at h
   ·exact h.elim
   ·rename_i hst; rw [iH] at h; exact ⟨r, hr, hst, h⟩
  ·exact h.elim
 cases e with
 | normal => exact ⟨.inl rfl, key h⟩
 | ret => exact ⟨.inr rfl, key h⟩
 | _ => exact h.elim
theorem Jt {x : SV C} {l : List (SV C)} {v : Value} {vs : List Value} (h1 : Den D w E x v) (h2 : DenA D w E l vs) : DenA D w E (x :: l) (v :: vs) := by
 simp only [DenA]; exact ⟨v, vs, rfl, h1, h2⟩
theorem N3 {w' : World} {E' : Env} (hL : cI w E w' E') {l : List (SV C)} {vs : List Value} (h : DenA D w E l vs) : DenA D w' E' l vs := DenA.mono hL _ _ h
theorem P4 (A : Aux C D) (hT : bH P D tab) {fn : Func} {c : Code} {first captured : List (SV C)} {g : Operand} {ps : Array Tmp} {assign body : Code} (hg : evT T g = .fn (.func f) first captured)
    (hf : P.funcs[f]? = some fn) (hb : fn.body = some c) (henter : ∀ args w, (callFunc f args).run P w = .ok (.enter f args) w) (hres : fn.results = #[]) (n : Nat) {S : Option Code → List (HS C) → Prop} {Φ : (RI C) → Ca C}
    (hΦ : ∀ ri e T' Hp', Φ ri e T' Hp' → Z8 (hlen Hp) S e T' Hp')
    (hlive : ∀ c, X.ar = some c → ∃ r, aS Hp c = .obj (.loop r))
    (h : ∀ (gn : FuncId) (tmps : Array Value) (bd : Nat), gx P A tab ⟨none, (hlen Hp, ⟨gn, tmps, bd, ps, assign, body, T⟩) :: X.L, hlen Hp + 1, false⟩ (Φ ⟨gn, tmps, bd, ps, assign, body, T⟩) n [.code c]
      ((first ++ (.yieldv (hlen Hp) :: captured)) ++ Er (fn.ntmps - (first ++ (.yieldv (hlen Hp) :: captured)).length)) (Hp ++ [.obj (.loop (fK ⟨gn, tmps, bd, ps, assign, body, T⟩ .ready none))]))
    (hnm : X.nm = false) : Qg P D X g ps assign body T Hp S := by
  intro r B a w Q hX hRX hQ
  obtain ⟨df, E, hR, hsz⟩ := hRX
  have hgd := aR hR g
  rw [← Ao, hg] at hgd
  simp only [Den] at hgd
  obtain ⟨xs, ys, hgv, hd1, hd2⟩ := hgd
  refine wpIn_rangeFunc ?_
  intro gn hgn
  obtain ⟨w1, E1, bd, mark, l, hent, hE1, hl, hL1, hmk, hfr⟩ : ∃ (w1 : World) (E1 : Env) (bd : Nat) (mark : List Deferred) (l : Nat),
      (Instr.enterLoop gn a.tmps ps assign body (Fc r).round).run P w = .ok (l, mark) w1 ∧ E1 = { F := E1.F, β := (E.up (hlen Hp) (.loc l)).β } ∧ w1.heap[l]? = some (.loop (fK ⟨gn, a.tmps, bd, ps, assign, body, T⟩ .ready none)) ∧
      cI w E w1 E1 ∧ (∃ df1, mark ++ df = df1 ∧ uD B E1 w1 df1) ∧ Sat D w1 E1 (aS (Hp ++ [.obj (.loop (fK ⟨gn, a.tmps, bd, ps, assign, body, T⟩ .ready none))])) ∧ Fr B E1 w1 := by
    have hfresh : aS Hp (hlen Hp) = .fresh := sG Hp
    have happ : ∀ h : HS C, aS (Hp ++ [h]) = upH (aS Hp) (hlen Hp) h := by
      intro h; funext i
      have : ∀ (l : List (HS C)) (i : Nat), aS (l ++ [h]) i = if i = hlen l then h else aS l i := by
        intro l
        induction l with
        | nil => intro i; cases i <;> simp [aS, hlen]
        | cons x l ih => intro i; cases i with
          | zero => simp [aS, hlen]
          | succ i => simp [aS, hlen, ih i]
      rw [this]; rfl
    cases hr : r with
    | none =>
      have e1 := run_enterLoop_outer (P := P) (w := w) gn a.tmps ps assign body
      have hwF : ∀ b, E.F b → b ≠ w.heap.size := fun b hb e => by have := hR.sat.F b hb; omega
      have hL0 : cI w E (w.alloc (.deferred (some []))) { E with F := fun k => E.F k ∨ k = w.heap.size } :=
        ⟨fun b hb => ⟨.inl hb, Below.heap_alloc w _ b (hR.sat.F b hb)⟩, fun c => .inl rfl, fun c b _ _ cs T hcs => ⟨cs, T, Row.of (Below.heap_alloc w _ b hcs.lt) hcs, rfl⟩⟩
      have hR0 : Rel D B { E with F := fun k => E.F k ∨ k = w.heap.size } (bI T) (aS Hp) df a (w.alloc (.deferred (some []))) := by
        refine hR.later hL0 ⟨fun c => ?_, fun c b e => ?_, hR.sat.inj, fun b hb => ?_, hR.sat.glob.mono hL0.F⟩ ?_
        · exact HS.ok_mono hL0 (hR.sat.ok c) fun b e => Below.heap_alloc w _ b (hR.sat.own c b e).1
        · have := hR.sat.own c b e
          exact ⟨by simp; omega, fun h => h.elim this.2 (fun e => by omega)⟩
        · rcases hb with hb | rfl
          · have := hR.sat.F b hb; simp; omega
          · simp
        · refine ⟨hR.fr.os, hR.fr.tape, hR.fr.output, by have := hR.fr.size; simp; omega, fun b hb ho => (Below.heap_alloc w _ b (Nat.lt_of_lt_of_le hb hR.fr.size)).trans (hR.fr.same b hb ho), hR.fr.late.trans hL0, ?_, hR.fr.newO⟩
          rintro b (hb | rfl)
          · exact hR.fr.newF b hb
          · exact .inr (.inr hR.fr.size)
      have hR1 := hR0.allocO (c := hlen Hp) hfresh (.loop (fK ⟨gn, a.tmps, w.heap.size, ps, assign, body, T⟩ .ready none)) (hs := .obj (.loop (fK ⟨gn, a.tmps, w.heap.size, ps, assign, body, T⟩ .ready none)))
        ⟨World.alloc_heap_new _ _, by simp⟩
      have hβ : E.β (hlen Hp) = .fresh := jHβ hR.sat hfresh
      have hL2 := cJ (w := w.alloc (.deferred (some []))) (E := { E with F := fun k => E.F k ∨ k = w.heap.size }) (c := hlen Hp) hβ (.loop (fK ⟨gn, a.tmps, w.heap.size, ps, assign, body, T⟩ .ready none)) hR0.sat.F
      refine ⟨_, _, w.heap.size, _, _, e1, ?_, ?_, hL0.trans hL2, ⟨_, rfl, ?_⟩, ?_, hR1.fr⟩
      · simp only [World.size_alloc]; rfl
      · have := World.alloc_heap_new (w.alloc (.deferred (some []))) (.loop (fK ⟨gn, a.tmps, w.heap.size, ps, assign, body, T⟩ .ready none)); rwa [World.size_alloc] at this
      · obtain ⟨bs, hb1, hb2, hb3, _⟩ := hR1.marks
        refine ⟨w.heap.size :: bs, by simp [hb1], List.nodup_cons.2 ⟨fun hmem => ?_, hb2⟩, fun b hb => ?_, fun hn => by rw [hX.nm, hnm] at hn; cases hn⟩
        · obtain ⟨bs', hb1', _, hb3', _⟩ := hR.marks
          have : bs = bs' := sW _ _ (List.append_cancel_right (hb1.symm.trans hb1'))
          subst this
          have := hR.sat.F _ (hb3' _ hmem).1
          omega
        · rcases List.mem_cons.1 hb with rfl | hb
          · refine ⟨.inr rfl, (Below.heap_alloc _ _ _ (by simp)).trans (World.alloc_heap_new w _), hR.fr.size, fun hF => ?_⟩
            have := (hR.fr.late.F _ hF).1
            have := hR.sat.F _ this
            omega
          · exact hb3 b hb
      · rw [happ]; exact hR1.sat
    | some l0 =>
      have har := hX.ar
      unfold q18 at har
      rw [hr] at har
      cases hc0 : X.ar with
      | none => rw [hc0] at har; exact har.elim
      | some c0 =>
        rw [hc0] at har
        simp only at har
        obtain ⟨r0, hr0⟩ := hlive c0 hc0
        have hb0 : E.β c0 = .loc l0 := by
          have hok := hR.sat.ok c0
          rcases hR.fr.late.β c0 with e | e | e
          · rw [e]; exact har
          · rw [e, hr0] at hok; cases hok
          · rw [har] at e; cases e
        have hok := hR.sat.ok c0
        rw [hb0, hr0] at hok
        have e1 := run_enterLoop_inner (P := P) hok.1 gn a.tmps ps assign body
        have hR1 := hR.allocO (c := hlen Hp) hfresh (.loop (fK ⟨gn, a.tmps, r0.defers, ps, assign, body, T⟩ .ready none)) (hs := .obj (.loop (fK ⟨gn, a.tmps, r0.defers, ps, assign, body, T⟩ .ready none)))
          ⟨World.alloc_heap_new _ _, by simp⟩
        have hβ : E.β (hlen Hp) = .fresh := jHβ hR.sat hfresh
        have hL2 := cJ (w := w) (E := E) (c := hlen Hp) hβ (.loop (fK ⟨gn, a.tmps, r0.defers, ps, assign, body, T⟩ .ready none)) hR.sat.F
        refine ⟨_, _, r0.defers, _, _, e1, rfl, World.alloc_heap_new _ _, hL2, ⟨_, rfl, hR1.marks⟩, ?_, hR1.fr⟩
        rw [happ]; exact hR1.sat
  obtain ⟨⟨df1, hdf1, hmk⟩, hfr⟩ := And.intro hmk hfr
  have hlb : E1.β (hlen Hp) = .loc l := by rw [hE1]; exact Env.up_same E _ _
  refine ⟨l, mark, w1, { target := .fn (.func f) ys, args := xs ++ #[.func (.yield l) #[] #[]] }, w1, f, (xs ++ #[.func (.yield l) #[] #[]]) ++ ys, w1, hent, ?_, ?_, ?_, ?_, ?_⟩
  · simp only [resolve, hgv]
    simp [Act.eval, Deferred.ofValue, Sem.run_pure, go_sem]
  · intro f' _; exact trivial
  · simp [invoke, go_sem, henter]
  · intro h; simp [Fc] at h
  ·
    have hR1 : Rel D B E1 (bI T) (aS (Hp ++ [.obj (.loop (fK ⟨gn, a.tmps, bd, ps, assign, body, T⟩ .ready none))])) df1 { a with defers := mark ++ a.defers } w1 :=
      ⟨fun i => Den.mono hL1 _ _ (hR.den i), hfr.1, hfr.2, by rw [hR.defers]; exact hdf1, hmk⟩
    have hlen1 : hlen (Hp ++ [.obj (.loop (fK ⟨gn, a.tmps, bd, ps, assign, body, T⟩ .ready none))]) = hlen Hp + 1 := by
      rw [qZ, qZ]; simp
    have hm : ∀ c, hlen Hp + 1 ≤ c → E1.β c = .fresh := by
      have := lK hR1.sat
      rw [hlen1] at this
      exact this
    have hd : DenA D w1 E1 (first ++ (.yieldv (hlen Hp) :: captured)) (xs.toList ++ (.func (.yield l) #[] #[] :: ys.toList)) :=
      jS _ _ _ _ (N3 hL1 hd1) (Jt (by simp only [Den, hlb]) (N3 hL1 hd2))
    have hvs : (xs ++ #[.func (.yield l) #[] #[]]) ++ ys = (xs.toList ++ (.func (.yield l) #[] #[] :: ys.toList)).toArray := by
      apply Array.ext'; simp
    rw [hvs]
    have hR0 := uP (n := fn.ntmps) (m := hlen Hp + 1) (hm := hm) hR1.sat hd
    have hX1 : U4 D (⟨none, (hlen Hp, ⟨gn, a.tmps, bd, ps, assign, body, T⟩) :: X.L, hlen Hp + 1, false⟩ : Ctx C) (dZ.here w1 E1 (hlen Hp + 1) hm) none := by
      refine ⟨rfl, fun c ri hc => ?_, trivial, rfl⟩
      simp only [lkR] at hc
      split at hc
      · injection hc with hc; subst hc
        exact ⟨hsz, fun i => hR1.den i⟩
      · exact (hX.L.mono (hR.fr.late.trans hL1)) c ri hc
    refine callsIn_of_wp_marks (F := Fc none) hf hb trivial ?_ rfl
    have := pN (r := none) (Q := bodyPostM (Fc none) 0 P fn (rangePost (Fc r) 0 P l Q { a with defers := mark ++ a.defers })) A hT hX1
      (fun e a' w' T' Hp' hΦ' hRL => ?_) n _ _ _ (h gn a.tmps bd) _ _ hR0
    · exact this
    · obtain ⟨he, rr, hrr, hst, hS⟩ := hΦ _ _ _ _ hΦ'
      obtain ⟨df', E2, hR2, _⟩ := hRL
      have key : LeavesInM (Fc none) 0 P fn a'.tmps (rangePost (Fc r) 0 P l Q { a with defers := mark ++ a.defers }) a'.defers .returning w' := by
        refine qM hR2 fun w3 E3 hR3 => ?_
        have hrun : ∃ v, (results fn a'.tmps).run P w3 = .ok v w3 := by
          refine ⟨.tuple #[], ?_⟩
          unfold results
          simp [hres]
        obtain ⟨v, hv⟩ := hrun
        have hl3 : E3.β (hlen Hp) = .loc l := by
          have hok := hR3.sat.ok (hlen Hp)
          rcases hR3.fr.late.β (hlen Hp) with e | e | e
          · exact e.trans hlb
          · rw [e, hrr] at hok; cases hok
          · have e' : E1.β (hlen Hp) = .fresh := e
            rw [hlb] at e'; cases e'
        have hok := hR3.sat.ok (hlen Hp)
        rw [hl3, hrr] at hok
        obtain ⟨h1, h2⟩ := hR3.putO hl3 hrr (o' := .loop { rr with state := .exhausted }) (by simp)
        refine ⟨v, hv, rr.pending, _, run_endLoop hok.1 hst, ?_⟩
        have hLall : cI w1 E1 (w3.putObj l (.loop { rr with state := .exhausted })) E3 := h1.fr.late
        have hRfin : sF D B T (F1 Hp' (hlen Hp) (.obj (.loop { rr with state := .exhausted }))) { a with defers := mark ++ a.defers } (w3.putObj l (.loop { rr with state := .exhausted })) := by
          refine ⟨df1, E3, ?_, hsz⟩
          rw [lW]
          exact hR1.later hLall h1.sat (hR1.fr.trans h1.fr)
        have := hQ rr.pending _ _ _ hS hRfin
        cases hp : rr.pending with
        | none => rw [hp] at this; exact this
        | some c => rw [hp] at this; exact this
      rcases he with rfl | rfl
      · exact key
      · exact key
def Sn (X : Ctx C) (Hp : List (HS C)) : Bool := match X.ar with
 | none => true
 | some c => match aS Hp c with
  | .obj (.loop _) => true
  | _ => false
theorem Ld (h : Sn X Hp = true) : ∀ c, X.ar = some c → ∃ r, aS Hp c = .obj (.loop r) := by
 intro c hc
 unfold Sn at h
 rw [hc] at h
 simp only at h
 split at h
 ·rename_i r hr; exact ⟨r, hr⟩
 ·cases h
theorem Me (A : Aux C D) (hT : bH P D tab) {fn : Func} {c : Code} {g : Operand} {first captured : List (SV C)} {ps : Array Tmp} {assign body : Code} (hg : evT T g = .fn (.func f) first captured)
    (hf : P.funcs[f]? = some fn) (hb : fn.body = some c) (henter : ∀ args w, (callFunc f args).run P w = .ok (.enter f args) w) (hres : fn.results = #[]) (hlive : Sn X Hp = true) (n : Nat)
    (h : ∀ (gn : FuncId) (tmps : Array Value) (bd : Nat), rU Hp 0 fun cl => eN ((first ++ (.yieldv cl :: captured)) ++ Er (fn.ntmps - (first ++ (.yieldv cl :: captured)).length)) fun T0 =>
      cK (Hp ++ [.obj (.loop (fK ⟨gn, tmps, bd, ps, assign, body, T⟩ .ready none))]) fun Hp0 =>
      gx P A tab ⟨none, (cl, ⟨gn, tmps, bd, ps, assign, body, T⟩) :: X.L, cl + 1, false⟩ (sK R cl k T) n [.code c] T0 Hp0) (hnm : X.nm = false := by rfl) :
    Pt P D X R g (.fn (.func f) first captured) ps assign body k T Hp := by
  refine ⟨_, P4 A hT hg hf hb henter hres n (fun ri e T' Hp' => G4) (Ld hlive) ?_ hnm, fun j Hp' hS => hS⟩
  intro gn tmps bd
  have := h gn tmps bd
  rw [eF, Nat.add_zero, bK, bA] at this
  exact this
def endRound (R : jN C) (c : Nat) (dst : Option Nat) (all rest : List Oper) (k : List (It C)) (T : List (SV C)) : Ca C := fun e _ Hp' => at_ e Hp' (aS Hp' c)
where at_ (e : Exit) (Hp' : List (HS C)) (h : HS C) : Prop := match h with
 | .obj (.loop r) => match e with
  | .normal => vI Hp' c (.obj (.loop { r with state := .ready, pending := none })) fun Hp'' => cO T dst (.p (.bool true)) fun T' => R (.ops all rest :: k) T' Hp''
  | .ret => vI Hp' c (.obj (.loop { r with state := .done, pending := some .ret })) fun Hp'' => cO T dst (.p (.bool false)) fun T' => R (.ops all rest :: k) T' Hp''
  | .exit id => vI Hp' c (.obj (.loop { r with state := .done, pending := some (.exit id) })) fun Hp'' => cO T dst (.p (.bool false)) fun T' => R (.ops all rest :: k) T' Hp''
  | _ => False
 | _ => False
def O4 : List (SV C) → List Tmp → List (SV C) → List (SV C)
 | T, p :: ps, v :: vs => O4 (tN T p v) ps vs
 | T, _, _ => T
def qX {α β : Type} : List α → List β → Bool
 | [], [] => true
 | _ :: l, _ :: m => qX l m
 | _, _ => false
theorem yO {α β : Type} : ∀ {l : List α} {m : List β}, qX l m = true → l.length = m.length
 | [], [], _ => rfl
 | _ :: l, _ :: m, h => by simp [yO (l := l) (m := m) h]
 | [], _ :: _, h => by simp [qX] at h
 | _ :: _, [], h => by simp [qX] at h
theorem N8 : ∀ (ps : List Tmp) (args : List (SV C)) (vs : List Value) (T : List (SV C)) (tm : Array Value), ps.length = args.length → DenA D w E args vs → tm.size = T.length → (∀ i, Den D w E (bI T i) (tm.getD i undef)) →
  ((ps.zip vs).foldl (fun t (p, v) => t.setIfInBounds p v) tm).size = (O4 T ps args).length ∧ ∀ i, Den D w E (bI (O4 T ps args) i) (((ps.zip vs).foldl (fun t (p, v) => t.setIfInBounds p v) tm).getD i undef)
 | [], [], vs, T, tm, _, _, hz, h => by simp only [O4, List.zip_nil_left, List.foldl_nil]; exact ⟨hz, h⟩
 | p :: ps, x :: args, vs, T, tm, hl, hd, hz, h => by
  simp only [DenA] at hd
  obtain ⟨v, vs', rfl, h1, h2⟩ := hd
  simp only [O4, List.zip_cons_cons, List.foldl_cons]
  refine N8 ps args vs' (tN T p x) (tm.setIfInBounds p v) (by simpa using hl) h2 (by simp [gZ, hz]) fun i => ?_
  rw [oE]
  by_cases hi : i = p
  ·subst hi
   by_cases hlt : i < T.length
   ·rw [if_pos ⟨rfl, hlt⟩]
    have : (tm.setIfInBounds i v).getD i undef = v := by
     rw [Array.getD_eq_getD_getElem?, Array.getElem?_setIfInBounds_self_of_lt (by omega)]; rfl
    rw [this]; exact h1
   ·rw [if_neg (fun hh => hlt hh.2)]
    have : (tm.setIfInBounds i v).getD i undef = tm.getD i undef := by
     rw [Array.getD_eq_getD_getElem?, Array.getD_eq_getD_getElem?]
     congr 1
     rw [Array.getElem?_eq_none (by simp; omega), Array.getElem?_eq_none (by omega)]
    rw [this]; exact h i
  ·rw [if_neg (fun hh => hi hh.1)]
   have : (tm.setIfInBounds p v).getD i undef = tm.getD i undef := by
    rw [Array.getD_eq_getD_getElem?, Array.getD_eq_getD_getElem?, Array.getElem?_setIfInBounds_ne (Ne.symm hi)]
   rw [this]; exact h i
def beginRound (c : Nat) (K : jN C) (body : Code) : Ca C := fun e T1 Hp1 => match e with
 | .normal => at_ T1 Hp1 (aS Hp1 c)
 | _ => False
where at_ (T1 : List (SV C)) (Hp1 : List (HS C)) (h : HS C) : Prop := match h with
 | .obj (.loop r) => match r.state with
  | .ready => vI Hp1 c (.obj (.loop { r with state := .busy })) fun Hp2 => K [.code body] T1 Hp2
  | _ => False
 | _ => False
theorem J3 (A : Aux C D) (hT : bH P D tab) {c : Nat} {ri : RI C} (hri : lkR X.L c = some ri) (hc : aS Hp c = .obj (.loop (fK ri .ready none))) (hlen' : qX ri.ps.toList args = true) (n n' : Nat)
  (h : gx P A tab ⟨some c, X.L, hlen Hp, false⟩ (beginRound c (gx P A tab ⟨some c, X.L, hlen Hp, false⟩ (endRound R c dst all rest k T) n') ri.body) n [.code ri.assign] (O4 ri.T ri.ps.toList args) Hp) :
  Ga P D X.L c args Hp (fun q Hp' => R (.ops all rest :: k) (iV T dst (.p (.bool q))) Hp') := by
 intro r B σ df a w E hBL hR
 have hok := hR.sat.ok c
 have hb : ∃ b, E.β c = .loc b := by
  rw [hc] at hok
  cases hb : E.β c with
  | fresh => rw [hb] at hok; simp [HS.ok] at hok
  | dead => rw [hb] at hok; simp [HS.ok] at hok
  | virt => rw [hb] at hok; simp [HS.ok] at hok
  | loc b => exact ⟨b, rfl⟩
 obtain ⟨b, hb⟩ := hb
 rw [hb, hc] at hok
 refine ⟨b, hb, fun vs hd => ?_⟩
 have hl1 := yO hlen'
 have hl2 := nR _ _ hd
 have hy := run_yield (P := P) (args := vs.toArray) hok.1 (by simp [fK]; rw [← hl2, ← hl1]; simp)
 refine ⟨_, _, _, _, hy, ?_⟩
 have hm := lK hR.sat
 have hrec := (hBL.mono hR.fr.late) c ri hri
 obtain ⟨hz, hden⟩ := N8 (D := D) (w := w) (E := E) ri.ps.toList args vs ri.T ri.tmps hl1 hd hrec.1 hrec.2
 have htm : (ri.ps.zip vs.toArray).foldl (fun tmps (t, a) => tmps.setIfInBounds t a) ri.tmps = (ri.ps.toList.zip vs).foldl (fun t (p, v) => t.setIfInBounds p v) ri.tmps := by
  rw [← Array.foldl_toList]
  simp
 have hR0 : sF D (dZ.here w E (hlen Hp) hm) (O4 ri.T ri.ps.toList args) Hp { tmps := (ri.ps.toList.zip vs).foldl (fun t (p, v) => t.setIfInBounds p v) ri.tmps, defers := [] } w :=
  ⟨[], E, ⟨hden, hR.sat, Fr.here, rfl, uD.nil⟩, hz⟩
 have hX1 : U4 D (⟨some c, X.L, hlen Hp, false⟩ : Ctx C) (dZ.here w E (hlen Hp) hm) (some b) := ⟨rfl, hBL.mono hR.fr.late, hb, rfl⟩
 have hb1 : ∀ {T' Hp' a' w' E1 df'} {rr : Loop}, Rel D (dZ.here w E (hlen Hp) hm) E1 T' (aS Hp') df' a' w' → aS Hp' c = .obj (.loop rr) → E1.β c = .loc b := by
  intro T' Hp' a' w' E1 df' rr hR1 hrr
  have hok := hR1.sat.ok c
  rcases hR1.fr.late.β c with e' | e' | e'
  ·exact e'.trans hb
  ·rw [e', hrr] at hok; cases hok
  ·have e'' : E.β c = .fresh := e'
   rw [hb] at e''; cases e''
 have body : ∀ T' Hp', gx P A tab ⟨some c, X.L, hlen Hp, false⟩ (endRound R c dst all rest k T) n' [.code ri.body] T' Hp' → ∀ a' w', sF D (dZ.here w E (hlen Hp) hm) T' Hp' a' w' →
   ri.body.wpIn (Fc (some b)) 0 P (roundPost P b fun e w' => ∃ q E' Hp', e = .returned (.bool q) ∧ Rel D B E' σ (aS Hp') df a w' ∧ R (.ops all rest :: k) (iV T dst (.p (.bool q))) Hp') a' w' := by
  intro T' Hp' h a' w' hRL
  have := pN (r := some b) (Q := roundPost P b fun e w' => ∃ q E' Hp', e = .returned (.bool q) ∧ Rel D B E' σ (aS Hp') df a w' ∧ R (.ops all rest :: k) (iV T dst (.p (.bool q))) Hp') A hT hX1
   (fun e a' w' T' Hp' hΦ hRL => ?_) n' [.code ri.body] T' Hp' h a' w' hRL
  ·simp only [cQ, Exit.then] at this
   exact this
  ·obtain ⟨df', E1, hR1, _⟩ := hRL
   unfold endRound endRound.at_ at hΦ
   split at hΦ
   ·rename_i rr hrr
    have hb1 := hb1 hR1 hrr
    have hok1 := hR1.sat.ok c
    rw [hb1, hrr] at hok1
    have fin : ∀ (jump : Option Code) , R (.ops all rest :: k) (iV T dst (.p (.bool jump.isNone))) (F1 Hp' c (.obj (.loop { rr with state := if jump.isNone then .ready else .done, pending := jump }))) →
      ∃ v w'', (Instr.endRound b jump).run P w' = .ok v w'' ∧ ∃ q E' Hp', (Ending.returned v) = .returned (.bool q) ∧ Rel D B E' σ (aS Hp') df a w'' ∧ R (.ops all rest :: k) (iV T dst (.p (.bool q))) Hp' := by
     intro jump hRj
     obtain ⟨h1, h2⟩ := hR1.putO hb1 hrr (o' := .loop { rr with state := if jump.isNone then .ready else .done, pending := jump }) (by simp)
     refine ⟨_, _, run_endRound jump hok1.1, _, E1, _, rfl, ?_, hRj⟩
     rw [lW]
     exact hR.later h1.fr.late h1.sat (hR.fr.trans h1.fr)
    split at hΦ
    ·rw [iH, bB] at hΦ; exact fin none hΦ
    ·rw [iH, bB] at hΦ; exact fin (some .ret) hΦ
    ·rw [iH, bB] at hΦ; exact fin (some (.exit _)) hΦ
    ·exact hΦ.elim
   ·exact hΦ.elim
 have := pN (r := some b) (Q := Exit.then (fun a₁ w₁ => ∃ w₂, (Instr.beginRound b).run P w₁ = .ok () w₂ ∧ ri.body.wpIn (Fc (some b)) 0 P (roundPost P b fun e w' => ∃ q E' Hp', e = .returned (.bool q) ∧ Rel D B E' σ (aS Hp') df a w' ∧ R (.ops all rest :: k) (iV T dst (.p (.bool q))) Hp') a₁ w₂) (fun _ _ _ => False)) A hT hX1
  (fun e a' w' T' Hp' hΦ hRL => ?_) n _ _ _ h _ _ hR0
 ·refine roundIn_of_wpIn trivial ?_
  simp only [fK]
  rw [htm]
  exact this
 ·obtain ⟨df', E1, hR1, hz1⟩ := hRL
  unfold beginRound beginRound.at_ at hΦ
  split at hΦ
  ·split at hΦ
   ·rename_i rr hrr
    split at hΦ
    ·rename_i hst
     rw [iH] at hΦ
     have hbb := hb1 hR1 hrr
     have hok1 := hR1.sat.ok c
     rw [hbb, hrr] at hok1
     obtain ⟨h1, h2⟩ := hR1.putO hbb hrr (o' := .loop { rr with state := .busy }) (by simp)
     refine ⟨_, run_beginRound hok1.1 hst, ?_⟩
     exact body _ _ hΦ a' _ ⟨df', E1, by rw [lW]; exact h1, hz1⟩
    ·exact hΦ.elim
   ·exact hΦ.elim
  ·exact hΦ.elim
end
end Go.SX
namespace Go.SX
open Go.RowKit
variable {C : Cod}
def Ss : List Oper → Nat → Nat
 | [], m => m
 | ⟨some d, _, _, _, _, _⟩ :: l, m => Ss l (Nat.lor m (Nat.shiftLeft 1 d))
 | ⟨none, _, _, _, _, _⟩ :: l, m => Ss l m
def S4 : Code → Nat → Nat
 | .region _ ops _, m => Ss ops.toList m
 | .seq a b, m => S4 b (S4 a m)
 | .cond _ a b, m => S4 b (S4 a m)
 | .block _ b, m => S4 b m
 | .loop b, m => S4 b m
 | _, m => m
def Qc : Nat → List (SV C) → List (SV C)
 | _, [] => []
 | m, x :: l => (match Nat.mod m 2 with | 0 => x | _ + 1 => .any) :: Qc (Nat.div m 2) l
def lG : List (SV C) → List (Nat × SV C) → List (SV C)
 | T, [] => T
 | T, (d, v) :: l => lG (tN T d v) l
def wI (body : Code) (T : List (SV C)) (us : List (Nat × SV C)) : List (SV C) := lG (Qc (S4 body 0) T) us
structure Iz (m0 : Nat) (θ : List (Option Nat)) (T : List (SV C)) (Hp : List (HS C)) (T' : List (SV C)) (Hp' : List (HS C)) : Prop where
 T : ViewL Hp θ T T'
 H : eP Hp θ θ Hp'
 id : idO m0 0 θ Hp' = true
 nd : ndO θ = true
section
variable {P : Program} {D : aL C} {tab : Tab C} {A : Aux C D} {X : Ctx C} {R : jN C} {Φ : Ca C} {n m0 : Nat} {body : Code} {k : List (It C)} {T : List (SV C)} {Hp : List (HS C)}
structure Ks (p : Prop) : Prop where
 h : p
theorem aA {p q : Prop} (h1 : Ks p) (h2 : q) : p ∧ q := ⟨h1.h, h2⟩
theorem sQ {γ : Type} (I : γ → List (Nat × SV C)) (J : γ → List (HS C)) (good : γ → Prop) (μ : γ → Nat) (g0 : γ) (h0 : good g0) (θ0 : List (Option Nat)) (hent : Iz m0 θ0 T Hp (wI body T (I g0)) (J g0))
    (hround : ∀ g, good g → ∀ K : List (SV C) → List (HS C) → Prop, (∀ g' θ T' Hp', Ks (good g') → Ks (μ g' < μ g) → Iz m0 θ T' Hp' (wI body T (I g')) (J g') → K T' Hp') →
      eN (wI body T (I g)) fun T1 => cK (J g) fun Hp1 => R (.code body :: .endLoop K :: k) T1 Hp1) : Oo D m0 R body k T Hp := by
  refine ⟨γ, fun g => (wI body T (I g), J g), good, μ, g0, h0, Fe θ0 hent.T ⟨hent.H, hent.id, hent.nd⟩, ?_⟩
  intro g hg K hK
  have := hround g hg K fun g' θ T' Hp' h1 h2 h3 => hK _ _ g' h1.h h2.h (Fe θ h3.T ⟨h3.H, h3.id, h3.nd⟩)
  rw [bK, bA] at this
  exact this
theorem Su {b : Bool} {X Y : Prop} (h1 : b = true → X) (h2 : b = false → Y) : zY b X Y := by
 cases b with
 | true => exact h1 rfl
 | false => exact h2 rfl
theorem Of {args : List (SV C)} {dst : Option Nat} {all rest : List Oper} (A : Aux C D) (hT : bH P D tab) {c : Nat} {ri : RI C} (hri : lkR X.L c = some ri) (hc : aS Hp c = .obj (.loop (fK ri .ready none))) (hlen' : qX ri.ps.toList args = true) (n n' : Nat)
  (h : eN (O4 ri.T ri.ps.toList args) fun T0 => rU Hp 0 fun m => gx P A tab ⟨some c, X.L, m, false⟩ (beginRound c (gx P A tab ⟨some c, X.L, m, false⟩ (endRound R c dst all rest k T) n') ri.body) n [.code ri.assign] T0 Hp) :
  Pf P D X R c args dst all rest k T Hp := by
 rw [bK, eF, Nat.add_zero] at h
 exact ⟨_, J3 A hT hri hc hlen' n n' h, fun q Hp' hS => hS⟩
def q0a (Hp : List (HS C)) (θ : List (Option Nat)) (ret : SV C) : Option (List (SV C)) → Prop
 | some l => jR Hp θ (rX l) ret
 | none => False
structure Rh (Hp : List (HS C)) (θ : List (Option Nat)) (ret : SV C) (l : Option (List (SV C))) : Prop where
 h : q0a Hp θ ret l
theorem Px {rs : List ResultVar} {ret : SV C} {H1 : List (HS C)} {e : Exit} (θ : List (Option Nat)) (he : e = .normal ∨ e = .ret) (hE : Rh Hp θ ret (fL D tab T Hp rs)) (hv : eP Hp θ θ H1) (hid : idO m0 0 θ H1 = true) (hnd : ndO θ = true) :
  (e = .normal ∨ e = .ret) ∧ ∃ θ l, fL D tab T Hp rs = some l ∧ jR Hp θ (rX l) ret ∧ vZ Hp θ H1 m0 := by
 refine ⟨he, ?_⟩
 have h := hE.h
 generalize hr : fL D tab T Hp rs = r at h
 cases r with
 | none => exact h.elim
 | some l => exact ⟨θ, l, rfl, h, ⟨hv, hid, hnd⟩⟩
end
end Go.SX
namespace Go.SX
open Go.RowKit
variable {C : Cod}
structure Gv (all : List Oper) (tr : List Ent) : Prop where
 h : yK all tr.reverse = true
structure yH (P : Program) (D : aL C) (next : DK C) (f : FuncId) (args : List (SV C)) (dst : Option Nat) (fs fc0 : List Nat) (tr : List Ent) (T : List (SV C)) (Hp : List (HS C)) : Prop where
 h : zA P D next f args dst fs fc0 tr T Hp
def lR (P : Program) (D : aL C) (next : DK C) (o : Op) (vals : List (SV C)) (dst : Option Nat) (fs fc : List Nat) (tr : List Ent) (T : List (SV C)) (Hp : List (HS C)) : Out C → Prop
 | .stuck => L0 o vals (mI Hp vals) False
 | .val v => cO T dst v fun T' => next (⟨dst, fs, fc, []⟩ :: tr) T' Hp
 | .side p v => p ∧ cO T dst v fun T' => next (⟨dst, fs, fc, []⟩ :: tr) T' Hp
 | .mem v ws => cK (mJ ws) fun ids => cO T dst v fun T' => dI Hp ws fun Hp' => next (⟨dst, fs, fc, ids⟩ :: tr) T' Hp'
 | .smem p v ws => p ∧ cK (mJ ws) fun ids => cO T dst v fun T' => dI Hp ws fun Hp' => next (⟨dst, fs, fc, ids⟩ :: tr) T' Hp'
 | .call f args => eN args fun args => yH P D next f args dst fs fc tr T Hp
 | .yieldc _ _ => False
 | .may _ _ => False
 | .ask q K W => q0z q fun r => cK (mJ (W r)) fun ids => cO T dst (K r) fun T' => dI Hp (W r) fun Hp' => next (⟨dst, fs, fc, ids⟩ :: tr) T' Hp'
def Oz (h : HS C) (X : Prop) : Prop := match h with
 | .fresh => X
 | _ => False
def Eu (o : Op) (big : Nat) (Hp : List (HS C)) (K : Nat → Prop) : Prop := match q0f o with
 | true => rU Hp 0 K
 | false => K big
theorem Hj {o : Op} {big : Nat} {Hp : List (HS C)} {K : Nat → Prop} : Eu o big Hp K = K (Gk o big Hp) := by
 unfold Eu Gk
 cases q0f o with
 | true => exact (eF Hp 0 K)
 | false => rfl
def tJ (P : Program) {D : aL C} (A : Aux C D) (tab : Tab C) (big : Nat) (next : DK C) (dst : Option Nat) (op : Op) (gs : List Nat) (tr : List Ent) (T : List (SV C)) (Hp : List (HS C)) : Prop :=
 eN (aV T (aO op)) fun vals => Eu op big Hp fun m => Oz (aS Hp m) (cK (gs ++ fF (aO op)) fun fs => cK (m :: Yk op vals) fun fc =>
  lR P D next op vals dst fs fc tr T Hp (exec A tab op vals (mI Hp vals) m))
def Fq (P : Program) {D : aL C} (A : Aux C D) (tab : Tab C) (big : Nat) (next : DK C) (dst : Option Nat) (op : Op) (d : Nat) (want : Bool) (tr : List Ent) (T : List (SV C)) (Hp : List (HS C)) : SV C → Prop
 | .p (.bool b) => match want with
  | true => zY b (qC T d (.p (.bool true)) fun T => tJ P A tab big next dst op [d] tr T Hp) (qC T d (.p (.bool false)) fun T => cO T dst (.tuple []) fun T' => next (⟨dst, [d], [], []⟩ :: tr) T' Hp)
  | false => zY b (qC T d (.p (.bool true)) fun T => cO T dst (.tuple []) fun T' => next (⟨dst, [d], [], []⟩ :: tr) T' Hp) (qC T d (.p (.bool false)) fun T => tJ P A tab big next dst op [d] tr T Hp)
 | .tuple [] => cO T dst (.tuple []) fun T' => next (⟨dst, [d], [], []⟩ :: tr) T' Hp
 | v => Iu (.tmp d) v
def Ab (P : Program) {D : aL C} (A : Aux C D) (tab : Tab C) (big : Nat) (next : DK C) (dst : Option Nat) (op : Op) (want : Bool) (tr : List Ent) (T : List (SV C)) (Hp : List (HS C)) : Option Nat → Prop
 | none => False
 | some d => Fq P A tab big next dst op d want tr T Hp (bI T d)
def uJ (P : Program) {D : aL C} (A : Aux C D) (tab : Tab C) (K : DK C) (all : List Oper) (big : Nat) : List Oper → DK C
 | [] => K
 | ⟨dst, op, _, _, _, none⟩ :: rest => fun tr T Hp => tJ P A tab big (uJ P A tab K all big rest) dst op [] tr T Hp
 | ⟨dst, op, _, _, _, some (j, want)⟩ :: rest => fun tr T Hp => Ab P A tab big (uJ P A tab K all big rest) dst op want tr T Hp (wP all j)
def Wp (R : jN C) (all : List Oper) (k : List (It C)) : DK C := fun tr T Hp => Gv all tr ∧ R k T Hp
section
variable {P : Program} {D : aL C} {A : Aux C D} {tab : Tab C} {R : jN C} {k : List (It C)} {T : List (SV C)} {Hp : List (HS C)}
theorem M9 : ∀ (T : List (SV C)) (d : Nat), tN T d (bI T d) = T
 | [], d => by simp [tN]
 | x :: l, 0 => rfl
 | x :: l, d + 1 => by simp only [tN, bI, M9 l d]
theorem nB {big : Nat} {next next' : DK C} (hn : ∀ tr T Hp, next' tr T Hp → next tr T Hp) {dst : Option Nat} {op : Op} {gs : List Nat} {tr : List Ent} (h : tJ P A tab big next' dst op gs tr T Hp) : rH P A tab big next dst op gs tr T Hp := by
 unfold tJ at h
 rw [bK, Hj] at h
 unfold rH E9
 unfold Oz at h
 unfold R9
 split at h
 ·rename_i hm
  rw [hm]
  simp only
  rw [bA, bA] at h
  generalize exec A tab op (aV T (aO op)) (mI Hp (aV T (aO op))) (Gk op big Hp) = out at h ⊢
  cases out with
  | stuck => exact h.h.elim
  | val v => simp only [lR, bB] at h; exact hn _ _ _ h
  | side p v => simp only [lR, bB] at h; exact ⟨h.1, hn _ _ _ h.2⟩
  | mem v ws => simp only [lR, bB, bQ, bA] at h; exact hn _ _ _ h
  | smem p v ws => simp only [lR, bB, bQ, bA] at h; exact ⟨h.1, hn _ _ _ h.2⟩
  | call f args =>
   simp only [lR, bK] at h
   obtain ⟨ret, ws, fc, hc, h2⟩ := h.h
   exact ⟨ret, ws, fc, hc, hn _ _ _ h2⟩
  | yieldc c args => exact h.elim
  | may p v => exact h.elim
  | ask q K W =>
   obtain ⟨r, hq, h2⟩ := h.h
   rw [bA, bB, bQ] at h2
   exact ⟨r, hq, hn _ _ _ h2⟩
 ·exact h.elim
theorem uH {all : List Oper} {big : Nat} {K K' : DK C} (hK : ∀ tr T Hp, K' tr T Hp → K tr T Hp) : ∀ (rest : List Oper) (tr : List Ent) (T : List (SV C)) (Hp : List (HS C)),
  uJ P A tab K' all big rest tr T Hp → kD P A tab K all big rest tr T Hp
 | [], tr, T, Hp, h => hK _ _ _ h
 | ⟨dst, op, ty, pos, after, guard⟩ :: rest, tr, T, Hp, h => by
  have ih := uH (all := all) (big := big) hK rest
  cases guard with
  | none => exact nB ih h
  | some g =>
   obtain ⟨j, want⟩ := g
   simp only [uJ] at h
   simp only [kD]
   cases hg : wP all j with
   | none => rw [hg] at h; exact h.elim
   | some d =>
    rw [hg] at h
    simp only [Ab, Fq] at h
    simp only [W0]
    split at h
    ·rename_i b hb
     rw [hb]
     simp only [Fi]
     have hsame : tN T d (.p (.bool b)) = T := by
      rw [← hb]
      exact M9 T d
     cases want <;> cases b <;> simp only [zY, sR, bB, hsame] at h
     ·exact nB ih h
     ·exact ih _ _ _ h
     ·exact ih _ _ _ h
     ·exact nB ih h
    ·rename_i hb
     rw [bB] at h
     rw [hb]
     exact ih _ _ _ h
    ·cases h
theorem aB {m0 : Nat} {ops : List Oper} (hmix : P.follows .mixedOrders = true) (h : rU Hp 1000 fun big => uJ P A tab (Wp R ops k) ops big ops [] T Hp) : Mi P A tab m0 R ops k T Hp := by
 rw [eF] at h
 exact ⟨⟨_, _, fun _ _ _ _ _ h => h, .inl ⟨hmix, uH (fun tr T Hp hk => ⟨hk.1.h, hk.2⟩) ops [] T Hp h⟩⟩⟩
theorem R7 {next : DK C} {f : FuncId} {args : List (SV C)} {ret : SV C} {dst : Option Nat} {fs fc : List Nat} {tr : List Ent} (hM : aG P D f args [] ret []) (hargs : renL [] args = some args) (hret : jO [] ret = some ret)
  (h : cK fc fun fc => cO T dst ret fun T' => next (⟨dst, fs, fc, []⟩ :: tr) T' Hp) : yH P D next f args dst fs fc tr T Hp := by
 rw [bA, bB] at h
 exact ⟨Cn hM hargs hret (by simpa using h)⟩
theorem U6 {next : DK C} {f : FuncId} {args0 args : List (SV C)} {H0 H0' H1 H1' : List (HS C)} {ret0 ret : SV C} {dst : Option Nat} {fs fc : List Nat} {tr : List Ent}
  (ρ : List (Option Nat)) (hM : aG P D f args0 H0 ret0 H1) (hargs : renL ρ args0 = some args) (hH0 : fA ρ H0 = some H0') (hat : dC (aS Hp) ρ H0') (θ : List (Option Nat)) (hθ : θ = ρ ++ eK (H1.length - H0.length) (hlen Hp)) (hnd : ndO θ = true)
  (hle : H0.length ≤ H1.length) (hH1 : fA θ H1 = some H1') (hret : jO θ ret0 = some ret)
  (h : cK (fc ++ Q0 θ) fun fc => cK (mJ (wA θ H1')) fun ids => cO T dst ret fun T' => dI Hp (wA θ H1') fun Hp' => next (⟨dst, fs, fc, ids⟩ :: tr) T' Hp') : yH P D next f args dst fs fc tr T Hp := by
 rw [bA, bA, bB, bQ] at h
 exact ⟨Ct ρ hM hargs hH0 hat θ hθ hnd hle hH1 hret h⟩
end
end Go.SX
