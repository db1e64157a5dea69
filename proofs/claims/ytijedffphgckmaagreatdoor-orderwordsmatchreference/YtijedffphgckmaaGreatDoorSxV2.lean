/-
  SX, part V2: the strict generator: states are reckoned out at each step, so that 'whnf' goes from stop to stop. Calls in place; ranges over functions.
-/
import Derived.Test.YtijedffphgckmaaGreatDoorSxP
set_option linter.unusedVariables false
set_option linter.unusedSimpArgs false
namespace Go.SX
open Go.RowKit
variable {C : Cod}

/-! ### Strict lists -/
section
variable {β : Type} {γ : Type}
def setTK {δ : Sort _} : List (SV C) → Nat → SV C → (List (SV C) → δ) → δ
 | [], _, _, K => K []
 | _ :: l, 0, v, K => K (v :: l)
 | x :: l, n + 1, v, K => setTK l n v (fun m => K (x :: m))
theorem setTK_eq : ∀ (T : List (SV C)) (d : Nat) (v : SV C) (K : List (SV C) → Prop), setTK T d v K = K (setT T d v)
 | [], _, _, _ => rfl
 | _ :: _, 0, _, _ => rfl
 | x :: l, n + 1, v, K => by simp only [setTK, setT, setTK_eq l n v]
def forceL {α : Type} : List α → (List α → Prop) → Prop
 | [], K => K []
 | x :: l, K => forceL l (fun m => K (x :: m))
theorem forceL_eq {α : Type} : ∀ (l : List α) (K : List α → Prop), forceL l K = K l
 | [], _ => rfl
 | x :: l, K => by simp only [forceL, forceL_eq l]
def natK (n : Nat) (K : Nat → Prop) : Prop :=
 match n with
 | 0 => K 0
 | n + 1 => K (n + 1)
theorem natK_eq (n : Nat) (K : Nat → Prop) : natK n K = K n := by cases n <;> rfl
/-- how many chunks, as a number -/
def hlenK : List (HS C) → Nat → (Nat → Prop) → Prop
 | [], n, K => natK n K
 | _ :: l, n, K => hlenK l (n + 1) K
theorem hlenK_eq : ∀ (l : List (HS C)) (n : Nat) (K : Nat → Prop), hlenK l n K = K (hlen l + n)
 | [], n, K => by simp only [hlenK, natK_eq, hlen, Nat.zero_add]
 | _ :: l, n, K => by simp only [hlenK, hlenK_eq l, hlen]; congr 1; omega
/-- a value's head forced -/
def forceS (x : SV C) (K : SV C → Prop) : Prop :=
 match x with
 | .p y => match y with
  | .int k n => K (.p (.int k n))
  | .bool b => K (.p (.bool b))
  | .str l => K (.p (.str l))
  | .lit v => K (.p (.lit v))
  | .dsl u xs => K (.p (.dsl u xs))
  | .fds u xs => K (.p (.fds u xs))
 | .any => K .any
 | .ptr c o => natK c fun c => natK o fun o => K (.ptr c o)
 | .eptr c o n i f => K (.eptr c o n i f)
 | .dptr l f => K (.dptr l f)
 | .slice c o n off len => natK c fun c => natK o fun o => natK n fun n => K (.slice c o n off len)
 | .arr u N xs => K (.arr u N xs)
 | .agg vs => forceL vs fun vs => K (.agg vs)
 | .fn f a b => forceL a fun a => forceL b fun b => K (.fn f a b)
 | .iface t v => K (.iface t v)
 | .tuple vs => forceL vs fun vs => K (.tuple vs)
 | .yieldv c => K (.yieldv c)
 | .mapp c => natK c fun c => K (.mapp c)
theorem forceS_eq (x : SV C) (K : SV C → Prop) : forceS x K = K x := by
 cases x with
 | p y => cases y <;> rfl
 | ptr c o => exact (natK_eq c (fun c => natK o fun o => K (.ptr c o))).trans (natK_eq o (fun o => K (.ptr c o)))
 | slice c o n off len => exact ((natK_eq c (fun c => natK o fun o => natK n fun n => K (.slice c o n off len))).trans (natK_eq o (fun o => natK n fun n => K (.slice c o n off len)))).trans (natK_eq n (fun n => K (.slice c o n off len)))
 | agg vs => exact forceL_eq vs (fun vs => K (.agg vs))
 | fn f a b => exact (forceL_eq a (fun a => forceL b fun b => K (.fn f a b))).trans (forceL_eq b (fun b => K (.fn f a b)))
 | tuple vs => exact forceL_eq vs (fun vs => K (.tuple vs))
 | mapp c => exact natK_eq c (fun c => K (.mapp c))
 | _ => rfl
/-- a list of values, each head forced -/
def forceV : List (SV C) → (List (SV C) → Prop) → Prop
 | [], K => K []
 | x :: l, K => forceS x fun y => forceV l fun m => K (y :: m)
theorem forceV_eq : ∀ (l : List (SV C)) (K : List (SV C) → Prop), forceV l K = K l
 | [], _ => rfl
 | x :: l, K => by simp only [forceV, forceS_eq, forceV_eq l]
def setOK (T : List (SV C)) (d : Option Nat) (v : SV C) (K : List (SV C) → Prop) : Prop :=
 match d with
 | none => K T
 | some d => forceS v fun v => setTK T d v K
theorem setOK_eq (T : List (SV C)) (d : Option Nat) (v : SV C) (K : List (SV C) → Prop) : setOK T d v K = K (setO T d v) := by
 cases d with
 | none => rfl
 | some d => exact (forceS_eq v (fun v => setTK T d v K)).trans (setTK_eq T d v K)
def forceH (h : HS C) (K : HS C → Prop) : Prop :=
 match h with
 | .vart t vs => forceL vs (fun l => K (.vart t l))
 | .fresh => K .fresh
 | .dead => K .dead
 | .rows u xs => K (.rows u xs)
 | .obj o => K (.obj o)
theorem forceH_eq (h : HS C) (K : HS C → Prop) : forceH h K = K h := by
 cases h <;> first | rfl | exact forceL_eq _ _
def setCK : List (HS C) → Nat → HS C → (List (HS C) → Prop) → Prop
 | [], 0, h, K => K [h]
 | [], n + 1, h, K => setCK [] n h (fun m => K (.fresh :: m))
 | _ :: l, 0, h, K => K (h :: l)
 | x :: l, n + 1, h, K => setCK l n h (fun m => K (x :: m))
theorem setCK_eq : ∀ (Hp : List (HS C)) (c : Nat) (h : HS C) (K : List (HS C) → Prop), setCK Hp c h K = K (setC Hp c h)
 | [], 0, _, _ => rfl
 | [], n + 1, h, K => by simp only [setCK, setC, setCK_eq [] n h]
 | _ :: _, 0, _, _ => rfl
 | x :: l, n + 1, h, K => by simp only [setCK, setC, setCK_eq l n h]
def setCsK : List (HS C) → List (Nat × HS C) → (List (HS C) → Prop) → Prop
 | Hp, [], K => K Hp
 | Hp, (c, h) :: l, K => forceH h (fun h' => setCK Hp c h' (fun Hp' => setCsK Hp' l K))
theorem setCsK_eq : ∀ (ws : List (Nat × HS C)) (Hp : List (HS C)) (K : List (HS C) → Prop), setCsK Hp ws K = K (setCs Hp ws)
 | [], _, _ => rfl
 | (c, h) :: l, Hp, K => by simp only [setCsK, setCs, forceH_eq, setCK_eq, setCsK_eq l]
end

/-! ### What stands around a walk -/
/-- the record of a range over a function, as it was laid -/
structure RI (C : Cod) where
 fn : FuncId
 tmps : Array Value
 bd : Nat
 ps : Array Tmp
 assign : Code
 body : Code
 T : List (SV C)
def mkLoop (i : RI C) (st : LoopState) (pd : Option Code) : Loop :=
 { state := st, pending := pd, fn := i.fn, tmps := i.tmps, params := i.ps, assign := i.assign, body := i.body, defers := i.bd }
abbrev Recs (C : Cod) := List (Nat × RI C)
def lkR : Recs C → Nat → Option (RI C)
 | [], _ => none
 | (c, r) :: l, d => if c = d then some r else lkR l d
structure Ctx (C : Cod) where
 ar : Option Nat
 L : Recs C
 m0 : Nat
 nm : Bool
def RecsOK (D : Codec C) (L : Recs C) (w : World) (E : Env) : Prop :=
 ∀ c ri, lkR L c = some ri → ri.tmps.size = ri.T.length ∧ ∀ i, Den D w E (getT ri.T i) (ri.tmps.getD i undef)
def ArOK (ar r : Option Nat) (E : Env) : Prop := match ar, r with
 | none, none => True
 | some c, some l => E.β c = .loc l
 | _, _ => False
structure CtxOK (D : Codec C) (X : Ctx C) (B : Base) (r : Option Nat) : Prop where
 m0 : B.m0 = X.m0
 L : RecsOK D X.L B.w0 B.E0
 ar : ArOK X.ar r B.E0
 nm : B.nm = X.nm
theorem RecsOK.mono {D : Codec C} {L : Recs C} {w w' : World} {E E' : Env} (h : RecsOK D L w E) (hL : Later w E w' E') : RecsOK D L w' E' :=
 fun c ri hc => ⟨(h c ri hc).1, fun i => Den.mono hL _ _ ((h c ri hc).2 i)⟩

/-- the meaning of a state -/
def RelX (D : Codec C) (B : Base) (T : List (SV C)) (Hp : List (HS C)) (a : Act) (w : World) : Prop := ∃ df, RelL D B df T Hp a w

/-! ### The stops -/
/-- A call from this state comes to one of the outcomes S. -/
structure CallS (P : Program) (D : Codec C) (L : Recs C) (f : FuncId) (args : List (SV C)) (Hp : List (HS C)) (S : SV C → List (HS C) → Prop) : Prop where
 run : ((∀ args w, (callFunc f args).run P w = .ok (.enter f args) w) ∧ ∀ B σ df a w E, RecsOK D L B.w0 B.E0 → Rel D B E σ (getC Hp) df a w → ∀ vs, DenA D w E args vs →
  CallsIn (Fc none) 0 P f vs.toArray w fun e w' => ∃ v E' ret Hp', e = .returned v ∧ Den D w' E' ret v ∧ Rel D B E' σ (getC Hp') df a w' ∧ S ret Hp') ∨
  ∀ B σ df a w E, Rel D B E σ (getC Hp) df a w → ∀ vs, DenA D w E args vs → ∃ v w' E' ret Hp', (callFunc f vs.toArray).run P w = .ok (.value v) w' ∧ Den D w' E' ret v ∧ Rel D B E' σ (getC Hp') df a w' ∧ S ret Hp'
/-- one state with arguments says no more than another -/
def SubA (D : Codec C) (m0 : Nat) (T : List (SV C)) (Hp : List (HS C)) (args : List (SV C)) (T' : List (SV C)) (Hp' : List (HS C)) (args' : List (SV C)) : Prop :=
 ∀ B E df a w, B.m0 = m0 → Rel D B E (getT T) (getC Hp) df a w → a.tmps.size = T.length → ∃ E', Rel D B E' (getT T') (getC Hp') df a w ∧ a.tmps.size = T'.length ∧ ∀ vs, DenA D w E args vs → DenA D w E' args' vs
theorem SubA.refl {D : Codec C} {m0 : Nat} {T : List (SV C)} {Hp : List (HS C)} {args : List (SV C)} : SubA D m0 T Hp args T Hp args := fun B E df a w _ hR hsz => ⟨E, hR, hsz, fun _ h => h⟩
/-- A call from this state ends with a panic, and leaves this heap. -/
structure DieS (P : Program) (D : Codec C) (L : Recs C) (f : FuncId) (args : List (SV C)) (Hp : List (HS C)) (ch : List PanicEntry) (Hp' : List (HS C)) : Prop where
 run : (∀ args w, (callFunc f args).run P w = .ok (.enter f args) w) ∧ ∀ B σ df a w E, RecsOK D L B.w0 B.E0 → Rel D B E σ (getC Hp) df a w → ∀ vs, DenA D w E args vs →
  CallsIn (Fc none) 0 P f vs.toArray w fun e w' => ∃ E', e = .panicked ch ∧ Rel D B E' σ (getC Hp') df a w'
structure CallX (P : Program) (D : Codec C) (X : Ctx C) (R : Kont C) (f : FuncId) (args : List (SV C)) (dst : Option Nat) (all rest : List Oper) (k : List (It C)) (T : List (SV C)) (Hp : List (HS C)) : Prop where
 h : ∃ T1 Hp1 args1, SubA D X.m0 T Hp args T1 Hp1 args1 ∧ ((∃ S, CallS P D X.L f args1 Hp1 S ∧ ∀ ret Hp', S ret Hp' → R (.ops all rest :: k) (setO T1 dst ret) Hp') ∨ ∃ ch Hp', DieS P D X.L f args1 Hp1 ch Hp' ∧ R (.die ch :: k) T1 Hp')
theorem CallX.of {P : Program} {D : Codec C} {X : Ctx C} {R : Kont C} {f : FuncId} {args : List (SV C)} {dst : Option Nat} {all rest : List Oper} {k : List (It C)} {T : List (SV C)} {Hp : List (HS C)} (S : SV C → List (HS C) → Prop)
  (h1 : CallS P D X.L f args Hp S) (h2 : ∀ ret Hp', S ret Hp' → R (.ops all rest :: k) (setO T dst ret) Hp') : CallX P D X R f args dst all rest k T Hp := ⟨_, _, _, SubA.refl, .inl ⟨S, h1, h2⟩⟩
theorem CallX.dies {P : Program} {D : Codec C} {X : Ctx C} {R : Kont C} {f : FuncId} {args : List (SV C)} {dst : Option Nat} {all rest : List Oper} {k : List (It C)} {T : List (SV C)} {Hp : List (HS C)} {ch : List PanicEntry} {Hp' : List (HS C)}
  (h1 : DieS P D X.L f args Hp ch Hp') (h2 : R (.die ch :: k) T Hp') : CallX P D X R f args dst all rest k T Hp := ⟨_, _, _, SubA.refl, .inr ⟨ch, Hp', h1, h2⟩⟩
/-- A call of yield comes to one of the outcomes S. -/
def YieldS (P : Program) (D : Codec C) (L : Recs C) (c : Nat) (args : List (SV C)) (Hp : List (HS C)) (S : Bool → List (HS C) → Prop) : Prop :=
 ∀ (r : Option Nat) B σ df a w E, RecsOK D L B.w0 B.E0 → Rel D B E σ (getC Hp) df a w → ∃ b, E.β c = .loc b ∧ ∀ vs, DenA D w E args vs →
  ∃ f tmps assign body, (Instr.yield b vs.toArray).run P w = .ok (.round b f tmps assign body) w ∧
   RoundIn (Fc r) 0 P b f tmps assign body w fun e w' => ∃ q E' Hp', e = .returned (.bool q) ∧ Rel D B E' σ (getC Hp') df a w' ∧ S q Hp'
structure YieldX (P : Program) (D : Codec C) (X : Ctx C) (R : Kont C) (c : Nat) (args : List (SV C)) (dst : Option Nat) (all rest : List Oper) (k : List (It C)) (T : List (SV C)) (Hp : List (HS C)) : Prop where
 h : ∃ S, YieldS P D X.L c args Hp S ∧ ∀ q Hp', S q Hp' → R (.ops all rest :: k) (setO T dst (.p (.bool q))) Hp'
/-- A range over a function comes to one of the outcomes S: a pending jump, or none. -/
def RangeS (P : Program) (D : Codec C) (X : Ctx C) (g : Operand) (ps : Array Tmp) (assign body : Code) (T : List (SV C)) (Hp : List (HS C)) (S : Option Code → List (HS C) → Prop) : Prop :=
 ∀ r B a w Q, CtxOK D X B r → RelX D B T Hp a w →
  (∀ j Hp' a' w', S j Hp' → RelX D B T Hp' a' w' → match j with
   | none => Q .normal a' w'
   | some c => c.wpIn (Fc r) 0 P Q a' w') →
  (Code.rangeFunc g ps assign body).wpIn (Fc r) 0 P Q a w
def afterRange (R : Kont C) (k : List (It C)) (T : List (SV C)) (Hp : List (HS C)) : Option Code → Prop
 | none => R k T Hp
 | some c => R (.code c :: k) T Hp
structure RangeX (P : Program) (D : Codec C) (X : Ctx C) (R : Kont C) (g : Operand) (gv : SV C) (ps : Array Tmp) (assign body : Code) (k : List (It C)) (T : List (SV C)) (Hp : List (HS C)) : Prop where
 h : ∃ S, RangeS P D X g ps assign body T Hp S ∧ ∀ j Hp', S j Hp' → afterRange R k T Hp' j
structure LoopX (D : Codec C) (m0 : Nat) (R : Kont C) (body : Code) (k : List (It C)) (T : List (SV C)) (Hp : List (HS C)) : Prop where
 h : LoopVC D m0 R body k T Hp
/-- nothing is known of this operation, but where the state is seen otherwise -/
structure StuckX (o : Op) (vals : List (SV C)) (hs : List (Nat × HS C)) (Y : Prop) : Prop where
 h : Y
/-- a slice that may be nil -/
structure NilX (p X Y : Prop) : Prop where
 t : p → X
 f : Y
/-- what a map holds of a key -/
structure AskX (q : Option (Option (Nat × Value))) (Y : Option (Nat × Value) → Prop) : Prop where
 h : ∃ r, q = some r ∧ Y r
inductive StuckC (o : Operand) (v : SV C) : Prop
inductive StuckI (i : It C) : Prop

def condX (b : Bool) (X Y : Prop) : Prop := match b with
 | true => X
 | false => Y

def after0 (P : Program) (D : Codec C) (X : Ctx C) (R : Kont C) (Y : Prop) (dst : Option Nat) (all rest : List Oper) (k : List (It C)) (T : List (SV C)) (Hp : List (HS C)) : Out C → Prop
 | .stuck => Y
 | .ask q K => AskX q fun r => setOK T dst (K r) fun T' => R (.ops all rest :: k) T' Hp
 | .may p v => NilX p (setOK T dst (v true) fun T' => R (.ops all rest :: k) T' Hp) (setOK T dst (v false) fun T' => R (.ops all rest :: k) T' Hp)
 | .val v => setOK T dst v fun T' => R (.ops all rest :: k) T' Hp
 | .side p v => p ∧ setOK T dst v fun T' => R (.ops all rest :: k) T' Hp
 | .mem v ws => setOK T dst v fun T' => setCsK Hp ws fun Hp' => R (.ops all rest :: k) T' Hp'
 | .smem p v ws => p ∧ setOK T dst v fun T' => setCsK Hp ws fun Hp' => R (.ops all rest :: k) T' Hp'
 | .call f args => forceV args fun args => CallX P D X R f args dst all rest k T Hp
 | .yieldc c args => YieldX P D X R c args dst all rest k T Hp

/-- the operation, where the state is seen otherwise -/
def FrzY (P : Program) {D : Codec C} (A : Aux C D) (tab : Tab C) (X : Ctx C) (R : Kont C) (op : Op) (dst : Option Nat) (all rest : List Oper) (k : List (It C)) (T : List (SV C)) (Hp : List (HS C)) : Prop :=
 ∃ T1 Hp1, SubA D X.m0 T Hp [] T1 Hp1 [] ∧ after0 P D X R False dst all rest k T1 Hp1 (exec A tab op (valsOf T1 (opnds op)) (hsOf Hp1 (valsOf T1 (opnds op))) (hlen Hp1))
/-- a value that is this one in every world -/
def Only (D : Codec C) (x : SV C) (v : Value) : Prop := ∀ w E u, Den D w E x u → u = v
/-- an operation of which it is known otherwise what it does -/
def OnceY (P : Program) (D : Codec C) (R : Kont C) (op : Op) (dst : Option Nat) (all rest : List Oper) (k : List (It C)) (T : List (SV C)) (Hp : List (HS C)) : Prop :=
 ∃ v ws, (∀ c, op ≠ .defer c) ∧ (∀ (o : Oper) (B : Base) (E : Env) (df : List Deferred) (a : Act) (w : World), o.op = op → Rel D B E (getT T) (getC Hp) df a w → RunOK P D B (getT T) (getC Hp) df a w o v ws) ∧ setOK T dst v fun T' => setCsK Hp ws fun Hp' => R (.ops all rest :: k) T' Hp'
/-- a panic -/
def DieY (D : Codec C) (m0 : Nat) (R : Kont C) (op : Op) (k : List (It C)) (T : List (SV C)) (Hp : List (HS C)) : Prop :=
 ∃ x t u, op = .panic x ∧ Only D (evT T x) (.iface t u) ∧ R (.die [{ v := .iface t u, recovered := false }] :: k) T Hp
def guardX (R : Kont C) (d : Nat) (want : Bool) (all : List Oper) (o : Oper) (rest : List Oper) (k : List (It C)) (T : List (SV C)) (Hp : List (HS C)) : SV C → Prop
 | .p (.bool b) => match want with
  | true => condX b (setTK T d (.p (.bool true)) fun T' => R (.op1 all o rest :: k) T' Hp) (setTK T d (.p (.bool false)) fun T' => setOK T' o.dst (.tuple []) fun T'' => R (.ops all rest :: k) T'' Hp)
  | false => condX b (setTK T d (.p (.bool true)) fun T' => setOK T' o.dst (.tuple []) fun T'' => R (.ops all rest :: k) T'' Hp) (setTK T d (.p (.bool false)) fun T' => R (.op1 all o rest :: k) T' Hp)
 | .tuple [] => setOK T o.dst (.tuple []) fun T' => R (.ops all rest :: k) T' Hp
 | v => StuckC (.tmp d) v
def condC (R : Kont C) (c : Operand) (x y : Code) (k : List (It C)) (T : List (SV C)) (Hp : List (HS C)) : SV C → Prop
 | .p (.bool b) => condX b (R (.code x :: k) T Hp) (R (.code y :: k) T Hp)
 | v => StuckC c v
def guardO (R : Kont C) (want : Bool) (all : List Oper) (o : Oper) (rest : List Oper) (k : List (It C)) (T : List (SV C)) (Hp : List (HS C)) : Option Nat → Prop
 | none => False
 | some d => guardX R d want all o rest k T Hp (getT T d)
def execX (P : Program) {D : Codec C} (A : Aux C D) (tab : Tab C) (X : Ctx C) (R : Kont C) (op : Op) (dst : Option Nat) (all rest : List Oper) (k : List (It C)) (T : List (SV C)) (Hp : List (HS C)) (vals : List (SV C)) (m : Nat) : Prop :=
 after0 P D X R (StuckX op vals (hsOf Hp vals) (FrzY P A tab X R op dst all rest k T Hp ∨ DieY D X.m0 R op k T Hp ∨ OnceY P D R op dst all rest k T Hp)) dst all rest k T Hp (exec A tab op vals (hsOf Hp vals) m)
/-- a region that draws its order -/
structure DrawX (P : Program) {D : Codec C} (A : Aux C D) (tab : Tab C) (m0 : Nat) (R : Kont C) (ops : List Oper) (k : List (It C)) (T : List (SV C)) (Hp : List (HS C)) : Prop where
 h : ∃ T1 Hp1, SubS D m0 T Hp T1 Hp1 ∧ (DrawVC P A tab R ops k T1 Hp1 ∨ DrawDie P A tab R ops k T1 Hp1)

def gxStep (P : Program) {D : Codec C} (A : Aux C D) (tab : Tab C) (X : Ctx C) (Φ : Post C) (R : Kont C) : Kont C
 | [], T, Hp => Φ .normal T Hp
 | .code .skip :: k, T, Hp => R k T Hp
 | .code (.label _) :: k, T, Hp => R k T Hp
 | .code (.seq x y) :: k, T, Hp => R (.code x :: .code y :: k) T Hp
 | .code (.region _ ops false) :: k, T, Hp => R (.ops ops.toList ops.toList :: k) T Hp
 | .code (.region _ ops true) :: k, T, Hp => DrawX P A tab X.m0 R ops.toList k T Hp
 | .code (.cond c x y) :: k, T, Hp => condC R c x y k T Hp (evT T c)
 | .code (.block id body) :: k, T, Hp => R (.code body :: .blk id :: k) T Hp
 | .code (.loop body) :: k, T, Hp => LoopX D X.m0 R body k T Hp
 | .code (.exit id) :: k, T, Hp => atExit Φ R id T Hp (unwind id k)
 | .code .ret :: _, T, Hp => Φ .ret T Hp
 | .code (.scope c) :: k, T, Hp => R (.code c :: .scp :: k) T Hp
 | .scp :: k, T, Hp => R k T Hp
 | .die ch :: _, T, Hp => Φ (.panic ch) T Hp
 | .code (.rangeFunc g ps assign body) :: k, T, Hp => RangeX P D X R g (evT T g) ps assign body k T Hp
 | .blk _ :: k, T, Hp => R k T Hp
 | .endLoop J :: _, T, Hp => J T Hp
 | .ops _ [] :: k, T, Hp => R k T Hp
 | .ops all (⟨dst, op, ty, pos, after, none⟩ :: rest) :: k, T, Hp => R (.op1 all ⟨dst, op, ty, pos, after, none⟩ rest :: k) T Hp
 | .ops all (⟨dst, op, ty, pos, after, some (j, want)⟩ :: rest) :: k, T, Hp => guardO R want all ⟨dst, op, ty, pos, after, some (j, want)⟩ rest k T Hp (gslot all j)
 | .op1 all o rest :: k, T, Hp => forceV (valsOf T (opnds o.op)) fun vals => hlenK Hp 0 fun m => execX P A tab X R o.op o.dst all rest k T Hp vals m
 | i :: _, _, _ => StuckI i

def gx (P : Program) {D : Codec C} (A : Aux C D) (tab : Tab C) (X : Ctx C) (Φ : Post C) : Nat → Kont C
 | 0 => fun _ _ _ => False
 | n + 1 => gxStep P A tab X Φ (gx P A tab X Φ n)

/-! ### Soundness -/
section
variable {P : Program} {D : Codec C} {tab : Tab C} {B : Base} {E : Env} {σ : Nat → SV C} {H : Nat → HS C} {df : List Deferred} {a : Act} {w : World} {o : Oper} {r : Option Nat}

variable (r) in
def postX (P : Program) (D : Codec C) (B : Base) (Q : Exit → Act → World → Prop) : List (It C) → Exit → Act → World → Prop
 | [] => Q
 | .code c :: k => Exit.then (c.wpIn (Fc r) 0 P (postX P D B Q k)) (postX P D B Q k)
 | .ops all rest :: k => Exit.then (wpListIn (Fc r) 0 P all.toArray (postX P D B Q k) rest) (postX P D B Q k)
 | .op1 all o rest :: k => Exit.then (fun a w => o.wpIn (Fc r) 0 P a w (wpListIn (Fc r) 0 P all.toArray (postX P D B Q k) rest) (postX P D B Q k)) (postX P D B Q k)
 | .blk id :: k => Exit.inBlock id (postX P D B Q k)
 | .endLoop J :: k => fun e a w => match e with
  | .normal => ∃ T Hp, J T Hp ∧ RelX D B T Hp a w
  | e => postX P D B Q k e a w
 | .beginR :: k => postX P D B Q k
 | .scp :: k => Exit.noGoto (postX P D B Q k)
 | .die ch :: k => fun e a w => match e with
  | .normal => postX P D B Q k (.panic ch) a w
  | e => postX P D B Q k e a w

variable {Q : Exit → Act → World → Prop}
theorem postX_ret : ∀ k : List (It C), Q .ret a w → postX r P D B Q k .ret a w
 | [], h => h
 | .code _ :: k, h => postX_ret k h
 | .ops _ _ :: k, h => postX_ret k h
 | .op1 _ _ _ :: k, h => postX_ret k h
 | .blk _ :: k, h => postX_ret k h
 | .endLoop _ :: k, h => postX_ret k h
 | .beginR :: k, h => postX_ret k h
 | .scp :: k, h => postX_ret k h
 | .die _ :: k, h => postX_ret k h
theorem postX_panic {ch : List PanicEntry} : ∀ k : List (It C), Q (.panic ch) a w → postX r P D B Q k (.panic ch) a w
 | [], h => h
 | .code _ :: k, h => postX_panic k h
 | .ops _ _ :: k, h => postX_panic k h
 | .op1 _ _ _ :: k, h => postX_panic k h
 | .blk _ :: k, h => postX_panic k h
 | .endLoop _ :: k, h => postX_panic k h
 | .beginR :: k, h => postX_panic k h
 | .scp :: k, h => postX_panic k h
 | .die _ :: k, h => postX_panic k h
theorem postX_exit (id : Nat) : ∀ k : List (It C), (match unwind id k with | some k' => postX r P D B Q k' .normal a w | none => Q (.exit id) a w) → postX r P D B Q k (.exit id) a w
 | [], h => h
 | .code _ :: k, h => postX_exit id k h
 | .ops _ _ :: k, h => postX_exit id k h
 | .op1 _ _ _ :: k, h => postX_exit id k h
 | .blk i :: k, h => by
  simp only [postX, Exit.inBlock]
  simp only [unwind] at h
  by_cases hi : i = id
  ·rw [if_pos hi] at h; rw [if_pos hi.symm]; exact h
  ·rw [if_neg hi] at h; rw [if_neg (Ne.symm hi)]; exact postX_exit id k h
 | .endLoop _ :: k, h => postX_exit id k h
 | .beginR :: k, h => postX_exit id k h
 | .scp :: k, h => postX_exit id k h
 | .die _ :: k, h => postX_exit id k h

theorem wpIn_of_callS {next : Act → World → Prop} {Q : Exit → Act → World → Prop} (hnd : ∀ c, o.op ≠ .defer c) {f : FuncId} {args0 args : List (SV C)} {L : Recs C} {S : SV C → List (HS C) → Prop} {T0 T : List (SV C)} {Hp0 Hp : List (HS C)} {m0 : Nat} (hm0 : B.m0 = m0)
  (hBL : RecsOK D L B.w0 B.E0) (hR : RelX D B T0 Hp0 a w) (h : ∀ df, OutOK P D B (getT T0) (getC Hp0) df a w o (.call f args0)) (hsub : SubA D m0 T0 Hp0 args0 T Hp args) (hc : CallS P D L f args Hp S)
  (hn : ∀ ret Hp', S ret Hp' → ∀ a' w', RelX D B (setO T o.dst ret) Hp' a' w' → next a' w') : o.wpIn (Fc r) 0 P a w next Q := by
 refine ⟨fun _ _ => trivial, ?_⟩
 obtain ⟨df, E, hR, hsz⟩ := hR
 obtain ⟨vs, hd, hrun⟩ := h df E hR
 obtain ⟨E1, hR1, hsz1, hd1⟩ := hsub B E df a w hm0 hR hsz
 have hd := hd1 vs hd
 clear hR hd1 hsz
 have hR := hR1
 have hsz := hsz1
 clear hR1 hsz1
 generalize E1 = E at *
 rcases hc.run with ⟨hc1, hc2⟩ | hx
 rotate_left
 ·obtain ⟨v, w', E', ret, Hp', h1, hv, hR', hS⟩ := hx B _ df a w E hR vs hd
  rw [show (Fc r).round = r from rfl, Oper.semAt_eq r _ _ hnd, hrun, h1]
  have hput := hR'.put hsz o.dst (.inr hv)
  refine hn _ _ hS _ _ ⟨df, E', ?_, by rw [size_put, hsz, length_setO]⟩
  rw [getT_setO]
  exact hput
 rw [show (Fc r).round = r from rfl, Oper.semAt_eq r _ _ hnd, hrun, hc1]
 refine ⟨fun h => by simp [Fc] at h, ?_⟩
 have hcalls := hc2 B _ df a w E hBL hR vs hd
 have hcalls' : CallsIn (Fc r) (0 - 1) P f vs.toArray w fun e w' => ∃ v E' ret Hp', e = .returned v ∧ Den D w' E' ret v ∧ Rel D B E' (getT T) (getC Hp') df a w' ∧ S ret Hp' := hcalls
 refine hcalls'.mono ?_
 rintro e w' ⟨v, E', ret, Hp', rfl, hv, hR', hS⟩
 have hput := hR'.put hsz o.dst (.inr hv)
 refine hn _ _ hS _ _ ⟨df, E', ?_, by rw [size_put, hsz, length_setO]⟩
 rw [getT_setO]
 exact hput

theorem wpIn_of_dieS {next : Act → World → Prop} {Q : Exit → Act → World → Prop} (hnd : ∀ c, o.op ≠ .defer c) {f : FuncId} {args0 args : List (SV C)} {L : Recs C} {ch : List PanicEntry} {Hp' : List (HS C)} {T0 T : List (SV C)} {Hp0 Hp : List (HS C)} {m0 : Nat} (hm0 : B.m0 = m0)
  (hBL : RecsOK D L B.w0 B.E0) (hR : RelX D B T0 Hp0 a w) (h : ∀ df, OutOK P D B (getT T0) (getC Hp0) df a w o (.call f args0)) (hsub : SubA D m0 T0 Hp0 args0 T Hp args) (hc : DieS P D L f args Hp ch Hp')
  (hn : ∀ w', RelX D B T Hp' a w' → Q (.panic ch) a w') : o.wpIn (Fc r) 0 P a w next Q := by
 refine ⟨fun _ _ => trivial, ?_⟩
 obtain ⟨df, E, hR, hsz⟩ := hR
 obtain ⟨vs, hd, hrun⟩ := h df E hR
 obtain ⟨E1, hR1, hsz1, hd1⟩ := hsub B E df a w hm0 hR hsz
 have hd := hd1 vs hd
 obtain ⟨hc1, hc2⟩ := hc.run
 rw [show (Fc r).round = r from rfl, Oper.semAt_eq r _ _ hnd, hrun, hc1]
 refine ⟨fun h => by simp [Fc] at h, ?_⟩
 have hcalls := hc2 B _ df a w E1 hBL hR1 vs hd
 have hcalls' : CallsIn (Fc r) (0 - 1) P f vs.toArray w fun e w' => ∃ E', e = .panicked ch ∧ Rel D B E' (getT T) (getC Hp') df a w' := hcalls
 refine hcalls'.mono ?_
 rintro e w' ⟨E', rfl, hR'⟩
 exact hn w' ⟨df, E', hR', hsz1⟩

theorem wpIn_of_yieldS {next : Act → World → Prop} {Q : Exit → Act → World → Prop} (hnd : ∀ c, o.op ≠ .defer c) {c : Nat} {args : List (SV C)} {L : Recs C} {S : Bool → List (HS C) → Prop} {T : List (SV C)} {Hp : List (HS C)}
  (hBL : RecsOK D L B.w0 B.E0) (hR : RelX D B T Hp a w) (h : ∀ df, OutOK P D B (getT T) (getC Hp) df a w o (.yieldc c args)) (hc : YieldS P D L c args Hp S)
  (hn : ∀ q Hp', S q Hp' → ∀ a' w', RelX D B (setO T o.dst (.p (.bool q))) Hp' a' w' → next a' w') : o.wpIn (Fc r) 0 P a w next Q := by
 refine ⟨fun _ _ => trivial, ?_⟩
 obtain ⟨df, E, hR, hsz⟩ := hR
 obtain ⟨b, hb, hy⟩ := hc r B _ df a w E hBL hR
 obtain ⟨vs, hd, hrun⟩ := h df E hR b hb
 obtain ⟨f, tmps, assign, body, hy1, hy2⟩ := hy vs hd
 rw [show (Fc r).round = r from rfl, Oper.semAt_eq r _ _ hnd, hrun, hy1, Oper.uponIn_round]
 refine ⟨fun h => by simp [Fc] at h, ?_⟩
 refine RoundIn.mono hy2 ?_
 rintro e w' ⟨q, E', Hp', rfl, hR', hS⟩
 have hput := hR'.put hsz o.dst (x := .p (.bool q)) (.inr (by simp only [Den]; exact .bool q))
 refine hn _ _ hS _ _ ⟨df, E', ?_, by rw [size_put, hsz, length_setO]⟩
 rw [getT_setO]
 exact hput

theorem relX_bool {T : List (SV C)} {Hp : List (HS C)} {d : Nat} {b : Bool} (h : RelX D B T Hp a w) (hd : getT T d = .p (.bool b)) : a.tmps.getD d undef = .bool b ∧ RelX D B (setT T d (.p (.bool b))) Hp a w := by
 obtain ⟨df, h⟩ := h
 exact ⟨(relL_bool h hd).1, df, (relL_bool h hd).2⟩
theorem relX_skip {T : List (SV C)} {Hp : List (HS C)} (h : RelX D B T Hp a w) (d : Option Nat) : RelX D B (setO T d (.tuple [])) Hp (a.put d undef) w := by
 obtain ⟨df, h⟩ := h
 exact ⟨df, relL_skip h d⟩

theorem stepR_scope {b : Frame} {k : List Item} {cs : List Frame} {c : Code} : step P (lone (b.atR a (.code (.scope c) :: k)) cs w) = .next (lone (b.atR a (.code c :: .inScope c :: k)) cs w) :=
 step_lone_go (by simp [stepG, stepG.exec, Frame.atR])
theorem stepR_inScope {b : Frame} {k : List Item} {cs : List Frame} {c : Code} : step P (lone (b.atR a (.inScope c :: k)) cs w) = .next (lone (b.atR a k) cs w) :=
 step_lone_go (by simp [stepG, stepG.exec, Frame.atR])
/-- a scope through which the run goes without a goto -/
theorem wpIn_scope_straight {F : Fence} {n : Nat} {c : Code} (h : c.wpIn F n P (Exit.noGoto Q) a w) : (Code.scope c).wpIn F n P Q a w := by
  intro b k cs hro hb hr
  have h0 : (lone (b.atR a (.code (.scope c) :: k)) cs w).fenced P F := fenced_calm hb hr rfl
  obtain ⟨e, a₁, w₁, hq, harr⟩ := h b (.inScope c :: k) cs hro hb hr
  cases e with
  | normal => exact ⟨.normal, a₁, w₁, hq, .head h0 stepR_scope (StepsIn.trans harr (.one (fenced_calm hb hr rfl) stepR_inScope))⟩
  | exit id =>
    have hx : exitTo id (.inScope c :: k) = exitTo id k := by simp [exitTo]
    exact ⟨.exit id, a₁, w₁, hq, fun k' hk => .head h0 stepR_scope (harr.1 k' (by rw [hx]; exact hk)),
      fun hr' hk => let ⟨k₁, h1, h2⟩ := harr.2 hr' (by rw [hx]; exact hk); ⟨k₁, h1, .head h0 stepR_scope h2⟩⟩
  | goto l => exact hq.elim
  | ret => exact ⟨_, a₁, w₁, hq, .of_steps (.one h0 stepR_scope) harr⟩
  | panic ch => exact ⟨_, a₁, w₁, hq, .of_steps (.one h0 stepR_scope) harr⟩
  | outgrown => exact ⟨_, a₁, w₁, hq, .of_steps (.one h0 stepR_scope) harr⟩

theorem after_ok (A : Aux C D) (hT : TabOK P D tab) {X : Ctx C} (hX : CtxOK D X B r) {R : Kont C} {all rest : List Oper} {k : List (It C)} {T : List (SV C)} {Hp : List (HS C)} {Y : Prop}
  (ih : ∀ (k : List (It C)) (T : List (SV C)) (Hp : List (HS C)), R k T Hp → ∀ a w, RelX D B T Hp a w → postX r P D B Q k .normal a w) (hR : RelX D B T Hp a w)
  (h : after0 P D X R Y o.dst all rest k T Hp (exec A tab o.op (valsOf T (opnds o.op)) (hsOf Hp (valsOf T (opnds o.op))) (hlen Hp))) : postX r P D B Q (.op1 all o rest :: k) .normal a w ∨ Y := by
 have hR0 := hR
 obtain ⟨df, E, hR', hsz⟩ := hR
 have hok : ∀ df E, Rel D B E (getT T) (getC Hp) df a w → OutOK P D B (getT T) (getC Hp) df a w o (execV A tab o.op (valsOf T (opnds o.op)) Hp) := fun df E hR' => execV_ok (o := o) A hT hR'
 have hok0 := hok df E hR'
 have hnd : exec A tab o.op (valsOf T (opnds o.op)) (hsOf Hp (valsOf T (opnds o.op))) (hlen Hp) ≠ .stuck → ∀ c, o.op ≠ .defer c := by
  intro hne c hc
  exact hne (by rw [hc]; rfl)
 unfold execV at hok hok0
 generalize exec A tab o.op (valsOf T (opnds o.op)) (hsOf Hp (valsOf T (opnds o.op))) (hlen Hp) = out at hok hok0 h hnd
 simp only [postX, Exit.then]
 cases out with
 | stuck => exact .inr h
 | ask q K =>
  obtain ⟨q', hq, h2⟩ := h.h
  rw [setOK_eq] at h2
  exact .inl (wpIn_of_run (hnd (by simp)) ⟨E, hR', hsz⟩ (hok0 q' hq) fun a' w' hr => ih _ _ _ h2 a' w' ⟨df, hr⟩)
 | may p v =>
  obtain ⟨ht, hf⟩ := h
  rw [setOK_eq] at ht hf
  obtain ⟨b, hb, hrun⟩ := hok0
  cases b with
  | true => exact .inl (wpIn_of_run (hnd (by simp)) ⟨E, hR', hsz⟩ hrun fun a' w' hr => ih _ _ _ (ht (hb rfl)) a' w' ⟨df, hr⟩)
  | false => exact .inl (wpIn_of_run (hnd (by simp)) ⟨E, hR', hsz⟩ hrun fun a' w' hr => ih _ _ _ hf a' w' ⟨df, hr⟩)
 | val v => simp only [after0, setOK_eq] at h; exact .inl (wpIn_of_run (hnd (by simp)) ⟨E, hR', hsz⟩ hok0 fun a' w' hr => ih _ _ _ h a' w' ⟨df, hr⟩)
 | side p v => simp only [after0, setOK_eq] at h; exact .inl (wpIn_of_run (hnd (by simp)) ⟨E, hR', hsz⟩ (hok0 h.1) fun a' w' hr => ih _ _ _ h.2 a' w' ⟨df, hr⟩)
 | mem v ws => simp only [after0, setOK_eq, setCsK_eq] at h; exact .inl (wpIn_of_run (hnd (by simp)) ⟨E, hR', hsz⟩ hok0 fun a' w' hr => ih _ _ _ h a' w' ⟨df, hr⟩)
 | smem p v ws => simp only [after0, setOK_eq, setCsK_eq] at h; exact .inl (wpIn_of_run (hnd (by simp)) ⟨E, hR', hsz⟩ (hok0 h.1) fun a' w' hr => ih _ _ _ h.2 a' w' ⟨df, hr⟩)
 | call f args =>
  simp only [after0, forceV_eq] at h
  obtain ⟨T1, Hp1, args1, hsub, hor⟩ := h.h
  have hokc : ∀ df, OutOK P D B (getT T) (getC Hp) df a w o (.call f args) := fun df E' hR'' => (hok df E' hR'') E' hR''
  rcases hor with ⟨S, hc, h2⟩ | ⟨ch, Hp', hc, h2⟩
  rotate_left
  ·exact .inl (wpIn_of_dieS (hnd (by simp)) hX.m0 hX.L hR0 hokc hsub hc fun w' hr => ih _ _ _ h2 a w' hr)
  exact .inl (wpIn_of_callS (hnd (by simp)) hX.m0 hX.L hR0 hokc hsub hc fun ret Hp' hS a' w' hr => ih _ _ _ (h2 ret Hp' hS) a' w' hr)
 | yieldc c args =>
  simp only [after0] at h
  obtain ⟨S, hc, h2⟩ := h.h
  have hokc : ∀ df, OutOK P D B (getT T) (getC Hp) df a w o (.yieldc c args) := fun df E' hR'' => (hok df E' hR'') E' hR''
  exact .inl (wpIn_of_yieldS (hnd (by simp)) hX.L hR0 hokc hc fun q Hp' hS a' w' hr => ih _ _ _ (h2 q Hp' hS) a' w' hr)
theorem gx_sound (A : Aux C D) (hT : TabOK P D tab) {X : Ctx C} (hX : CtxOK D X B r) {Φ : Post C} (hQ : ∀ e a w T Hp, Φ e T Hp → RelX D B T Hp a w → Q e a w) : ∀ (n : Nat) (k : List (It C)) (T : List (SV C)) (Hp : List (HS C)), gx P A tab X Φ n k T Hp →
  ∀ a w, RelX D B T Hp a w → postX r P D B Q k .normal a w := by
 intro n
 induction n with
 | zero => intro k T Hp h; exact h.elim
 | succ n ih =>
  intro k T Hp h a w hR
  simp only [gx] at h
  generalize gx P A tab X Φ n = R at ih h
  unfold gxStep at h
  split at h
  ·exact hQ _ _ _ _ _ h hR
  ·exact wpIn_skip (ih _ _ _ h a w hR)
  ·exact wpIn_label (ih _ _ _ h a w hR)
  ·exact wpIn_seq (ih _ _ _ h a w hR)
  ·refine wpIn_region_list ?_
   have := ih _ _ _ h a w hR
   simpa [postX, Exit.then] using this
  ·rename_i id ops k
   obtain ⟨df, hR⟩ := hR
   obtain ⟨T1, Hp1, hsub, h1⟩ := h.h
   have hR := hsub B df _ _ hX.m0 hR
   rcases h1 with h1 | h1
   rotate_left
   ·have := drawDie_sound (r := r) (id := id) (Q := postX r P D B Q k) A hT h1 hR fun ch T' Hp' a' w' hk hr => ih _ _ _ hk a' w' ⟨df, hr⟩
    simpa [postX, Exit.then] using this
   have := drawVC_sound (r := r) (id := id) (Q := postX r P D B Q k) A hT h1 hR fun T' Hp' a' w' hk hr => ih _ _ _ hk a' w' ⟨df, hr⟩
   simpa [postX, Exit.then] using this
  ·rename_i c x y k
   unfold condC at h
   split at h
   ·rename_i b hb
    obtain ⟨df, E, hR', hsz⟩ := hR
    have hd := ev_den hR' c
    rw [← evT_eq, hb] at hd
    have hc := den_bool hd
    cases b with
    | true => exact wpIn_cond_true hc (ih _ _ _ h a w ⟨df, E, hR', hsz⟩)
    | false => exact wpIn_cond_false hc (ih _ _ _ h a w ⟨df, E, hR', hsz⟩)
   ·cases h
  ·exact wpIn_block (ih _ _ _ h a w hR)
  ·rename_i body k
   obtain ⟨γ, I, good, μ, g0, h0, hs0, hround⟩ := h.h
   have hsub : ∀ {T Hp T' Hp' a w}, SubS D X.m0 T Hp T' Hp' → RelX D B T Hp a w → RelX D B T' Hp' a w := fun hs ⟨df, hr⟩ => ⟨df, hs B df _ _ hX.m0 hr⟩
   refine wpIn_loop_ghost (fun n a w => ∃ g, good g ∧ μ g = n ∧ RelX D B (I g).1 (I g).2 a w) (μ g0) ⟨g0, h0, rfl, hsub hs0 hR⟩ ?_
   rintro _ a w ⟨g, hg, rfl, hRg⟩
   have := ih _ _ _ (hround g hg (fun T' Hp' => ∃ g', good g' ∧ μ g' < μ g ∧ SubS D X.m0 T' Hp' (I g').1 (I g').2) fun T' Hp' g' h1 h2 h3 => ⟨g', h1, h2, h3⟩) a w hRg
   refine wpIn_mono this ?_
   intro e a' w' he
   cases e with
   | normal =>
    obtain ⟨T', Hp', ⟨g', h1, h2, h3⟩, hR'⟩ := he
    exact ⟨μ g', h2, g', h1, rfl, hsub h3 hR'⟩
   | exit id => exact he
   | goto l => exact he
   | ret => exact he
   | panic c => exact he
   | outgrown => exact he
  ·rename_i id k
   refine wpIn_exit (postX_exit id k ?_)
   unfold atExit at h
   cases hu : unwind id k with
   | none => rw [hu] at h; exact hQ _ _ _ _ _ h hR
   | some k' => rw [hu] at h; exact ih _ _ _ h a w hR
  ·exact wpIn_ret (postX_ret _ (hQ _ _ _ _ _ h hR))
  ·exact wpIn_scope_straight (ih _ _ _ h a w hR)
  ·exact ih _ _ _ h a w hR
  ·exact postX_panic _ (hQ _ _ _ _ _ h hR)
  ·rename_i g ps assign body k
   obtain ⟨S, hS, hn⟩ := h.h
   refine hS r B a w _ hX hR ?_
   intro j Hp' a' w' hj hR'
   have := hn j Hp' hj
   cases j with
   | none => exact ih _ _ _ this a' w' hR'
   | some c => exact ih _ _ _ this a' w' hR'
  ·exact ih _ _ _ h a w hR
  ·exact ⟨_, _, h, hR⟩
  ·have := ih _ _ _ h a w hR
   simp only [postX, Exit.then, wpListIn]
   exact this
  ·rename_i all dst op ty pos after rest k
   have := ih _ _ _ h a w hR
   simp only [postX, Exit.then] at this ⊢
   simp only [wpListIn, Region.wanted, if_true]
   exact this
  ·rename_i all dst op ty pos after j want rest k
   cases hg : gslot all j with
   | none => rw [hg] at h; exact h.elim
   | some d =>
    rw [hg] at h
    simp only [guardO] at h
    unfold guardX at h
    split at h
    ·rename_i b hb
     obtain ⟨hv, hR2⟩ := relX_bool hR hb
     have hy := yielded_slot hg b hv
     simp only [postX, Exit.then, wpListIn, Region.wanted, hy]
     cases want <;> cases b <;> simp only [condX, setTK_eq, setOK_eq] at h
     ·have := ih _ _ _ h a w hR2
      simp only [postX, Exit.then] at this
      simp only [beq_self_eq_true, if_true]
      exact this
     ·have := ih _ _ _ h (a.put dst undef) w (relX_skip hR2 dst)
      simp only [postX, Exit.then] at this
      exact ⟨fun _ _ => trivial, this⟩
     ·have := ih _ _ _ h (a.put dst undef) w (relX_skip hR2 dst)
      simp only [postX, Exit.then] at this
      exact ⟨fun _ _ => trivial, this⟩
     ·have := ih _ _ _ h a w hR2
      simp only [postX, Exit.then] at this
      simp only [beq_self_eq_true, if_true]
      exact this
    ·rename_i hb
     have hv : a.tmps.getD d undef = .tuple #[] := by
      obtain ⟨df, E, hR', hsz⟩ := hR
      have hden := hR'.den d
      rw [hb] at hden
      simp only [Den, DenA] at hden
      obtain ⟨xs, e, hx⟩ := hden
      have : xs = #[] := by simpa using hx
      rw [e, this]
     have hy := yielded_undef hg hv
     rw [setOK_eq] at h
     have := ih _ _ _ h (a.put dst undef) w (relX_skip hR dst)
     simp only [postX, Exit.then] at this
     simp only [postX, Exit.then, wpListIn, Region.wanted, hy]
     exact ⟨fun _ _ => trivial, this⟩
    ·cases h
  ·rename_i all o rest k
   rw [forceV_eq, hlenK_eq, Nat.add_zero] at h
   unfold execX at h
   rcases after_ok A hT hX ih hR h with h | h
   ·exact h
   ·rcases h.h with ⟨T1, Hp1, hsub, h1⟩ | ⟨x, t, u, hop, honly, h2⟩ | ⟨v, ws, hnd, hrun, h2⟩
    rotate_left
    rotate_left
    ·rw [setOK_eq, setCsK_eq] at h2
     obtain ⟨df, E, hR', hsz⟩ := hR
     exact wpIn_of_run hnd ⟨E, hR', hsz⟩ (hrun o B E df a w rfl hR') fun a' w' hr => ih _ _ _ h2 a' w' ⟨df, hr⟩
    rotate_right
    ·have hE := ih _ _ _ h2 a w hR
     obtain ⟨df, E, hR', hsz⟩ := hR
     have hd := ev_den hR' x
     rw [← evT_eq] at hd
     have hev := honly w E _ hd
     have hrun : (execOp a.eval o).run P w = .halt (.panic (.iface t u)) w := by
      unfold execOp
      rw [hop]
      simp only [hev]
      rfl
     refine ⟨fun _ _ => trivial, ?_⟩
     rw [show (Fc r).round = r from rfl, Oper.semAt_eq r _ _ (fun c hc => by rw [hop] at hc; cases hc), hrun]
     exact hE
    obtain ⟨df, E, hR', hsz⟩ := hR
    obtain ⟨E1, hR1, hsz1, _⟩ := hsub B E df a w hX.m0 hR' hsz
    rcases after_ok A hT hX ih ⟨df, E1, hR1, hsz1⟩ h1 with h | h
    ·exact h
    ·exact h.elim
  ·cases h
end
end Go.SX

/-
 SX, part V3: what meets the stops: contracts, calls in place, ranges over functions, rounds.
-/
namespace Go.SX
open Go.RowKit
variable {C : Cod}
section
variable {P : Program} {D : Codec C} {tab : Tab C} {B : Base} {E : Env} {σ : Nat → SV C} {H : Nat → HS C} {df : List Deferred} {a : Act} {w : World} {o : Oper} {r : Option Nat}
variable {X : Ctx C} {R : Kont C} {f : FuncId} {args : List (SV C)} {dst : Option Nat} {all rest : List Oper} {k : List (It C)} {T : List (SV C)} {Hp : List (HS C)}

/-- where a walk within a walk begins -/
def Base.here (w : World) (E : Env) (m : Nat) (hm : ∀ c, m ≤ c → E.β c = .fresh) : Base := ⟨w, E, fun b => ∃ c, E.β c = .loc b, m, hm, [], false⟩
theorem fresh_of_sat (hs : Sat D w E (getC Hp)) : ∀ c, hlen Hp ≤ c → E.β c = .fresh := fun c hc => fresh_β hs (getC_ge Hp c (by rw [← hlen_eq]; exact hc))

theorem Fr.here {m : Nat} {hm : ∀ c, m ≤ c → E.β c = .fresh} : Fr (Base.here w E m hm) E w :=
 ⟨rfl, rfl, rfl, Nat.le_refl _, fun b _ _ => rfl, Later.refl w E, fun b hb => .inl hb, fun c b hb => .inl ⟨c, hb⟩⟩

theorem Fr.trans {w' : World} {E' : Env} {m : Nat} {hm : ∀ c, m ≤ c → E.β c = .fresh} (h : Fr B E w) (h' : Fr (Base.here w E m hm) E' w') : Fr B E' w' := by
 have hO : ∀ b, (∃ c, E.β c = .loc b) → B.O b ∨ B.w0.heap.size ≤ b := fun b ⟨c, hc⟩ => h.newO c b hc
 refine ⟨h'.os.trans h.os, h'.tape.trans h.tape, h'.output.trans h.output, Nat.le_trans h.size h'.size, fun b hb ho => ?_, h.late.trans h'.late, fun b hb => ?_, fun c b hc => ?_⟩
 ·refine (h'.same b (Nat.lt_of_lt_of_le hb h.size) fun hx => ?_).trans (h.same b hb ho)
  rcases hO b hx with h1 | h1
  ·exact ho h1
  ·omega
 ·rcases h'.newF b hb with h1 | h1 | h1
  ·exact h.newF b h1
  ·exact .inr (hO b h1)
  ·exact .inr (.inr (Nat.le_trans h.size h1))
 ·rcases h'.newO c b hc with h1 | h1
  ·exact hO b h1
  ·exact .inr (Nat.le_trans h.size h1)

/-- the frame of a function at its beginning -/
theorem enter_rel {vs : List Value} {n : Nat} {args : List (SV C)} {m : Nat} {hm : ∀ c, m ≤ c → E.β c = .fresh} (hs : Sat D w E (getC Hp)) (hd : DenA D w E args vs) :
  RelX D (Base.here w E m hm) (args ++ anys (n - args.length)) Hp { tmps := vs.toArray ++ Array.replicate (n - vs.toArray.size) undef, defers := [] } w := by
 have hlen := denA_length _ _ hd
 refine ⟨[], E, ⟨fun i => ?_, hs, Fr.here, rfl, Marks.nil⟩, by simp [anys_length, hlen]⟩
 rw [getT_append]
 split
 ·rename_i hi
  have := denA_getT _ _ hd i hi
  have e : (vs.toArray ++ Array.replicate (n - vs.toArray.size) undef).getD i undef = vs.getD i undef := by
   rw [Array.getD_eq_getD_getElem?, Array.getElem?_append_left (by simp; omega)]
   simp [List.getD_eq_getElem?_getD]
  rw [e]; exact this
 ·rw [getT_anys]; trivial

/-- A function's contract, from its conditions. -/
theorem meets_of_gx (A : Aux C D) (hT : TabOK P D tab) {f : FuncId} {fn : Func} {c : Code} (hf : P.funcs[f]? = some fn) (hb : fn.body = some c) (henter : ∀ args w, (callFunc f args).run P w = .ok (.enter f args) w)
  {args : List (SV C)} {H0 : List (HS C)} {ret : SV C} {H1 : List (HS C)} (n : Nat)
  (h : forceV (args ++ anys (fn.ntmps - args.length)) fun T0 => forceL H0 fun Hp0 => gx P A tab ⟨none, [], H0.length, false⟩ (EndPost D tab fn.results.toList H0.length ret H1) n [.code c] T0 Hp0) : Meets P D f args H0 ret H1 := by
 rw [forceV_eq, forceL_eq] at h
 refine ⟨henter, fun w E hm vs hs hd => ?_⟩
 refine callsIn_of_wp_marks hf hb trivial ?_ rfl
 have hR := enter_rel (n := fn.ntmps) (m := H0.length) (hm := hm) hs hd
 have hX : CtxOK D (⟨none, [], H0.length, false⟩ : Ctx C) (Base.here w E H0.length hm) none := ⟨rfl, fun c ri hc => by simp [lkR] at hc, trivial, rfl⟩
 have := gx_sound (r := none) (Q := bodyPostM (Fc none) 0 P fn fun e w' => ∃ v E', e = .returned v ∧ Den D w' E' ret v ∧ Sat D w' E' (getC H1) ∧ Fr (Base.here w E H0.length hm) E' w') A hT hX
  (fun e a w' T Hp hΦ hRL => ?_) n _ _ _ h _ _ hR
 ·exact this
 ·obtain ⟨he, θ, l, h1, h2, h3⟩ := hΦ
  obtain ⟨df, E1, hR1, _⟩ := hRL
  have key : LeavesInM (Fc none) 0 P fn a.tmps (fun e w' => ∃ v E', e = .returned v ∧ Den D w' E' ret v ∧ Sat D w' E' (getC H1) ∧ Fr (Base.here w E H0.length hm) E' w') a.defers .returning w' := by
   refine leaves_rel hR1 fun w2 E2 hR2 => ?_
   obtain ⟨v, h4, h5⟩ := results_run (P := P) (fn := fn) hT hR2 h1
   obtain ⟨g1, g2, g3⟩ := view_env hR2.sat hR2.fr h3
   exact ⟨v, h4, v, _, rfl, view_den hR2.sat g1 _ _ _ h2 h5, g2, g3⟩
  rcases he with rfl | rfl
  ·exact key
  ·exact key

/-- what a call in place does at its end -/
def endX (D : Codec C) (tab : Tab C) (rs : List ResultVar) (R : Kont C) (dst : Option Nat) (all rest : List Oper) (k : List (It C)) (T : List (SV C)) : Post C := fun e T' Hp' =>
 match e with
 | .normal => endR (resOf D tab T' Hp' rs) Hp'
 | .ret => endR (resOf D tab T' Hp' rs) Hp'
 | _ => False
where endR (l : Option (List (SV C))) (Hp' : List (HS C)) : Prop := match l with
 | some l => setOK T dst (retOf l) fun T'' => R (.ops all rest :: k) T'' Hp'
 | none => False
def endSome (D : Codec C) (tab : Tab C) (rs : List ResultVar) (S : SV C → List (HS C) → Prop) : Post C := fun e T' Hp' =>
 (e = .normal ∨ e = .ret) ∧ ∃ l, resOf D tab T' Hp' rs = some l ∧ S (retOf l) Hp'
theorem endX_some {rs : List ResultVar} {e : Exit} {T' : List (SV C)} {Hp' : List (HS C)} (h : endX D tab rs R dst all rest k T e T' Hp') :
  endSome D tab rs (fun ret Hp' => R (.ops all rest :: k) (setO T dst ret) Hp') e T' Hp' := by
 have key : endX.endR R dst all rest k T (resOf D tab T' Hp' rs) Hp' → ∃ l, resOf D tab T' Hp' rs = some l ∧ R (.ops all rest :: k) (setO T dst (retOf l)) Hp' := by
  intro h
  unfold endX.endR at h
  split at h
  ·rename_i l hl; rw [setOK_eq] at h; exact ⟨l, hl, h⟩
  ·exact h.elim
 cases e with
 | normal => exact ⟨.inl rfl, key h⟩
 | ret => exact ⟨.inr rfl, key h⟩
 | _ => exact h.elim

/-- a call's outcomes out of its body's walk -/
theorem callS_of_gx (A : Aux C D) (hT : TabOK P D tab) {L : Recs C} {fn : Func} {c : Code} (hf : P.funcs[f]? = some fn) (hb : fn.body = some c) (henter : ∀ args w, (callFunc f args).run P w = .ok (.enter f args) w) (n : Nat)
  {S : SV C → List (HS C) → Prop} {Φ : Post C} (hΦ : ∀ e T' Hp', Φ e T' Hp' → endSome D tab fn.results.toList S e T' Hp')
  (h : gx P A tab ⟨none, L, hlen Hp, false⟩ Φ n [.code c] (args ++ anys (fn.ntmps - args.length)) Hp) : CallS P D L f args Hp S := by
 refine ⟨.inl ⟨henter, fun B σ df a w E hBL hR vs hd => ?_⟩⟩
 refine callsIn_of_wp_marks hf hb trivial ?_ rfl
 have hm := fresh_of_sat hR.sat
 have hR0 := enter_rel (n := fn.ntmps) (m := hlen Hp) (hm := hm) hR.sat hd
 have hX : CtxOK D (⟨none, L, hlen Hp, false⟩ : Ctx C) (Base.here w E (hlen Hp) hm) none := ⟨rfl, hBL.mono hR.fr.late, trivial, rfl⟩
 have := gx_sound (r := none) (Q := bodyPostM (Fc none) 0 P fn fun e w' => ∃ v E' ret Hp', e = .returned v ∧ Den D w' E' ret v ∧ Rel D B E' σ (getC Hp') df a w' ∧ S ret Hp') A hT hX
  (fun e a' w' T Hp' hΦ' hRL => ?_) n _ _ _ h _ _ hR0
 ·exact this
 ·obtain ⟨he, l, h1, h2⟩ := hΦ _ _ _ hΦ'
  obtain ⟨df', E1, hR1, _⟩ := hRL
  have key : LeavesInM (Fc none) 0 P fn a'.tmps (fun e w' => ∃ v E' ret Hp', e = .returned v ∧ Den D w' E' ret v ∧ Rel D B E' σ (getC Hp') df a w' ∧ S ret Hp') a'.defers .returning w' := by
   refine leaves_rel hR1 fun w2 E2 hR2 => ?_
   obtain ⟨v, h4, h5⟩ := results_run (P := P) (fn := fn) hT hR2 h1
   exact ⟨v, h4, v, E2, _, _, rfl, h5, hR.later hR2.fr.late hR2.sat (hR.fr.trans hR2.fr), h2⟩
  rcases he with rfl | rfl
  ·exact key
  ·exact key

/-- A call, walked in place. -/
theorem call_in (A : Aux C D) (hT : TabOK P D tab) {fn : Func} {c : Code} (hf : P.funcs[f]? = some fn) (hb : fn.body = some c) (henter : ∀ args w, (callFunc f args).run P w = .ok (.enter f args) w) (n : Nat)
  (h : forceV (args ++ anys (fn.ntmps - args.length)) fun T0 => hlenK Hp 0 fun m => gx P A tab ⟨none, X.L, m, false⟩ (endX D tab fn.results.toList R dst all rest k T) n [.code c] T0 Hp) : CallX P D X R f args dst all rest k T Hp := by
 rw [forceV_eq, hlenK_eq, Nat.add_zero] at h
 exact CallX.of _ (callS_of_gx A hT hf hb henter n (fun e T' Hp' => endX_some) h) fun ret Hp' hS => hS

/-- A call by its contract. -/
theorem callX_of_at {ret : SV C} {ws : List (Nat × HS C)} (hc : CallAt P D f args (getC Hp) ret ws) (h : setOK T dst ret fun T' => setCsK Hp ws fun Hp' => R (.ops all rest :: k) T' Hp') : CallX P D X R f args dst all rest k T Hp := by
 rw [setOK_eq, setCsK_eq] at h
 refine CallX.of (fun ret' Hp' => ret' = ret ∧ Hp' = setCs Hp ws) ⟨?_⟩ ?_
 ·rcases hc.run with ⟨hc1, hc2⟩ | hx
  ·refine .inl ⟨hc1, fun B σ df a w E _ hR vs hd => (hc2 B σ df a w E hR vs hd).mono ?_⟩
   rintro e w' ⟨v, E', rfl, hv, hR'⟩
   exact ⟨v, E', ret, setCs Hp ws, rfl, hv, by rw [getC_setCs]; exact hR', rfl, rfl⟩
  ·refine .inr fun B σ df a w E hR vs hd => ?_
   obtain ⟨v, w', E', h1, hv, hR'⟩ := hx B σ df a w E hR vs hd
   exact ⟨v, w', E', ret, setCs Hp ws, h1, hv, by rw [getC_setCs]; exact hR', rfl, rfl⟩
 ·rintro ret' Hp' ⟨rfl, rfl⟩; exact h
theorem callx_pure {ret : SV C} (hM : Meets P D f args [] ret []) (hargs : renL [] args = some args) (hret : renS [] ret = some ret) (h : setOK T dst ret fun T' => R (.ops all rest :: k) T' Hp) : CallX P D X R f args dst all rest k T Hp :=
 callX_of_at (callAt_pure hM hargs hret Hp) h
theorem callx_heap {args0 : List (SV C)} {H0 H0' H1 H1' : List (HS C)} {ret0 ret : SV C} (ρ : List (Option Nat)) (hM : Meets P D f args0 H0 ret0 H1)
  (hargs : renL ρ args0 = some args) (hH0 : renHs ρ H0 = some H0') (hat : heapAt (getC Hp) ρ H0') (θ : List (Option Nat)) (hθ : θ = ρ ++ newIds (H1.length - H0.length) (hlen Hp)) (hnd : ndO θ = true) (hle : H0.length ≤ H1.length)
  (hH1 : renHs θ H1 = some H1') (hret : renS θ ret0 = some ret) (h : setOK T dst ret fun T' => setCsK Hp (zipW θ H1') fun Hp' => R (.ops all rest :: k) T' Hp') : CallX P D X R f args dst all rest k T Hp :=
 callX_of_at (callAt_of_meets hM ρ hargs hH0 hat θ hθ hnd hle hH1 hret) h

/-! ### Ranges over functions -/
/-- what the iterator's walk does at its end -/
def endRange (R : Kont C) (cl : Nat) (k : List (It C)) (T : List (SV C)) : Post C := fun e _ Hp' =>
 match e with
 | .normal => endR Hp' (getC Hp' cl)
 | .ret => endR Hp' (getC Hp' cl)
 | _ => False
where endR (Hp' : List (HS C)) (h : HS C) : Prop := match h with
 | .obj (.loop r) => match r.state with
  | .busy => False
  | _ => setCK Hp' cl (.obj (.loop { r with state := .exhausted })) fun Hp'' => afterRange R k T Hp'' r.pending
 | _ => False
def rangeOut (cl : Nat) (S : Option Code → List (HS C) → Prop) : Post C := fun e _ Hp' =>
 (e = .normal ∨ e = .ret) ∧ ∃ r, getC Hp' cl = .obj (.loop r) ∧ r.state ≠ .busy ∧ S r.pending (setC Hp' cl (.obj (.loop { r with state := .exhausted })))
theorem endRange_out {cl : Nat} {e : Exit} {T' : List (SV C)} {Hp' : List (HS C)} (h : endRange R cl k T e T' Hp') : rangeOut cl (fun j Hp' => afterRange R k T Hp' j) e T' Hp' := by
 have key : endRange.endR R cl k T Hp' (getC Hp' cl) → ∃ r, getC Hp' cl = .obj (.loop r) ∧ r.state ≠ .busy ∧ afterRange R k T (setC Hp' cl (.obj (.loop { r with state := .exhausted }))) r.pending := by
  intro h
  unfold endRange.endR at h
  split at h
  ·rename_i r hr
   split at h
   ·exact h.elim
   ·rename_i hst; rw [setCK_eq] at h; exact ⟨r, hr, hst, h⟩
  ·exact h.elim
 cases e with
 | normal => exact ⟨.inl rfl, key h⟩
 | ret => exact ⟨.inr rfl, key h⟩
 | _ => exact h.elim

theorem denA_cons {x : SV C} {l : List (SV C)} {v : Value} {vs : List Value} (h1 : Den D w E x v) (h2 : DenA D w E l vs) : DenA D w E (x :: l) (v :: vs) := by
 simp only [DenA]; exact ⟨v, vs, rfl, h1, h2⟩

theorem denA_mono {w' : World} {E' : Env} (hL : Later w E w' E') {l : List (SV C)} {vs : List Value} (h : DenA D w E l vs) : DenA D w' E' l vs := DenA.mono hL _ _ h

/-- A range over a function, walked in place. -/
theorem rangeS_of_gx (A : Aux C D) (hT : TabOK P D tab) {fn : Func} {c : Code} {first captured : List (SV C)} {g : Operand} {ps : Array Tmp} {assign body : Code} (hg : evT T g = .fn (.func f) first captured)
  (hf : P.funcs[f]? = some fn) (hb : fn.body = some c) (henter : ∀ args w, (callFunc f args).run P w = .ok (.enter f args) w) (hres : fn.results = #[]) (n : Nat) {S : Option Code → List (HS C) → Prop} {Φ : (RI C) → Post C}
  (hΦ : ∀ ri e T' Hp', Φ ri e T' Hp' → rangeOut (hlen Hp) S e T' Hp')
  (hlive : ∀ c, X.ar = some c → ∃ r, getC Hp c = .obj (.loop r))
  (h : ∀ (gn : FuncId) (tmps : Array Value) (bd : Nat), gx P A tab ⟨none, (hlen Hp, ⟨gn, tmps, bd, ps, assign, body, T⟩) :: X.L, hlen Hp + 1, false⟩ (Φ ⟨gn, tmps, bd, ps, assign, body, T⟩) n [.code c]
   ((first ++ (.yieldv (hlen Hp) :: captured)) ++ anys (fn.ntmps - (first ++ (.yieldv (hlen Hp) :: captured)).length)) (Hp ++ [.obj (.loop (mkLoop ⟨gn, tmps, bd, ps, assign, body, T⟩ .ready none))]))
  (hnm : X.nm = false) : RangeS P D X g ps assign body T Hp S := by
 intro r B a w Q hX hRX hQ
 obtain ⟨df, E, hR, hsz⟩ := hRX
 -- the function value
 have hgd := ev_den hR g
 rw [← evT_eq, hg] at hgd
 simp only [Den] at hgd
 obtain ⟨xs, ys, hgv, hd1, hd2⟩ := hgd
 refine wpIn_rangeFunc ?_
 intro gn hgn
 -- the record is laid: at an outermost loop behind a block for deferred calls
 obtain ⟨w1, E1, bd, mark, l, hent, hE1, hl, hL1, hmk, hfr⟩ : ∃ (w1 : World) (E1 : Env) (bd : Nat) (mark : List Deferred) (l : Nat),
   (Instr.enterLoop gn a.tmps ps assign body (Fc r).round).run P w = .ok (l, mark) w1 ∧ E1 = { F := E1.F, β := (E.up (hlen Hp) (.loc l)).β } ∧ w1.heap[l]? = some (.loop (mkLoop ⟨gn, a.tmps, bd, ps, assign, body, T⟩ .ready none)) ∧
   Later w E w1 E1 ∧ (∃ df1, mark ++ df = df1 ∧ Marks B E1 w1 df1) ∧ Sat D w1 E1 (getC (Hp ++ [.obj (.loop (mkLoop ⟨gn, a.tmps, bd, ps, assign, body, T⟩ .ready none))])) ∧ Fr B E1 w1 := by
  have hfresh : getC Hp (hlen Hp) = .fresh := getC_len Hp
  have happ : ∀ h : HS C, getC (Hp ++ [h]) = upH (getC Hp) (hlen Hp) h := by
   intro h; funext i
   have : ∀ (l : List (HS C)) (i : Nat), getC (l ++ [h]) i = if i = hlen l then h else getC l i := by
    intro l
    induction l with
    | nil => intro i; cases i <;> simp [getC, hlen]
    | cons x l ih => intro i; cases i with
     | zero => simp [getC, hlen]
     | succ i => simp [getC, hlen, ih i]
   rw [this]; rfl
  cases hr : r with
  | none =>
   have e1 := run_enterLoop_outer (P := P) (w := w) gn a.tmps ps assign body
   -- the block of the mark is persistent
   have hwF : ∀ b, E.F b → b ≠ w.heap.size := fun b hb e => by have := hR.sat.F b hb; omega
   have hL0 : Later w E (w.alloc (.deferred (some []))) { E with F := fun k => E.F k ∨ k = w.heap.size } :=
    ⟨fun b hb => ⟨.inl hb, Below.heap_alloc w _ b (hR.sat.F b hb)⟩, fun c => .inl rfl, fun c b _ _ cs T hcs => ⟨cs, T, Row.of (Below.heap_alloc w _ b hcs.lt) hcs, rfl⟩⟩
   have hR0 : Rel D B { E with F := fun k => E.F k ∨ k = w.heap.size } (getT T) (getC Hp) df a (w.alloc (.deferred (some []))) := by
    refine hR.later hL0 ⟨fun c => ?_, fun c b e => ?_, hR.sat.inj, fun b hb => ?_, hR.sat.glob.mono hL0.F⟩ ?_
    ·exact HS.ok_mono hL0 (hR.sat.ok c) fun b e => Below.heap_alloc w _ b (hR.sat.own c b e).1
    ·have := hR.sat.own c b e
     exact ⟨by simp; omega, fun h => h.elim this.2 (fun e => by omega)⟩
    ·rcases hb with hb | rfl
     ·have := hR.sat.F b hb; simp; omega
     ·simp
    ·refine ⟨hR.fr.os, hR.fr.tape, hR.fr.output, by have := hR.fr.size; simp; omega, fun b hb ho => (Below.heap_alloc w _ b (Nat.lt_of_lt_of_le hb hR.fr.size)).trans (hR.fr.same b hb ho), hR.fr.late.trans hL0, ?_, hR.fr.newO⟩
     rintro b (hb | rfl)
     ·exact hR.fr.newF b hb
     ·exact .inr (.inr hR.fr.size)
   have hR1 := hR0.allocO (c := hlen Hp) hfresh (.loop (mkLoop ⟨gn, a.tmps, w.heap.size, ps, assign, body, T⟩ .ready none)) (hs := .obj (.loop (mkLoop ⟨gn, a.tmps, w.heap.size, ps, assign, body, T⟩ .ready none)))
    ⟨World.alloc_heap_new _ _, by simp⟩
   have hβ : E.β (hlen Hp) = .fresh := fresh_β hR.sat hfresh
   have hL2 := later_alloc (w := w.alloc (.deferred (some []))) (E := { E with F := fun k => E.F k ∨ k = w.heap.size }) (c := hlen Hp) hβ (.loop (mkLoop ⟨gn, a.tmps, w.heap.size, ps, assign, body, T⟩ .ready none)) hR0.sat.F
   refine ⟨_, _, w.heap.size, _, _, e1, ?_, ?_, hL0.trans hL2, ⟨_, rfl, ?_⟩, ?_, hR1.fr⟩
   ·simp only [World.size_alloc]; rfl
   ·have := World.alloc_heap_new (w.alloc (.deferred (some []))) (.loop (mkLoop ⟨gn, a.tmps, w.heap.size, ps, assign, body, T⟩ .ready none)); rwa [World.size_alloc] at this
   ·obtain ⟨bs, hb1, hb2, hb3, _⟩ := hR1.marks
    refine ⟨w.heap.size :: bs, by simp [hb1], List.nodup_cons.2 ⟨fun hmem => ?_, hb2⟩, fun b hb => ?_, fun hn => by rw [hX.nm, hnm] at hn; cases hn⟩
    ·obtain ⟨bs', hb1', _, hb3', _⟩ := hR.marks
     have : bs = bs' := marks_inj _ _ (List.append_cancel_right (hb1.symm.trans hb1'))
     subst this
     have := hR.sat.F _ (hb3' _ hmem).1
     omega
    ·rcases List.mem_cons.1 hb with rfl | hb
     ·refine ⟨.inr rfl, (Below.heap_alloc _ _ _ (by simp)).trans (World.alloc_heap_new w _), hR.fr.size, fun hF => ?_⟩
      have := (hR.fr.late.F _ hF).1
      have := hR.sat.F _ this
      omega
     ·exact hb3 b hb
   ·rw [happ]; exact hR1.sat
  | some l0 =>
   -- a range within a round
   have har := hX.ar
   unfold ArOK at har
   rw [hr] at har
   cases hc0 : X.ar with
   | none => rw [hc0] at har; exact har.elim
   | some c0 =>
    rw [hc0] at har
    simp only at har
    obtain ⟨r0, hr0⟩ := hlive c0 hc0
    have hb0 : E.β c0 = .loc l0 := by
     have hok := hR.sat.ok c0
     rcases hR.fr.late.β c0 with e | e | e
     ·rw [e]; exact har
     ·rw [e, hr0] at hok; cases hok
     ·rw [har] at e; cases e
    have hok := hR.sat.ok c0
    rw [hb0, hr0] at hok
    have e1 := run_enterLoop_inner (P := P) hok.1 gn a.tmps ps assign body
    have hR1 := hR.allocO (c := hlen Hp) hfresh (.loop (mkLoop ⟨gn, a.tmps, r0.defers, ps, assign, body, T⟩ .ready none)) (hs := .obj (.loop (mkLoop ⟨gn, a.tmps, r0.defers, ps, assign, body, T⟩ .ready none)))
     ⟨World.alloc_heap_new _ _, by simp⟩
    have hβ : E.β (hlen Hp) = .fresh := fresh_β hR.sat hfresh
    have hL2 := later_alloc (w := w) (E := E) (c := hlen Hp) hβ (.loop (mkLoop ⟨gn, a.tmps, r0.defers, ps, assign, body, T⟩ .ready none)) hR.sat.F
    refine ⟨_, _, r0.defers, _, _, e1, rfl, World.alloc_heap_new _ _, hL2, ⟨_, rfl, hR1.marks⟩, ?_, hR1.fr⟩
    rw [happ]; exact hR1.sat
 obtain ⟨⟨df1, hdf1, hmk⟩, hfr⟩ := And.intro hmk hfr
 have hlb : E1.β (hlen Hp) = .loc l := by rw [hE1]; exact Env.up_same E _ _
 refine ⟨l, mark, w1, { target := .fn (.func f) ys, args := xs ++ #[.func (.yield l) #[] #[]] }, w1, f, (xs ++ #[.func (.yield l) #[] #[]]) ++ ys, w1, hent, ?_, ?_, ?_, ?_, ?_⟩
 ·simp only [resolve, hgv]
  simp [Act.eval, Deferred.ofValue, Sem.run_pure, go_sem]
 ·intro f' _; exact trivial
 ·simp [invoke, go_sem, henter]
 ·intro h; simp [Fc] at h
 ·have hR1 : Rel D B E1 (getT T) (getC (Hp ++ [.obj (.loop (mkLoop ⟨gn, a.tmps, bd, ps, assign, body, T⟩ .ready none))])) df1 { a with defers := mark ++ a.defers } w1 :=
   ⟨fun i => Den.mono hL1 _ _ (hR.den i), hfr.1, hfr.2, by rw [hR.defers]; exact hdf1, hmk⟩
  have hlen1 : hlen (Hp ++ [.obj (.loop (mkLoop ⟨gn, a.tmps, bd, ps, assign, body, T⟩ .ready none))]) = hlen Hp + 1 := by
   rw [hlen_eq, hlen_eq]; simp
  have hm : ∀ c, hlen Hp + 1 ≤ c → E1.β c = .fresh := by
   have := fresh_of_sat hR1.sat
   rw [hlen1] at this
   exact this
  have hd : DenA D w1 E1 (first ++ (.yieldv (hlen Hp) :: captured)) (xs.toList ++ (.func (.yield l) #[] #[] :: ys.toList)) :=
   denA_append _ _ _ _ (denA_mono hL1 hd1) (denA_cons (by simp only [Den, hlb]) (denA_mono hL1 hd2))
  have hvs : (xs ++ #[.func (.yield l) #[] #[]]) ++ ys = (xs.toList ++ (.func (.yield l) #[] #[] :: ys.toList)).toArray := by
   apply Array.ext'; simp
  rw [hvs]
  have hR0 := enter_rel (n := fn.ntmps) (m := hlen Hp + 1) (hm := hm) hR1.sat hd
  have hX1 : CtxOK D (⟨none, (hlen Hp, ⟨gn, a.tmps, bd, ps, assign, body, T⟩) :: X.L, hlen Hp + 1, false⟩ : Ctx C) (Base.here w1 E1 (hlen Hp + 1) hm) none := by
   refine ⟨rfl, fun c ri hc => ?_, trivial, rfl⟩
   simp only [lkR] at hc
   split at hc
   ·injection hc with hc; subst hc
    exact ⟨hsz, fun i => hR1.den i⟩
   ·exact (hX.L.mono (hR.fr.late.trans hL1)) c ri hc
  refine callsIn_of_wp_marks (F := Fc none) hf hb trivial ?_ rfl
  have := gx_sound (r := none) (Q := bodyPostM (Fc none) 0 P fn (rangePost (Fc r) 0 P l Q { a with defers := mark ++ a.defers })) A hT hX1
   (fun e a' w' T' Hp' hΦ' hRL => ?_) n _ _ _ (h gn a.tmps bd) _ _ hR0
  ·exact this
  ·obtain ⟨he, rr, hrr, hst, hS⟩ := hΦ _ _ _ _ hΦ'
   obtain ⟨df', E2, hR2, _⟩ := hRL
   have key : LeavesInM (Fc none) 0 P fn a'.tmps (rangePost (Fc r) 0 P l Q { a with defers := mark ++ a.defers }) a'.defers .returning w' := by
    refine leaves_rel hR2 fun w3 E3 hR3 => ?_
    -- no result is asked of it
    have hrun : ∃ v, (results fn a'.tmps).run P w3 = .ok v w3 := by
     refine ⟨.tuple #[], ?_⟩
     unfold results
     simp [hres]
    obtain ⟨v, hv⟩ := hrun
    have hl3 : E3.β (hlen Hp) = .loc l := by
     have hok := hR3.sat.ok (hlen Hp)
     rcases hR3.fr.late.β (hlen Hp) with e | e | e
     ·exact e.trans hlb
     ·rw [e, hrr] at hok; cases hok
     ·have e' : E1.β (hlen Hp) = .fresh := e
      rw [hlb] at e'; cases e'
    have hok := hR3.sat.ok (hlen Hp)
    rw [hl3, hrr] at hok
    obtain ⟨h1, h2⟩ := hR3.putO hl3 hrr (o' := .loop { rr with state := .exhausted }) (by simp)
    refine ⟨v, hv, rr.pending, _, run_endLoop hok.1 hst, ?_⟩
    have hLall : Later w1 E1 (w3.putObj l (.loop { rr with state := .exhausted })) E3 := h1.fr.late
    have hRfin : RelX D B T (setC Hp' (hlen Hp) (.obj (.loop { rr with state := .exhausted }))) { a with defers := mark ++ a.defers } (w3.putObj l (.loop { rr with state := .exhausted })) := by
     refine ⟨df1, E3, ?_, hsz⟩
     rw [getC_setC']
     exact hR1.later hLall h1.sat (hR1.fr.trans h1.fr)
    have := hQ rr.pending _ _ _ hS hRfin
    cases hp : rr.pending with
    | none => rw [hp] at this; exact this
    | some c => rw [hp] at this; exact this
   rcases he with rfl | rfl
   ·exact key
   ·exact key
def liveX (X : Ctx C) (Hp : List (HS C)) : Bool := match X.ar with
 | none => true
 | some c => match getC Hp c with
  | .obj (.loop _) => true
  | _ => false
theorem liveX_ok (h : liveX X Hp = true) : ∀ c, X.ar = some c → ∃ r, getC Hp c = .obj (.loop r) := by
 intro c hc
 unfold liveX at h
 rw [hc] at h
 simp only at h
 split at h
 ·rename_i r hr; exact ⟨r, hr⟩
 ·cases h
theorem range_in (A : Aux C D) (hT : TabOK P D tab) {fn : Func} {c : Code} {g : Operand} {first captured : List (SV C)} {ps : Array Tmp} {assign body : Code} (hg : evT T g = .fn (.func f) first captured)
  (hf : P.funcs[f]? = some fn) (hb : fn.body = some c) (henter : ∀ args w, (callFunc f args).run P w = .ok (.enter f args) w) (hres : fn.results = #[]) (hlive : liveX X Hp = true) (n : Nat)
  (h : ∀ (gn : FuncId) (tmps : Array Value) (bd : Nat), hlenK Hp 0 fun cl => forceV ((first ++ (.yieldv cl :: captured)) ++ anys (fn.ntmps - (first ++ (.yieldv cl :: captured)).length)) fun T0 =>
   forceL (Hp ++ [.obj (.loop (mkLoop ⟨gn, tmps, bd, ps, assign, body, T⟩ .ready none))]) fun Hp0 =>
   gx P A tab ⟨none, (cl, ⟨gn, tmps, bd, ps, assign, body, T⟩) :: X.L, cl + 1, false⟩ (endRange R cl k T) n [.code c] T0 Hp0) (hnm : X.nm = false := by rfl) :
  RangeX P D X R g (.fn (.func f) first captured) ps assign body k T Hp := by
 refine ⟨_, rangeS_of_gx A hT hg hf hb henter hres n (fun ri e T' Hp' => endRange_out) (liveX_ok hlive) ?_ hnm, fun j Hp' hS => hS⟩
 intro gn tmps bd
 have := h gn tmps bd
 rw [hlenK_eq, Nat.add_zero, forceV_eq, forceL_eq] at this
 exact this

/-! ### Rounds -/
/-- the round's end: what yield gives back -/
def endRound (R : Kont C) (c : Nat) (dst : Option Nat) (all rest : List Oper) (k : List (It C)) (T : List (SV C)) : Post C := fun e _ Hp' => at_ e Hp' (getC Hp' c)
where at_ (e : Exit) (Hp' : List (HS C)) (h : HS C) : Prop := match h with
 | .obj (.loop r) => match e with
  | .normal => setCK Hp' c (.obj (.loop { r with state := .ready, pending := none })) fun Hp'' => setOK T dst (.p (.bool true)) fun T' => R (.ops all rest :: k) T' Hp''
  | .ret => setCK Hp' c (.obj (.loop { r with state := .done, pending := some .ret })) fun Hp'' => setOK T dst (.p (.bool false)) fun T' => R (.ops all rest :: k) T' Hp''
  | .exit id => setCK Hp' c (.obj (.loop { r with state := .done, pending := some (.exit id) })) fun Hp'' => setOK T dst (.p (.bool false)) fun T' => R (.ops all rest :: k) T' Hp''
  | _ => False
 | _ => False
def setPs : List (SV C) → List Tmp → List (SV C) → List (SV C)
 | T, p :: ps, v :: vs => setPs (setT T p v) ps vs
 | T, _, _ => T
def sameLen {α β : Type} : List α → List β → Bool
 | [], [] => true
 | _ :: l, _ :: m => sameLen l m
 | _, _ => false
theorem sameLen_ok {α β : Type} : ∀ {l : List α} {m : List β}, sameLen l m = true → l.length = m.length
 | [], [], _ => rfl
 | _ :: l, _ :: m, h => by simp [sameLen_ok (l := l) (m := m) h]
 | [], _ :: _, h => by simp [sameLen] at h
 | _ :: _, [], h => by simp [sameLen] at h

theorem setPs_den : ∀ (ps : List Tmp) (args : List (SV C)) (vs : List Value) (T : List (SV C)) (tm : Array Value), ps.length = args.length → DenA D w E args vs → tm.size = T.length → (∀ i, Den D w E (getT T i) (tm.getD i undef)) →
  ((ps.zip vs).foldl (fun t (p, v) => t.setIfInBounds p v) tm).size = (setPs T ps args).length ∧ ∀ i, Den D w E (getT (setPs T ps args) i) (((ps.zip vs).foldl (fun t (p, v) => t.setIfInBounds p v) tm).getD i undef)
 | [], [], vs, T, tm, _, _, hz, h => by simp only [setPs, List.zip_nil_left, List.foldl_nil]; exact ⟨hz, h⟩
 | p :: ps, x :: args, vs, T, tm, hl, hd, hz, h => by
  simp only [DenA] at hd
  obtain ⟨v, vs', rfl, h1, h2⟩ := hd
  simp only [setPs, List.zip_cons_cons, List.foldl_cons]
  refine setPs_den ps args vs' (setT T p x) (tm.setIfInBounds p v) (by simpa using hl) h2 (by simp [length_setT, hz]) fun i => ?_
  rw [getT_setT]
  by_cases hi : i = p
  ·subst hi
   by_cases hlt : i < T.length
   ·rw [if_pos ⟨rfl, hlt⟩]
    have : (tm.setIfInBounds i v).getD i undef = v := by
     rw [Array.getD_eq_getD_getElem?, Array.getElem?_setIfInBounds_self_of_lt (by omega)]; rfl
    rw [this]; exact h1
   ·rw [if_neg (fun hh => hlt hh.2)]
    have : (tm.setIfInBounds i v).getD i undef = tm.getD i undef := by
     rw [Array.getD_eq_getD_getElem?, Array.getD_eq_getD_getElem?]
     congr 1
     rw [Array.getElem?_eq_none (by simp; omega), Array.getElem?_eq_none (by omega)]
    rw [this]; exact h i
  ·rw [if_neg (fun hh => hi hh.1)]
   have : (tm.setIfInBounds p v).getD i undef = tm.getD i undef := by
    rw [Array.getD_eq_getD_getElem?, Array.getD_eq_getD_getElem?, Array.getElem?_setIfInBounds_ne (Ne.symm hi)]
   rw [this]; exact h i

/-- the round begins: behind the assignments to the loop's variables -/
def beginRound (c : Nat) (K : Kont C) (body : Code) : Post C := fun e T1 Hp1 => match e with
 | .normal => at_ T1 Hp1 (getC Hp1 c)
 | _ => False
where at_ (T1 : List (SV C)) (Hp1 : List (HS C)) (h : HS C) : Prop := match h with
 | .obj (.loop r) => match r.state with
  | .ready => setCK Hp1 c (.obj (.loop { r with state := .busy })) fun Hp2 => K [.code body] T1 Hp2
  | _ => False
 | _ => False
theorem yieldS_of_gx (A : Aux C D) (hT : TabOK P D tab) {c : Nat} {ri : RI C} (hri : lkR X.L c = some ri) (hc : getC Hp c = .obj (.loop (mkLoop ri .ready none))) (hlen' : sameLen ri.ps.toList args = true) (n n' : Nat)
  (h : gx P A tab ⟨some c, X.L, hlen Hp, false⟩ (beginRound c (gx P A tab ⟨some c, X.L, hlen Hp, false⟩ (endRound R c dst all rest k T) n') ri.body) n [.code ri.assign] (setPs ri.T ri.ps.toList args) Hp) :
  YieldS P D X.L c args Hp (fun q Hp' => R (.ops all rest :: k) (setO T dst (.p (.bool q))) Hp') := by
 intro r B σ df a w E hBL hR
 -- where the record lies
 have hok := hR.sat.ok c
 have hb : ∃ b, E.β c = .loc b := by
  rw [hc] at hok
  cases hb : E.β c with
  | fresh => rw [hb] at hok; simp [HS.ok] at hok
  | dead => rw [hb] at hok; simp [HS.ok] at hok
  | virt => rw [hb] at hok; simp [HS.ok] at hok
  | loc b => exact ⟨b, rfl⟩
 obtain ⟨b, hb⟩ := hb
 rw [hb, hc] at hok
 refine ⟨b, hb, fun vs hd => ?_⟩
 have hl1 := sameLen_ok hlen'
 have hl2 := denA_length _ _ hd
 have hy := run_yield (P := P) (args := vs.toArray) hok.1 (by simp [mkLoop]; rw [← hl2, ← hl1]; simp)
 refine ⟨_, _, _, _, hy, ?_⟩
 have hm := fresh_of_sat hR.sat
 have hrec := (hBL.mono hR.fr.late) c ri hri
 obtain ⟨hz, hden⟩ := setPs_den (D := D) (w := w) (E := E) ri.ps.toList args vs ri.T ri.tmps hl1 hd hrec.1 hrec.2
 have htm : (ri.ps.zip vs.toArray).foldl (fun tmps (t, a) => tmps.setIfInBounds t a) ri.tmps = (ri.ps.toList.zip vs).foldl (fun t (p, v) => t.setIfInBounds p v) ri.tmps := by
  rw [← Array.foldl_toList]
  simp
 have hR0 : RelX D (Base.here w E (hlen Hp) hm) (setPs ri.T ri.ps.toList args) Hp { tmps := (ri.ps.toList.zip vs).foldl (fun t (p, v) => t.setIfInBounds p v) ri.tmps, defers := [] } w :=
  ⟨[], E, ⟨hden, hR.sat, Fr.here, rfl, Marks.nil⟩, hz⟩
 have hX1 : CtxOK D (⟨some c, X.L, hlen Hp, false⟩ : Ctx C) (Base.here w E (hlen Hp) hm) (some b) := ⟨rfl, hBL.mono hR.fr.late, hb, rfl⟩
 have hb1 : ∀ {T' Hp' a' w' E1 df'} {rr : Loop}, Rel D (Base.here w E (hlen Hp) hm) E1 T' (getC Hp') df' a' w' → getC Hp' c = .obj (.loop rr) → E1.β c = .loc b := by
  intro T' Hp' a' w' E1 df' rr hR1 hrr
  have hok := hR1.sat.ok c
  rcases hR1.fr.late.β c with e' | e' | e'
  ·exact e'.trans hb
  ·rw [e', hrr] at hok; cases hok
  ·have e'' : E.β c = .fresh := e'
   rw [hb] at e''; cases e''
 have body : ∀ T' Hp', gx P A tab ⟨some c, X.L, hlen Hp, false⟩ (endRound R c dst all rest k T) n' [.code ri.body] T' Hp' → ∀ a' w', RelX D (Base.here w E (hlen Hp) hm) T' Hp' a' w' →
   ri.body.wpIn (Fc (some b)) 0 P (roundPost P b fun e w' => ∃ q E' Hp', e = .returned (.bool q) ∧ Rel D B E' σ (getC Hp') df a w' ∧ R (.ops all rest :: k) (setO T dst (.p (.bool q))) Hp') a' w' := by
  intro T' Hp' h a' w' hRL
  have := gx_sound (r := some b) (Q := roundPost P b fun e w' => ∃ q E' Hp', e = .returned (.bool q) ∧ Rel D B E' σ (getC Hp') df a w' ∧ R (.ops all rest :: k) (setO T dst (.p (.bool q))) Hp') A hT hX1
   (fun e a' w' T' Hp' hΦ hRL => ?_) n' [.code ri.body] T' Hp' h a' w' hRL
  ·simp only [postX, Exit.then] at this
   exact this
  ·obtain ⟨df', E1, hR1, _⟩ := hRL
   unfold endRound endRound.at_ at hΦ
   split at hΦ
   ·rename_i rr hrr
    have hb1 := hb1 hR1 hrr
    have hok1 := hR1.sat.ok c
    rw [hb1, hrr] at hok1
    have fin : ∀ (jump : Option Code) , R (.ops all rest :: k) (setO T dst (.p (.bool jump.isNone))) (setC Hp' c (.obj (.loop { rr with state := if jump.isNone then .ready else .done, pending := jump }))) →
      ∃ v w'', (Instr.endRound b jump).run P w' = .ok v w'' ∧ ∃ q E' Hp', (Ending.returned v) = .returned (.bool q) ∧ Rel D B E' σ (getC Hp') df a w'' ∧ R (.ops all rest :: k) (setO T dst (.p (.bool q))) Hp' := by
     intro jump hRj
     obtain ⟨h1, h2⟩ := hR1.putO hb1 hrr (o' := .loop { rr with state := if jump.isNone then .ready else .done, pending := jump }) (by simp)
     refine ⟨_, _, run_endRound jump hok1.1, _, E1, _, rfl, ?_, hRj⟩
     rw [getC_setC']
     exact hR.later h1.fr.late h1.sat (hR.fr.trans h1.fr)
    split at hΦ
    ·rw [setCK_eq, setOK_eq] at hΦ; exact fin none hΦ
    ·rw [setCK_eq, setOK_eq] at hΦ; exact fin (some .ret) hΦ
    ·rw [setCK_eq, setOK_eq] at hΦ; exact fin (some (.exit _)) hΦ
    ·exact hΦ.elim
   ·exact hΦ.elim
 have := gx_sound (r := some b) (Q := Exit.then (fun a₁ w₁ => ∃ w₂, (Instr.beginRound b).run P w₁ = .ok () w₂ ∧ ri.body.wpIn (Fc (some b)) 0 P (roundPost P b fun e w' => ∃ q E' Hp', e = .returned (.bool q) ∧ Rel D B E' σ (getC Hp') df a w' ∧ R (.ops all rest :: k) (setO T dst (.p (.bool q))) Hp') a₁ w₂) (fun _ _ _ => False)) A hT hX1
  (fun e a' w' T' Hp' hΦ hRL => ?_) n _ _ _ h _ _ hR0
 ·refine roundIn_of_wpIn trivial ?_
  simp only [mkLoop]
  rw [htm]
  exact this
 ·obtain ⟨df', E1, hR1, hz1⟩ := hRL
  unfold beginRound beginRound.at_ at hΦ
  split at hΦ
  ·split at hΦ
   ·rename_i rr hrr
    split at hΦ
    ·rename_i hst
     rw [setCK_eq] at hΦ
     have hbb := hb1 hR1 hrr
     have hok1 := hR1.sat.ok c
     rw [hbb, hrr] at hok1
     obtain ⟨h1, h2⟩ := hR1.putO hbb hrr (o' := .loop { rr with state := .busy }) (by simp)
     refine ⟨_, run_beginRound hok1.1 hst, ?_⟩
     exact body _ _ hΦ a' _ ⟨df', E1, by rw [getC_setC']; exact h1, hz1⟩
    ·exact hΦ.elim
   ·exact hΦ.elim
  ·exact hΦ.elim
end
end Go.SX

/-
 SX, part V4: loops, splits, ends for the strict generator.
-/
namespace Go.SX
open Go.RowKit
variable {C : Cod}

/-- which slots a piece of code writes, as bits -/
def maskO : List Oper → Nat → Nat
 | [], m => m
 | ⟨some d, _, _, _, _, _⟩ :: l, m => maskO l (Nat.lor m (Nat.shiftLeft 1 d))
 | ⟨none, _, _, _, _, _⟩ :: l, m => maskO l m
def maskC : Code → Nat → Nat
 | .region _ ops _, m => maskO ops.toList m
 | .seq a b, m => maskC b (maskC a m)
 | .cond _ a b, m => maskC b (maskC a m)
 | .block _ b, m => maskC b m
 | .loop b, m => maskC b m
 | _, m => m
/-- the slots that are written are forgotten -/
def havocL : Nat → List (SV C) → List (SV C)
 | _, [] => []
 | m, x :: l => (match Nat.mod m 2 with | 0 => x | _ + 1 => .any) :: havocL (Nat.div m 2) l
def setMany : List (SV C) → List (Nat × SV C) → List (SV C)
 | T, [] => T
 | T, (d, v) :: l => setMany (setT T d v) l
/-- the slots at a loop's head -/
def headT (body : Code) (T : List (SV C)) (us : List (Nat × SV C)) : List (SV C) := setMany (havocL (maskC body 0) T) us
structure Back (m0 : Nat) (θ : List (Option Nat)) (T : List (SV C)) (Hp : List (HS C)) (T' : List (SV C)) (Hp' : List (HS C)) : Prop where
 T : ViewL Hp θ T T'
 H : ViewHs Hp θ θ Hp'
 id : idO m0 0 θ = true
 nd : ndO θ = true

section
variable {P : Program} {D : Codec C} {tab : Tab C} {A : Aux C D} {X : Ctx C} {R : Kont C} {Φ : Post C} {n m0 : Nat} {body : Code} {k : List (It C)} {T : List (SV C)} {Hp : List (HS C)}

structure Side (p : Prop) : Prop where
 h : p
theorem side_and {p q : Prop} (h1 : Side p) (h2 : q) : p ∧ q := ⟨h1.h, h2⟩
/-- A loop, by what holds at its head: I the slots that count, J the heap; the other slots that it writes are forgotten. -/
theorem loop_inv {γ : Type} (I : γ → List (Nat × SV C)) (J : γ → List (HS C)) (good : γ → Prop) (μ : γ → Nat) (g0 : γ) (h0 : good g0) (θ0 : List (Option Nat)) (hent : Back m0 θ0 T Hp (headT body T (I g0)) (J g0))
  (hround : ∀ g, good g → ∀ K : List (SV C) → List (HS C) → Prop, (∀ g' θ T' Hp', Side (good g') → Side (μ g' < μ g) → Back m0 θ T' Hp' (headT body T (I g')) (J g') → K T' Hp') →
   forceV (headT body T (I g)) fun T1 => forceL (J g) fun Hp1 => R (.code body :: .endLoop K :: k) T1 Hp1) : LoopX D m0 R body k T Hp := by
 refine ⟨γ, fun g => (headT body T (I g), J g), good, μ, g0, h0, sub_of θ0 hent.T ⟨hent.H, hent.id, hent.nd⟩, ?_⟩
 intro g hg K hK
 have := hround g hg K fun g' θ T' Hp' h1 h2 h3 => hK _ _ g' h1.h h2.h (sub_of θ h3.T ⟨h3.H, h3.id, h3.nd⟩)
 rw [forceV_eq, forceL_eq] at this
 exact this

theorem split_x {b : Bool} {X Y : Prop} (h1 : b = true → X) (h2 : b = false → Y) : condX b X Y := by
 cases b with
 | true => exact h1 rfl
 | false => exact h2 rfl

/-- A yield, its round walked in place. -/
theorem yield_in {args : List (SV C)} {dst : Option Nat} {all rest : List Oper} (A : Aux C D) (hT : TabOK P D tab) {c : Nat} {ri : RI C} (hri : lkR X.L c = some ri) (hc : getC Hp c = .obj (.loop (mkLoop ri .ready none))) (hlen' : sameLen ri.ps.toList args = true) (n n' : Nat)
  (h : forceV (setPs ri.T ri.ps.toList args) fun T0 => hlenK Hp 0 fun m => gx P A tab ⟨some c, X.L, m, false⟩ (beginRound c (gx P A tab ⟨some c, X.L, m, false⟩ (endRound R c dst all rest k T) n') ri.body) n [.code ri.assign] T0 Hp) :
  YieldX P D X R c args dst all rest k T Hp := by
 rw [forceV_eq, hlenK_eq, Nat.add_zero] at h
 exact ⟨_, yieldS_of_gx A hT hri hc hlen' n n' h, fun q Hp' hS => hS⟩

/-- the end of a function -/
def endV (Hp : List (HS C)) (θ : List (Option Nat)) (ret : SV C) : Option (List (SV C)) → Prop
 | some l => View Hp θ (retOf l) ret
 | none => False
/-- a function's end: its results, seen as the contract says -/
structure EndV (Hp : List (HS C)) (θ : List (Option Nat)) (ret : SV C) (l : Option (List (SV C))) : Prop where
 h : endV Hp θ ret l
theorem end_fn {rs : List ResultVar} {ret : SV C} {H1 : List (HS C)} {e : Exit} (θ : List (Option Nat)) (he : e = .normal ∨ e = .ret) (hE : EndV Hp θ ret (resOf D tab T Hp rs)) (hv : ViewHs Hp θ θ H1) (hid : idO m0 0 θ = true) (hnd : ndO θ = true) :
  (e = .normal ∨ e = .ret) ∧ ∃ θ l, resOf D tab T Hp rs = some l ∧ View Hp θ (retOf l) ret ∧ ViewOK Hp θ H1 m0 := by
 refine ⟨he, ?_⟩
 have h := hE.h
 generalize hr : resOf D tab T Hp rs = r at h
 cases r with
 | none => exact h.elim
 | some l => exact ⟨θ, l, rfl, h, ⟨hv, hid, hnd⟩⟩
end
end Go.SX

/-
 SX, part V5: regions that draw their order, strictly; side conditions behind a name.
-/
namespace Go.SX
open Go.RowKit
variable {C : Cod}

structure TraceOK (all : List Oper) (tr : List Ent) : Prop where
 h : traceB all tr.reverse = true
/-- a call in a region that draws its order -/
structure DCallX (P : Program) (D : Codec C) (next : DK C) (f : FuncId) (args : List (SV C)) (dst : Option Nat) (fs fc0 : List Nat) (tr : List Ent) (T : List (SV C)) (Hp : List (HS C)) : Prop where
 h : DCallVC P D next f args dst fs fc0 tr T Hp

def drawOutX (P : Program) (D : Codec C) (next : DK C) (o : Op) (vals : List (SV C)) (dst : Option Nat) (fs fc : List Nat) (tr : List Ent) (T : List (SV C)) (Hp : List (HS C)) : Out C → Prop
 | .stuck => StuckX o vals (hsOf Hp vals) False
 | .val v => setOK T dst v fun T' => next (⟨dst, fs, fc, []⟩ :: tr) T' Hp
 | .side p v => p ∧ setOK T dst v fun T' => next (⟨dst, fs, fc, []⟩ :: tr) T' Hp
 | .mem v ws => forceL (idsOf ws) fun ids => setOK T dst v fun T' => setCsK Hp ws fun Hp' => next (⟨dst, fs, fc, ids⟩ :: tr) T' Hp'
 | .smem p v ws => p ∧ forceL (idsOf ws) fun ids => setOK T dst v fun T' => setCsK Hp ws fun Hp' => next (⟨dst, fs, fc, ids⟩ :: tr) T' Hp'
 | .call f args => forceV args fun args => DCallX P D next f args dst fs fc tr T Hp
 | .yieldc _ _ => False
 | .may _ _ => False
 | .ask q K => AskX q fun r => setOK T dst (K r) fun T' => next (⟨dst, fs, fc, []⟩ :: tr) T' Hp
def freshX (h : HS C) (X : Prop) : Prop := match h with
 | .fresh => X
 | _ => False
def newAtK (o : Op) (big : Nat) (Hp : List (HS C)) (K : Nat → Prop) : Prop := match lays o with
 | true => hlenK Hp 0 K
 | false => K big
theorem newAtK_eq {o : Op} {big : Nat} {Hp : List (HS C)} {K : Nat → Prop} : newAtK o big Hp K = K (newAt o big Hp) := by
 unfold newAtK newAt
 cases lays o with
 | true => exact (hlenK_eq Hp 0 K)
 | false => rfl
def drawOpX (P : Program) {D : Codec C} (A : Aux C D) (tab : Tab C) (big : Nat) (next : DK C) (dst : Option Nat) (op : Op) (gs : List Nat) (tr : List Ent) (T : List (SV C)) (Hp : List (HS C)) : Prop :=
 forceV (valsOf T (opnds op)) fun vals => newAtK op big Hp fun m => freshX (getC Hp m) (forceL (gs ++ tmpsOf (opnds op)) fun fs => forceL (m :: fcOf op vals) fun fc =>
  drawOutX P D next op vals dst fs fc tr T Hp (exec A tab op vals (hsOf Hp vals) m))
def dGuardX (P : Program) {D : Codec C} (A : Aux C D) (tab : Tab C) (big : Nat) (next : DK C) (dst : Option Nat) (op : Op) (d : Nat) (want : Bool) (tr : List Ent) (T : List (SV C)) (Hp : List (HS C)) : SV C → Prop
 | .p (.bool b) => match want with
  | true => condX b (setTK T d (.p (.bool true)) fun T => drawOpX P A tab big next dst op [d] tr T Hp) (setTK T d (.p (.bool false)) fun T => setOK T dst (.tuple []) fun T' => next (⟨dst, [d], [], []⟩ :: tr) T' Hp)
  | false => condX b (setTK T d (.p (.bool true)) fun T => setOK T dst (.tuple []) fun T' => next (⟨dst, [d], [], []⟩ :: tr) T' Hp) (setTK T d (.p (.bool false)) fun T => drawOpX P A tab big next dst op [d] tr T Hp)
 | .tuple [] => setOK T dst (.tuple []) fun T' => next (⟨dst, [d], [], []⟩ :: tr) T' Hp
 | v => StuckC (.tmp d) v
def dGuardDX (P : Program) {D : Codec C} (A : Aux C D) (tab : Tab C) (big : Nat) (next : DK C) (dst : Option Nat) (op : Op) (want : Bool) (tr : List Ent) (T : List (SV C)) (Hp : List (HS C)) : Option Nat → Prop
 | none => False
 | some d => dGuardX P A tab big next dst op d want tr T Hp (getT T d)
def drawGoX (P : Program) {D : Codec C} (A : Aux C D) (tab : Tab C) (K : DK C) (all : List Oper) (big : Nat) : List Oper → DK C
 | [] => K
 | ⟨dst, op, _, _, _, none⟩ :: rest => fun tr T Hp => drawOpX P A tab big (drawGoX P A tab K all big rest) dst op [] tr T Hp
 | ⟨dst, op, _, _, _, some (j, want)⟩ :: rest => fun tr T Hp => dGuardDX P A tab big (drawGoX P A tab K all big rest) dst op want tr T Hp (gslot all j)
def drawKX (R : Kont C) (all : List Oper) (k : List (It C)) : DK C := fun tr T Hp => TraceOK all tr ∧ R k T Hp

section
variable {P : Program} {D : Codec C} {A : Aux C D} {tab : Tab C} {R : Kont C} {k : List (It C)} {T : List (SV C)} {Hp : List (HS C)}
theorem setT_same : ∀ (T : List (SV C)) (d : Nat), setT T d (getT T d) = T
 | [], d => by simp [setT]
 | x :: l, 0 => rfl
 | x :: l, d + 1 => by simp only [setT, getT, setT_same l d]
theorem drawOpX_imp {big : Nat} {next next' : DK C} (hn : ∀ tr T Hp, next' tr T Hp → next tr T Hp) {dst : Option Nat} {op : Op} {gs : List Nat} {tr : List Ent} (h : drawOpX P A tab big next' dst op gs tr T Hp) : drawOp P A tab big next dst op gs tr T Hp := by
 unfold drawOpX at h
 rw [forceV_eq, newAtK_eq] at h
 unfold drawOp drawOpAt
 unfold freshX at h
 unfold freshAt
 split at h
 ·rename_i hm
  rw [hm]
  simp only
  rw [forceL_eq, forceL_eq] at h
  generalize exec A tab op (valsOf T (opnds op)) (hsOf Hp (valsOf T (opnds op))) (newAt op big Hp) = out at h ⊢
  cases out with
  | stuck => exact h.h.elim
  | val v => simp only [drawOutX, setOK_eq] at h; exact hn _ _ _ h
  | side p v => simp only [drawOutX, setOK_eq] at h; exact ⟨h.1, hn _ _ _ h.2⟩
  | mem v ws => simp only [drawOutX, setOK_eq, setCsK_eq, forceL_eq] at h; exact hn _ _ _ h
  | smem p v ws => simp only [drawOutX, setOK_eq, setCsK_eq, forceL_eq] at h; exact ⟨h.1, hn _ _ _ h.2⟩
  | call f args =>
   simp only [drawOutX, forceV_eq] at h
   obtain ⟨ret, ws, fc, hc, h2⟩ := h.h
   exact ⟨ret, ws, fc, hc, hn _ _ _ h2⟩
  | yieldc c args => exact h.elim
  | may p v => exact h.elim
  | ask q K =>
   obtain ⟨r, hq, h2⟩ := h.h
   rw [setOK_eq] at h2
   exact ⟨r, hq, hn _ _ _ h2⟩
 ·exact h.elim
theorem drawGoX_imp {all : List Oper} {big : Nat} {K K' : DK C} (hK : ∀ tr T Hp, K' tr T Hp → K tr T Hp) : ∀ (rest : List Oper) (tr : List Ent) (T : List (SV C)) (Hp : List (HS C)),
  drawGoX P A tab K' all big rest tr T Hp → drawGo P A tab K all big rest tr T Hp
 | [], tr, T, Hp, h => hK _ _ _ h
 | ⟨dst, op, ty, pos, after, guard⟩ :: rest, tr, T, Hp, h => by
  have ih := drawGoX_imp (all := all) (big := big) hK rest
  cases guard with
  | none => exact drawOpX_imp ih h
  | some g =>
   obtain ⟨j, want⟩ := g
   simp only [drawGoX] at h
   simp only [drawGo]
   cases hg : gslot all j with
   | none => rw [hg] at h; exact h.elim
   | some d =>
    rw [hg] at h
    simp only [dGuardDX, dGuardX] at h
    simp only [dGuardD]
    split at h
    ·rename_i b hb
     rw [hb]
     simp only [dGuard]
     have hsame : setT T d (.p (.bool b)) = T := by
      rw [← hb]
      exact setT_same T d
     cases want <;> cases b <;> simp only [condX, setTK_eq, setOK_eq, hsame] at h
     ·exact drawOpX_imp ih h
     ·exact ih _ _ _ h
     ·exact ih _ _ _ h
     ·exact drawOpX_imp ih h
    ·rename_i hb
     rw [setOK_eq] at h
     rw [hb]
     exact ih _ _ _ h
    ·cases h
theorem drawX_of {m0 : Nat} {ops : List Oper} (hmix : P.follows .mixedOrders = true) (h : hlenK Hp 1000 fun big => drawGoX P A tab (drawKX R ops k) ops big ops [] T Hp) : DrawX P A tab m0 R ops k T Hp := by
 rw [hlenK_eq] at h
 exact ⟨⟨_, _, fun _ _ _ _ _ h => h, .inl ⟨hmix, drawGoX_imp (fun tr T Hp hk => ⟨hk.1.h, hk.2⟩) ops [] T Hp h⟩⟩⟩
theorem dcallx_pure {next : DK C} {f : FuncId} {args : List (SV C)} {ret : SV C} {dst : Option Nat} {fs fc : List Nat} {tr : List Ent} (hM : Meets P D f args [] ret []) (hargs : renL [] args = some args) (hret : renS [] ret = some ret)
  (h : forceL fc fun fc => setOK T dst ret fun T' => next (⟨dst, fs, fc, []⟩ :: tr) T' Hp) : DCallX P D next f args dst fs fc tr T Hp := by
 rw [forceL_eq, setOK_eq] at h
 exact ⟨dcall_pure hM hargs hret (by simpa using h)⟩
theorem dcallx_heap {next : DK C} {f : FuncId} {args0 args : List (SV C)} {H0 H0' H1 H1' : List (HS C)} {ret0 ret : SV C} {dst : Option Nat} {fs fc : List Nat} {tr : List Ent}
  (ρ : List (Option Nat)) (hM : Meets P D f args0 H0 ret0 H1) (hargs : renL ρ args0 = some args) (hH0 : renHs ρ H0 = some H0') (hat : heapAt (getC Hp) ρ H0') (θ : List (Option Nat)) (hθ : θ = ρ ++ newIds (H1.length - H0.length) (hlen Hp)) (hnd : ndO θ = true)
  (hle : H0.length ≤ H1.length) (hH1 : renHs θ H1 = some H1') (hret : renS θ ret0 = some ret)
  (h : forceL (fc ++ foot θ) fun fc => forceL (idsOf (zipW θ H1')) fun ids => setOK T dst ret fun T' => setCsK Hp (zipW θ H1') fun Hp' => next (⟨dst, fs, fc, ids⟩ :: tr) T' Hp') : DCallX P D next f args dst fs fc tr T Hp := by
 rw [forceL_eq, forceL_eq, setOK_eq, setCsK_eq] at h
 exact ⟨dcall_heap ρ hM hargs hH0 hat θ hθ hnd hle hH1 hret h⟩
end
end Go.SX
