/-
  SX, part V2: the strict generator: states are reckoned out at each step, so that 'whnf' goes from stop to stop. Calls in place; ranges over functions.
-/
import Derived.Test.YtdaghncicimipaaGreatDoorSxV1
set_option linter.unusedSimpArgs false
namespace Go.SX
set_option linter.unusedVariables false
open Go.RowKit
variable {C : Cod}

/-! ### Strict lists -/
section
variable {β : Type} {γ : Type}
def setTK {δ : Sort _} : List (SV C) → Nat → SV C → (List (SV C) → δ) → δ
  | [], _, _, K => K []
  | _ :: l, 0, v, K => K (v :: l)
  | x :: l, n + 1, v, K => setTK l n v (fun m => K (x :: m))
theorem setTK_eq : ∀ (T : List (SV C)) (d : Nat) (v : SV C) (K : List (SV C) → Prop), setTK T d v K = K (setT T d v)
  | [], _, _, _ => rfl
  | _ :: _, 0, _, _ => rfl
  | x :: l, n + 1, v, K => by simp only [setTK, setT, setTK_eq l n v]
def forceL {α : Type} : List α → (List α → Prop) → Prop
  | [], K => K []
  | x :: l, K => forceL l (fun m => K (x :: m))
theorem forceL_eq {α : Type} : ∀ (l : List α) (K : List α → Prop), forceL l K = K l
  | [], _ => rfl
  | x :: l, K => by simp only [forceL, forceL_eq l]
def natK (n : Nat) (K : Nat → Prop) : Prop :=
  match n with
  | 0 => K 0
  | n + 1 => K (n + 1)
theorem natK_eq (n : Nat) (K : Nat → Prop) : natK n K = K n := by cases n <;> rfl
/-- how many chunks, as a number -/
def hlenK : List (HS C) → Nat → (Nat → Prop) → Prop
  | [], n, K => natK n K
  | _ :: l, n, K => hlenK l (n + 1) K
theorem hlenK_eq : ∀ (l : List (HS C)) (n : Nat) (K : Nat → Prop), hlenK l n K = K (hlen l + n)
  | [], n, K => by simp only [hlenK, natK_eq, hlen, Nat.zero_add]
  | _ :: l, n, K => by simp only [hlenK, hlenK_eq l, hlen]; congr 1; omega
/-- a value's head forced -/
def forceS (x : SV C) (K : SV C → Prop) : Prop :=
  match x with
  | .p y => match y with
    | .int k n => K (.p (.int k n))
    | .bool b => K (.p (.bool b))
    | .str l => K (.p (.str l))
    | .lit v => K (.p (.lit v))
    | .dsl u xs => K (.p (.dsl u xs))
    | .fds u xs => K (.p (.fds u xs))
  | .any => K .any
  | .ptr c o => natK c fun c => natK o fun o => K (.ptr c o)
  | .eptr c o n i f => K (.eptr c o n i f)
  | .dptr l f => K (.dptr l f)
  | .slice c o n off len => natK c fun c => natK o fun o => natK n fun n => K (.slice c o n off len)
  | .arr u N xs => K (.arr u N xs)
  | .agg vs => forceL vs fun vs => K (.agg vs)
  | .fn f a b => forceL a fun a => forceL b fun b => K (.fn f a b)
  | .iface t v => K (.iface t v)
  | .tuple vs => forceL vs fun vs => K (.tuple vs)
  | .yieldv c => K (.yieldv c)
  | .mapp c => natK c fun c => K (.mapp c)
theorem forceS_eq (x : SV C) (K : SV C → Prop) : forceS x K = K x := by
  cases x with
  | p y => cases y <;> rfl
  | ptr c o => exact (natK_eq c (fun c => natK o fun o => K (.ptr c o))).trans (natK_eq o (fun o => K (.ptr c o)))
  | slice c o n off len => exact ((natK_eq c (fun c => natK o fun o => natK n fun n => K (.slice c o n off len))).trans (natK_eq o (fun o => natK n fun n => K (.slice c o n off len)))).trans (natK_eq n (fun n => K (.slice c o n off len)))
  | agg vs => exact forceL_eq vs (fun vs => K (.agg vs))
  | fn f a b => exact (forceL_eq a (fun a => forceL b fun b => K (.fn f a b))).trans (forceL_eq b (fun b => K (.fn f a b)))
  | tuple vs => exact forceL_eq vs (fun vs => K (.tuple vs))
  | mapp c => exact natK_eq c (fun c => K (.mapp c))
  | _ => rfl
/-- a list of values, each head forced -/
def forceV : List (SV C) → (List (SV C) → Prop) → Prop
  | [], K => K []
  | x :: l, K => forceS x fun y => forceV l fun m => K (y :: m)
theorem forceV_eq : ∀ (l : List (SV C)) (K : List (SV C) → Prop), forceV l K = K l
  | [], _ => rfl
  | x :: l, K => by simp only [forceV, forceS_eq, forceV_eq l]
def setOK (T : List (SV C)) (d : Option Nat) (v : SV C) (K : List (SV C) → Prop) : Prop :=
  match d with
  | none => K T
  | some d => forceS v fun v => setTK T d v K
theorem setOK_eq (T : List (SV C)) (d : Option Nat) (v : SV C) (K : List (SV C) → Prop) : setOK T d v K = K (setO T d v) := by
  cases d with
  | none => rfl
  | some d => exact (forceS_eq v (fun v => setTK T d v K)).trans (setTK_eq T d v K)
def forceH (h : HS C) (K : HS C → Prop) : Prop :=
  match h with
  | .vart t vs => forceL vs (fun l => K (.vart t l))
  | .fresh => K .fresh
  | .dead => K .dead
  | .rows u xs => K (.rows u xs)
  | .obj o => K (.obj o)
theorem forceH_eq (h : HS C) (K : HS C → Prop) : forceH h K = K h := by
  cases h <;> first | rfl | exact forceL_eq _ _
def setCK : List (HS C) → Nat → HS C → (List (HS C) → Prop) → Prop
  | [], 0, h, K => K [h]
  | [], n + 1, h, K => setCK [] n h (fun m => K (.fresh :: m))
  | _ :: l, 0, h, K => K (h :: l)
  | x :: l, n + 1, h, K => setCK l n h (fun m => K (x :: m))
theorem setCK_eq : ∀ (Hp : List (HS C)) (c : Nat) (h : HS C) (K : List (HS C) → Prop), setCK Hp c h K = K (setC Hp c h)
  | [], 0, _, _ => rfl
  | [], n + 1, h, K => by simp only [setCK, setC, setCK_eq [] n h]
  | _ :: _, 0, _, _ => rfl
  | x :: l, n + 1, h, K => by simp only [setCK, setC, setCK_eq l n h]
def setCsK : List (HS C) → List (Nat × HS C) → (List (HS C) → Prop) → Prop
  | Hp, [], K => K Hp
  | Hp, (c, h) :: l, K => forceH h (fun h' => setCK Hp c h' (fun Hp' => setCsK Hp' l K))
theorem setCsK_eq : ∀ (ws : List (Nat × HS C)) (Hp : List (HS C)) (K : List (HS C) → Prop), setCsK Hp ws K = K (setCs Hp ws)
  | [], _, _ => rfl
  | (c, h) :: l, Hp, K => by simp only [setCsK, setCs, forceH_eq, setCK_eq, setCsK_eq l]
end

/-! ### What stands around a walk -/
/-- the record of a range over a function, as it was laid -/
structure RI (C : Cod) where
  fn : FuncId
  tmps : Array Value
  bd : Nat
  ps : Array Tmp
  assign : Code
  body : Code
  T : List (SV C)
def mkLoop (i : RI C) (st : LoopState) (pd : Option Code) : Loop :=
  { state := st, pending := pd, fn := i.fn, tmps := i.tmps, params := i.ps, assign := i.assign, body := i.body, defers := i.bd }
abbrev Recs (C : Cod) := List (Nat × RI C)
def lkR : Recs C → Nat → Option (RI C)
  | [], _ => none
  | (c, r) :: l, d => if c = d then some r else lkR l d
structure Ctx (C : Cod) where
  ar : Option Nat
  L : Recs C
  m0 : Nat
def RecsOK (D : Codec C) (L : Recs C) (w : World) (E : Env) : Prop :=
  ∀ c ri, lkR L c = some ri → ri.tmps.size = ri.T.length ∧ ∀ i, Den D w E (getT ri.T i) (ri.tmps.getD i undef)
def ArOK (ar r : Option Nat) (E : Env) : Prop := match ar, r with
  | none, none => True
  | some c, some l => E.β c = .loc l
  | _, _ => False
structure CtxOK (D : Codec C) (X : Ctx C) (B : Base) (r : Option Nat) : Prop where
  m0 : B.m0 = X.m0
  L : RecsOK D X.L B.w0 B.E0
  ar : ArOK X.ar r B.E0
theorem RecsOK.mono {D : Codec C} {L : Recs C} {w w' : World} {E E' : Env} (h : RecsOK D L w E) (hL : Later w E w' E') : RecsOK D L w' E' :=
  fun c ri hc => ⟨(h c ri hc).1, fun i => Den.mono hL _ _ ((h c ri hc).2 i)⟩

/-- the meaning of a state -/
def RelX (D : Codec C) (B : Base) (T : List (SV C)) (Hp : List (HS C)) (a : Act) (w : World) : Prop := ∃ df, RelL D B df T Hp a w

/-! ### The stops -/
/-- A call from this state comes to one of the outcomes S. -/
structure CallS (P : Program) (D : Codec C) (L : Recs C) (f : FuncId) (args : List (SV C)) (Hp : List (HS C)) (S : SV C → List (HS C) → Prop) : Prop where
  run : ((∀ args w, (callFunc f args).run P w = .ok (.enter f args) w) ∧ ∀ B σ df a w E, RecsOK D L B.w0 B.E0 → Rel D B E σ (getC Hp) df a w → ∀ vs, DenA D w E args vs →
    CallsIn (Fc none) 0 P f vs.toArray w fun e w' => ∃ v E' ret Hp', e = .returned v ∧ Den D w' E' ret v ∧ Rel D B E' σ (getC Hp') df a w' ∧ S ret Hp') ∨
    ∀ B σ df a w E, Rel D B E σ (getC Hp) df a w → ∀ vs, DenA D w E args vs → ∃ v w' E' ret Hp', (callFunc f vs.toArray).run P w = .ok (.value v) w' ∧ Den D w' E' ret v ∧ Rel D B E' σ (getC Hp') df a w' ∧ S ret Hp'
/-- one state with arguments says no more than another -/
def SubA (D : Codec C) (m0 : Nat) (T : List (SV C)) (Hp : List (HS C)) (args : List (SV C)) (T' : List (SV C)) (Hp' : List (HS C)) (args' : List (SV C)) : Prop :=
  ∀ B E df a w, B.m0 = m0 → Rel D B E (getT T) (getC Hp) df a w → a.tmps.size = T.length → ∃ E', Rel D B E' (getT T') (getC Hp') df a w ∧ a.tmps.size = T'.length ∧ ∀ vs, DenA D w E args vs → DenA D w E' args' vs
theorem SubA.refl {D : Codec C} {m0 : Nat} {T : List (SV C)} {Hp : List (HS C)} {args : List (SV C)} : SubA D m0 T Hp args T Hp args := fun B E df a w _ hR hsz => ⟨E, hR, hsz, fun _ h => h⟩
structure CallX (P : Program) (D : Codec C) (X : Ctx C) (R : Kont C) (f : FuncId) (args : List (SV C)) (dst : Option Nat) (all rest : List Oper) (k : List (It C)) (T : List (SV C)) (Hp : List (HS C)) : Prop where
  h : ∃ T1 Hp1 args1, SubA D X.m0 T Hp args T1 Hp1 args1 ∧ ∃ S, CallS P D X.L f args1 Hp1 S ∧ ∀ ret Hp', S ret Hp' → R (.ops all rest :: k) (setO T1 dst ret) Hp'
theorem CallX.of {P : Program} {D : Codec C} {X : Ctx C} {R : Kont C} {f : FuncId} {args : List (SV C)} {dst : Option Nat} {all rest : List Oper} {k : List (It C)} {T : List (SV C)} {Hp : List (HS C)} (S : SV C → List (HS C) → Prop)
    (h1 : CallS P D X.L f args Hp S) (h2 : ∀ ret Hp', S ret Hp' → R (.ops all rest :: k) (setO T dst ret) Hp') : CallX P D X R f args dst all rest k T Hp := ⟨_, _, _, SubA.refl, S, h1, h2⟩
/-- A call of yield comes to one of the outcomes S. -/
def YieldS (P : Program) (D : Codec C) (L : Recs C) (c : Nat) (args : List (SV C)) (Hp : List (HS C)) (S : Bool → List (HS C) → Prop) : Prop :=
  ∀ (r : Option Nat) B σ df a w E, RecsOK D L B.w0 B.E0 → Rel D B E σ (getC Hp) df a w → ∃ b, E.β c = .loc b ∧ ∀ vs, DenA D w E args vs →
    ∃ f tmps assign body, (Instr.yield b vs.toArray).run P w = .ok (.round b f tmps assign body) w ∧
      RoundIn (Fc r) 0 P b f tmps assign body w fun e w' => ∃ q E' Hp', e = .returned (.bool q) ∧ Rel D B E' σ (getC Hp') df a w' ∧ S q Hp'
structure YieldX (P : Program) (D : Codec C) (X : Ctx C) (R : Kont C) (c : Nat) (args : List (SV C)) (dst : Option Nat) (all rest : List Oper) (k : List (It C)) (T : List (SV C)) (Hp : List (HS C)) : Prop where
  h : ∃ S, YieldS P D X.L c args Hp S ∧ ∀ q Hp', S q Hp' → R (.ops all rest :: k) (setO T dst (.p (.bool q))) Hp'
/-- A range over a function comes to one of the outcomes S: a pending jump, or none. -/
def RangeS (P : Program) (D : Codec C) (X : Ctx C) (g : Operand) (ps : Array Tmp) (assign body : Code) (T : List (SV C)) (Hp : List (HS C)) (S : Option Code → List (HS C) → Prop) : Prop :=
  ∀ r B a w Q, CtxOK D X B r → RelX D B T Hp a w →
    (∀ j Hp' a' w', S j Hp' → RelX D B T Hp' a' w' → match j with
      | none => Q .normal a' w'
      | some c => c.wpIn (Fc r) 0 P Q a' w') →
    (Code.rangeFunc g ps assign body).wpIn (Fc r) 0 P Q a w
def afterRange (R : Kont C) (k : List (It C)) (T : List (SV C)) (Hp : List (HS C)) : Option Code → Prop
  | none => R k T Hp
  | some c => R (.code c :: k) T Hp
structure RangeX (P : Program) (D : Codec C) (X : Ctx C) (R : Kont C) (g : Operand) (gv : SV C) (ps : Array Tmp) (assign body : Code) (k : List (It C)) (T : List (SV C)) (Hp : List (HS C)) : Prop where
  h : ∃ S, RangeS P D X g ps assign body T Hp S ∧ ∀ j Hp', S j Hp' → afterRange R k T Hp' j
structure LoopX (D : Codec C) (m0 : Nat) (R : Kont C) (body : Code) (k : List (It C)) (T : List (SV C)) (Hp : List (HS C)) : Prop where
  h : LoopVC D m0 R body k T Hp
/-- nothing is known of this operation, but where the state is seen otherwise -/
structure StuckX (o : Op) (vals : List (SV C)) (hs : List (Nat × HS C)) (Y : Prop) : Prop where
  h : Y
/-- a slice that may be nil -/
structure NilX (p X Y : Prop) : Prop where
  t : p → X
  f : Y
/-- what a map holds of a key -/
structure AskX (q : Option (Option (Nat × Value))) (Y : Option (Nat × Value) → Prop) : Prop where
  h : ∃ r, q = some r ∧ Y r
inductive StuckC (o : Operand) (v : SV C) : Prop
inductive StuckI (i : It C) : Prop

def condX (b : Bool) (X Y : Prop) : Prop := match b with
  | true => X
  | false => Y

def after0 (P : Program) (D : Codec C) (X : Ctx C) (R : Kont C) (Y : Prop) (dst : Option Nat) (all rest : List Oper) (k : List (It C)) (T : List (SV C)) (Hp : List (HS C)) : Out C → Prop
  | .stuck => Y
  | .ask q K => AskX q fun r => setOK T dst (K r) fun T' => R (.ops all rest :: k) T' Hp
  | .may p v => NilX p (setOK T dst (v true) fun T' => R (.ops all rest :: k) T' Hp) (setOK T dst (v false) fun T' => R (.ops all rest :: k) T' Hp)
  | .val v => setOK T dst v fun T' => R (.ops all rest :: k) T' Hp
  | .side p v => p ∧ setOK T dst v fun T' => R (.ops all rest :: k) T' Hp
  | .mem v ws => setOK T dst v fun T' => setCsK Hp ws fun Hp' => R (.ops all rest :: k) T' Hp'
  | .smem p v ws => p ∧ setOK T dst v fun T' => setCsK Hp ws fun Hp' => R (.ops all rest :: k) T' Hp'
  | .call f args => forceV args fun args => CallX P D X R f args dst all rest k T Hp
  | .yieldc c args => YieldX P D X R c args dst all rest k T Hp

/-- the operation, where the state is seen otherwise -/
def FrzY (P : Program) {D : Codec C} (A : Aux C D) (tab : Tab C) (X : Ctx C) (R : Kont C) (op : Op) (dst : Option Nat) (all rest : List Oper) (k : List (It C)) (T : List (SV C)) (Hp : List (HS C)) : Prop :=
  ∃ T1 Hp1, SubA D X.m0 T Hp [] T1 Hp1 [] ∧ after0 P D X R False dst all rest k T1 Hp1 (exec A tab op (valsOf T1 (opnds op)) (hsOf Hp1 (valsOf T1 (opnds op))) (hlen Hp1))
def guardX (R : Kont C) (d : Nat) (want : Bool) (all : List Oper) (o : Oper) (rest : List Oper) (k : List (It C)) (T : List (SV C)) (Hp : List (HS C)) : SV C → Prop
  | .p (.bool b) => match want with
    | true => condX b (setTK T d (.p (.bool true)) fun T' => R (.op1 all o rest :: k) T' Hp) (setTK T d (.p (.bool false)) fun T' => setOK T' o.dst (.tuple []) fun T'' => R (.ops all rest :: k) T'' Hp)
    | false => condX b (setTK T d (.p (.bool true)) fun T' => setOK T' o.dst (.tuple []) fun T'' => R (.ops all rest :: k) T'' Hp) (setTK T d (.p (.bool false)) fun T' => R (.op1 all o rest :: k) T' Hp)
  | .tuple [] => setOK T o.dst (.tuple []) fun T' => R (.ops all rest :: k) T' Hp
  | v => StuckC (.tmp d) v
def condC (R : Kont C) (c : Operand) (x y : Code) (k : List (It C)) (T : List (SV C)) (Hp : List (HS C)) : SV C → Prop
  | .p (.bool b) => condX b (R (.code x :: k) T Hp) (R (.code y :: k) T Hp)
  | v => StuckC c v
def guardO (R : Kont C) (want : Bool) (all : List Oper) (o : Oper) (rest : List Oper) (k : List (It C)) (T : List (SV C)) (Hp : List (HS C)) : Option Nat → Prop
  | none => False
  | some d => guardX R d want all o rest k T Hp (getT T d)
def execX (P : Program) {D : Codec C} (A : Aux C D) (tab : Tab C) (X : Ctx C) (R : Kont C) (op : Op) (dst : Option Nat) (all rest : List Oper) (k : List (It C)) (T : List (SV C)) (Hp : List (HS C)) (vals : List (SV C)) (m : Nat) : Prop :=
  after0 P D X R (StuckX op vals (hsOf Hp vals) (FrzY P A tab X R op dst all rest k T Hp)) dst all rest k T Hp (exec A tab op vals (hsOf Hp vals) m)
/-- a region that draws its order -/
structure DrawX (P : Program) {D : Codec C} (A : Aux C D) (tab : Tab C) (m0 : Nat) (R : Kont C) (ops : List Oper) (k : List (It C)) (T : List (SV C)) (Hp : List (HS C)) : Prop where
  h : ∃ T1 Hp1, SubS D m0 T Hp T1 Hp1 ∧ DrawVC P A tab R ops k T1 Hp1

def gxStep (P : Program) {D : Codec C} (A : Aux C D) (tab : Tab C) (X : Ctx C) (Φ : Post C) (R : Kont C) : Kont C
  | [], T, Hp => Φ .normal T Hp
  | .code .skip :: k, T, Hp => R k T Hp
  | .code (.label _) :: k, T, Hp => R k T Hp
  | .code (.seq x y) :: k, T, Hp => R (.code x :: .code y :: k) T Hp
  | .code (.region _ ops false) :: k, T, Hp => R (.ops ops.toList ops.toList :: k) T Hp
  | .code (.region _ ops true) :: k, T, Hp => DrawX P A tab X.m0 R ops.toList k T Hp
  | .code (.cond c x y) :: k, T, Hp => condC R c x y k T Hp (evT T c)
  | .code (.block id body) :: k, T, Hp => R (.code body :: .blk id :: k) T Hp
  | .code (.loop body) :: k, T, Hp => LoopX D X.m0 R body k T Hp
  | .code (.exit id) :: k, T, Hp => atExit Φ R id T Hp (unwind id k)
  | .code .ret :: _, T, Hp => Φ .ret T Hp
  | .code (.scope c) :: k, T, Hp => R (.code c :: .scp :: k) T Hp
  | .scp :: k, T, Hp => R k T Hp
  | .code (.rangeFunc g ps assign body) :: k, T, Hp => RangeX P D X R g (evT T g) ps assign body k T Hp
  | .blk _ :: k, T, Hp => R k T Hp
  | .endLoop J :: _, T, Hp => J T Hp
  | .ops _ [] :: k, T, Hp => R k T Hp
  | .ops all (⟨dst, op, ty, pos, after, none⟩ :: rest) :: k, T, Hp => R (.op1 all ⟨dst, op, ty, pos, after, none⟩ rest :: k) T Hp
  | .ops all (⟨dst, op, ty, pos, after, some (j, want)⟩ :: rest) :: k, T, Hp => guardO R want all ⟨dst, op, ty, pos, after, some (j, want)⟩ rest k T Hp (gslot all j)
  | .op1 all o rest :: k, T, Hp => forceV (valsOf T (opnds o.op)) fun vals => hlenK Hp 0 fun m => execX P A tab X R o.op o.dst all rest k T Hp vals m
  | i :: _, _, _ => StuckI i

def gx (P : Program) {D : Codec C} (A : Aux C D) (tab : Tab C) (X : Ctx C) (Φ : Post C) : Nat → Kont C
  | 0 => fun _ _ _ => False
  | n + 1 => gxStep P A tab X Φ (gx P A tab X Φ n)

/-! ### Soundness -/
section
variable {P : Program} {D : Codec C} {tab : Tab C} {B : Base} {E : Env} {σ : Nat → SV C} {H : Nat → HS C} {df : List Deferred} {a : Act} {w : World} {o : Oper} {r : Option Nat}

variable (r) in
def postX (P : Program) (D : Codec C) (B : Base) (Q : Exit → Act → World → Prop) : List (It C) → Exit → Act → World → Prop
  | [] => Q
  | .code c :: k => Exit.then (c.wpIn (Fc r) 0 P (postX P D B Q k)) (postX P D B Q k)
  | .ops all rest :: k => Exit.then (wpListIn (Fc r) 0 P all.toArray (postX P D B Q k) rest) (postX P D B Q k)
  | .op1 all o rest :: k => Exit.then (fun a w => o.wpIn (Fc r) 0 P a w (wpListIn (Fc r) 0 P all.toArray (postX P D B Q k) rest) (postX P D B Q k)) (postX P D B Q k)
  | .blk id :: k => Exit.inBlock id (postX P D B Q k)
  | .endLoop J :: k => fun e a w => match e with
    | .normal => ∃ T Hp, J T Hp ∧ RelX D B T Hp a w
    | e => postX P D B Q k e a w
  | .beginR :: k => postX P D B Q k
  | .scp :: k => Exit.noGoto (postX P D B Q k)

variable {Q : Exit → Act → World → Prop}
theorem postX_ret : ∀ k : List (It C), Q .ret a w → postX r P D B Q k .ret a w
  | [], h => h
  | .code _ :: k, h => postX_ret k h
  | .ops _ _ :: k, h => postX_ret k h
  | .op1 _ _ _ :: k, h => postX_ret k h
  | .blk _ :: k, h => postX_ret k h
  | .endLoop _ :: k, h => postX_ret k h
  | .beginR :: k, h => postX_ret k h
  | .scp :: k, h => postX_ret k h
theorem postX_exit (id : Nat) : ∀ k : List (It C), (match unwind id k with | some k' => postX r P D B Q k' .normal a w | none => Q (.exit id) a w) → postX r P D B Q k (.exit id) a w
  | [], h => h
  | .code _ :: k, h => postX_exit id k h
  | .ops _ _ :: k, h => postX_exit id k h
  | .op1 _ _ _ :: k, h => postX_exit id k h
  | .blk i :: k, h => by
    simp only [postX, Exit.inBlock]
    simp only [unwind] at h
    by_cases hi : i = id
    · rw [if_pos hi] at h; rw [if_pos hi.symm]; exact h
    · rw [if_neg hi] at h; rw [if_neg (Ne.symm hi)]; exact postX_exit id k h
  | .endLoop _ :: k, h => postX_exit id k h
  | .beginR :: k, h => postX_exit id k h
  | .scp :: k, h => postX_exit id k h

theorem wpIn_of_callS {next : Act → World → Prop} {Q : Exit → Act → World → Prop} (hnd : ∀ c, o.op ≠ .defer c) {f : FuncId} {args0 args : List (SV C)} {L : Recs C} {S : SV C → List (HS C) → Prop} {T0 T : List (SV C)} {Hp0 Hp : List (HS C)} {m0 : Nat} (hm0 : B.m0 = m0)
    (hBL : RecsOK D L B.w0 B.E0) (hR : RelX D B T0 Hp0 a w) (h : ∀ df, OutOK P D B (getT T0) (getC Hp0) df a w o (.call f args0)) (hsub : SubA D m0 T0 Hp0 args0 T Hp args) (hc : CallS P D L f args Hp S)
    (hn : ∀ ret Hp', S ret Hp' → ∀ a' w', RelX D B (setO T o.dst ret) Hp' a' w' → next a' w') : o.wpIn (Fc r) 0 P a w next Q := by
  refine ⟨fun _ _ => trivial, ?_⟩
  obtain ⟨df, E, hR, hsz⟩ := hR
  obtain ⟨vs, hd, hrun⟩ := h df E hR
  obtain ⟨E1, hR1, hsz1, hd1⟩ := hsub B E df a w hm0 hR hsz
  have hd := hd1 vs hd
  clear hR hd1 hsz
  have hR := hR1
  have hsz := hsz1
  clear hR1 hsz1
  generalize E1 = E at *
  rcases hc.run with ⟨hc1, hc2⟩ | hx
  rotate_left
  · obtain ⟨v, w', E', ret, Hp', h1, hv, hR', hS⟩ := hx B _ df a w E hR vs hd
    rw [show (Fc r).round = r from rfl, Oper.semAt_eq r _ _ hnd, hrun, h1]
    have hput := hR'.put hsz o.dst (.inr hv)
    refine hn _ _ hS _ _ ⟨df, E', ?_, by rw [size_put, hsz, length_setO]⟩
    rw [getT_setO]
    exact hput
  rw [show (Fc r).round = r from rfl, Oper.semAt_eq r _ _ hnd, hrun, hc1]
  refine ⟨fun h => by simp [Fc] at h, ?_⟩
  have hcalls := hc2 B _ df a w E hBL hR vs hd
  have hcalls' : CallsIn (Fc r) (0 - 1) P f vs.toArray w fun e w' => ∃ v E' ret Hp', e = .returned v ∧ Den D w' E' ret v ∧ Rel D B E' (getT T) (getC Hp') df a w' ∧ S ret Hp' := hcalls
  refine hcalls'.mono ?_
  rintro e w' ⟨v, E', ret, Hp', rfl, hv, hR', hS⟩
  have hput := hR'.put hsz o.dst (.inr hv)
  refine hn _ _ hS _ _ ⟨df, E', ?_, by rw [size_put, hsz, length_setO]⟩
  rw [getT_setO]
  exact hput

theorem wpIn_of_yieldS {next : Act → World → Prop} {Q : Exit → Act → World → Prop} (hnd : ∀ c, o.op ≠ .defer c) {c : Nat} {args : List (SV C)} {L : Recs C} {S : Bool → List (HS C) → Prop} {T : List (SV C)} {Hp : List (HS C)}
    (hBL : RecsOK D L B.w0 B.E0) (hR : RelX D B T Hp a w) (h : ∀ df, OutOK P D B (getT T) (getC Hp) df a w o (.yieldc c args)) (hc : YieldS P D L c args Hp S)
    (hn : ∀ q Hp', S q Hp' → ∀ a' w', RelX D B (setO T o.dst (.p (.bool q))) Hp' a' w' → next a' w') : o.wpIn (Fc r) 0 P a w next Q := by
  refine ⟨fun _ _ => trivial, ?_⟩
  obtain ⟨df, E, hR, hsz⟩ := hR
  obtain ⟨b, hb, hy⟩ := hc r B _ df a w E hBL hR
  obtain ⟨vs, hd, hrun⟩ := h df E hR b hb
  obtain ⟨f, tmps, assign, body, hy1, hy2⟩ := hy vs hd
  rw [show (Fc r).round = r from rfl, Oper.semAt_eq r _ _ hnd, hrun, hy1, Oper.uponIn_round]
  refine ⟨fun h => by simp [Fc] at h, ?_⟩
  refine RoundIn.mono hy2 ?_
  rintro e w' ⟨q, E', Hp', rfl, hR', hS⟩
  have hput := hR'.put hsz o.dst (x := .p (.bool q)) (.inr (by simp only [Den]; exact .bool q))
  refine hn _ _ hS _ _ ⟨df, E', ?_, by rw [size_put, hsz, length_setO]⟩
  rw [getT_setO]
  exact hput

theorem relX_bool {T : List (SV C)} {Hp : List (HS C)} {d : Nat} {b : Bool} (h : RelX D B T Hp a w) (hd : getT T d = .p (.bool b)) : a.tmps.getD d undef = .bool b ∧ RelX D B (setT T d (.p (.bool b))) Hp a w := by
  obtain ⟨df, h⟩ := h
  exact ⟨(relL_bool h hd).1, df, (relL_bool h hd).2⟩
theorem relX_skip {T : List (SV C)} {Hp : List (HS C)} (h : RelX D B T Hp a w) (d : Option Nat) : RelX D B (setO T d (.tuple [])) Hp (a.put d undef) w := by
  obtain ⟨df, h⟩ := h
  exact ⟨df, relL_skip h d⟩

theorem stepR_scope {b : Frame} {k : List Item} {cs : List Frame} {c : Code} : step P (lone (b.atR a (.code (.scope c) :: k)) cs w) = .next (lone (b.atR a (.code c :: .inScope c :: k)) cs w) :=
  step_lone_go (by simp [stepG, stepG.exec, Frame.atR])
theorem stepR_inScope {b : Frame} {k : List Item} {cs : List Frame} {c : Code} : step P (lone (b.atR a (.inScope c :: k)) cs w) = .next (lone (b.atR a k) cs w) :=
  step_lone_go (by simp [stepG, stepG.exec, Frame.atR])
/-- a scope through which the run goes without a goto -/
theorem wpIn_scope_straight {F : Fence} {n : Nat} {c : Code} (h : c.wpIn F n P (Exit.noGoto Q) a w) : (Code.scope c).wpIn F n P Q a w := by
  intro b k cs hro hb hr
  have h0 : (lone (b.atR a (.code (.scope c) :: k)) cs w).fenced P F := fenced_calm hb hr rfl
  obtain ⟨e, a₁, w₁, hq, harr⟩ := h b (.inScope c :: k) cs hro hb hr
  cases e with
  | normal => exact ⟨.normal, a₁, w₁, hq, .head h0 stepR_scope (StepsIn.trans harr (.one (fenced_calm hb hr rfl) stepR_inScope))⟩
  | exit id =>
    have hx : exitTo id (.inScope c :: k) = exitTo id k := by simp [exitTo]
    exact ⟨.exit id, a₁, w₁, hq, fun k' hk => .head h0 stepR_scope (harr.1 k' (by rw [hx]; exact hk)),
      fun hr' hk => let ⟨k₁, h1, h2⟩ := harr.2 hr' (by rw [hx]; exact hk); ⟨k₁, h1, .head h0 stepR_scope h2⟩⟩
  | goto l => exact hq.elim
  | ret => exact ⟨_, a₁, w₁, hq, .of_steps (.one h0 stepR_scope) harr⟩
  | panic ch => exact ⟨_, a₁, w₁, hq, .of_steps (.one h0 stepR_scope) harr⟩
  | outgrown => exact ⟨_, a₁, w₁, hq, .of_steps (.one h0 stepR_scope) harr⟩

theorem after_ok (A : Aux C D) (hT : TabOK P D tab) {X : Ctx C} (hX : CtxOK D X B r) {R : Kont C} {all rest : List Oper} {k : List (It C)} {T : List (SV C)} {Hp : List (HS C)} {Y : Prop}
    (ih : ∀ (k : List (It C)) (T : List (SV C)) (Hp : List (HS C)), R k T Hp → ∀ a w, RelX D B T Hp a w → postX r P D B Q k .normal a w) (hR : RelX D B T Hp a w)
    (h : after0 P D X R Y o.dst all rest k T Hp (exec A tab o.op (valsOf T (opnds o.op)) (hsOf Hp (valsOf T (opnds o.op))) (hlen Hp))) : postX r P D B Q (.op1 all o rest :: k) .normal a w ∨ Y := by
  have hR0 := hR
  obtain ⟨df, E, hR', hsz⟩ := hR
  have hok : ∀ df E, Rel D B E (getT T) (getC Hp) df a w → OutOK P D B (getT T) (getC Hp) df a w o (execV A tab o.op (valsOf T (opnds o.op)) Hp) := fun df E hR' => execV_ok (o := o) A hT hR'
  have hok0 := hok df E hR'
  have hnd : exec A tab o.op (valsOf T (opnds o.op)) (hsOf Hp (valsOf T (opnds o.op))) (hlen Hp) ≠ .stuck → ∀ c, o.op ≠ .defer c := by
    intro hne c hc
    exact hne (by rw [hc]; rfl)
  unfold execV at hok hok0
  generalize exec A tab o.op (valsOf T (opnds o.op)) (hsOf Hp (valsOf T (opnds o.op))) (hlen Hp) = out at hok hok0 h hnd
  simp only [postX, Exit.then]
  cases out with
  | stuck => exact .inr h
  | ask q K =>
    obtain ⟨q', hq, h2⟩ := h.h
    rw [setOK_eq] at h2
    exact .inl (wpIn_of_run (hnd (by simp)) ⟨E, hR', hsz⟩ (hok0 q' hq) fun a' w' hr => ih _ _ _ h2 a' w' ⟨df, hr⟩)
  | may p v =>
    obtain ⟨ht, hf⟩ := h
    rw [setOK_eq] at ht hf
    obtain ⟨b, hb, hrun⟩ := hok0
    cases b with
    | true => exact .inl (wpIn_of_run (hnd (by simp)) ⟨E, hR', hsz⟩ hrun fun a' w' hr => ih _ _ _ (ht (hb rfl)) a' w' ⟨df, hr⟩)
    | false => exact .inl (wpIn_of_run (hnd (by simp)) ⟨E, hR', hsz⟩ hrun fun a' w' hr => ih _ _ _ hf a' w' ⟨df, hr⟩)
  | val v => simp only [after0, setOK_eq] at h; exact .inl (wpIn_of_run (hnd (by simp)) ⟨E, hR', hsz⟩ hok0 fun a' w' hr => ih _ _ _ h a' w' ⟨df, hr⟩)
  | side p v => simp only [after0, setOK_eq] at h; exact .inl (wpIn_of_run (hnd (by simp)) ⟨E, hR', hsz⟩ (hok0 h.1) fun a' w' hr => ih _ _ _ h.2 a' w' ⟨df, hr⟩)
  | mem v ws => simp only [after0, setOK_eq, setCsK_eq] at h; exact .inl (wpIn_of_run (hnd (by simp)) ⟨E, hR', hsz⟩ hok0 fun a' w' hr => ih _ _ _ h a' w' ⟨df, hr⟩)
  | smem p v ws => simp only [after0, setOK_eq, setCsK_eq] at h; exact .inl (wpIn_of_run (hnd (by simp)) ⟨E, hR', hsz⟩ (hok0 h.1) fun a' w' hr => ih _ _ _ h.2 a' w' ⟨df, hr⟩)
  | call f args =>
    simp only [after0, forceV_eq] at h
    obtain ⟨T1, Hp1, args1, hsub, S, hc, h2⟩ := h.h
    have hokc : ∀ df, OutOK P D B (getT T) (getC Hp) df a w o (.call f args) := fun df E' hR'' => (hok df E' hR'') E' hR''
    exact .inl (wpIn_of_callS (hnd (by simp)) hX.m0 hX.L hR0 hokc hsub hc fun ret Hp' hS a' w' hr => ih _ _ _ (h2 ret Hp' hS) a' w' hr)
  | yieldc c args =>
    simp only [after0] at h
    obtain ⟨S, hc, h2⟩ := h.h
    have hokc : ∀ df, OutOK P D B (getT T) (getC Hp) df a w o (.yieldc c args) := fun df E' hR'' => (hok df E' hR'') E' hR''
    exact .inl (wpIn_of_yieldS (hnd (by simp)) hX.L hR0 hokc hc fun q Hp' hS a' w' hr => ih _ _ _ (h2 q Hp' hS) a' w' hr)
theorem gx_sound (A : Aux C D) (hT : TabOK P D tab) {X : Ctx C} (hX : CtxOK D X B r) {Φ : Post C} (hQ : ∀ e a w T Hp, Φ e T Hp → RelX D B T Hp a w → Q e a w) : ∀ (n : Nat) (k : List (It C)) (T : List (SV C)) (Hp : List (HS C)), gx P A tab X Φ n k T Hp →
    ∀ a w, RelX D B T Hp a w → postX r P D B Q k .normal a w := by
  intro n
  induction n with
  | zero => intro k T Hp h; exact h.elim
  | succ n ih =>
    intro k T Hp h a w hR
    simp only [gx] at h
    generalize gx P A tab X Φ n = R at ih h
    unfold gxStep at h
    split at h
    · exact hQ _ _ _ _ _ h hR
    · exact wpIn_skip (ih _ _ _ h a w hR)
    · exact wpIn_label (ih _ _ _ h a w hR)
    · exact wpIn_seq (ih _ _ _ h a w hR)
    · refine wpIn_region_list ?_
      have := ih _ _ _ h a w hR
      simpa [postX, Exit.then] using this
    · rename_i id ops k
      obtain ⟨df, hR⟩ := hR
      obtain ⟨T1, Hp1, hsub, h1⟩ := h.h
      have hR := hsub B df _ _ hX.m0 hR
      have := drawVC_sound (r := r) (id := id) (Q := postX r P D B Q k) A hT h1 hR fun T' Hp' a' w' hk hr => ih _ _ _ hk a' w' ⟨df, hr⟩
      simpa [postX, Exit.then] using this
    · rename_i c x y k
      unfold condC at h
      split at h
      · rename_i b hb
        obtain ⟨df, E, hR', hsz⟩ := hR
        have hd := ev_den hR' c
        rw [← evT_eq, hb] at hd
        have hc := den_bool hd
        cases b with
        | true => exact wpIn_cond_true hc (ih _ _ _ h a w ⟨df, E, hR', hsz⟩)
        | false => exact wpIn_cond_false hc (ih _ _ _ h a w ⟨df, E, hR', hsz⟩)
      · cases h
    · exact wpIn_block (ih _ _ _ h a w hR)
    · rename_i body k
      obtain ⟨γ, I, good, μ, g0, h0, hs0, hround⟩ := h.h
      have hsub : ∀ {T Hp T' Hp' a w}, SubS D X.m0 T Hp T' Hp' → RelX D B T Hp a w → RelX D B T' Hp' a w := fun hs ⟨df, hr⟩ => ⟨df, hs B df _ _ hX.m0 hr⟩
      refine wpIn_loop_ghost (fun n a w => ∃ g, good g ∧ μ g = n ∧ RelX D B (I g).1 (I g).2 a w) (μ g0) ⟨g0, h0, rfl, hsub hs0 hR⟩ ?_
      rintro _ a w ⟨g, hg, rfl, hRg⟩
      have := ih _ _ _ (hround g hg (fun T' Hp' => ∃ g', good g' ∧ μ g' < μ g ∧ SubS D X.m0 T' Hp' (I g').1 (I g').2) fun T' Hp' g' h1 h2 h3 => ⟨g', h1, h2, h3⟩) a w hRg
      refine wpIn_mono this ?_
      intro e a' w' he
      cases e with
      | normal =>
        obtain ⟨T', Hp', ⟨g', h1, h2, h3⟩, hR'⟩ := he
        exact ⟨μ g', h2, g', h1, rfl, hsub h3 hR'⟩
      | exit id => exact he
      | goto l => exact he
      | ret => exact he
      | panic c => exact he
      | outgrown => exact he
    · rename_i id k
      refine wpIn_exit (postX_exit id k ?_)
      unfold atExit at h
      cases hu : unwind id k with
      | none => rw [hu] at h; exact hQ _ _ _ _ _ h hR
      | some k' => rw [hu] at h; exact ih _ _ _ h a w hR
    · exact wpIn_ret (postX_ret _ (hQ _ _ _ _ _ h hR))
    · exact wpIn_scope_straight (ih _ _ _ h a w hR)
    · exact ih _ _ _ h a w hR
    · rename_i g ps assign body k
      obtain ⟨S, hS, hn⟩ := h.h
      refine hS r B a w _ hX hR ?_
      intro j Hp' a' w' hj hR'
      have := hn j Hp' hj
      cases j with
      | none => exact ih _ _ _ this a' w' hR'
      | some c => exact ih _ _ _ this a' w' hR'
    · exact ih _ _ _ h a w hR
    · exact ⟨_, _, h, hR⟩
    · have := ih _ _ _ h a w hR
      simp only [postX, Exit.then, wpListIn]
      exact this
    · rename_i all dst op ty pos after rest k
      have := ih _ _ _ h a w hR
      simp only [postX, Exit.then] at this ⊢
      simp only [wpListIn, Region.wanted, if_true]
      exact this
    · rename_i all dst op ty pos after j want rest k
      cases hg : gslot all j with
      | none => rw [hg] at h; exact h.elim
      | some d =>
        rw [hg] at h
        simp only [guardO] at h
        unfold guardX at h
        split at h
        · rename_i b hb
          obtain ⟨hv, hR2⟩ := relX_bool hR hb
          have hy := yielded_slot hg b hv
          simp only [postX, Exit.then, wpListIn, Region.wanted, hy]
          cases want <;> cases b <;> simp only [condX, setTK_eq, setOK_eq] at h
          · have := ih _ _ _ h a w hR2
            simp only [postX, Exit.then] at this
            simp only [beq_self_eq_true, if_true]
            exact this
          · have := ih _ _ _ h (a.put dst undef) w (relX_skip hR2 dst)
            simp only [postX, Exit.then] at this
            exact ⟨fun _ _ => trivial, this⟩
          · have := ih _ _ _ h (a.put dst undef) w (relX_skip hR2 dst)
            simp only [postX, Exit.then] at this
            exact ⟨fun _ _ => trivial, this⟩
          · have := ih _ _ _ h a w hR2
            simp only [postX, Exit.then] at this
            simp only [beq_self_eq_true, if_true]
            exact this
        · rename_i hb
          have hv : a.tmps.getD d undef = .tuple #[] := by
            obtain ⟨df, E, hR', hsz⟩ := hR
            have hden := hR'.den d
            rw [hb] at hden
            simp only [Den, DenA] at hden
            obtain ⟨xs, e, hx⟩ := hden
            have : xs = #[] := by simpa using hx
            rw [e, this]
          have hy := yielded_undef hg hv
          rw [setOK_eq] at h
          have := ih _ _ _ h (a.put dst undef) w (relX_skip hR dst)
          simp only [postX, Exit.then] at this
          simp only [postX, Exit.then, wpListIn, Region.wanted, hy]
          exact ⟨fun _ _ => trivial, this⟩
        · cases h
    · rename_i all o rest k
      rw [forceV_eq, hlenK_eq, Nat.add_zero] at h
      unfold execX at h
      rcases after_ok A hT hX ih hR h with h | h
      · exact h
      · obtain ⟨T1, Hp1, hsub, h1⟩ := h.h
        obtain ⟨df, E, hR', hsz⟩ := hR
        obtain ⟨E1, hR1, hsz1, _⟩ := hsub B E df a w hX.m0 hR' hsz
        rcases after_ok A hT hX ih ⟨df, E1, hR1, hsz1⟩ h1 with h | h
        · exact h
        · exact h.elim
    · cases h
end
end Go.SX
