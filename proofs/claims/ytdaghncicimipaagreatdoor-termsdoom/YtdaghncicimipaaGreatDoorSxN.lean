/-
  SX, part N: the generator of verification conditions, and its soundness.
-/
import Derived.Test.YtdaghncicimipaaGreatDoorSxM2
import Derived.TacticsIn
import Derived.Deep.LoopGhost
import Derived.Scope
set_option linter.unusedSimpArgs false
namespace Go.SX
set_option linter.unusedVariables false
open Go.RowKit
variable {C : Cod}

def Fc (r : Option Nat) : Fence := { fn := fun _ => True, depth := none, alive := false, round := r }

def getT : List (SV C) → Nat → SV C
  | [], _ => .any
  | x :: _, 0 => x
  | _ :: l, n + 1 => getT l n
def setT : List (SV C) → Nat → SV C → List (SV C)
  | [], _, _ => []
  | _ :: l, 0, v => v :: l
  | x :: l, n + 1, v => x :: setT l n v
def setO (T : List (SV C)) (d : Option Nat) (v : SV C) : List (SV C) :=
  match d with
  | none => T
  | some d => setT T d v
def getC : List (HS C) → Nat → HS C
  | [], _ => .fresh
  | x :: _, 0 => x
  | _ :: l, n + 1 => getC l n
def setC : List (HS C) → Nat → HS C → List (HS C)
  | [], 0, h => [h]
  | [], n + 1, h => .fresh :: setC [] n h
  | _ :: l, 0, h => h :: l
  | x :: l, n + 1, h => x :: setC l n h
def setCs : List (HS C) → List (Nat × HS C) → List (HS C)
  | Hp, [] => Hp
  | Hp, (c, h) :: l => setCs (setC Hp c h) l

def evT (T : List (SV C)) : Operand → SV C
  | .tmp t => getT T t
  | .const v => ofV v
  | .global g => globS g (C.glob g)
  | .func f => .fn (.func f) [] []
def valsOf (T : List (SV C)) : List Operand → List (SV C)
  | [] => []
  | x :: l => evT T x :: valsOf T l
def hsOf (Hp : List (HS C)) : List (SV C) → List (Nat × HS C)
  | [] => []
  | x :: l => match x.topId with
    | some c => (c, getC Hp c) :: hsOf Hp l
    | none => hsOf Hp l

def hlen : List (HS C) → Nat
  | [] => 0
  | _ :: l => hlen l + 1

def execV {D : Codec C} (A : Aux C D) (tab : Tab C) (o : Op) (vals : List (SV C)) (Hp : List (HS C)) : Out C :=
  exec A tab o vals (hsOf Hp vals) (hlen Hp)

/-- what is still to be done -/
inductive It (C : Cod) where
  | code (c : Code)
  | ops (all rest : List Oper)
  | op1 (all : List Oper) (o : Oper) (rest : List Oper)
  | blk (id : Nat)
  | endLoop (J : List (SV C) → List (HS C) → Prop)
  | beginR
  | scp

def unwind (id : Nat) : List (It C) → Option (List (It C))
  | [] => none
  | .blk i :: k => if i = id then some k else unwind id k
  | _ :: k => unwind id k

def gslot (all : List Oper) (j : Nat) : Option Nat :=
  match ixL all j with
  | some o => o.dst
  | none => none

def CondVC (b : Bool) (X Y : Prop) : Prop := match b with
  | true => X
  | false => Y

abbrev Post (C : Cod) := Exit → List (SV C) → List (HS C) → Prop

/-- the meaning of a state: slots T, heap Hp -/
def RelL (D : Codec C) (B : Base) (df : List Deferred) (T : List (SV C)) (Hp : List (HS C)) (a : Act) (w : World) : Prop :=
  ∃ E, Rel D B E (getT T) (getC Hp) df a w ∧ a.tmps.size = T.length

/-- one state says no more than another -/
def SubS (D : Codec C) (m0 : Nat) (T : List (SV C)) (Hp : List (HS C)) (T' : List (SV C)) (Hp' : List (HS C)) : Prop :=
  ∀ B df a w, B.m0 = m0 → RelL D B df T Hp a w → RelL D B df T' Hp' a w

/-- a call returns ret, and does ws to the heap -/
structure CallAt (P : Program) (D : Codec C) (f : FuncId) (args : List (SV C)) (H : Nat → HS C) (ret : SV C) (ws : List (Nat × HS C)) : Prop where
  /-- by its body, or (a function of the runtime that has none) at once -/
  run : ((∀ args w, (callFunc f args).run P w = .ok (.enter f args) w) ∧ ∀ B σ df a w E, Rel D B E σ H df a w → ∀ vs, DenA D w E args vs →
    CallsIn (Fc none) 0 P f vs.toArray w fun e w' => ∃ v E', e = .returned v ∧ Den D w' E' ret v ∧ Rel D B E' σ (upHs H ws) df a w') ∨
    ∀ B σ df a w E, Rel D B E σ H df a w → ∀ vs, DenA D w E args vs → ∃ v w' E', (callFunc f vs.toArray).run P w = .ok (.value v) w' ∧ Den D w' E' ret v ∧ Rel D B E' σ (upHs H ws) df a w'

abbrev Kont (C : Cod) := List (It C) → List (SV C) → List (HS C) → Prop

def LoopVC (D : Codec C) (m0 : Nat) (R : Kont C) (body : Code) (k : List (It C)) (T : List (SV C)) (Hp : List (HS C)) : Prop :=
  ∃ (γ : Type) (I : γ → List (SV C) × List (HS C)) (good : γ → Prop) (μ : γ → Nat) (g0 : γ), good g0 ∧ SubS D m0 T Hp (I g0).1 (I g0).2 ∧
    ∀ g, good g → ∀ J : List (SV C) → List (HS C) → Prop, (∀ T' Hp' g', good g' → μ g' < μ g → SubS D m0 T' Hp' (I g').1 (I g').2 → J T' Hp') →
      R (.code body :: .endLoop J :: k) (I g).1 (I g).2

def atExit (Φ : Post C) (R : Kont C) (id : Nat) (T : List (SV C)) (Hp : List (HS C)) : Option (List (It C)) → Prop
  | some k => R k T Hp
  | none => Φ (.exit id) T Hp

/-- a call whose contract holds over every heap that is alike at the numbers fc -/
structure CallF (P : Program) (D : Codec C) (f : FuncId) (args : List (SV C)) (H0 : Nat → HS C) (fc : List Nat) (ret : SV C) (ws : List (Nat × HS C)) : Prop where
  at_ : ∀ H, (∀ c ∈ fc, H c = H0 c) → CallAt P D f args H ret ws

def tmpsOf : List Operand → List Nat
  | [] => []
  | .tmp t :: l => t :: tmpsOf l
  | _ :: l => tmpsOf l
def topIds : List (SV C) → List Nat
  | [] => []
  | x :: l => match x.topId with
    | some c => c :: topIds l
    | none => topIds l
/-- the chunks that an operation looks at: a copied value's none -/
def fcOf : Op → List (SV C) → List Nat
  | .move _, _ => []
  | .assign _, _ => []
  | _, vals => topIds vals
def idsOf : List (Nat × HS C) → List Nat
  | [] => []
  | (c, _) :: l => c :: idsOf l
/-- does it lay a new block? -/
def lays : Op → Bool
  | .alloc _ => true
  | .box _ _ => true
  | .buildSlice _ _ _ => true
  | .makeSlice _ _ _ => true
  | .makeMap _ _ => true
  | .slice _ _ (some _) _ (some _) => true
  | .call c => match c.callee with
    | .builtin .append => true
    | _ => false
  | _ => false

abbrev DK (C : Cod) := List Ent → List (SV C) → List (HS C) → Prop
def DWait (next : DK C) (tr : List Ent) (T : List (SV C)) (Hp : List (HS C)) : Prop := next tr T Hp
def DCallVC (P : Program) (D : Codec C) (next : DK C) (f : FuncId) (args : List (SV C)) (dst : Option Nat) (fs fc0 : List Nat) (tr : List Ent) (T : List (SV C)) (Hp : List (HS C)) : Prop :=
  ∃ ret ws fc, CallF P D f args (getC Hp) fc ret ws ∧ next (⟨dst, fs, fc0 ++ fc, idsOf ws⟩ :: tr) (setO T dst ret) (setCs Hp ws)
def drawOut (P : Program) (D : Codec C) (next : DK C) (dst : Option Nat) (fs fc : List Nat) (tr : List Ent) (T : List (SV C)) (Hp : List (HS C)) : Out C → Prop
  | .stuck => False
  | .val v => next (⟨dst, fs, fc, []⟩ :: tr) (setO T dst v) Hp
  | .side p v => p ∧ next (⟨dst, fs, fc, []⟩ :: tr) (setO T dst v) Hp
  | .mem v ws => next (⟨dst, fs, fc, idsOf ws⟩ :: tr) (setO T dst v) (setCs Hp ws)
  | .smem p v ws => p ∧ next (⟨dst, fs, fc, idsOf ws⟩ :: tr) (setO T dst v) (setCs Hp ws)
  | .call f args => DCallVC P D next f args dst fs fc tr T Hp
  | .yieldc _ _ => False
  | .may _ _ => False
  | .ask q K => ∃ r, q = some r ∧ next (⟨dst, fs, fc, []⟩ :: tr) (setO T dst (K r)) Hp
def freshAt (Hp : List (HS C)) (m : Nat) (X : Prop) : Prop := match getC Hp m with
  | .fresh => X
  | _ => False
def newAt (o : Op) (big : Nat) (Hp : List (HS C)) : Nat := match lays o with
  | true => hlen Hp
  | false => big
def drawOpAt (P : Program) {D : Codec C} (A : Aux C D) (tab : Tab C) (next : DK C) (dst : Option Nat) (op : Op) (fs : List Nat) (tr : List Ent) (T : List (SV C)) (Hp : List (HS C)) (vals : List (SV C)) (m : Nat) : Prop :=
  freshAt Hp m (drawOut P D next dst fs (m :: fcOf op vals) tr T Hp (exec A tab op vals (hsOf Hp vals) m))
def drawOp (P : Program) {D : Codec C} (A : Aux C D) (tab : Tab C) (big : Nat) (next : DK C) (dst : Option Nat) (op : Op) (gs : List Nat) (tr : List Ent) (T : List (SV C)) (Hp : List (HS C)) : Prop :=
  drawOpAt P A tab next dst op (gs ++ tmpsOf (opnds op)) tr T Hp (valsOf T (opnds op)) (newAt op big Hp)
def DWaitO (P : Program) {D : Codec C} (A : Aux C D) (tab : Tab C) (big : Nat) (next : DK C) (dst : Option Nat) (op : Op) (gs : List Nat) (tr : List Ent) (T : List (SV C)) (Hp : List (HS C)) : Prop :=
  drawOp P A tab big next dst op gs tr T Hp
def dGuard (P : Program) {D : Codec C} (A : Aux C D) (tab : Tab C) (big : Nat) (next : DK C) (dst : Option Nat) (op : Op) (d : Nat) (want : Bool) (tr : List Ent) (T : List (SV C)) (Hp : List (HS C)) : SV C → Prop
  | .p (.bool b) => match want with
    | true => CondVC b (DWaitO P A tab big next dst op [d] tr T Hp) (DWait next (⟨dst, [d], [], []⟩ :: tr) (setO T dst (.tuple [])) Hp)
    | false => CondVC b (DWait next (⟨dst, [d], [], []⟩ :: tr) (setO T dst (.tuple [])) Hp) (DWaitO P A tab big next dst op [d] tr T Hp)
  | .tuple [] => next (⟨dst, [d], [], []⟩ :: tr) (setO T dst (.tuple [])) Hp
  | _ => False
def dGuardD (P : Program) {D : Codec C} (A : Aux C D) (tab : Tab C) (big : Nat) (next : DK C) (dst : Option Nat) (op : Op) (want : Bool) (tr : List Ent) (T : List (SV C)) (Hp : List (HS C)) : Option Nat → Prop
  | none => False
  | some d => dGuard P A tab big next dst op d want tr T Hp (getT T d)
def drawGo (P : Program) {D : Codec C} (A : Aux C D) (tab : Tab C) (K : DK C) (all : List Oper) (big : Nat) : List Oper → DK C
  | [] => K
  | ⟨dst, op, _, _, _, none⟩ :: rest => fun tr T Hp => drawOp P A tab big (drawGo P A tab K all big rest) dst op [] tr T Hp
  | ⟨dst, op, _, _, _, some (j, want)⟩ :: rest => fun tr T Hp => dGuardD P A tab big (drawGo P A tab K all big rest) dst op want tr T Hp (gslot all j)
def drawK (R : Kont C) (all : List Oper) (k : List (It C)) : DK C := fun tr T Hp => traceB all tr.reverse = true ∧ R k T Hp
def DrawVC (P : Program) {D : Codec C} (A : Aux C D) (tab : Tab C) (R : Kont C) (ops : List Oper) (k : List (It C)) (T : List (SV C)) (Hp : List (HS C)) : Prop :=
  P.follows .mixedOrders = true ∧ drawGo P A tab (drawK R ops k) ops (hlen Hp + 1000) ops [] T Hp

section
variable {P : Program} {D : Codec C} {tab : Tab C} {B : Base} {E : Env} {σ : Nat → SV C} {H : Nat → HS C} {df : List Deferred} {a : Act} {w : World} {o : Oper} {r : Option Nat}

theorem getT_setT : ∀ (T : List (SV C)) (d : Nat) (v : SV C) (i : Nat), getT (setT T d v) i = if i = d ∧ d < T.length then v else getT T i
  | [], d, v, i => by simp [setT, getT]
  | x :: l, 0, v, i => by cases i <;> simp [setT, getT]
  | x :: l, d + 1, v, i => by
    cases i with
    | zero => simp [setT, getT]
    | succ i => simp only [setT, getT, getT_setT l d v i, List.length_cons, Nat.add_right_cancel_iff, Nat.add_lt_add_iff_right]
theorem length_setT : ∀ (T : List (SV C)) (d : Nat) (v : SV C), (setT T d v).length = T.length
  | [], d, v => rfl
  | x :: l, 0, v => rfl
  | x :: l, d + 1, v => by simp [setT, length_setT l d v]
theorem length_setO (T : List (SV C)) (d : Option Nat) (v : SV C) : (setO T d v).length = T.length := by
  cases d <;> simp [setO, length_setT]
theorem getT_setO (T : List (SV C)) (d : Option Nat) (v : SV C) : getT (setO T d v) = upT T.length (getT T) d v := by
  cases d with
  | none => rfl
  | some d => funext i; simp only [setO, upT, getT_setT]
theorem getC_setC : ∀ (Hp : List (HS C)) (c : Nat) (h : HS C) (i : Nat), getC (setC Hp c h) i = if i = c then h else getC Hp i
  | [], 0, h, i => by cases i <;> simp [setC, getC]
  | [], c + 1, h, i => by
    cases i with
    | zero => simp [setC, getC]
    | succ i => simp only [setC, getC, getC_setC [] c h i, Nat.add_right_cancel_iff]
  | x :: l, 0, h, i => by cases i <;> simp [setC, getC]
  | x :: l, c + 1, h, i => by
    cases i with
    | zero => simp [setC, getC]
    | succ i => simp only [setC, getC, getC_setC l c h i, Nat.add_right_cancel_iff]
theorem getC_setC' (Hp : List (HS C)) (c : Nat) (h : HS C) : getC (setC Hp c h) = upH (getC Hp) c h := by
  funext i; simp only [upH, getC_setC]
theorem getC_setCs : ∀ (ws : List (Nat × HS C)) (Hp : List (HS C)), getC (setCs Hp ws) = upHs (getC Hp) ws
  | [], Hp => rfl
  | (c, h) :: l, Hp => by simp only [setCs, upHs, getC_setCs l, getC_setC']

theorem evT_eq (T : List (SV C)) (x : Operand) : evT T x = ev (getT T) x := by cases x <;> rfl
theorem valsOf_eq (T : List (SV C)) : ∀ l : List Operand, valsOf T l = l.map (ev (getT T))
  | [] => rfl
  | x :: l => by simp only [valsOf, List.map_cons, evT_eq, valsOf_eq T l]

theorem lk_hsOf (Hp : List (HS C)) : ∀ (vals : List (SV C)) (x : SV C), x ∈ vals → ∀ c, x.topId = some c → lk (hsOf Hp vals) c = getC Hp c
  | [], x, hx, c, _ => by simp at hx
  | y :: l, x, hx, c, hc => by
    simp only [hsOf]
    have ih := lk_hsOf Hp l
    rcases List.mem_cons.1 hx with rfl | hx
    · rw [hc]; simp [lk]
    · cases hy : y.topId with
      | none => exact ih x hx c hc
      | some d =>
        simp only [lk]
        by_cases hdc : d = c
        · rw [if_pos hdc, hdc]
        · rw [if_neg hdc]; exact ih x hx c hc

theorem hlen_eq : ∀ Hp : List (HS C), hlen Hp = Hp.length
  | [] => rfl
  | _ :: l => by simp [hlen, hlen_eq l]
theorem getC_len : ∀ Hp : List (HS C), getC Hp (hlen Hp) = .fresh
  | [] => rfl
  | _ :: l => by simp only [hlen, getC]; exact getC_len l

theorem execV_ok (A : Aux C D) (hT : TabOK P D tab) {T : List (SV C)} {Hp : List (HS C)} (hR : Rel D B E (getT T) (getC Hp) df a w) :
    OutOK P D B (getT T) (getC Hp) df a w o (execV A tab o.op (valsOf T (opnds o.op)) Hp) :=
  exec_ok A hT hR (getC_len Hp) (valsOf_eq T _) fun x hx c hc => lk_hsOf Hp _ x hx c hc

/-- only a supported operation is not stuck -/
theorem not_defer (A : Aux C D) {vals : List (SV C)} {hs : List (Nat × HS C)} {m : Nat} (h : exec A tab o.op vals hs m ≠ .stuck) : ∀ c, o.op ≠ .defer c := by
  intro c hc
  rw [hc] at h
  exact h rfl

theorem wpIn_of_run {next : Act → World → Prop} {Q : Exit → Act → World → Prop} (hnd : ∀ c, o.op ≠ .defer c) {v : SV C} {ws : List (Nat × HS C)} {T : List (SV C)} {Hp : List (HS C)}
    (hR : RelL D B df T Hp a w) (h : RunOK P D B (getT T) (getC Hp) df a w o v ws)
    (hn : ∀ a' w', RelL D B df (setO T o.dst v) (setCs Hp ws) a' w' → next a' w') : o.wpIn (Fc r) 0 P a w next Q := by
  refine ⟨fun _ _ => trivial, ?_⟩
  obtain ⟨u, w', E', hrun, hR', hd⟩ := h
  obtain ⟨E0, _, hsz⟩ := hR
  have hput := hR'.put hsz o.dst (.inr hd)
  have hrel : RelL D B df (setO T o.dst v) (setCs Hp ws) (a.put o.dst u) w' := by
    refine ⟨E', ?_, by rw [size_put, hsz, length_setO]⟩
    rw [getT_setO, getC_setCs]
    exact hput
  rw [show (Fc r).round = r from rfl, Oper.semAt_eq r _ _ hnd]
  rcases hrun with hrun | ⟨hrun, rfl⟩
  · rw [hrun]; exact hn _ _ hrel
  · rw [hrun]; exact hn _ _ hrel

variable {Q : Exit → Act → World → Prop}
theorem wpIn_loop_ghost {c : Code} (I : Nat → Act → World → Prop) (n₀ : Nat) (h₀ : I n₀ a w)
    (round : ∀ n a w, I n a w → c.wpIn (Fc r) 0 P (Exit.then (fun a' w' => ∃ n', n' < n ∧ I n' a' w') Q) a w) : (Code.loop c).wpIn (Fc r) 0 P Q a w := by
  refine wpIn_loop (fun a w => ∃ n, I n a w) (fun a w => leastOf (fun n => I n a w)) ⟨n₀, h₀⟩ ?_
  intro a w hI
  refine wpIn_mono (round _ a w (leastOf_spec hI).1) ?_
  intro e a' w' hq
  cases e with
  | normal =>
    obtain ⟨n', hlt, hI'⟩ := hq
    exact show (∃ n, I n a' w') ∧ leastOf (fun n => I n a' w') < leastOf (fun n => I n a w) from ⟨⟨n', hI'⟩, Nat.lt_of_le_of_lt ((leastOf_spec ⟨n', hI'⟩).2 n' hI') hlt⟩
  | exit id => exact hq
  | goto l => exact hq
  | ret => exact hq
  | panic c => exact hq
  | outgrown => exact hq

theorem yielded_slot {all : List Oper} {j d : Nat} (h : gslot all j = some d) (b : Bool) (hb : a.tmps.getD d undef = .bool b) : yielded all.toArray a.tmps j = some b := by
  unfold gslot at h
  rw [ixL_eq] at h
  unfold yielded
  cases hq : all[j]? with
  | none => simp [hq] at h
  | some o =>
    simp [hq] at h
    have hbt : a.tmps[d]? = some (.bool b) := by
      rw [Array.getD_eq_getD_getElem?] at hb
      cases ht : a.tmps[d]? with
      | none => rw [ht] at hb; simp [undef] at hb
      | some v => rw [ht] at hb; simp at hb; rw [hb]
    simp [hq, h, hbt]

theorem yielded_undef {all : List Oper} {j d : Nat} (h : gslot all j = some d) (hb : a.tmps.getD d undef = .tuple #[]) : yielded all.toArray a.tmps j = none := by
  unfold gslot at h
  rw [ixL_eq] at h
  unfold yielded
  cases hq : all[j]? with
  | none => simp [hq] at h
  | some o =>
    simp [hq] at h
    cases ht : a.tmps[d]? with
    | none => simp [hq, h, ht]
    | some v =>
      rw [Array.getD_eq_getD_getElem?, ht] at hb
      simp at hb
      simp [hq, h, ht, hb]

theorem relL_bool {T : List (SV C)} {Hp : List (HS C)} {d : Nat} {b : Bool} (h : RelL D B df T Hp a w) (hd : getT T d = .p (.bool b)) : a.tmps.getD d undef = .bool b ∧ RelL D B df (setT T d (.p (.bool b))) Hp a w := by
  obtain ⟨E, hR, hsz⟩ := h
  have hden := hR.den d
  rw [hd] at hden
  refine ⟨den_bool hden, E, ⟨fun i => ?_, hR.sat, hR.fr, hR.defers, hR.marks⟩, by rw [length_setT, hsz]⟩
  rw [getT_setT]
  split
  · rename_i hi; rw [hi.1]; exact hden
  · exact hR.den i

theorem relL_skip {T : List (SV C)} {Hp : List (HS C)} (h : RelL D B df T Hp a w) (d : Option Nat) : RelL D B df (setO T d (.tuple [])) Hp (a.put d undef) w := by
  obtain ⟨E, hR, hsz⟩ := h
  refine ⟨E, ?_, by rw [size_put, hsz, length_setO]⟩
  rw [getT_setO]
  exact hR.put hsz d (.inr (by simp only [Den, DenA]; exact ⟨#[], rfl, rfl⟩))


def OkS (D : Codec C) (B : Base) (df : List Deferred) (N : Nat) (x : ST C) (a : Act) (w : World) : Prop := ∃ E, Rel D B E x.1 x.2 df a w ∧ a.tmps.size = N

theorem wpIn_of_run' {next : Act → World → Prop} {Q : Exit → Act → World → Prop} (hnd : ∀ c, o.op ≠ .defer c) {v : SV C} {ws : List (Nat × HS C)} {N : Nat} (hsz : a.tmps.size = N)
    (h : RunOK P D B σ H df a w o v ws) (hn : ∀ a' w', OkS D B df N (upT N σ o.dst v, upHs H ws) a' w' → next a' w') : o.wpIn (Fc r) 0 P a w next Q := by
  refine ⟨fun _ _ => trivial, ?_⟩
  obtain ⟨u, w', E', hrun, hR', hd⟩ := h
  have hput := hR'.put hsz o.dst (.inr hd)
  have hrel : OkS D B df N (upT N σ o.dst v, upHs H ws) (a.put o.dst u) w' := ⟨E', hput, by rw [size_put, hsz]⟩
  rw [show (Fc r).round = r from rfl, Oper.semAt_eq r _ _ hnd]
  rcases hrun with hrun | ⟨hrun, rfl⟩
  · rw [hrun]; exact hn _ _ hrel
  · rw [hrun]; exact hn _ _ hrel

theorem wpIn_of_call' {next : Act → World → Prop} {Q : Exit → Act → World → Prop} (hnd : ∀ c, o.op ≠ .defer c) {f : FuncId} {args : List (SV C)} {ret : SV C} {ws : List (Nat × HS C)} {N : Nat} (hsz : a.tmps.size = N)
    (hR : Rel D B E σ H df a w) (h : OutOK P D B σ H df a w o (.call f args)) (hc : CallAt P D f args H ret ws)
    (hn : ∀ a' w', OkS D B df N (upT N σ o.dst ret, upHs H ws) a' w' → next a' w') : o.wpIn (Fc r) 0 P a w next Q := by
  refine ⟨fun _ _ => trivial, ?_⟩
  obtain ⟨vs, hd, hrun⟩ := h E hR
  rcases hc.run with ⟨hc1, hc2⟩ | hx
  rotate_left
  · obtain ⟨v, w', E', h1, hv, hR'⟩ := hx B _ df a w E hR vs hd
    rw [show (Fc r).round = r from rfl, Oper.semAt_eq r _ _ hnd, hrun, h1]
    have hput := hR'.put hsz o.dst (.inr hv)
    exact hn _ _ ⟨E', hput, by rw [size_put, hsz]⟩
  rw [show (Fc r).round = r from rfl, Oper.semAt_eq r _ _ hnd, hrun, hc1]
  refine ⟨fun h => by simp [Fc] at h, ?_⟩
  have hcalls := hc2 B _ df a w E hR vs hd
  have hcalls' : CallsIn (Fc r) (0 - 1) P f vs.toArray w fun e w' => ∃ v E', e = .returned v ∧ Den D w' E' ret v ∧ Rel D B E' σ (upHs H ws) df a w' := hcalls
  refine hcalls'.mono ?_
  rintro e w' ⟨v, E', rfl, hv, hR'⟩
  have hput := hR'.put hsz o.dst (.inr hv)
  exact hn _ _ ⟨E', hput, by rw [size_put, hsz]⟩

variable (r) in
/-- what a step does, from every state that is alike where it looks -/
def StepSem (P : Program) (D : Codec C) (B : Base) (df : List Deferred) (Q : Exit → Act → World → Prop) (N : Nat) (all : List Oper) (i : Nat) (s : Stp C) (x : ST C) : Prop :=
  ∀ x' : ST C, (∀ t ∈ s.e.fs, x'.1 t = x.1 t) → (∀ c ∈ s.e.fc, x'.2 c = x.2 c) → ∀ a w (K : Act → World → Prop), OkS D B df N x' a w →
    (∀ a' w', OkS D B df N (s.app N x') a' w' → K a' w') → wpOpIn (Fc r) 0 P all.toArray Q i K a w

theorem topIds_mem : ∀ (l : List (SV C)) (x : SV C) (c : Nat), x ∈ l → x.topId = some c → c ∈ topIds l
  | [], x, c, h, _ => by simp at h
  | y :: l, x, c, h, hc => by
    simp only [topIds]
    rcases List.mem_cons.1 h with rfl | h
    · rw [hc]; simp
    · cases y.topId with
      | none => exact topIds_mem l x c h hc
      | some d => exact List.mem_cons_of_mem _ (topIds_mem l x c h hc)
theorem idsOf_eq : ∀ ws : List (Nat × HS C), idsOf ws = ws.map (·.1)
  | [] => rfl
  | (c, h) :: l => by simp [idsOf, idsOf_eq l]
theorem ev_agree {σ σ' : Nat → SV C} : ∀ (l : List Operand), (∀ t ∈ tmpsOf l, σ' t = σ t) → l.map (ev σ') = l.map (ev σ)
  | [], _ => rfl
  | x :: l, h => by
    simp only [List.map_cons]
    cases x with
    | tmp t => rw [ev_agree l fun u hu => h u (by simp [tmpsOf, hu])]; simp only [ev]; rw [h t (by simp [tmpsOf])]
    | const v => rw [ev_agree l fun u hu => h u (by simpa [tmpsOf] using hu)]; rfl
    | global v => rw [ev_agree l fun u hu => h u (by simpa [tmpsOf] using hu)]; rfl
    | func v => rw [ev_agree l fun u hu => h u (by simpa [tmpsOf] using hu)]; rfl

theorem lk_ids (H : Nat → HS C) : ∀ (l : List Nat) (c : Nat), c ∈ l → lk (l.map fun c => (c, H c)) c = H c
  | [], c, h => by simp at h
  | d :: l, c, h => by
    simp only [List.map_cons, lk]
    by_cases e : d = c
    · rw [if_pos e, e]
    · rw [if_neg e]
      exact lk_ids H l c (by rcases List.mem_cons.1 h with h | h; exact absurd h.symm e; exact h)
/-- what an operation that copies looks at plays no part -/
theorem hs_for (A : Aux C D) {m : Nat} (op : Op) (vals : List (SV C)) (Hp : List (HS C)) (H : Nat → HS C) (h : ∀ c ∈ fcOf op vals, H c = getC Hp c) :
    ∃ hs', (∀ x ∈ vals, ∀ c, x.topId = some c → lk hs' c = H c) ∧ exec A tab op vals hs' m = exec A tab op vals (hsOf Hp vals) m := by
  cases op
  case move x => exact ⟨_, fun x hx c hc => lk_ids H (topIds vals) c (topIds_mem _ x c hx hc), rfl⟩
  case assign x => exact ⟨_, fun x hx c hc => lk_ids H (topIds vals) c (topIds_mem _ x c hx hc), rfl⟩
  all_goals exact ⟨_, fun x hx c hc => (lk_hsOf Hp _ x hx c hc).trans (h c (topIds_mem _ x c hx hc)).symm, rfl⟩
/-- a guarded or free operation, wanted -/
theorem wanted_free {tmps : Nat → Option Bool} (hg : o.guard = none) : Region.wanted o tmps = true := by simp [Region.wanted, hg]

theorem step_of_out (A : Aux C D) (hT : TabOK P D tab) {all : List Oper} {i : Nat} (hi : all[i]? = some o) {Q : Exit → Act → World → Prop} {N : Nat} {T : List (SV C)} {Hp : List (HS C)} {m : Nat} {gs : List Nat} (hm : getC Hp m = .fresh) {v : SV C} {ws : List (Nat × HS C)}
    (hwant : ∀ x' : ST C, (∀ t ∈ gs, x'.1 t = getT T t) → ∀ a w, OkS D B df N x' a w → Region.wanted o (yielded all.toArray a.tmps) = true)
    {fc : List Nat} (hf : fc = m :: fcOf o.op (valsOf T (opnds o.op)))
    (hout : exec A tab o.op (valsOf T (opnds o.op)) (hsOf Hp (valsOf T (opnds o.op))) m = .val v ∧ ws = [] ∨
      (∃ p : Prop, p ∧ exec A tab o.op (valsOf T (opnds o.op)) (hsOf Hp (valsOf T (opnds o.op))) m = .side p v ∧ ws = []) ∨
      exec A tab o.op (valsOf T (opnds o.op)) (hsOf Hp (valsOf T (opnds o.op))) m = .mem v ws ∨
      (∃ p : Prop, p ∧ exec A tab o.op (valsOf T (opnds o.op)) (hsOf Hp (valsOf T (opnds o.op))) m = .smem p v ws) ∨
      ∃ q K r, exec A tab o.op (valsOf T (opnds o.op)) (hsOf Hp (valsOf T (opnds o.op))) m = .ask q K ∧ q = some r ∧ v = K r ∧ ws = []) :
    StepSem r P D B df Q N all i ⟨⟨o.dst, gs ++ tmpsOf (opnds o.op), fc, idsOf ws⟩, v, ws, (idsOf_eq ws).symm⟩ (getT T, getC Hp) := by
  subst hf
  intro x' hfs hfc a w K hok hK
  have hw := hwant x' (fun t ht => hfs t (by simp [ht])) a w hok
  obtain ⟨E, hR, hsz⟩ := hok
  have hv : valsOf T (opnds o.op) = (opnds o.op).map (ev x'.1) := by
    rw [valsOf_eq]
    exact (ev_agree (σ := getT T) (σ' := x'.1) _ fun t ht => hfs t (by simp [ht])).symm
  have hm' : x'.2 m = .fresh := (hfc m (by simp)).trans hm
  obtain ⟨hs', hl', he'⟩ := hs_for (tab := tab) (m := m) A o.op (valsOf T (opnds o.op)) Hp x'.2 fun c hc => hfc c (by simp [hc])
  have hOK := exec_ok (o := o) A hT hR hm' hv (hs := hs') hl'
  rw [he'] at hOK
  have hnd : ∀ c, o.op ≠ .defer c := not_defer (m := m) (hs := hsOf Hp (valsOf T (opnds o.op))) (vals := valsOf T (opnds o.op)) A (by
    rcases hout with ⟨h, _⟩ | ⟨p, _, h, _⟩ | h | ⟨p, _, h⟩ | ⟨q, K, r, h, _⟩ <;> rw [h] <;> simp)
  unfold wpOpIn
  simp only [List.getElem?_toArray, hi, hw, if_true]
  rcases hout with ⟨h, rfl⟩ | ⟨p, hp, h, rfl⟩ | h | ⟨p, hp, h⟩ | ⟨q, K, r', h, hq, rfl, rfl⟩ <;> rw [h] at hOK
  · exact wpIn_of_run' hnd hsz hOK fun a' w' hr => hK a' w' hr
  · exact wpIn_of_run' hnd hsz (hOK hp) fun a' w' hr => hK a' w' hr
  · exact wpIn_of_run' hnd hsz hOK fun a' w' hr => hK a' w' hr
  · exact wpIn_of_run' hnd hsz (hOK hp) fun a' w' hr => hK a' w' hr
  · exact wpIn_of_run' hnd hsz (hOK r' hq) fun a' w' hr => hK a' w' hr

theorem step_of_call (A : Aux C D) (hT : TabOK P D tab) {all : List Oper} {i : Nat} (hi : all[i]? = some o) {Q : Exit → Act → World → Prop} {N : Nat} {T : List (SV C)} {Hp : List (HS C)} {m : Nat} {gs : List Nat} (hm : getC Hp m = .fresh) {v : SV C} {ws : List (Nat × HS C)}
    (hwant : ∀ x' : ST C, (∀ t ∈ gs, x'.1 t = getT T t) → ∀ a w, OkS D B df N x' a w → Region.wanted o (yielded all.toArray a.tmps) = true) {f : FuncId} {args : List (SV C)} {fc : List Nat}
    (hout : exec A tab o.op (valsOf T (opnds o.op)) (hsOf Hp (valsOf T (opnds o.op))) m = .call f args) (hc : CallF P D f args (getC Hp) fc v ws) :
    StepSem r P D B df Q N all i ⟨⟨o.dst, gs ++ tmpsOf (opnds o.op), m :: fcOf o.op (valsOf T (opnds o.op)) ++ fc, idsOf ws⟩, v, ws, (idsOf_eq ws).symm⟩ (getT T, getC Hp) := by
  intro x' hfs hfc a w K hok hK
  have hw := hwant x' (fun t ht => hfs t (by simp [ht])) a w hok
  obtain ⟨E, hR, hsz⟩ := hok
  have hv : valsOf T (opnds o.op) = (opnds o.op).map (ev x'.1) := by
    rw [valsOf_eq]
    exact (ev_agree (σ := getT T) (σ' := x'.1) _ fun t ht => hfs t (by simp [ht])).symm
  have hm' : x'.2 m = .fresh := (hfc m (by simp)).trans hm
  obtain ⟨hs', hl', he'⟩ := hs_for (tab := tab) (m := m) A o.op (valsOf T (opnds o.op)) Hp x'.2 fun c hc => hfc c (by simp [hc])
  have hOK := exec_ok (o := o) A hT hR hm' hv (hs := hs') hl'
  rw [he'] at hOK
  have hnd : ∀ c, o.op ≠ .defer c := not_defer (m := m) (hs := hsOf Hp (valsOf T (opnds o.op))) (vals := valsOf T (opnds o.op)) A (by rw [hout]; simp)
  unfold wpOpIn
  simp only [List.getElem?_toArray, hi, hw, if_true]
  rw [hout] at hOK
  exact wpIn_of_call' hnd hsz hR hOK (hc.at_ x'.2 fun c hcc => hfc c (by simp [hcc])) fun a' w' hr => hK a' w' hr

theorem step_of_skip {all : List Oper} {i : Nat} (hi : all[i]? = some o) {Q : Exit → Act → World → Prop} {N : Nat} {T : List (SV C)} {Hp : List (HS C)} {gs : List Nat}
    (hwant : ∀ x' : ST C, (∀ t ∈ gs, x'.1 t = getT T t) → ∀ a w, OkS D B df N x' a w → Region.wanted o (yielded all.toArray a.tmps) = false) :
    StepSem r P D B df Q N all i ⟨⟨o.dst, gs, [], []⟩, .tuple [], [], rfl⟩ (getT T, getC Hp) := by
  intro x' hfs hfc a w K hok hK
  have hw := hwant x' (fun t ht => hfs t ht) a w hok
  obtain ⟨E, hR, hsz⟩ := hok
  unfold wpOpIn
  simp only [List.getElem?_toArray, hi, hw, Bool.false_eq_true, if_false]
  refine ⟨fun _ _ => trivial, hK _ _ ⟨E, ?_, by rw [size_put, hsz]⟩⟩
  exact hR.put hsz o.dst (.inr (by simp only [Den, DenA]; exact ⟨#[], rfl, rfl⟩))

def foldS (N : Nat) : ST C → List (Stp C) → ST C
  | x, [] => x
  | x, s :: l => foldS N (s.app N x) l
theorem foldS_append (N : Nat) : ∀ (l m : List (Stp C)) (x : ST C), foldS N x (l ++ m) = foldS N (foldS N x l) m
  | [], m, x => rfl
  | s :: l, m, x => foldS_append N l m _
theorem stA_foldS {N : Nat} {x : ST C} {ss : List (Stp C)} {dflt : Stp C} : ∀ k, k ≤ ss.length → stA N x (fun k => ss.getD k dflt) full k = foldS N x (ss.take k)
  | 0, _ => by simp [stA, foldS]
  | k + 1, hk => by
    have hk' : k < ss.length := by omega
    rw [List.take_add_one, foldS_append, ← stA_foldS (dflt := dflt) k (by omega)]
    simp [stA, full, hk', foldS]


theorem drawOp_sound (A : Aux C D) (hT : TabOK P D tab) {all : List Oper} {i : Nat} (hi : all[i]? = some o) {Q : Exit → Act → World → Prop} {N : Nat} {T : List (SV C)} {Hp : List (HS C)} {big : Nat} {gs : List Nat} {next : DK C} {tr : List Ent}
    (hwant : ∀ x' : ST C, (∀ t ∈ gs, x'.1 t = getT T t) → ∀ a w, OkS D B df N x' a w → Region.wanted o (yielded all.toArray a.tmps) = true)
    (h : drawOp P A tab big next o.dst o.op gs tr T Hp) : ∃ s : Stp C, StepSem r P D B df Q N all i s (getT T, getC Hp) ∧ s.e.d = o.dst ∧ next (s.e :: tr) (setO T o.dst s.v) (setCs Hp s.ws) := by
  unfold drawOp drawOpAt freshAt at h
  split at h
  · rename_i hm
    generalize hout : exec A tab o.op (valsOf T (opnds o.op)) (hsOf Hp (valsOf T (opnds o.op))) (newAt o.op big Hp) = out at h
    cases out with
    | stuck => exact h.elim
    | val v => exact ⟨_, step_of_out A hT hi hm (ws := []) hwant rfl (.inl ⟨hout, rfl⟩), rfl, h⟩
    | side p v => exact ⟨_, step_of_out A hT hi hm (ws := []) hwant rfl (.inr (.inl ⟨p, h.1, hout, rfl⟩)), rfl, h.2⟩
    | mem v ws => exact ⟨_, step_of_out A hT hi hm (ws := ws) hwant rfl (.inr (.inr (.inl hout))), rfl, h⟩
    | smem p v ws => exact ⟨_, step_of_out A hT hi hm (ws := ws) hwant rfl (.inr (.inr (.inr (.inl ⟨p, h.1, hout⟩)))), rfl, h.2⟩
    | call f args =>
      obtain ⟨ret, ws, fc, hc, hn⟩ := h
      exact ⟨_, step_of_call A hT hi hm (ws := ws) hwant hout hc, rfl, hn⟩
    | yieldc c args => exact h.elim
    | may p v => exact h.elim
    | ask q K =>
      obtain ⟨r', hq, h2⟩ := h
      exact ⟨_, step_of_out A hT hi hm (ws := []) hwant rfl (.inr (.inr (.inr (.inr ⟨q, K, r', hout, hq, rfl, rfl⟩)))), rfl, h2⟩
  · exact h.elim

theorem okS_getT {N : Nat} {x : ST C} {T : List (SV C)} {d : Nat} (hok : OkS D B df N x a w) (hx : x.1 d = getT T d) {b : Bool} (hb : getT T d = .p (.bool b)) : a.tmps.getD d undef = .bool b := by
  obtain ⟨E, hR, _⟩ := hok
  have := hR.den d
  rw [hx, hb] at this
  exact den_bool this
theorem okS_skip {N : Nat} {x : ST C} {T : List (SV C)} {d : Nat} (hok : OkS D B df N x a w) (hx : x.1 d = getT T d) (hb : getT T d = .tuple []) : a.tmps.getD d undef = .tuple #[] := by
  obtain ⟨E, hR, _⟩ := hok
  have hden := hR.den d
  rw [hx, hb] at hden
  simp only [Den, DenA] at hden
  obtain ⟨xs, e, hx⟩ := hden
  have : xs = #[] := by simpa using hx
  rw [e, this]

theorem drawGo_sound (A : Aux C D) (hT : TabOK P D tab) {all : List Oper} {Q : Exit → Act → World → Prop} {N : Nat} {big : Nat} {K : DK C} : ∀ (rest : List Oper) (i : Nat) (tr : List Ent) (T : List (SV C)) (Hp : List (HS C)),
    (∀ j, rest[j]? = all[i + j]?) → T.length = N → drawGo P A tab K all big rest tr T Hp →
    ∃ (ss : List (Stp C)) (T' : List (SV C)) (Hp' : List (HS C)), ss.length = rest.length ∧ T'.length = N ∧ K ((ss.map (·.e)).reverse ++ tr) T' Hp' ∧
      (∀ j s, ss[j]? = some s → StepSem r P D B df Q N all (i + j) s (foldS N (getT T, getC Hp) (ss.take j))) ∧ foldS N (getT T, getC Hp) ss = (getT T', getC Hp')
  | [], i, tr, T, Hp, _, hN, h => ⟨[], T, Hp, rfl, hN, h, fun j s hs => by simp at hs, rfl⟩
  | o :: rest, i, tr, T, Hp, hall, hN, h => by
    have hi : all[i]? = some o := by have := hall 0; simpa using this.symm
    have hrest : ∀ j, rest[j]? = all[i + 1 + j]? := fun j => by
      have := hall (j + 1)
      simp only [List.getElem?_cons_succ] at this
      rw [this]; congr 1; omega
    have fin : (∃ s : Stp C, StepSem r P D B df Q N all i s (getT T, getC Hp) ∧ s.e.d = o.dst ∧ drawGo P A tab K all big rest (s.e :: tr) (setO T o.dst s.v) (setCs Hp s.ws)) →
        ∃ (ss : List (Stp C)) (T' : List (SV C)) (Hp' : List (HS C)), ss.length = (o :: rest).length ∧ T'.length = N ∧ K ((ss.map (·.e)).reverse ++ tr) T' Hp' ∧
      (∀ j s, ss[j]? = some s → StepSem r P D B df Q N all (i + j) s (foldS N (getT T, getC Hp) (ss.take j))) ∧ foldS N (getT T, getC Hp) ss = (getT T', getC Hp') := by
      rintro ⟨s, h1, h2, h3⟩
      obtain ⟨ss, T', Hp', g1, g2, g3, g4, g5⟩ := drawGo_sound A hT rest (i + 1) _ _ _ hrest (by rw [length_setO, hN]) h3
      have happ : s.app N (getT T, getC Hp) = (getT (setO T o.dst s.v), getC (setCs Hp s.ws)) := by
        simp only [Stp.app, h2, getT_setO, getC_setCs, hN]
      refine ⟨s :: ss, T', Hp', by simp [g1], g2, by simpa using g3, fun j u hu => ?_, by rw [foldS, happ]; exact g5⟩
      cases j with
      | zero => simp at hu; subst hu; exact h1
      | succ j =>
        have := g4 j u (by simpa using hu)
        rw [show i + (j + 1) = i + 1 + j by omega, List.take_succ_cons, foldS, happ]
        exact this
    apply fin
    obtain ⟨dst, op, ty, pos, after, guard⟩ := o
    cases guard with
    | none => exact drawOp_sound A hT hi (gs := []) (fun x' _ a w _ => wanted_free rfl) h
    | some g =>
      obtain ⟨j, want⟩ := g
      simp only [drawGo] at h
      cases hg : gslot all j with
      | none => rw [hg] at h; exact h.elim
      | some d =>
        rw [hg] at h
        simp only [dGuardD, dGuard] at h
        split at h
        · rename_i b hb
          have hw : ∀ (b' : Bool), (want == b) = b' → ∀ x' : ST C, (∀ t ∈ [d], x'.1 t = getT T t) → ∀ a w, OkS D B df N x' a w →
              Region.wanted ⟨dst, op, ty, pos, after, some (j, want)⟩ (yielded all.toArray a.tmps) = b' := by
            intro b' hbb x' hx a w hok
            have hv := okS_getT hok (hx d (by simp)) hb
            simp only [Region.wanted, yielded_slot hg b hv]
            rw [← hbb]; cases want <;> cases b <;> rfl
          have hskip : (want == b) = false → drawGo P A tab K all big rest (⟨dst, [d], [], []⟩ :: tr) (setO T dst (.tuple [])) Hp →
              ∃ s : Stp C, StepSem r P D B df Q N all i s (getT T, getC Hp) ∧ s.e.d = dst ∧ drawGo P A tab K all big rest (s.e :: tr) (setO T dst s.v) (setCs Hp s.ws) :=
            fun hbb hn => ⟨_, step_of_skip hi (gs := [d]) (hw false hbb), rfl, hn⟩
          have hexec : (want == b) = true → drawOp P A tab big (drawGo P A tab K all big rest) dst op [d] tr T Hp →
              ∃ s : Stp C, StepSem r P D B df Q N all i s (getT T, getC Hp) ∧ s.e.d = dst ∧ drawGo P A tab K all big rest (s.e :: tr) (setO T dst s.v) (setCs Hp s.ws) :=
            fun hbb hn => drawOp_sound A hT hi (gs := [d]) (hw true hbb) hn
          cases want <;> cases b
          · exact hexec rfl h
          · exact hskip rfl h
          · exact hskip rfl h
          · exact hexec rfl h
        · rename_i hb
          refine ⟨_, step_of_skip hi (gs := [d]) fun x' hx a w hok => ?_, rfl, h⟩
          have hv := okS_skip hok (hx d (by simp)) hb
          simp only [Region.wanted, yielded_undef hg hv]
          rfl
        · exact h.elim

theorem drawVC_sound (A : Aux C D) (hT : TabOK P D tab) {R : Kont C} {id : Nat} {ops : List Oper} {k : List (It C)} {T : List (SV C)} {Hp : List (HS C)} {Q : Exit → Act → World → Prop} (h : DrawVC P A tab R ops k T Hp)
    (hR : RelL D B df T Hp a w) (hQ : ∀ T' Hp' a' w', R k T' Hp' → RelL D B df T' Hp' a' w' → Q .normal a' w') : (Code.region id ops.toArray true).wpIn (Fc r) 0 P Q a w := by
  obtain ⟨hmix, hgo⟩ := h
  obtain ⟨E, hR', hsz⟩ := hR
  refine wpIn_region_any hmix ?_
  obtain ⟨ss, T', Hp', g1, g2, g3, g4, g5⟩ := drawGo_sound A hT (r := r) (Q := Q) (B := B) (df := df) (N := T.length) ops 0 [] T Hp (fun j => by simp) rfl hgo
  simp only [List.append_nil, drawK, List.reverse_reverse] at g3
  obtain ⟨htr, hk⟩ := g3
  simp only [traceB, Bool.and_eq_true] at htr
  let dflt : Stp C := ⟨⟨none, [], [], []⟩, .any, [], rfl⟩
  have hS : ∀ i s, ss[i]? = some s → ss.getD i dflt = s := fun i s hs => by simp [hs]
  refine any_of_steps (N := T.length) (x0 := (getT T, getC Hp)) (S := fun i => ss.getD i dflt) (Ok := OkS D B df T.length) (n := ops.length) (by simp) ?_ ?_ ?_ ?_ _ _ a _ (by simp) ⟨fun k hk o ho e he hb => ?_⟩ ?_ ?_
  · intro k o ho e he hb
    have := backB_spec ops 0 (ops := ops.toArray) (fun i => by simp) htr.1 k o (by simpa using ho) e he hb
    simpa using this
  · intro i j hij hj hc
    have hj' : j < ss.length := by omega
    have hi' : i < ss.length := by omega
    have e1 : (ss.map (·.e))[i]? = some (ss.getD i dflt).e := by simp [hi']
    have e2 : (ss.map (·.e))[j]? = some (ss.getD j dflt).e := by simp [hj']
    have := ordersB_spec (ss.map (·.e)) 0 (fun q => by simp) htr.2 j i _ _ (by omega) e1 (by simpa using e2) e2 hc
    rw [Nat.zero_add] at this
    exact ancL_spec ops [] (ops := ops.toArray) (fun q => by simp) (fun k j h => by simp at h) j i this
  · intro i hi x' h1 h2 a w K hok hK
    have hi' : i < ss.length := by omega
    have hsi : ss[i]? = some (ss.getD i dflt) := by simp [hi']
    have := g4 i _ hsi
    rw [Nat.zero_add] at this
    rw [stA_foldS (dflt := dflt) i (by omega)] at h1 h2
    exact this x' h1 h2 a w K hok hK
  · intro a w hok
    rw [stA_foldS (dflt := dflt) _ (by omega), show ops.length = ss.length by omega, List.take_length, g5] at hok
    obtain ⟨E, h1, h2⟩ := hok
    exact hQ _ _ _ _ hk ⟨E, h1, by rw [h2, g2]⟩
  · have ho' := ho
    rw [Array.getElem?_eq_some_iff] at ho'
    obtain ⟨hlt, _⟩ := ho'
    simp at hlt
    simp [hlt] at hk
  · have : ∀ n, cnt (fun k => (Array.replicate ops.length false).getD k true) n ≤ n := by
      intro n
      induction n with
      | zero => exact Nat.le_refl _
      | succ n ih => simp only [cnt]; split <;> omega
    have := this ops.length
    simpa using this
  · have : ∀ n, n ≤ ops.length → stA T.length (getT T, getC Hp) (fun i => ss.getD i dflt) (fun k => (Array.replicate ops.toArray.size false).getD k true) n = (getT T, getC Hp) := by
      intro n
      induction n with
      | zero => intro _; rfl
      | succ n ih =>
        intro hn
        have hf : (Array.replicate ops.toArray.size false).getD n true = false := by simp [show n < ops.length by omega]
        simp only [stA, hf, ih (by omega)]
    rw [this _ (Nat.le_refl _)]
    exact ⟨E, hR'.drew, hsz⟩

end
end Go.SX
