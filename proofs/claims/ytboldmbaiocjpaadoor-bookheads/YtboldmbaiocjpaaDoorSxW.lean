/-
  SX, part W: the generator's steps as equations, for 'simp only'.
-/
import Derived.Test.YtboldmbaiocjpaaDoorSxU
set_option linter.unusedVariables false
set_option linter.unusedSimpArgs false
namespace Go.SX
variable {C : Cod} {P : Program} {D : Codec C} {A : Aux C D} {tab : Tab C} {m0 : Nat} {Φ : Post C} {n : Nat} {R : Kont C} {k : List (It C)} {T : List (SV C)} {Hp : List (HS C)} {dst : Option Nat} {all rest : List Oper} {v : SV C} {ws : List (Nat × HS C)} {p : Prop} {f : FuncId} {args : List (SV C)}
theorem go_nil : go P A tab m0 Φ (n + 1) [] T Hp = Φ .normal T Hp := rfl
theorem go_skip : go P A tab m0 Φ (n + 1) (.code .skip :: k) T Hp = go P A tab m0 Φ n k T Hp := rfl
theorem go_label {l} : go P A tab m0 Φ (n + 1) (.code (.label l) :: k) T Hp = go P A tab m0 Φ n k T Hp := rfl
theorem go_seq {x y} : go P A tab m0 Φ (n + 1) (.code (.seq x y) :: k) T Hp = go P A tab m0 Φ n (.code x :: .code y :: k) T Hp := rfl
theorem go_region {i : Nat} {l : List Oper} : go P A tab m0 Φ (n + 1) (.code (.region i ⟨l⟩ false) :: k) T Hp = go P A tab m0 Φ n (.ops l l :: k) T Hp := rfl
theorem go_drawn {i : Nat} {l : List Oper} : go P A tab m0 Φ (n + 1) (.code (.region i ⟨l⟩ true) :: k) T Hp = DrawVC P A tab (go P A tab m0 Φ n) l k T Hp := rfl
theorem go_cond {c x y} : go P A tab m0 Φ (n + 1) (.code (.cond c x y) :: k) T Hp = atCond (go P A tab m0 Φ n) x y k T Hp (evT T c) := rfl
theorem go_block {i b} : go P A tab m0 Φ (n + 1) (.code (.block i b) :: k) T Hp = go P A tab m0 Φ n (.code b :: .blk i :: k) T Hp := rfl
theorem go_loop {b} : go P A tab m0 Φ (n + 1) (.code (.loop b) :: k) T Hp = LoopVC D m0 (go P A tab m0 Φ n) b k T Hp := rfl
theorem go_exit {i} : go P A tab m0 Φ (n + 1) (.code (.exit i) :: k) T Hp = atExit Φ (go P A tab m0 Φ n) i T Hp (unwind i k) := rfl
theorem go_ret : go P A tab m0 Φ (n + 1) (.code .ret :: k) T Hp = Φ .ret T Hp := rfl
theorem go_blk {i} : go P A tab m0 Φ (n + 1) (.blk i :: k) T Hp = go P A tab m0 Φ n k T Hp := rfl
theorem go_endLoop {J} : go P A tab m0 Φ (n + 1) (.endLoop J :: k) T Hp = J T Hp := rfl
theorem go_opsNil : go P A tab m0 Φ (n + 1) (.ops all [] :: k) T Hp = go P A tab m0 Φ n k T Hp := rfl
theorem go_op {op ty pos after} : go P A tab m0 Φ (n + 1) (.ops all (⟨dst, op, ty, pos, after, none⟩ :: rest) :: k) T Hp = go P A tab m0 Φ n (.op1 all ⟨dst, op, ty, pos, after, none⟩ rest :: k) T Hp := rfl
def guardD (R : Kont C) (want : Bool) (all : List Oper) (o : Oper) (rest : List Oper) (k : List (It C)) (T : List (SV C)) (Hp : List (HS C)) : Option Nat → Prop
  | none => False
  | some d => atGuard R d want all o rest k T Hp (getT T d)
theorem go_opG {op ty pos after j want} : go P A tab m0 Φ (n + 1) (.ops all (⟨dst, op, ty, pos, after, some (j, want)⟩ :: rest) :: k) T Hp = guardD (go P A tab m0 Φ n) want all ⟨dst, op, ty, pos, after, some (j, want)⟩ rest k T Hp (gslot all j) := by
  show (match gslot all j with | none => _ | some d => _) = _
  cases gslot all j <;> rfl
theorem guardD_some {want o d} : guardD R want all o rest k T Hp (some d) = atGuard R d want all o rest k T Hp (getT T d) := rfl
theorem go_op1 {op ty pos after g} : go P A tab m0 Φ (n + 1) (.op1 all ⟨dst, op, ty, pos, after, g⟩ rest :: k) T Hp = afterOp P D (go P A tab m0 Φ n) dst all rest k T Hp (exec A tab op (valsOf T (opnds op)) (hsOf Hp (valsOf T (opnds op))) (hlen Hp)) := rfl
theorem afterOp_val : afterOp P D R dst all rest k T Hp (.val v) = R (.ops all rest :: k) (setO T dst v) Hp := rfl
theorem afterOp_side : afterOp P D R dst all rest k T Hp (.side p v) = (p ∧ R (.ops all rest :: k) (setO T dst v) Hp) := rfl
theorem afterOp_mem : afterOp P D R dst all rest k T Hp (.mem v ws) = R (.ops all rest :: k) (setO T dst v) (setCs Hp ws) := rfl
theorem afterOp_smem : afterOp P D R dst all rest k T Hp (.smem p v ws) = (p ∧ R (.ops all rest :: k) (setO T dst v) (setCs Hp ws)) := rfl
theorem afterOp_call : afterOp P D R dst all rest k T Hp (.call f args) = CallVC P D R f args dst all rest k T Hp := rfl
theorem afterOp_stuck : afterOp P D R dst all rest k T Hp .stuck = False := rfl
theorem atGuard_t {d o b} : atGuard R d true all o rest k T Hp (.p (.bool b)) = CondVC b (Wait R (.op1 all o rest :: k) (setT T d (.p (.bool true))) Hp) (Wait R (.ops all rest :: k) (setO (setT T d (.p (.bool false))) o.dst (.tuple [])) Hp) := rfl
theorem atGuard_f {d o b} : atGuard R d false all o rest k T Hp (.p (.bool b)) = CondVC b (Wait R (.ops all rest :: k) (setO (setT T d (.p (.bool true))) o.dst (.tuple [])) Hp) (Wait R (.op1 all o rest :: k) (setT T d (.p (.bool false))) Hp) := rfl
theorem atGuard_n {d want op ty pos after g} : atGuard R d want all ⟨dst, op, ty, pos, after, g⟩ rest k T Hp (.tuple []) = R (.ops all rest :: k) (setO T dst (.tuple [])) Hp := rfl
theorem atCond_b {x y b} : atCond R x y k T Hp (.p (.bool b)) = CondVC b (Wait R (.code x :: k) T Hp) (Wait R (.code y :: k) T Hp) := rfl
theorem atExit_some {i} : atExit Φ R i T Hp (some k) = R k T Hp := rfl
theorem atExit_none {i} : atExit Φ R i T Hp none = Φ (.exit i) T Hp := rfl
theorem condVC_t {Y : Prop} : CondVC true (Wait R k T Hp) Y = R k T Hp := rfl
theorem condVC_f {X : Prop} : CondVC false X (Wait R k T Hp) = R k T Hp := rfl
section
variable {next K : DK C} {big : Nat} {op : Op} {tr : List Ent} {gs fs fc : List Nat} {ty : TypeId} {pos : String} {after : Array Edge} {X Y : Prop}
theorem condVC_dt : CondVC true (DWait next tr T Hp) Y = next tr T Hp := rfl
theorem condVC_df : CondVC false X (DWait next tr T Hp) = next tr T Hp := rfl
theorem condVC_ot : CondVC true (DWaitO P A tab big next dst op gs tr T Hp) Y = drawOp P A tab big next dst op gs tr T Hp := rfl
theorem condVC_of : CondVC false X (DWaitO P A tab big next dst op gs tr T Hp) = drawOp P A tab big next dst op gs tr T Hp := rfl
theorem drawVC_eq : DrawVC P A tab R all k T Hp = (P.follows .mixedOrders = true ∧ drawGo P A tab (drawK R all k) all (hlen Hp + 1000) all [] T Hp) := rfl
theorem drawGo_nil : drawGo P A tab K all big [] tr T Hp = K tr T Hp := rfl
theorem drawGo_op : drawGo P A tab K all big (⟨dst, op, ty, pos, after, none⟩ :: rest) tr T Hp = drawOp P A tab big (drawGo P A tab K all big rest) dst op [] tr T Hp := rfl
theorem drawGo_opG {j : Nat} {want : Bool} : drawGo P A tab K all big (⟨dst, op, ty, pos, after, some (j, want)⟩ :: rest) tr T Hp = dGuardD P A tab big (drawGo P A tab K all big rest) dst op want tr T Hp (gslot all j) := rfl
theorem dGuardD_some {want : Bool} {d : Nat} : dGuardD P A tab big next dst op want tr T Hp (some d) = dGuard P A tab big next dst op d want tr T Hp (getT T d) := rfl
theorem dGuard_t {d : Nat} {b : Bool} : dGuard P A tab big next dst op d true tr T Hp (.p (.bool b)) = CondVC b (DWaitO P A tab big next dst op [d] tr T Hp) (DWait next (⟨dst, [d], [], []⟩ :: tr) (setO T dst (.tuple [])) Hp) := rfl
theorem dGuard_f {d : Nat} {b : Bool} : dGuard P A tab big next dst op d false tr T Hp (.p (.bool b)) = CondVC b (DWait next (⟨dst, [d], [], []⟩ :: tr) (setO T dst (.tuple [])) Hp) (DWaitO P A tab big next dst op [d] tr T Hp) := rfl
theorem dGuard_n {d : Nat} {want : Bool} : dGuard P A tab big next dst op d want tr T Hp (.tuple []) = next (⟨dst, [d], [], []⟩ :: tr) (setO T dst (.tuple [])) Hp := rfl
theorem drawOp_eq : drawOp P A tab big next dst op gs tr T Hp = drawOpAt P A tab next dst op (gs ++ tmpsOf (opnds op)) tr T Hp (valsOf T (opnds op)) (newAt op big Hp) := rfl
theorem drawOpAt_eq {vals : List (SV C)} {m : Nat} : drawOpAt P A tab next dst op fs tr T Hp vals m = freshAt Hp m (drawOut P D next dst fs (m :: fcOf op vals) tr T Hp (exec A tab op vals (hsOf Hp vals) m)) := rfl
theorem drawOut_val : drawOut P D next dst fs fc tr T Hp (.val v) = next (⟨dst, fs, fc, []⟩ :: tr) (setO T dst v) Hp := rfl
theorem drawOut_side : drawOut P D next dst fs fc tr T Hp (.side p v) = (p ∧ next (⟨dst, fs, fc, []⟩ :: tr) (setO T dst v) Hp) := rfl
theorem drawOut_mem : drawOut P D next dst fs fc tr T Hp (.mem v ws) = next (⟨dst, fs, fc, idsOf ws⟩ :: tr) (setO T dst v) (setCs Hp ws) := rfl
theorem drawOut_smem : drawOut P D next dst fs fc tr T Hp (.smem p v ws) = (p ∧ next (⟨dst, fs, fc, idsOf ws⟩ :: tr) (setO T dst v) (setCs Hp ws)) := rfl
theorem drawOut_call : drawOut P D next dst fs fc tr T Hp (.call f args) = DCallVC P D next f args dst fs fc tr T Hp := rfl
theorem drawOut_stuck : drawOut P D next dst fs fc tr T Hp .stuck = False := rfl
theorem drawK_eq : drawK R all k tr T Hp = (traceB all tr.reverse = true ∧ R k T Hp) := rfl
/-- the heap's number m not given out -/
def isFr : HS C → Prop → Prop
  | .fresh, X => X
  | _, _ => False
theorem freshAt_eq {m : Nat} : freshAt Hp m X = isFr (getC Hp m) X := by
  simp only [freshAt]; cases getC Hp m <;> rfl
theorem isFr_fresh : isFr (.fresh : HS C) X = X := rfl
theorem newAt_eq : newAt op big Hp = (match lays op with | true => hlen Hp | false => big) := rfl
end
theorem wait_go : Wait (go P A tab m0 Φ n) k T Hp = go P A tab m0 Φ n k T Hp := rfl
section
variable {b : Bool} {R' : Kont C} {k' : List (It C)} {T' : List (SV C)} {Hp' : List (HS C)} {next : DK C} {big : Nat} {op : Op} {tr tr' : List Ent} {gs : List Nat}
theorem split_w (h1 : b = true → R k T Hp) (h2 : b = false → R' k' T' Hp') : CondVC b (Wait R k T Hp) (Wait R' k' T' Hp') := by
  cases b with
  | true => exact h1 rfl
  | false => exact h2 rfl
theorem split_t (h1 : b = true → drawOp P A tab big next dst op gs tr T Hp) (h2 : b = false → next tr' T' Hp') : CondVC b (DWaitO P A tab big next dst op gs tr T Hp) (DWait next tr' T' Hp') := by
  cases b with
  | true => exact h1 rfl
  | false => exact h2 rfl
theorem split_f (h1 : b = true → next tr' T' Hp') (h2 : b = false → drawOp P A tab big next dst op gs tr T Hp) : CondVC b (DWait next tr' T' Hp') (DWaitO P A tab big next dst op gs tr T Hp) := by
  cases b with
  | true => exact h1 rfl
  | false => exact h2 rfl
theorem end_bool {D : Codec C} {x y : Bool} {t : Nat} (hr : getT T t = .p (.bool x)) (he : x = y) : EndPost D tab [.tmp t] 0 (.p (.bool y)) [] .ret T Hp :=
  ⟨.inr rfl, [], [getT T t], rfl, by subst he; simp only [hr, retOf, View], ⟨trivial, rfl, rfl⟩⟩
theorem end_int {D : Codec C} {K : IntKind} {x y : Int} {t : Nat} (hr : getT T t = .p (.int K x)) (he : x = y) : EndPost D tab [.tmp t] 0 (.p (.int K y)) [] .ret T Hp :=
  ⟨.inr rfl, [], [getT T t], rfl, by subst he; simp only [hr, retOf, View], ⟨trivial, rfl, rfl⟩⟩
theorem end_bool_h {D : Codec C} {x y : Bool} {t : Nat} {H1 : List (HS C)} (θ : List (Option Nat)) (hr : getT T t = .p (.bool x)) (he : x = y) (hv : ViewHs Hp θ θ H1) (hid : idO m0 0 θ = true) (hnd : ndO θ = true) : EndPost D tab [.tmp t] m0 (.p (.bool y)) H1 .ret T Hp :=
  ⟨.inr rfl, θ, [getT T t], rfl, by subst he; simp only [hr, retOf, View], ⟨hv, hid, hnd⟩⟩
def endBy (Hp : List (HS C)) (θ : List (Option Nat)) (ret : SV C) : Option (List (SV C)) → Prop
  | some l => View Hp θ (retOf l) ret
  | none => False
theorem end_by {D : Codec C} {rs : List ResultVar} {ret : SV C} {H1 : List (HS C)} (θ : List (Option Nat)) (h : endBy Hp θ ret (resOf D tab T Hp rs)) (hv : ViewHs Hp θ θ H1) (hid : idO m0 0 θ = true) (hnd : ndO θ = true) : EndPost D tab rs m0 ret H1 .ret T Hp := by
  generalize hr : resOf D tab T Hp rs = r at h
  cases r with
  | none => exact h.elim
  | some l => exact ⟨.inr rfl, θ, l, hr, h, ⟨hv, hid, hnd⟩⟩
end
end Go.SX
