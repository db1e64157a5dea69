/-
  SX, part V5: regions that draw their order, strictly; side conditions behind a name.
-/
import Derived.Test.YtdaghncicimipaaGreatDoorSxV4
set_option linter.unusedSimpArgs false
namespace Go.SX
set_option linter.unusedVariables false
open Go.RowKit
variable {C : Cod}

structure TraceOK (all : List Oper) (tr : List Ent) : Prop where
  h : traceB all tr.reverse = true
/-- a call in a region that draws its order -/
structure DCallX (P : Program) (D : Codec C) (next : DK C) (f : FuncId) (args : List (SV C)) (dst : Option Nat) (fs fc0 : List Nat) (tr : List Ent) (T : List (SV C)) (Hp : List (HS C)) : Prop where
  h : DCallVC P D next f args dst fs fc0 tr T Hp

def drawOutX (P : Program) (D : Codec C) (next : DK C) (o : Op) (vals : List (SV C)) (dst : Option Nat) (fs fc : List Nat) (tr : List Ent) (T : List (SV C)) (Hp : List (HS C)) : Out C → Prop
  | .stuck => StuckX o vals (hsOf Hp vals) False
  | .val v => setOK T dst v fun T' => next (⟨dst, fs, fc, []⟩ :: tr) T' Hp
  | .side p v => p ∧ setOK T dst v fun T' => next (⟨dst, fs, fc, []⟩ :: tr) T' Hp
  | .mem v ws => forceL (idsOf ws) fun ids => setOK T dst v fun T' => setCsK Hp ws fun Hp' => next (⟨dst, fs, fc, ids⟩ :: tr) T' Hp'
  | .smem p v ws => p ∧ forceL (idsOf ws) fun ids => setOK T dst v fun T' => setCsK Hp ws fun Hp' => next (⟨dst, fs, fc, ids⟩ :: tr) T' Hp'
  | .call f args => forceV args fun args => DCallX P D next f args dst fs fc tr T Hp
  | .yieldc _ _ => False
  | .may _ _ => False
  | .ask q K => AskX q fun r => setOK T dst (K r) fun T' => next (⟨dst, fs, fc, []⟩ :: tr) T' Hp
def freshX (h : HS C) (X : Prop) : Prop := match h with
  | .fresh => X
  | _ => False
def newAtK (o : Op) (big : Nat) (Hp : List (HS C)) (K : Nat → Prop) : Prop := match lays o with
  | true => hlenK Hp 0 K
  | false => K big
theorem newAtK_eq {o : Op} {big : Nat} {Hp : List (HS C)} {K : Nat → Prop} : newAtK o big Hp K = K (newAt o big Hp) := by
  unfold newAtK newAt
  cases lays o with
  | true => exact (hlenK_eq Hp 0 K)
  | false => rfl
def drawOpX (P : Program) {D : Codec C} (A : Aux C D) (tab : Tab C) (big : Nat) (next : DK C) (dst : Option Nat) (op : Op) (gs : List Nat) (tr : List Ent) (T : List (SV C)) (Hp : List (HS C)) : Prop :=
  forceV (valsOf T (opnds op)) fun vals => newAtK op big Hp fun m => freshX (getC Hp m) (forceL (gs ++ tmpsOf (opnds op)) fun fs => forceL (m :: fcOf op vals) fun fc =>
    drawOutX P D next op vals dst fs fc tr T Hp (exec A tab op vals (hsOf Hp vals) m))
def dGuardX (P : Program) {D : Codec C} (A : Aux C D) (tab : Tab C) (big : Nat) (next : DK C) (dst : Option Nat) (op : Op) (d : Nat) (want : Bool) (tr : List Ent) (T : List (SV C)) (Hp : List (HS C)) : SV C → Prop
  | .p (.bool b) => match want with
    | true => condX b (setTK T d (.p (.bool true)) fun T => drawOpX P A tab big next dst op [d] tr T Hp) (setTK T d (.p (.bool false)) fun T => setOK T dst (.tuple []) fun T' => next (⟨dst, [d], [], []⟩ :: tr) T' Hp)
    | false => condX b (setTK T d (.p (.bool true)) fun T => setOK T dst (.tuple []) fun T' => next (⟨dst, [d], [], []⟩ :: tr) T' Hp) (setTK T d (.p (.bool false)) fun T => drawOpX P A tab big next dst op [d] tr T Hp)
  | .tuple [] => setOK T dst (.tuple []) fun T' => next (⟨dst, [d], [], []⟩ :: tr) T' Hp
  | v => StuckC (.tmp d) v
def dGuardDX (P : Program) {D : Codec C} (A : Aux C D) (tab : Tab C) (big : Nat) (next : DK C) (dst : Option Nat) (op : Op) (want : Bool) (tr : List Ent) (T : List (SV C)) (Hp : List (HS C)) : Option Nat → Prop
  | none => False
  | some d => dGuardX P A tab big next dst op d want tr T Hp (getT T d)
def drawGoX (P : Program) {D : Codec C} (A : Aux C D) (tab : Tab C) (K : DK C) (all : List Oper) (big : Nat) : List Oper → DK C
  | [] => K
  | ⟨dst, op, _, _, _, none⟩ :: rest => fun tr T Hp => drawOpX P A tab big (drawGoX P A tab K all big rest) dst op [] tr T Hp
  | ⟨dst, op, _, _, _, some (j, want)⟩ :: rest => fun tr T Hp => dGuardDX P A tab big (drawGoX P A tab K all big rest) dst op want tr T Hp (gslot all j)
def drawKX (R : Kont C) (all : List Oper) (k : List (It C)) : DK C := fun tr T Hp => TraceOK all tr ∧ R k T Hp

section
variable {P : Program} {D : Codec C} {A : Aux C D} {tab : Tab C} {R : Kont C} {k : List (It C)} {T : List (SV C)} {Hp : List (HS C)}
theorem setT_same : ∀ (T : List (SV C)) (d : Nat), setT T d (getT T d) = T
  | [], d => by simp [setT]
  | x :: l, 0 => rfl
  | x :: l, d + 1 => by simp only [setT, getT, setT_same l d]
theorem drawOpX_imp {big : Nat} {next next' : DK C} (hn : ∀ tr T Hp, next' tr T Hp → next tr T Hp) {dst : Option Nat} {op : Op} {gs : List Nat} {tr : List Ent} (h : drawOpX P A tab big next' dst op gs tr T Hp) : drawOp P A tab big next dst op gs tr T Hp := by
  unfold drawOpX at h
  rw [forceV_eq, newAtK_eq] at h
  unfold drawOp drawOpAt
  unfold freshX at h
  unfold freshAt
  split at h
  · rename_i hm
    rw [hm]
    simp only
    rw [forceL_eq, forceL_eq] at h
    generalize exec A tab op (valsOf T (opnds op)) (hsOf Hp (valsOf T (opnds op))) (newAt op big Hp) = out at h ⊢
    cases out with
    | stuck => exact h.h.elim
    | val v => simp only [drawOutX, setOK_eq] at h; exact hn _ _ _ h
    | side p v => simp only [drawOutX, setOK_eq] at h; exact ⟨h.1, hn _ _ _ h.2⟩
    | mem v ws => simp only [drawOutX, setOK_eq, setCsK_eq, forceL_eq] at h; exact hn _ _ _ h
    | smem p v ws => simp only [drawOutX, setOK_eq, setCsK_eq, forceL_eq] at h; exact ⟨h.1, hn _ _ _ h.2⟩
    | call f args =>
      simp only [drawOutX, forceV_eq] at h
      obtain ⟨ret, ws, fc, hc, h2⟩ := h.h
      exact ⟨ret, ws, fc, hc, hn _ _ _ h2⟩
    | yieldc c args => exact h.elim
    | may p v => exact h.elim
    | ask q K =>
      obtain ⟨r, hq, h2⟩ := h.h
      rw [setOK_eq] at h2
      exact ⟨r, hq, hn _ _ _ h2⟩
  · exact h.elim
theorem drawGoX_imp {all : List Oper} {big : Nat} {K K' : DK C} (hK : ∀ tr T Hp, K' tr T Hp → K tr T Hp) : ∀ (rest : List Oper) (tr : List Ent) (T : List (SV C)) (Hp : List (HS C)),
    drawGoX P A tab K' all big rest tr T Hp → drawGo P A tab K all big rest tr T Hp
  | [], tr, T, Hp, h => hK _ _ _ h
  | ⟨dst, op, ty, pos, after, guard⟩ :: rest, tr, T, Hp, h => by
    have ih := drawGoX_imp (all := all) (big := big) hK rest
    cases guard with
    | none => exact drawOpX_imp ih h
    | some g =>
      obtain ⟨j, want⟩ := g
      simp only [drawGoX] at h
      simp only [drawGo]
      cases hg : gslot all j with
      | none => rw [hg] at h; exact h.elim
      | some d =>
        rw [hg] at h
        simp only [dGuardDX, dGuardX] at h
        simp only [dGuardD]
        split at h
        · rename_i b hb
          rw [hb]
          simp only [dGuard]
          have hsame : setT T d (.p (.bool b)) = T := by
            rw [← hb]
            exact setT_same T d
          cases want <;> cases b <;> simp only [condX, setTK_eq, setOK_eq, hsame] at h
          · exact drawOpX_imp ih h
          · exact ih _ _ _ h
          · exact ih _ _ _ h
          · exact drawOpX_imp ih h
        · rename_i hb
          rw [setOK_eq] at h
          rw [hb]
          exact ih _ _ _ h
        · cases h
theorem drawX_of {m0 : Nat} {ops : List Oper} (hmix : P.follows .mixedOrders = true) (h : hlenK Hp 1000 fun big => drawGoX P A tab (drawKX R ops k) ops big ops [] T Hp) : DrawX P A tab m0 R ops k T Hp := by
  rw [hlenK_eq] at h
  exact ⟨⟨_, _, fun _ _ _ _ _ h => h, ⟨hmix, drawGoX_imp (fun tr T Hp hk => ⟨hk.1.h, hk.2⟩) ops [] T Hp h⟩⟩⟩
theorem dcallx_pure {next : DK C} {f : FuncId} {args : List (SV C)} {ret : SV C} {dst : Option Nat} {fs fc : List Nat} {tr : List Ent} (hM : Meets P D f args [] ret []) (hargs : renL [] args = some args) (hret : renS [] ret = some ret)
    (h : forceL fc fun fc => setOK T dst ret fun T' => next (⟨dst, fs, fc, []⟩ :: tr) T' Hp) : DCallX P D next f args dst fs fc tr T Hp := by
  rw [forceL_eq, setOK_eq] at h
  exact ⟨dcall_pure hM hargs hret (by simpa using h)⟩
theorem dcallx_heap {next : DK C} {f : FuncId} {args0 args : List (SV C)} {H0 H0' H1 H1' : List (HS C)} {ret0 ret : SV C} {dst : Option Nat} {fs fc : List Nat} {tr : List Ent}
    (ρ : List (Option Nat)) (hM : Meets P D f args0 H0 ret0 H1) (hargs : renL ρ args0 = some args) (hH0 : renHs ρ H0 = some H0') (hat : heapAt (getC Hp) ρ H0') (θ : List (Option Nat)) (hθ : θ = ρ ++ newIds (H1.length - H0.length) (hlen Hp)) (hnd : ndO θ = true)
    (hle : H0.length ≤ H1.length) (hH1 : renHs θ H1 = some H1') (hret : renS θ ret0 = some ret)
    (h : forceL (fc ++ foot θ) fun fc => forceL (idsOf (zipW θ H1')) fun ids => setOK T dst ret fun T' => setCsK Hp (zipW θ H1') fun Hp' => next (⟨dst, fs, fc, ids⟩ :: tr) T' Hp') : DCallX P D next f args dst fs fc tr T Hp := by
  rw [forceL_eq, forceL_eq, setOK_eq, setCsK_eq] at h
  exact ⟨dcall_heap ρ hM hargs hH0 hat θ hθ hnd hle hH1 hret h⟩
end
end Go.SX
