/-
  SX, part V6: calls of functions that only read: what the caller owns is seen as persistent for the while.
-/
import Derived.Test.YtdaghncicimipaaGreatDoorSxV5
set_option linter.unusedSimpArgs false
namespace Go.SX
set_option linter.unusedVariables false
open Go.RowKit
variable {C : Cod}
mutual
/-- a value that holds no address -/
def plainS : SV C → Bool
  | .p (.int _ _) => true
  | .p (.bool _) => true
  | .p (.str _) => true
  | .tuple l => plainL l
  | .agg l => plainL l
  | _ => false
def plainL : List (SV C) → Bool
  | [] => true
  | x :: l => plainS x && plainL l
end
section
variable {P : Program} {D : Codec C} {A : Aux C D} {tab : Tab C} {X : Ctx C} {R : Kont C} {k : List (It C)} {T : List (SV C)} {Hp : List (HS C)}
mutual
theorem plainS_den {w w' : World} {E E' : Env} : ∀ (x : SV C) (v : Value), plainS x = true → Den D w E x v → Den D w' E' x v
  | .p (.int k n), v, _, h => by simp only [Den] at *; cases h; exact .int _ _
  | .p (.bool b), v, _, h => by simp only [Den] at *; cases h; exact .bool _
  | .p (.str l), v, _, h => by simp only [Den] at *; cases h; exact .str _
  | .tuple l, v, hp, h => by
    simp only [plainS] at hp
    simp only [Den] at *
    obtain ⟨xs, h1, h2⟩ := h
    exact ⟨xs, h1, plainL_denA l _ hp h2⟩
  | .agg l, v, hp, h => by
    simp only [plainS] at hp
    simp only [Den] at *
    obtain ⟨xs, h1, h2⟩ := h
    exact ⟨xs, h1, plainL_denC l _ hp h2⟩
  | .p (.lit _), v, hp, h => by simp [plainS] at hp
  | .p (.dsl _ _), v, hp, h => by simp [plainS] at hp
  | .p (.fds _ _), v, hp, h => by simp [plainS] at hp
  | .any, v, hp, h => by simp [plainS] at hp
  | .ptr _ _, v, hp, h => by simp [plainS] at hp
  | .eptr _ _ _ _ _, v, hp, h => by simp [plainS] at hp
  | .dptr _ _, v, hp, h => by simp [plainS] at hp
  | .slice _ _ _ _ _, v, hp, h => by simp [plainS] at hp
  | .arr _ _ _, v, hp, h => by simp [plainS] at hp
  | .fn _ _ _, v, hp, h => by simp [plainS] at hp
  | .iface _ _, v, hp, h => by simp [plainS] at hp
  | .yieldv _, v, hp, h => by simp [plainS] at hp
  | .mapp _, v, hp, h => by simp [plainS] at hp
theorem plainL_denA {w w' : World} {E E' : Env} : ∀ (l : List (SV C)) (vs : List Value), plainL l = true → DenA D w E l vs → DenA D w' E' l vs
  | [], vs, _, h => by simp only [DenA] at *; exact h
  | x :: l, vs, hp, h => by
    simp only [plainL, Bool.and_eq_true] at hp
    simp only [DenA] at *
    obtain ⟨v, v2, h1, h2, h3⟩ := h
    exact ⟨v, v2, h1, plainS_den x v hp.1 h2, plainL_denA l v2 hp.2 h3⟩
theorem plainL_denC {w w' : World} {E E' : Env} : ∀ (l : List (SV C)) (vs : List Value), plainL l = true → DenC D w E l vs → DenC D w' E' l vs
  | [], vs, _, h => by simp only [DenC] at *; exact h
  | x :: l, vs, hp, h => by
    simp only [plainL, Bool.and_eq_true] at hp
    have hx : x.isArr = false := by cases x <;> first | rfl | simp [plainS] at hp
    rw [DenC_cons hx] at *
    obtain ⟨v, v2, h1, h2, h3, h4⟩ := h
    exact ⟨v, v2, h1, h2, plainS_den x v hp.1 h3, plainL_denC l v2 hp.2 h4⟩
end

theorem none_ne {x : Option Nat} {c : Nat} (h : x = none) : x ≠ some c := by rw [h]; simp
theorem some_ne {x : Option Nat} {a c : Nat} (h : x = some a) (hn : a ≠ c) : x ≠ some c := by rw [h]; simpa using hn
/-- what is owned, seen as persistent -/
structure Seen (Hp : List (HS C)) (θ : List (Option Nat)) (l m : List (SV C)) : Prop where
  h : ViewL Hp θ l m
theorem callx_read {f : FuncId} {args args' : List (SV C)} {ret : SV C} {dst : Option Nat} {all rest : List Oper} (hM : Meets P D f args' [] ret []) (hv : Seen Hp [] args args') (hp : plainS ret = true)
    (h : setOK T dst ret fun T' => R (.ops all rest :: k) T' Hp) : CallX P D X R f args dst all rest k T Hp := by
  rw [setOK_eq] at h
  refine CallX.of (fun ret' Hp' => ret' = ret ∧ Hp' = Hp) ⟨.inl ⟨hM.enter, fun B σ df a w E _ hR vs hd => ?_⟩⟩ ?_
  · let B0 : Base := ⟨w, { F := E.F, β := fun _ => .fresh }, fun _ => True, 0, fun _ _ => rfl⟩
    have hf0 : Fr B0 E w := ⟨rfl, rfl, rfl, Nat.le_refl _, fun b _ ho => absurd trivial ho, ⟨fun b hb => ⟨hb, rfl⟩, fun c => .inr (.inr rfl), fun c b e => by cases e⟩, fun b _ => .inr (.inl trivial), fun c b _ => .inl trivial⟩
    obtain ⟨g1, g2, g3⟩ := view_env hR.sat hf0 (θ := []) (Hp' := []) ⟨trivial, rfl, rfl⟩
    have hd' := view_denA hR.sat g1 args args' vs hv.h hd
    refine (hM.calls w (E.view [] []) (fun c _ => rfl) vs g2 hd').mono ?_
    rintro e w' ⟨v, E', rfl, hv', _, hfr⟩
    have hsame : ∀ b, b < w.heap.size → w'.heap[b]? = w.heap[b]? := fun b hb => hfr.same b hb (by rintro ⟨c, hc⟩; cases hc)
    have hL := Later.same hsame hR.sat.F
    exact ⟨v, E, ret, Hp, rfl, plainS_den ret v hp hv', hR.later hL (hR.sat.same hsame hfr.size) (hR.fr.on hR.sat.F hsame hfr.size hfr.os hfr.tape hfr.output), rfl, rfl⟩
  · rintro ret' Hp' ⟨rfl, rfl⟩; exact h
def forceIds : List (Option Nat) → (List (Option Nat) → Prop) → Prop
  | [], K => K []
  | none :: l, K => forceIds l fun m => K (none :: m)
  | some n :: l, K => natK n fun n => forceIds l fun m => K (some n :: m)
theorem forceIds_eq : ∀ (l : List (Option Nat)) (K : List (Option Nat) → Prop), forceIds l K = K l
  | [], _ => rfl
  | none :: l, K => by simp only [forceIds, forceIds_eq l]
  | some n :: l, K => by simp only [forceIds, natK_eq, forceIds_eq l]
/-- the numbers k, k + 1, .. -/
def idsK : List (HS C) → Nat → List (Option Nat)
  | [], _ => []
  | _ :: l, k => some k :: idsK l (k + 1)
/-- a state and arguments, seen as others -/
theorem subA_of {m0 : Nat} {T T' : List (SV C)} {Hp Hp' : List (HS C)} {args args' : List (SV C)} (θ : List (Option Nat)) (hT : ViewL Hp θ T T') (ha : ViewL Hp θ args args') (hv : ViewOK Hp θ Hp' m0) : SubA D m0 T Hp args T' Hp' args' := by
  rintro B E df a w rfl hR hsz
  obtain ⟨h1, h2, h3⟩ := view_env hR.sat hR.fr hv
  have hlen : ∀ (l m : List (SV C)), ViewL Hp θ l m → l.length = m.length := by
    intro l
    induction l with
    | nil => intro m h; cases m with
      | nil => rfl
      | cons y m => simp [ViewL] at h
    | cons x l ih => intro m h; cases m with
      | nil => simp [ViewL] at h
      | cons y m => simp only [ViewL] at h; simp [ih m h.2]
  have hget : ∀ (l m : List (SV C)) (i : Nat) (v : Value), ViewL Hp θ l m → Den D w E (getT l i) v → Den D w (E.view θ Hp') (getT m i) v := by
    intro l
    induction l with
    | nil => intro m i v h _; cases m with
      | nil => trivial
      | cons y m => simp [ViewL] at h
    | cons x l ih => intro m i v h hd; cases m with
      | nil => simp [ViewL] at h
      | cons y m =>
        simp only [ViewL] at h
        cases i with
        | zero => exact view_den hR.sat h1 x y v h.1 hd
        | succ i => exact ih m i v h.2 hd
  exact ⟨_, ⟨fun i => hget T T' i _ hT (hR.den i), h2, h3, hR.defers, hR.marks.mono fun b hb => ⟨h1.F b hb, rfl⟩⟩, by rw [hsz, hlen T T' hT], fun vs hd => view_denA hR.sat h1 args args' vs ha hd⟩
theorem nilC {p X Y : Prop} (h1 : p → X) (h2 : Y) : NilX p X Y := ⟨h1, h2⟩
theorem ask_in {q : Option (Option (Nat × Value))} {Y : Option (Nat × Value) → Prop} {r : Option (Nat × Value)} (h1 : q = some r) (h2 : Y r) : AskX q Y := ⟨r, h1, h2⟩
/-- an operation that is stuck: what is owned is given up for good ahead of it -/
theorem frz_op {op : Op} {vals : List (SV C)} {hs : List (Nat × HS C)} {dst : Option Nat} {all rest : List Oper} (θ : List (Option Nat)) (us : List (Nat × SV C)) (cs : List (Nat × HS C)) (hb : Back X.m0 θ T Hp (setMany T us) (setCs Hp cs))
    (h : forceV (setMany T us) fun T1 => setCsK Hp cs fun Hp1 => forceV (valsOf T1 (opnds op)) fun vals => hlenK Hp1 0 fun m => after0 P D X R False dst all rest k T1 Hp1 (exec A tab op vals (hsOf Hp1 vals) m)) : StuckX op vals hs (FrzY P A tab X R op dst all rest k T Hp) := by
  rw [forceV_eq, setCsK_eq, forceV_eq, hlenK_eq, Nat.add_zero] at h
  refine ⟨_, _, fun B E df a w hm hR hsz => ?_, h⟩
  exact subA_of (D := D) _ hb.T (show ViewL Hp θ [] [] from trivial) ⟨hb.H, hb.id, hb.nd⟩ B E df a w hm hR hsz
/-- a region that draws its order: what is owned is given up for good ahead of it -/
theorem frz_draw {m0 : Nat} {ops : List Oper} (θ : List (Option Nat)) (us : List (Nat × SV C)) (cs : List (Nat × HS C)) (hb : Back m0 θ T Hp (setMany T us) (setCs Hp cs))
    (h : forceV (setMany T us) fun T1 => setCsK Hp cs fun Hp1 => DrawX P A tab m0 R ops k T1 Hp1) : DrawX P A tab m0 R ops k T Hp := by
  rw [forceV_eq, setCsK_eq] at h
  obtain ⟨T1, Hp1, hs, h1⟩ := h.h
  exact ⟨T1, Hp1, fun B df a w hm hR => hs B df a w hm (sub_of θ hb.T ⟨hb.H, hb.id, hb.nd⟩ B df a w hm hR), h1⟩
def condT (b : Bool) (X : Prop) : Prop := match b with
  | true => X
  | false => False
def someK {α : Type} (x : Option α) (K : α → Prop) : Prop := match x with
  | some a => K a
  | none => False
/-- behind a call that knows chunks of the heap -/
def callK (Hp : List (HS C)) (ρ : List (Option Nat)) (n0 : Nat) (H1 : List (HS C)) (ret0 : SV C) (K : SV C → List (Option Nat) → List (Nat × HS C) → Prop) : Prop :=
  hlenK Hp 0 fun m => forceIds (ρ ++ newIds (H1.length - n0) m) fun θ => condT (ndO θ && Nat.ble n0 H1.length) (someK (renHs θ H1) fun H1' => someK (renS θ ret0) fun ret => K ret θ (zipW θ H1'))
theorem callh {f : FuncId} {args0 args : List (SV C)} {H0 H0' H1 : List (HS C)} {ret0 : SV C} {dst : Option Nat} {all rest : List Oper} (ρ : List (Option Nat)) (hM : Meets P D f args0 H0 ret0 H1)
    (hargs : renL ρ args0 = some args) (hH0 : renHs ρ H0 = some H0') (hat : heapAt (getC Hp) ρ H0')
    (h : callK Hp ρ H0.length H1 ret0 fun ret _ ws => setOK T dst ret fun T' => setCsK Hp ws fun Hp' => R (.ops all rest :: k) T' Hp') : CallX P D X R f args dst all rest k T Hp := by
  unfold callK at h
  rw [hlenK_eq, Nat.add_zero, forceIds_eq] at h
  unfold condT at h
  split at h
  · rename_i hc
    simp only [Bool.and_eq_true] at hc
    unfold someK at h
    split at h
    · rename_i H1' hH1
      split at h
      · rename_i ret hret
        exact callx_heap ρ hM hargs hH0 hat _ rfl hc.1 (Nat.le_of_ble_eq_true hc.2) hH1 hret h
      · exact h.elim
    · exact h.elim
  · exact h.elim
theorem dcallh {next : DK C} {f : FuncId} {args0 args : List (SV C)} {H0 H0' H1 : List (HS C)} {ret0 : SV C} {dst : Option Nat} {fs fc : List Nat} {tr : List Ent} (ρ : List (Option Nat)) (hM : Meets P D f args0 H0 ret0 H1)
    (hargs : renL ρ args0 = some args) (hH0 : renHs ρ H0 = some H0') (hat : heapAt (getC Hp) ρ H0')
    (h : callK Hp ρ H0.length H1 ret0 fun ret θ ws => forceL (fc ++ foot θ) fun fc => forceL (idsOf ws) fun ids => setOK T dst ret fun T' => setCsK Hp ws fun Hp' => next (⟨dst, fs, fc, ids⟩ :: tr) T' Hp') : DCallX P D next f args dst fs fc tr T Hp := by
  unfold callK at h
  rw [hlenK_eq, Nat.add_zero, forceIds_eq] at h
  unfold condT at h
  split at h
  · rename_i hc
    simp only [Bool.and_eq_true] at hc
    unfold someK at h
    split at h
    · rename_i H1' hH1
      split at h
      · rename_i ret hret
        exact dcallx_heap ρ hM hargs hH0 hat _ rfl hc.1 (Nat.le_of_ble_eq_true hc.2) hH1 hret h
      · exact h.elim
    · exact h.elim
  · exact h.elim
/-- A loop, by what it changes: I the slots that count, U the chunks that turn; the other chunks stay as they are. -/
theorem loop_up {D : Codec C} {m0 : Nat} {body : Code} {γ : Type} (I : γ → List (Nat × SV C)) (U : γ → List (Nat × HS C)) (good : γ → Prop) (μ : γ → Nat) (g0 : γ) (h0 : good g0) (hent : Back m0 (idsK Hp 0) T Hp (headT body T (I g0)) (setCs Hp (U g0)))
    (hround : ∀ g, good g → ∀ K : List (SV C) → List (HS C) → Prop, (∀ g' θ T' Hp', Side (good g') → Side (μ g' < μ g) → Back m0 θ T' Hp' (headT body T (I g')) (setCs Hp (U g')) → K T' Hp') →
      forceV (headT body T (I g)) fun T1 => setCsK Hp (U g) fun Hp1 => R (.code body :: .endLoop K :: k) T1 Hp1) : LoopX D m0 R body k T Hp := by
  refine loop_inv I (fun g => setCs Hp (U g)) good μ g0 h0 _ hent fun g hg K hK => ?_
  have := hround g hg K hK
  rw [forceV_eq, setCsK_eq] at this
  rw [forceV_eq, forceL_eq]
  exact this
end
end Go.SX
