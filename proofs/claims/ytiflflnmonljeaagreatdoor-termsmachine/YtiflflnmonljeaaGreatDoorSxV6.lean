/-
  SX, part V6: calls of functions that only read: what the caller owns is seen as persistent for the while.
-/
import Derived.Test.YtiflflnmonljeaaGreatDoorSxV2
import Derived.Lib.MakeNoZero
import Derived.Laws.Externs
import Derived.KernelRfl
import Derived.Test.YtiflflnmonljeaaGreatDoorSxP
import Derived.Test.YtiflflnmonljeaaGreatDoorProg
import Derived.Test.YtiflflnmonljeaaGreatDoorSxMq0
set_option linter.unusedVariables false
set_option linter.unusedSimpArgs false
namespace Go.SX
open Go.RowKit
variable {C : Cod}
mutual
def dL : SV C → Bool
 | .p (.int _ _) => true
 | .p (.bool _) => true
 | .p (.str _) => true
 | .tuple l => plainL l
 | .agg l => plainL l
 | _ => false
def plainL : List (SV C) → Bool
 | [] => true
 | x :: l => dL x && plainL l
end
section
variable {P : Program} {D : aL C} {A : Aux C D} {tab : Tab C} {X : Ctx C} {R : jN C} {k : List (It C)} {T : List (SV C)} {Hp : List (HS C)}
mutual
theorem lV {w w' : World} {E E' : Env} : ∀ (x : SV C) (v : Value), dL x = true → Den D w E x v → Den D w' E' x v
 | .p (.int k n), v, _, h => by simp only [Den] at *; cases h; exact .int _ _
 | .p (.bool b), v, _, h => by simp only [Den] at *; cases h; exact .bool _
 | .p (.str l), v, _, h => by simp only [Den] at *; cases h; exact .str _
 | .tuple l, v, hp, h => by
  simp only [dL] at hp
  simp only [Den] at *
  obtain ⟨xs, h1, h2⟩ := h
  exact ⟨xs, h1, plainL_denA l _ hp h2⟩
 | .agg l, v, hp, h => by
  simp only [dL] at hp
  simp only [Den] at *
  obtain ⟨xs, h1, h2⟩ := h
  exact ⟨xs, h1, plainL_denC l _ hp h2⟩
 | .p (.lit _), v, hp, h => by simp [dL] at hp
 | .p (.dsl _ _), v, hp, h => by simp [dL] at hp
 | .p (.fds _ _), v, hp, h => by simp [dL] at hp
 | .any, v, hp, h => by simp [dL] at hp
 | .ptr _ _, v, hp, h => by simp [dL] at hp
 | .eptr _ _ _ _ _, v, hp, h => by simp [dL] at hp
 | .dptr _ _, v, hp, h => by simp [dL] at hp
 | .slice _ _ _ _ _, v, hp, h => by simp [dL] at hp
 | .arr _ _ _, v, hp, h => by simp [dL] at hp
 | .fn _ _ _, v, hp, h => by simp [dL] at hp
 | .iface _ _, v, hp, h => by simp [dL] at hp
 | .yieldv _, v, hp, h => by simp [dL] at hp
 | .mapp _, v, hp, h => by simp [dL] at hp
theorem plainL_denA {w w' : World} {E E' : Env} : ∀ (l : List (SV C)) (vs : List Value), plainL l = true → DenA D w E l vs → DenA D w' E' l vs
 | [], vs, _, h => by simp only [DenA] at *; exact h
 | x :: l, vs, hp, h => by
  simp only [plainL, Bool.and_eq_true] at hp
  simp only [DenA] at *
  obtain ⟨v, v2, h1, h2, h3⟩ := h
  exact ⟨v, v2, h1, lV x v hp.1 h2, plainL_denA l v2 hp.2 h3⟩
theorem plainL_denC {w w' : World} {E E' : Env} : ∀ (l : List (SV C)) (vs : List Value), plainL l = true → DenC D w E l vs → DenC D w' E' l vs
 | [], vs, _, h => by simp only [DenC] at *; exact h
 | x :: l, vs, hp, h => by
  simp only [plainL, Bool.and_eq_true] at hp
  have hx : x.isArr = false := by cases x <;> first | rfl | simp [dL] at hp
  rw [aZ hx] at *
  obtain ⟨v, v2, h1, h2, h3, h4⟩ := h
  exact ⟨v, v2, h1, h2, lV x v hp.1 h3, plainL_denC l v2 hp.2 h4⟩
end
theorem Sy {x : Option Nat} {c : Nat} (h : x = none) : x ≠ some c := by rw [h]; simp
theorem Sf {x : Option Nat} {a c : Nat} (h : x = some a) (hn : a ≠ c) : x ≠ some c := by rw [h]; simpa using hn
structure Vn (Hp : List (HS C)) (θ : List (Option Nat)) (l m : List (SV C)) : Prop where
 h : ViewL Hp θ l m
theorem Dz {f : FuncId} {args args' : List (SV C)} {ret : SV C} {dst : Option Nat} {all rest : List Oper} (hM : aG P D f args' [] ret []) (hv : Vn Hp [] args args') (hp : dL ret = true)
  (h : cO T dst ret fun T' => R (.ops all rest :: k) T' Hp) : kR P D X R f args dst all rest k T Hp := by
 rw [bB] at h
 refine kR.of (fun ret' Hp' => ret' = ret ∧ Hp' = Hp) ⟨.inl ⟨hM.enter, fun B σ df a w E _ hR vs hd => ?_⟩⟩ ?_
 ·let B0 : dZ := ⟨w, { F := E.F, β := fun _ => .fresh }, fun _ => True, 0, fun _ _ => rfl, [], false⟩
  have hf0 : Fr B0 E w := ⟨rfl, rfl, rfl, Nat.le_refl _, fun b _ ho => absurd trivial ho, ⟨fun b hb => ⟨hb, rfl⟩, fun c => .inr (.inr rfl), fun c b e => by cases e⟩, fun b _ => .inr (.inl trivial), fun c b _ => .inl trivial⟩
  obtain ⟨g1, g2, g3⟩ := oK hR.sat hf0 (θ := []) (Hp' := []) ⟨trivial, rfl, rfl⟩
  have hd' := view_denA hR.sat g1 args args' vs hv.h hd
  refine (hM.calls w (E.view [] []) (fun c _ => rfl) vs g2 hd').mono ?_
  rintro e w' ⟨v, E', rfl, hv', _, hfr⟩
  have hsame : ∀ b, b < w.heap.size → w'.heap[b]? = w.heap[b]? := fun b hb => hfr.same b hb (by rintro ⟨c, hc⟩; cases hc)
  have hL := cI.same hsame hR.sat.F
  exact ⟨v, E, ret, Hp, rfl, lV ret v hp hv', hR.later hL (hR.sat.same hsame hfr.size) (hR.fr.on hR.sat.F hsame hfr.size hfr.os hfr.tape hfr.output), rfl, rfl⟩
 ·rintro ret' Hp' ⟨rfl, rfl⟩; exact h
def lX : List (Option Nat) → (List (Option Nat) → Prop) → Prop
 | [], K => K []
 | none :: l, K => lX l fun m => K (none :: m)
 | some n :: l, K => Dm n fun n => lX l fun m => K (some n :: m)
theorem hZ : ∀ (l : List (Option Nat)) (K : List (Option Nat) → Prop), lX l K = K l
 | [], _ => rfl
 | none :: l, K => by simp only [lX, hZ l]
 | some n :: l, K => by simp only [lX, lI, hZ l]
def q1f : List (HS C) → Nat → List (Option Nat)
 | [], _ => []
 | _ :: l, k => some k :: q1f l (k + 1)
theorem Gd {m0 : Nat} {T T' : List (SV C)} {Hp Hp' : List (HS C)} {args args' : List (SV C)} (θ : List (Option Nat)) (hT : ViewL Hp θ T T') (ha : ViewL Hp θ args args') (hv : vZ Hp θ Hp' m0) : Qd D m0 T Hp args T' Hp' args' := by
 rintro B E df a w rfl hR hsz
 obtain ⟨h1, h2, h3⟩ := oK hR.sat hR.fr hv
 have hlen : ∀ (l m : List (SV C)), ViewL Hp θ l m → l.length = m.length := by
  intro l
  induction l with
  | nil => intro m h; cases m with
   | nil => rfl
   | cons y m => simp [ViewL] at h
  | cons x l ih => intro m h; cases m with
   | nil => simp [ViewL] at h
   | cons y m => simp only [ViewL] at h; simp [ih m h.2]
 have hget : ∀ (l m : List (SV C)) (i : Nat) (v : Value), ViewL Hp θ l m → Den D w E (bI l i) v → Den D w (E.view θ Hp') (bI m i) v := by
  intro l
  induction l with
  | nil => intro m i v h _; cases m with
   | nil => trivial
   | cons y m => simp [ViewL] at h
  | cons x l ih => intro m i v h hd; cases m with
   | nil => simp [ViewL] at h
   | cons y m =>
    simp only [ViewL] at h
    cases i with
    | zero => exact pJ hR.sat h1 x y v h.1 hd
    | succ i => exact ih m i v h.2 hd
 exact ⟨_, ⟨fun i => hget T T' i _ hT (hR.den i), h2, h3, hR.defers, hR.marks.mono fun b hb => ⟨h1.F b hb, rfl⟩⟩, by rw [hsz, hlen T T' hT], fun vs hd => view_denA hR.sat h1 args args' vs ha hd⟩
theorem aJ {p X Y : Prop} (h1 : p → X) (h2 : Y) : q1e p X Y := ⟨h1, h2⟩
theorem bM {q : Option (Option (Nat × Value))} {Y : Option (Nat × Value) → Prop} {r : Option (Nat × Value)} (h1 : q = some r) (h2 : Y r) : q0z q Y := ⟨r, h1, h2⟩
theorem vB {op : Op} {vals : List (SV C)} {hs : List (Nat × HS C)} {dst : Option Nat} {all rest : List Oper} (θ : List (Option Nat)) (us : List (Nat × SV C)) (cs : List (Nat × HS C)) (hb : Iz X.m0 θ T Hp (lG T us) (dR Hp cs))
  (h : eN (lG T us) fun T1 => dI Hp cs fun Hp1 => eN (aV T1 (aO op)) fun vals => rU Hp1 0 fun m => mQ P D X R False dst all rest k T1 Hp1 (exec A tab op vals (mI Hp1 vals) m)) : L0 op vals hs (q19 P A tab X R op dst all rest k T Hp) := by
 rw [bK, bQ, bK, eF, Nat.add_zero] at h
 refine ⟨_, _, fun B E df a w hm hR hsz => ?_, h⟩
 exact Gd (D := D) _ hb.T (show ViewL Hp θ [] [] from trivial) ⟨hb.H, hb.id, hb.nd⟩ B E df a w hm hR hsz
theorem Mm {m0 : Nat} {ops : List Oper} (θ : List (Option Nat)) (us : List (Nat × SV C)) (cs : List (Nat × HS C)) (hb : Iz m0 θ T Hp (lG T us) (dR Hp cs))
  (h : eN (lG T us) fun T1 => dI Hp cs fun Hp1 => Mi P A tab m0 R ops k T1 Hp1) : Mi P A tab m0 R ops k T Hp := by
 rw [bK, bQ] at h
 obtain ⟨T1, Hp1, hs, h1⟩ := h.h
 exact ⟨T1, Hp1, fun B df a w hm hR => hs B df a w hm (Fe θ hb.T ⟨hb.H, hb.id, hb.nd⟩ B df a w hm hR), h1⟩
def Nk (b : Bool) (X : Prop) : Prop := match b with
 | true => X
 | false => False
def Hs {α : Type} (x : Option α) (K : α → Prop) : Prop := match x with
 | some a => K a
 | none => False
def U3 (Hp : List (HS C)) (ρ : List (Option Nat)) (n0 : Nat) (H1 : List (HS C)) (ret0 : SV C) (K : SV C → List (Option Nat) → List (Nat × HS C) → Prop) : Prop :=
 rU Hp 0 fun m => lX (ρ ++ eK (H1.length - n0) m) fun θ => Nk (ndO θ && Nat.ble n0 H1.length) (Hs (fA θ H1) fun H1' => Hs (jO θ ret0) fun ret => K ret θ (wA θ H1'))
theorem wQ {f : FuncId} {args0 args : List (SV C)} {H0 H0' H1 : List (HS C)} {ret0 : SV C} {dst : Option Nat} {all rest : List Oper} (ρ : List (Option Nat)) (hM : aG P D f args0 H0 ret0 H1)
  (hargs : renL ρ args0 = some args) (hH0 : fA ρ H0 = some H0') (hat : dC (aS Hp) ρ H0')
  (h : U3 Hp ρ H0.length H1 ret0 fun ret _ ws => cO T dst ret fun T' => dI Hp ws fun Hp' => R (.ops all rest :: k) T' Hp') : kR P D X R f args dst all rest k T Hp := by
 unfold U3 at h
 rw [eF, Nat.add_zero, hZ] at h
 unfold Nk at h
 split at h
 ·rename_i hc
  simp only [Bool.and_eq_true] at hc
  unfold Hs at h
  split at h
  ·rename_i H1' hH1
   split at h
   ·rename_i ret hret
    exact De ρ hM hargs hH0 hat _ rfl hc.1 (Nat.le_of_ble_eq_true hc.2) hH1 hret h
   ·exact h.elim
  ·exact h.elim
 ·exact h.elim
theorem bZ {next : DK C} {f : FuncId} {args0 args : List (SV C)} {H0 H0' H1 : List (HS C)} {ret0 : SV C} {dst : Option Nat} {fs fc : List Nat} {tr : List Ent} (ρ : List (Option Nat)) (hM : aG P D f args0 H0 ret0 H1)
  (hargs : renL ρ args0 = some args) (hH0 : fA ρ H0 = some H0') (hat : dC (aS Hp) ρ H0')
  (h : U3 Hp ρ H0.length H1 ret0 fun ret θ ws => cK (fc ++ Q0 θ) fun fc => cK (mJ ws) fun ids => cO T dst ret fun T' => dI Hp ws fun Hp' => next (⟨dst, fs, fc, ids⟩ :: tr) T' Hp') : yH P D next f args dst fs fc tr T Hp := by
 unfold U3 at h
 rw [eF, Nat.add_zero, hZ] at h
 unfold Nk at h
 split at h
 ·rename_i hc
  simp only [Bool.and_eq_true] at hc
  unfold Hs at h
  split at h
  ·rename_i H1' hH1
   split at h
   ·rename_i ret hret
    exact U6 ρ hM hargs hH0 hat _ rfl hc.1 (Nat.le_of_ble_eq_true hc.2) hH1 hret h
   ·exact h.elim
  ·exact h.elim
 ·exact h.elim
theorem bW {D : aL C} {m0 : Nat} {body : Code} {γ : Type} (I : γ → List (Nat × SV C)) (U : γ → List (Nat × HS C)) (good : γ → Prop) (μ : γ → Nat) (g0 : γ) (h0 : good g0) (hent : Iz m0 (q1f Hp 0) T Hp (wI body T (I g0)) (dR Hp (U g0)))
    (hround : ∀ g, good g → ∀ K : List (SV C) → List (HS C) → Prop, (∀ g' θ T' Hp', Ks (good g') → Ks (μ g' < μ g) → Iz m0 θ T' Hp' (wI body T (I g')) (dR Hp (U g')) → K T' Hp') →
      eN (wI body T (I g)) fun T1 => dI Hp (U g) fun Hp1 => R (.code body :: .endLoop K :: k) T1 Hp1) : Oo D m0 R body k T Hp := by
  refine sQ I (fun g => dR Hp (U g)) good μ g0 h0 _ hent fun g hg K hK => ?_
  have := hround g hg K hK
  rw [bK, bQ] at this
  rw [bK, bA]
  exact this
end
end Go.SX
namespace Go.SX
variable {C : Cod}
class Bl (b : Bool) (p q : outParam Prop) : Prop where
 t : b = true → p
 f : b = false → q
instance (priority := 10) blB (b : Bool) : Bl b (b = true) (b = false) := ⟨id, id⟩
instance (priority := 20) blN (b : Bool) : Bl (!b) (b = false) (b = true) := ⟨by simp, by simp⟩
instance (priority := 30) blD (p : Prop) [Decidable p] : Bl (decide p) p (¬p) := ⟨by simp, by simp⟩
instance (priority := 40) blE (p : Prop) [Decidable p] : Bl (!decide p) (¬p) p := ⟨by simp, by simp⟩
theorem spC {b : Bool} {p q X Y : Prop} [hb : Bl b p q] (h1 : p → X) (h2 : q → Y) : zY b X Y := Su (fun h => h1 (hb.t h)) (fun h => h2 (hb.f h))
theorem sdV {p : Prop} (h : p := by
  first | ((repeat' (first | refine And.intro ?_ ?_ | exact nI (by omega) (by omega) | omega | rfl | exact trivial | exact Sy rfl | exact Sf rfl (Nat.ne_of_beq_eq_false rfl) | exact Nat.ne_of_beq_eq_false rfl | (dsimp only [uN]; omega) | (simp; done) | (simp; omega))); done) | fail) : Ks p := ⟨h⟩
theorem saC {p q : Prop} (h2 : q) (h1 : Ks p := by first | exact sdV | fail) : p ∧ q := ⟨h1.h, h2⟩
section
variable {P : Program} {D : aL C} {tab : Tab C} {A : Aux C D} {X : Ctx C} {R : jN C} {k : List (It C)} {T : List (SV C)} {Hp : List (HS C)} {m0 : Nat} {f : FuncId} {args args' : List (SV C)} {dst : Option Nat} {all rest : List Oper} {next : DK C} {fs fc : List Nat} {tr : List Ent} {ret : SV C}
theorem taC {t : List Ent} {Z : Prop} (h2 : Z) (h1 : yK all t.reverse = true := by kernel_rfl) : Gv all t ∧ Z := ⟨⟨h1⟩, h2⟩
theorem x0C {rs : List ResultVar} (hE : Rh Hp [] ret (fL D tab T Hp rs)) : (Exit.ret = Exit.normal ∨ Exit.ret = Exit.ret) ∧ ∃ θ l, fL D tab T Hp rs = some l ∧ jR Hp θ (rX l) ret ∧ vZ Hp θ [] 0 :=
 Px [] (.inr rfl) hE trivial rfl rfl
theorem eB {rs : List ResultVar} {θ : List (Option Nat)} {b r : Bool} (h1 : b = r) (h2 : fL D tab T Hp rs = some [.p (.bool b)]) : Rh Hp θ (.p (.bool r)) (fL D tab T Hp rs) := by
 subst h1; rw [h2]; exact ⟨rfl⟩
theorem eI {rs : List ResultVar} {θ : List (Option Nat)} {K : IntKind} {b r : Int} (h1 : b = r) (h2 : fL D tab T Hp rs = some [.p (.int K b)]) : Rh Hp θ (.p (.int K r)) (fL D tab T Hp rs) := by
 subst h1; rw [h2]; exact ⟨rfl⟩
theorem cpC (hM : aG P D f args [] ret []) (h : cO T dst ret fun T' => R (.ops all rest :: k) T' Hp) (h1 : renL [] args = some args := by rfl) (h2 : jO [] ret = some ret := by rfl) : kR P D X R f args dst all rest k T Hp := Ce hM h1 h2 h
theorem dpC (hM : aG P D f args [] ret []) (h : cK fc fun fc => cO T dst ret fun T' => next (⟨dst, fs, fc, []⟩ :: tr) T' Hp) (h1 : renL [] args = some args := by rfl) (h2 : jO [] ret = some ret := by rfl) : yH P D next f args dst fs fc tr T Hp := R7 hM h1 h2 h
theorem fzV {θ : List (Option Nat)} {c o n off len : Nat} {u : C.U} {ys xs : List (C.El u)} (h1 : aS Hp c = .rows u xs := by rfl) (h2 : o = 0 := by rfl) (h3 : n = C.n u := by rfl) (h4 : off + len ≤ xs.length := by first | (simp; done) | (simp; omega) | omega)
  (h5 : ys = (xs.drop off).take len := by first | (simp; done) | (simp [List.take_of_length_le]; done) | (simp [List.take_of_length_le]; rfl)) (h6 : inO θ c = false := by rfl) : oL Hp θ c o n off len u ys := ⟨xs, h1, h2, h3, h4, h5, h6⟩
theorem fvV {θ : List (Option Nat)} {c : Nat} {cells : List (PV C)} {t : Option TypeId} {vs : List (SV C)} (h1 : aS Hp c = .vart t vs := by rfl) (h2 : yA Hp θ vs cells := by first | ((repeat' (first | exact trivial | exact rfl | refine And.intro ?_ ?_ | exact fzV)); done) | fail) (h3 : inO θ c = false := by rfl) : uI Hp θ c cells := ⟨t, vs, h1, h2, h3⟩
theorem snV {θ : List (Option Nat)} {l m : List (SV C)} (h : ViewL Hp θ l m := by first | ((repeat' (first | exact trivial | exact rfl | refine And.intro ?_ ?_ | exact fzV | exact fvV)); done) | fail) : Vn Hp θ l m := ⟨h⟩
theorem rdC (hM : aG P D f args' [] ret []) (h : cO T dst ret fun T' => R (.ops all rest :: k) T' Hp) (hv : Vn Hp [] args args' := by first | exact snV | fail) (hp : dL ret = true := by rfl) : kR P D X R f args dst all rest k T Hp := Dz hM hv hp h
theorem vwV {θ : List (Option Nat)} {l : Option (List (SV C))} (h : q0a Hp θ ret l := by first | ((repeat' (first | exact trivial | exact rfl | refine And.intro ?_ ?_ | exact fzV | exact fvV)); done) | fail) : Rh Hp θ ret l := ⟨h⟩
theorem hsV {θ l : List (Option Nat)} {m : List (HS C)} (h : eP Hp θ l m := by first | ((repeat' (first | exact trivial | exact rfl | refine And.intro ?_ ?_ | exact ⟨_, rfl⟩ | exact fzV | exact fvV)); done) | fail) : eP Hp θ l m := h
theorem bkV {θ : List (Option Nat)} {T' : List (SV C)} {Hp' : List (HS C)} (h1 : ViewL Hp θ T T' := by first | ((repeat' (first | exact trivial | exact rfl | refine And.intro ?_ ?_ | exact fzV | exact fvV)); done) | fail) (h2 : eP Hp θ θ Hp' := by first | exact hsV | fail) (h3 : idO m0 0 θ Hp' = true := by rfl) (h4 : ndO θ = true := by rfl) : Iz m0 θ T Hp T' Hp' := ⟨h1, h2, h3, h4⟩
theorem enC {rs : List ResultVar} {H1 : List (HS C)} {e : Exit} (θ : List (Option Nat)) (he : e = .normal ∨ e = .ret := by first | exact .inr rfl | exact .inl rfl) (hE : Rh Hp θ ret (fL D tab T Hp rs) := by exact vwV) (hv : eP Hp θ θ H1 := by exact hsV) (hid : idO m0 0 θ H1 = true := by rfl) (hnd : ndO θ = true := by rfl) :
  (e = .normal ∨ e = .ret) ∧ ∃ θ l, fL D tab T Hp rs = some l ∧ jR Hp θ (rX l) ret ∧ vZ Hp θ H1 m0 := Px θ he hE hv hid hnd
theorem chC {args0 : List (SV C)} {H0 H0' H1 : List (HS C)} {ret0 : SV C} (ρ : List (Option Nat)) (hM : aG P D f args0 H0 ret0 H1) (h : U3 Hp ρ H0.length H1 ret0 fun ret _ ws => cO T dst ret fun T' => dI Hp ws fun Hp' => R (.ops all rest :: k) T' Hp')
  (hargs : renL ρ args0 = some args := by rfl) (hH0 : fA ρ H0 = some H0' := by rfl) (hat : dC (aS Hp) ρ H0' := by (repeat' (first | exact trivial | exact rfl | refine And.intro ?_ ?_))) : kR P D X R f args dst all rest k T Hp := wQ ρ hM hargs hH0 hat h
end
theorem Pm {P : Program} {D : aL C} {f : FuncId} {args args' : List (SV C)} {ret : SV C} {H1 : List (HS C)} (hM : aG P D f args' [] ret H1) (h : Vn [] [] args args') : aG P D f args [] ret H1 := by
 refine ⟨hM.enter, fun w E hm vs hs hd => hM.calls w E hm vs hs (view_denA hs ⟨fun _ h => h, fun j d e => by simp [ixO] at e, fun j e => by simp [ixL] at e, fun c b _ e => ?_⟩ args args' vs h.h hd)⟩
 rw [hm c (Nat.zero_le c)] at e
 cases e
theorem B7 {P : Program} {D : aL C} {f : FuncId} {args args' : List (SV C)} {ret : SV C} {H1 : List (HS C)} (hM : aG P D f args' [] ret []) (hv : Vn H1 [] args args') (hp : dL ret = true) : aG P D f args H1 ret H1 := by
 refine ⟨hM.enter, fun w E hm vs hs hd => ?_⟩
 let B0 : dZ := ⟨w, { F := E.F, β := fun _ => .fresh }, fun _ => True, 0, fun _ _ => rfl, [], false⟩
 have hf0 : Fr B0 E w := ⟨rfl, rfl, rfl, Nat.le_refl _, fun b _ ho => absurd trivial ho, ⟨fun b hb => ⟨hb, rfl⟩, fun c => .inr (.inr rfl), fun c b e => by cases e⟩, fun b _ => .inr (.inl trivial), fun c b _ => .inl trivial⟩
 obtain ⟨g1, g2, g3⟩ := oK hs hf0 (θ := []) (Hp' := []) ⟨trivial, rfl, rfl⟩
 have hd' := view_denA hs g1 args args' vs hv.h hd
 refine (hM.calls w (E.view [] []) (fun c _ => rfl) vs g2 hd').mono ?_
 rintro e w' ⟨v, E', rfl, hv', _, hfr⟩
 have hsame : ∀ b, b < w.heap.size → w'.heap[b]? = w.heap[b]? := fun b hb => hfr.same b hb (by rintro ⟨c, hc⟩; cases hc)
 exact ⟨v, E, rfl, lV ret v hp hv', hs.same hsame hfr.size, (Fr.here (m := H1.length) (hm := hm)).on hs.F hsame hfr.size hfr.os hfr.tape hfr.output⟩
theorem Q8 {P : Program} {D : aL C} {X : Ctx C} {R : jN C} {k : List (It C)} {T : List (SV C)} {Hp : List (HS C)} {f : FuncId} {args : List (SV C)} {dst : Option Nat} {all rest : List Oper} (θ : List (Option Nat)) (us : List (Nat × SV C)) (cs : List (Nat × HS C)) (args' : List (SV C)) (hb : Iz X.m0 θ T Hp (lG T us) (dR Hp cs)) (ha : Vn Hp θ args args')
  (h : eN (lG T us) fun T1 => dI Hp cs fun Hp1 => kR P D X R f args' dst all rest k T1 Hp1) : kR P D X R f args dst all rest k T Hp := by
 rw [bK, bQ] at h
 obtain ⟨T2, Hp2, args2, hsub, hor⟩ := h.h
 refine ⟨T2, Hp2, args2, fun B E df a w hm hR hsz => ?_, hor⟩
 obtain ⟨E1, hR1, hsz1, hd1⟩ := Gd (D := D) _ hb.T ha.h ⟨hb.H, hb.id, hb.nd⟩ B E df a w hm hR hsz
 obtain ⟨E2, hR2, hsz2, hd2⟩ := hsub B E1 df a w hm hR1 hsz1
 exact ⟨E2, hR2, hsz2, fun vs hv => hd2 vs (hd1 vs hv)⟩
end Go.SX
namespace Go.SX
variable {C : Cod}
section
variable {Hp : List (HS C)} {θ : List (Option Nat)} {T T' : List (SV C)} {Hp' : List (HS C)} {m0 : Nat} {ret : SV C}
theorem q0q {k : IntKind} {a b : Int} (h : a = b := by omega) : jR Hp θ (.p (.int k a)) (.p (.int k b)) := by subst h; rfl
theorem Zh {u : C.U} {xs ys : List (C.El u)} (h : xs = ys) : wF Hp θ (.rows u xs) (.rows u ys) := by subst h; rfl
theorem slV {c o n off len len' d off' : Nat} (h : len = len') (h2 : off = off') (h1 : jR Hp θ (.slice d o n off' len') (.slice c o n off' len')) : jR Hp θ (.slice d o n off len) (.slice c o n off' len') := by subst h; subst h2; exact h1
theorem bkI {m0 : Nat} (h1 : ViewL Hp θ T T' := by first | ((repeat' (first | exact trivial | exact rfl | refine And.intro ?_ ?_ | exact q0q | exact fzV | exact fvV)); done) | fail) (h2 : eP Hp θ θ Hp' := by
    first | ((repeat' (first | exact trivial | exact rfl | refine And.intro ?_ ?_ | exact ⟨_, rfl⟩ | exact q0q | (refine Zh ?_; assumption) | (refine Zh ?_; (apply Eq.symm); assumption) | exact fzV | exact fvV)); done) | fail) (h3 : idO m0 0 θ Hp' = true := by rfl) (h4 : ndO θ = true := by rfl) : Iz m0 θ T Hp T' Hp' := ⟨h1, h2, h3, h4⟩
end
end Go.SX
namespace Go.SX
variable {C : Cod}
theorem aT {D : aL C} {m0 : Nat} {R : jN C} {body : Code} {k : List (It C)} {T : List (SV C)} {Hp : List (HS C)} {γ : Type} (θ0 : List (Option Nat)) (I : γ → List (Nat × SV C)) (U : γ → List (Nat × HS C)) (good : γ → Prop) (μ : γ → Nat) (g0 : γ) (h0 : good g0) (hent : Iz m0 θ0 T Hp (wI body T (I g0)) (dR Hp (U g0)))
    (hround : ∀ g, good g → ∀ K : List (SV C) → List (HS C) → Prop, (∀ g' θ T' Hp', Ks (good g') → Ks (μ g' < μ g) → Iz m0 θ T' Hp' (wI body T (I g')) (dR Hp (U g')) → K T' Hp') →
      eN (wI body T (I g)) fun T1 => dI Hp (U g) fun Hp1 => R (.code body :: .endLoop K :: k) T1 Hp1) : Oo D m0 R body k T Hp := by
  refine sQ I (fun g => dR Hp (U g)) good μ g0 h0 θ0 hent fun g hg K hK => ?_
  have := hround g hg K hK
  rw [bK, bQ] at this
  rw [bK, bA]
  exact this
end Go.SX
namespace Go.SX
variable {C : Cod}
section
variable {Hp : List (HS C)} {θ : List (Option Nat)} {T T' : List (SV C)} {Hp' : List (HS C)} {m0 : Nat} {ret : SV C}
theorem hsW {θ l : List (Option Nat)} {m : List (HS C)} (h : eP Hp θ l m := by first | ((repeat' (first | exact trivial | exact rfl | refine And.intro ?_ ?_ | exact ⟨_, rfl⟩ | exact q0q | (refine Zh ?_; assumption) | (refine Zh ?_; (apply Eq.symm); assumption) | exact fzV | exact fvV | (refine slV (by first | omega | (simp; done) | (simp; omega)) rfl ?_))); done) | fail) : eP Hp θ l m := h
end
end Go.SX
namespace Go.SX
@[reducible] def ti (k : TK) (s b : Nat) (z : List (SV Cd)) (c : Option U := none) (q : List CK := []) : TI Cd := { kind := k, size := s, bytes := b, zero := z, code := c, cks := q }
@[reducible] def oT : TI Cd := ti .other 1 8 [.p (.lit .nilFunc)]
@[reducible] def sT (e : Nat) : TI Cd := ti (.slice e) 1 24 [.p (.lit (.slice none 0 0))]
@[reducible] def pT (e : Nat) : TI Cd := ti (.ptr e) 1 8 [.p (.lit (.pointer none))]
def Ze : Nat → List (Nat × TI Cd)
 | 0 => [(1, oT),
  (2, ti (.int .i64) 1 8 [.p (.int .i64 0)]),
  (3, ti (.int .i64) 1 8 [.p (.int .i64 0)] (some U.int)),
  (4, ti (.bool) 1 1 [.p (.bool false)] (some U.bool)),
  (5, ti (.int .u8) 1 1 [.p (.int .u8 0)] (some U.u8)),
  (9, ti (.str) 1 16 [.p (.str [])] (some U.str)),
  (12, ti (.int .u64) 1 8 [.p (.int .u64 0)]),
  (13, ti (.struct [(0, 9), (1, 12)]) 2 24 [.p (.str []), .p (.int .u64 0)])]
 | 1 => [(20, ti (.ifc) 1 16 [.p (.lit .nilIface)]),
  (21, ti (.int .i32) 1 4 [.p (.int .i32 0)]),
  (22, sT 123),
  (23, sT 95),
  (24, ti (.struct [(0, 22), (1, 23)]) 2 48 [.p (.lit (.slice none 0 0)), .p (.lit (.slice none 0 0))]),
  (25, ti (.struct [(0, 22), (1, 23)]) 2 48 [.p (.lit (.slice none 0 0)), .p (.lit (.slice none 0 0))]),
  (26, sT 3),
  (27, oT),
  (28, ti (.struct [(0, 26)]) 1 24 [.p (.lit (.slice none 0 0))]),
  (29, ti (.struct [(0, 26)]) 1 24 [.p (.lit (.slice none 0 0))]),
  (30, ti (.struct [(0, 3), (1, 3)]) 2 16 [.p (.int .i64 0), .p (.int .i64 0)]),
  (31, ti (.struct [(0, 3), (1, 3)]) 2 16 [.p (.int .i64 0), .p (.int .i64 0)] (some U.spell) [.int .i64, .int .i64])]
 | 2 => [(32, sT 34),
  (33, ti (.struct [(0, 3), (1, 29), (2, 31), (4, 3), (5, 3), (6, 4), (7, 3), (8, 3), (9, 3), (10, 26), (11, 32)]) 12 144 [.p (.int .i64 0), .p (.lit (.slice none 0 0)), .p (.int .i64 0), .p (.int .i64 0), .p (.int .i64 0), .p (.int .i64 0), .p (.bool false), .p (.int .i64 0), .p (.int .i64 0), .p (.int .i64 0), .p (.lit (.slice none 0 0)), .p (.lit (.slice none 0 0))]),
  (34, ti (.struct [(0, 3), (1, 29), (2, 31), (4, 3), (5, 3), (6, 4), (7, 3), (8, 3), (9, 3), (10, 26), (11, 32)]) 12 144 [.p (.int .i64 0), .p (.lit (.slice none 0 0)), .p (.int .i64 0), .p (.int .i64 0), .p (.int .i64 0), .p (.int .i64 0), .p (.bool false), .p (.int .i64 0), .p (.int .i64 0), .p (.int .i64 0), .p (.lit (.slice none 0 0)), .p (.lit (.slice none 0 0))] (some U.goal)),
  (35, ti (.slice 51) 1 24 [.p (.lit (.slice none 0 0))] (some U.evs)),
  (37, oT),
  (38, sT 114),
  (39, ti (.struct [(0, 3), (1, 3), (2, 38)]) 3 40 [.p (.int .i64 0), .p (.int .i64 0), .p (.lit (.slice none 0 0))]),
  (40, ti (.struct [(0, 3), (1, 3), (2, 38)]) 3 40 [.p (.int .i64 0), .p (.int .i64 0), .p (.lit (.slice none 0 0))]),
  (41, ti (.int .i64) 1 8 [.p (.int .i64 0)] (some U.int)),
  (43, oT),
  (44, oT),
  (46, oT),
  (47, oT)]
 | 3 => [(48, oT),
  (49, oT),
  (50, ti (.struct [(0, 3), (1, 3), (2, 3), (3, 29), (4, 3), (5, 3), (6, 4)]) 7 72 [.p (.int .i64 0), .p (.int .i64 0), .p (.int .i64 0), .p (.lit (.slice none 0 0)), .p (.int .i64 0), .p (.int .i64 0), .p (.bool false)]),
  (51, ti (.struct [(0, 3), (1, 3), (2, 3), (3, 29), (4, 3), (5, 3), (6, 4)]) 7 72 [.p (.int .i64 0), .p (.int .i64 0), .p (.int .i64 0), .p (.lit (.slice none 0 0)), .p (.int .i64 0), .p (.int .i64 0), .p (.bool false)] (some U.event)),
  (53, oT),
  (55, oT),
  (57, oT),
  (58, oT),
  (59, oT),
  (60, oT),
  (61, oT),
  (62, oT),
  (63, oT)]
 | 4 => [(64, oT),
  (65, oT),
  (66, oT),
  (67, pT 71),
  (68, pT 103),
  (69, oT),
  (70, ti (.struct [(0, 68), (1, 35)]) 2 32 [.p (.lit (.pointer none)), .p (.lit (.slice none 0 0))]),
  (71, ti (.struct [(0, 68), (1, 35)]) 2 32 [.p (.lit (.pointer none)), .p (.lit (.slice none 0 0))]),
  (72, oT),
  (73, oT),
  (74, oT),
  (75, ti (.struct [(0, 3), (1, 26)]) 2 32 [.p (.int .i64 0), .p (.lit (.slice none 0 0))]),
  (76, ti (.struct [(0, 3), (1, 26)]) 2 32 [.p (.int .i64 0), .p (.lit (.slice none 0 0))]),
  (78, oT)]
 | 5 => [(80, oT),
  (81, oT),
  (82, oT),
  (83, oT),
  (85, ti (.struct [(0, 35), (1, 3)]) 2 32 [.p (.lit (.slice none 0 0)), .p (.int .i64 0)]),
  (86, ti (.struct [(0, 35), (1, 3)]) 2 32 [.p (.lit (.slice none 0 0)), .p (.int .i64 0)]),
  (87, oT),
  (89, oT),
  (90, ti (.map (.int .i64) 4) 1 8 [.p (.lit (.map none))]),
  (91, oT),
  (93, oT),
  (94, oT),
  (95, ti (.arr 4 3) 4 32 [.arr U.int 4 (List.replicate 4 (Cd.dflt U.int))] (some U.arr4) [.int .i64, .int .i64, .int .i64, .int .i64])]
 | 6 => [(96, oT),
  (97, oT),
  (99, oT),
  (100, oT),
  (101, ti (.mapg [.int .i64, .int .i64, .int .i64] 3) 1 8 [.p (.lit (.map none))]),
  (102, ti (.struct [(0, 3), (1, 38), (2, 101)]) 3 40 [.p (.int .i64 0), .p (.lit (.slice none 0 0)), .p (.lit (.map none))]),
  (103, ti (.struct [(0, 3), (1, 38), (2, 101)]) 3 40 [.p (.int .i64 0), .p (.lit (.slice none 0 0)), .p (.lit (.map none))]),
  (104, oT),
  (105, oT),
  (106, oT),
  (107, oT),
  (108, oT),
  (109, oT),
  (111, oT)]
 | 7 => [(112, oT),
  (113, ti (.struct [(0, 3), (1, 3), (2, 3)]) 3 24 [.p (.int .i64 0), .p (.int .i64 0), .p (.int .i64 0)]),
  (114, ti (.struct [(0, 3), (1, 3), (2, 3)]) 3 24 [.p (.int .i64 0), .p (.int .i64 0), .p (.int .i64 0)] (some U.node) [.int .i64, .int .i64, .int .i64]),
  (115, oT),
  (116, pT 118),
  (117, ti (.struct [(0, 34), (12, 3)]) 13 152 [.p (.int .i64 0), .p (.lit (.slice none 0 0)), .p (.int .i64 0), .p (.int .i64 0), .p (.int .i64 0), .p (.int .i64 0), .p (.bool false), .p (.int .i64 0), .p (.int .i64 0), .p (.int .i64 0), .p (.lit (.slice none 0 0)), .p (.lit (.slice none 0 0)), .p (.int .i64 0)]),
  (118, ti (.struct [(0, 34), (12, 3)]) 13 152 [.p (.int .i64 0), .p (.lit (.slice none 0 0)), .p (.int .i64 0), .p (.int .i64 0), .p (.int .i64 0), .p (.int .i64 0), .p (.bool false), .p (.int .i64 0), .p (.int .i64 0), .p (.int .i64 0), .p (.lit (.slice none 0 0)), .p (.lit (.slice none 0 0)), .p (.int .i64 0)]),
  (119, oT),
  (120, oT),
  (121, oT),
  (122, oT),
  (123, ti (.arr 5 3) 5 40 [.arr U.int 5 (List.replicate 5 (Cd.dflt U.int))] (some U.arr5) [.int .i64, .int .i64, .int .i64, .int .i64, .int .i64]),
  (124, oT),
  (125, oT),
  (126, oT),
  (127, oT)]
 | 8 => [(128, oT),
  (129, oT),
  (130, ti (.map (.int .i64) 3) 1 8 [.p (.lit (.map none))]),
  (131, oT),
  (132, oT),
  (133, oT),
  (134, ti (.map (.int .i64) 133) 1 8 [.p (.lit (.map none))]),
  (135, oT),
  (136, ti (.arr 2 3) 2 16 [.arr U.int 2 (List.replicate 2 (Cd.dflt U.int))] (none) [.int .i64, .int .i64]),
  (137, oT),
  (138, oT),
  (139, oT),
  (140, oT),
  (141, oT),
  (142, oT),
  (143, oT)]
 | 9 => [(144, oT),
  (145, oT),
  (146, oT),
  (147, sT 35),
  (148, oT),
  (149, oT),
  (151, oT),
  (152, { kind := .arr 24 3, size := 24, bytes := 192, zero := [.arr U.int 24 (List.replicate 24 (Cd.dflt U.int))], code := none, cks := [.int .i64, .int .i64, .int .i64, .int .i64, .int .i64, .int .i64, .int .i64, .int .i64, .int .i64, .int .i64, .int .i64, .int .i64, .int .i64, .int .i64, .int .i64, .int .i64, .int .i64, .int .i64, .int .i64, .int .i64, .int .i64, .int .i64, .int .i64, .int .i64], seq := true }),
  (153, ti (.struct [(0, 3), (1, 3)]) 2 16 [.p (.int .i64 0), .p (.int .i64 0)]),
  (154, ti (.struct [(0, 3), (1, 3)]) 2 16 [.p (.int .i64 0), .p (.int .i64 0)] (some U.cell) [.int .i64, .int .i64]),
  (155, oT),
  (156, oT),
  (157, oT),
  (158, oT),
  (159, ti (.mapg [.int .i64, .int .i64] 3) 1 8 [.p (.lit (.map none))])]
 | 10 => [(160, oT),
  (161, oT),
  (162, oT),
  (163, oT),
  (164, oT),
  (165, oT),
  (166, oT),
  (167, oT),
  (168, oT),
  (169, oT),
  (170, oT),
  (171, oT),
  (172, oT),
  (173, oT),
  (174, oT),
  (175, oT)]
 | 11 => [(176, oT),
  (177, oT),
  (178, oT),
  (179, oT),
  (180, ti (.int .u64) 1 8 [.p (.int .u64 0)]),
  (181, oT),
  (182, sT 154),
  (183, oT),
  (184, oT),
  (185, ti (.int .u32) 1 4 [.p (.int .u32 0)] (some U.u32)),
  (186, oT),
  (187, ti (.int .u64) 1 8 [.p (.int .u64 0)] (some U.u64)),
  (188, oT),
  (189, oT),
  (190, { kind := .arr 32 5, size := 32, bytes := 32, zero := [.arr U.u8 32 (List.replicate 32 (Cd.dflt U.u8))], code := none, cks := [.int .u8, .int .u8, .int .u8, .int .u8, .int .u8, .int .u8, .int .u8, .int .u8, .int .u8, .int .u8, .int .u8, .int .u8, .int .u8, .int .u8, .int .u8, .int .u8, .int .u8, .int .u8, .int .u8, .int .u8, .int .u8, .int .u8, .int .u8, .int .u8, .int .u8, .int .u8, .int .u8, .int .u8, .int .u8, .int .u8, .int .u8, .int .u8], seq := true }),
  (191, { kind := .arr 64 5, size := 64, bytes := 64, zero := [.arr U.u8 64 (List.replicate 64 (Cd.dflt U.u8))], code := none, seq := true })]
 | 12 => [(192, oT),
  (193, ti (.int .i64) 1 8 [.p (.int .i64 0)]),
  (195, oT),
  (196, oT),
  (197, oT),
  (198, oT),
  (199, oT),
  (200, ti (.int .u64) 1 8 [.p (.int .u64 0)]),
  (201, oT),
  (202, oT),
  (203, oT),
  (204, pT 3),
  (205, oT),
  (206, pT 200)]
 | 13 => [(208, oT),
  (209, oT),
  (215, oT),
  (218, oT),
  (219, pT 5)]
 | 14 => [(224, ti (.uptr) 1 8 [.p (.lit (.pointer none))])]
 | _ => []
def lkT : List (Nat × TI Cd) → Nat → Option (TI Cd)
 | [], _ => none
 | (n, i) :: l, t => match Nat.beq n t with
  | true => some i
  | false => lkT l t
theorem Iv : ∀ (l : List (Nat × TI Cd)) (t : Nat) (i : TI Cd), lkT l t = some i → (t, i) ∈ l
 | [], t, i, h => by simp [lkT] at h
 | (n, j) :: l, t, i, h => by
  simp only [lkT] at h
  split at h
  ·rename_i hb
   injection h with h
   subst h
   rw [Nat.eq_of_beq_eq_true hb]
   exact List.mem_cons_self ..
  ·exact List.mem_cons_of_mem _ (Iv l t i h)
def tab : Tab Cd := fun t => lkT (Ze (t / 16)) t
set_option maxRecDepth 100000 in
set_option maxHeartbeats 4000000 in
theorem Vg (c : Nat) : (Ze c).all (fun p => tyB Go.Proofs.Tryz.prog Dc p.1 p.2) = true := by
 unfold Ze
 split <;> kernel_rfl
theorem aF : bH Go.Proofs.Tryz.prog Dc tab := by
 intro t i h
 have h1 := List.all_eq_true.1 (Vg (t / 16)) (t, i) (Iv (Ze (t / 16)) t i h)
 exact Wf h1
theorem mixed : Go.Proofs.Tryz.prog.follows .mixedOrders = true := by kernel_rfl
end Go.SX
namespace Go.SX
def inB (n low high : Int) : Bool := decide (low ≤ n) && decide (n ≤ high)
theorem aM (n low high : Int) : inB n low high = true ↔ low ≤ n ∧ n ≤ high := by simp [inB]
theorem Tf (n low high : Int) : inB n low high = false ↔ ¬ (low ≤ n ∧ n ≤ high) := by rw [← aM]; simp
def nM (r : Int) : Bool := inB r 0 281474976710655
def bC (rows : List Int) : Bool := decide ((rows.length : Int) = 24) && rows.all nM
def qJ (g : aK) : aK :=
 if g.kind = 1 then ⟨g.kind, [], g.from_, g.to_, g.low, g.high, g.clear, 0, 0, 0, [], []⟩
 else if g.kind = 2 then ⟨g.kind, [], 0, 0, g.low, 0, false, 0, 0, g.within, [], []⟩
 else if g.kind = 3 then ⟨g.kind, [], g.from_, 0, 0, 0, false, g.days, g.times, g.within, [], []⟩
 else if g.kind = 4 then ⟨g.kind, [], 0, 0, 0, 0, false, 0, 0, g.within, [], []⟩
 else ⟨g.kind, [], 0, 0, 0, 0, false, 0, 0, 0, [], []⟩
def kG (a b : aK) : Bool := decide (a.kind = b.kind) && decide (a.from_ = b.from_ ∧ a.to_ = b.to_) && decide (a.low = b.low) && decide (a.high = b.high) && (a.clear == b.clear) && decide (a.days = b.days) && decide (a.times = b.times) && decide (a.within = b.within)
def E6 (g : aK) : Bool :=
 if g.kind = 1 then bC g.rows && g.rows.any (fun r => decide (r ≠ 0)) && inB g.from_ 0 1000000 && inB g.to_ (g.from_ + 1) 1000000 && inB g.low 0 90 && inB g.high g.low 90
 else if g.kind = 2 then inB g.low 1 8 && inB g.within 1 1000000
 else if g.kind = 3 then inB g.days 1 60 && inB g.times 1 6 && inB g.within 0 (1440 * g.days) && inB g.from_ 0 1000000
 else if g.kind = 4 then inB g.within 0 1000000
 else true
def qF (k : Int) : Int := if k = 2 ∨ k = 3 then 1 else if k = 4 then 3 else 6
def kI (g : aK) : Bool := if g.kind = 1 then decide ((g.kids.length : Int) = 0) else if g.kind = 5 ∨ g.kind = 6 then inB g.kids.length 2 4 else decide ((g.kids.length : Int) = 1)
def fW (g : aK) : Bool := if g.kind = 6 then decide ((g.cents.length : Int) = g.kids.length) && !g.cents.any (fun n => !inB n 0 1000000000) else decide ((g.cents.length : Int) = 0)
def dU (g : aK) : Bool := kI g && fW g && (decide (g.kind = 1) || decide ((g.rows.length : Int) = 0)) && !g.kids.any (fun k => decide (qF g.kind < k.kind))
def okB (g : aK) : Bool := inB g.kind 1 6 && kG g (qJ g) && E6 g && dU g
mutual
def cB : aK → Int → Option Int
 | ⟨kind, rows, from_, to_, low, high, clear, days, times, within, cents, kids⟩, d =>
  if decide (4 < d) || !okB ⟨kind, rows, from_, to_, low, high, clear, days, times, within, cents, kids⟩ then none else match sizeL kids (d + 1) with
   | none => none
   | some m => some (1 + m)
def sizeL : List aK → Int → Option Int
 | [], _ => some 0
 | k :: l, d => match cB k d with
  | none => none
  | some m => match sizeL l d with
   | none => none
   | some n => some (m + n)
end
theorem eZ (g : aK) (d : Int) : cB g d = if decide (4 < d) || !okB g then none else match sizeL g.kids (d + 1) with | none => none | some m => some (1 + m) := by
 cases g; rw [cB]
def cA (g : aK) : Bool := match cB g 1 with
 | none => false
 | some n => decide (n ≤ 12)
def rL (f t : Int) : Bool := inB f 0 1000000 && inB t 0 1000000 && decide (f < t)
def Gx (g : aK) (most : Int) : Bool := decide ((g.kids.length : Int) = 1) && inB (g.kids.getD 0 (U.dflt .goal)).kind 1 most
def gM (g own : aK) (a c : Bool) : Bool := decide (g.from_ = own.from_ ∧ g.to_ = own.to_) && decide (g.low = own.low) && decide (g.high = own.high) && (g.clear == own.clear) && decide (g.days = own.days) && decide (g.times = own.times) && decide (g.within = own.within) &&
 (a || decide ((g.rows.length : Int) = 0)) && (c || decide ((g.cents.length : Int) = 0))
def iP (g : aK) : Bool :=
 if g.kind = 1 then gM g ⟨0, [], g.from_, g.to_, g.low, g.high, g.clear, 0, 0, 0, [], []⟩ true false && decide ((g.kids.length : Int) = 0) && bC g.rows && g.rows.any (fun r => decide (r ≠ 0)) && rL g.from_ g.to_ && inB g.low 0 90 && inB g.high g.low 90
 else if g.kind = 2 then gM g ⟨0, [], 0, 0, g.low, 0, false, 0, 0, g.within, [], []⟩ false false && Gx g 1 && inB g.low 1 8 && inB g.within 1 1000000
 else if g.kind = 3 then gM g ⟨0, [], g.from_, 0, 0, 0, false, g.days, g.times, g.within, [], []⟩ false false && Gx g 1 && inB g.days 1 60 && inB g.times 1 6 && inB g.within 0 (1440 * g.days) && inB g.from_ 0 1000000
 else if g.kind = 4 then gM g ⟨0, [], 0, 0, 0, 0, false, 0, 0, g.within, [], []⟩ false false && Gx g 3 && inB g.within 0 1000000
 else if g.kind = 5 then gM g ⟨0, [], 0, 0, 0, 0, false, 0, 0, 0, [], []⟩ false false && inB g.kids.length 2 4
 else if g.kind = 6 then g.cents.all (fun n => inB n 0 1000000000) && gM g ⟨0, [], 0, 0, 0, 0, false, 0, 0, 0, [], []⟩ false true && inB g.kids.length 2 4 && decide ((g.cents.length : Int) = g.kids.length)
 else false
mutual
def F7 : aK → Int → Int
 | ⟨kind, rows, from_, to_, low, high, clear, days, times, within, cents, kids⟩, d =>
  if decide (4 < d) || !iP ⟨kind, rows, from_, to_, low, high, clear, days, times, within, cents, kids⟩ then 13 else cntL kids (d + 1) 1
def cntL : List aK → Int → Int → Int
 | [], _, n => n
 | k :: l, d, n => if n ≤ 12 then cntL l d (n + F7 k d) else n
end
theorem sX (g : aK) (d : Int) : F7 g d = if decide (4 < d) || !iP g then 13 else cntL g.kids (d + 1) 1 := by
 cases g; rw [F7]
theorem Dp (g : aK) (h : iP g = true) : okB g = true ∨ ∃ k ∈ g.kids, 6 < k.kind := by
 by_cases hk : g.kids.any (fun k => decide (6 < k.kind)) = true
 ·right
  obtain ⟨k, h1, h2⟩ := List.any_eq_true.1 hk
  exact ⟨k, h1, of_decide_eq_true h2⟩
 ·left
  have hw : ∀ q : Int, (∀ k ∈ g.kids, k.kind ≤ q) → g.kids.any (fun k => decide (q < k.kind)) = false := by
   intro q hq
   rw [List.any_eq_false]
   intro k hk
   simpa using hq k hk
  have h6 : ∀ k ∈ g.kids, k.kind ≤ 6 := by
   intro k hm
   by_cases h6 : 6 < k.kind
   ·exact absurd (List.any_eq_true.2 ⟨k, hm, by simpa using h6⟩) hk
   ·omega
  have hone : ∀ q : Int, Gx g q = true → (g.kids.length : Int) = 1 ∧ ∀ k ∈ g.kids, k.kind ≤ q := by
   intro q hq
   simp only [Gx, Bool.and_eq_true, decide_eq_true_eq, aM] at hq
   obtain ⟨h1, h2⟩ := hq
   refine ⟨h1, fun k hk => ?_⟩
   match hkk : g.kids with
   | [] => rw [hkk] at hk; cases hk
   | [x] => rw [hkk] at hk h2; simp at hk; subst hk; exact h2.2
   | _ :: _ :: _ => rw [hkk] at h1; simp at h1; omega
  unfold iP at h
  unfold okB kG qJ E6 dU kI fW qF
  split at h
  ·rename_i e
   simp only [gM, rL, Bool.and_eq_true, Bool.or_eq_true, decide_eq_true_eq, aM, beq_iff_eq, e] at h
   have := hw 6 h6
   simp [e, aM, this]
   simp at h
   grind
  ·split at h
   ·rename_i e
    simp only [gM, Bool.and_eq_true, Bool.or_eq_true, decide_eq_true_eq, aM, beq_iff_eq] at h
    have h1 := hone 1 h.1.1.2
    have := hw 1 h1.2
    simp [e, aM, this]
    simp at h
    grind
   ·split at h
    ·rename_i e
     simp only [gM, Bool.and_eq_true, Bool.or_eq_true, decide_eq_true_eq, aM, beq_iff_eq] at h
     have h1 := hone 1 h.1.1.1.1.2
     have := hw 1 h1.2
     simp [e, aM, this]
     simp at h
     grind
    ·split at h
     ·rename_i e
      simp only [gM, Bool.and_eq_true, Bool.or_eq_true, decide_eq_true_eq, aM, beq_iff_eq] at h
      have h1 := hone 3 h.1.2
      have := hw 3 h1.2
      simp [e, aM, this]
      simp at h
      grind
     ·split at h
      ·rename_i e
       simp only [gM, Bool.and_eq_true, Bool.or_eq_true, decide_eq_true_eq, aM, beq_iff_eq] at h
       have := hw 6 h6
       simp [e, aM, this]
       simp at h
       grind
      ·split at h
       ·rename_i e
        simp only [gM, Bool.and_eq_true, Bool.or_eq_true, decide_eq_true_eq, aM, beq_iff_eq] at h
        have := hw 6 h6
        simp [e, aM, this]
        simp [aM] at h
        grind
       ·cases h
theorem Eh (g : aK) (h : okB g = true) : iP g = true ∨ ∃ k ∈ g.kids, k.kind < 1 := by
 by_cases hk : g.kids.any (fun k => decide (k.kind < 1)) = true
 ·right
  obtain ⟨k, h1, h2⟩ := List.any_eq_true.1 hk
  exact ⟨k, h1, of_decide_eq_true h2⟩
 ·left
  have h1 : ∀ k ∈ g.kids, 1 ≤ k.kind := by
   intro k hm
   by_cases h6 : k.kind < 1
   ·exact absurd (List.any_eq_true.2 ⟨k, hm, by simpa using h6⟩) hk
   ·omega
  have hone : ∀ q : Int, (g.kids.length : Int) = 1 → g.kids.any (fun k => decide (q < k.kind)) = false → Gx g q = true := by
   intro q hl hq
   rw [List.any_eq_false] at hq
   simp only [Gx, Bool.and_eq_true, decide_eq_true_eq, aM]
   refine ⟨hl, ?_⟩
   match hkk : g.kids with
   | [] => rw [hkk] at hl; simp at hl
   | [x] =>
    rw [hkk] at hq h1
    have a := hq x (by simp)
    have b := h1 x (by simp)
    simp at a
    exact ⟨b, a⟩
   | _ :: _ :: _ => rw [hkk] at hl; simp at hl; omega
  unfold okB dU kI fW at h
  simp only [Bool.and_eq_true, Bool.not_eq_true', aM] at h
  obtain ⟨⟨⟨⟨ha, hb⟩, hp⟩, hl⟩, ⟨⟨hm, hc⟩, hr⟩, hw⟩ := h
  have hkk : g.kind = 1 ∨ g.kind = 2 ∨ g.kind = 3 ∨ g.kind = 4 ∨ g.kind = 5 ∨ g.kind = 6 := by omega
  have ho := fun q => hone q
  clear hone
  rcases hkk with e | e | e | e | e | e <;> simp only [kG, qJ, E6, qF, e, Bool.and_eq_true, decide_eq_true_eq, beq_iff_eq, aM] at hp hl hm hc hr hw <;> simp only [iP, gM, rL, e, Bool.and_eq_true, decide_eq_true_eq, beq_iff_eq, aM]
  ·simp [aM] at hp hl hm hc hr hw ⊢
   grind
  ·have := ho 1 (by simpa using hm) (by simpa using hw)
   simp at hp hl hm hc hr hw ⊢
   grind
  ·have := ho 1 (by simpa using hm) (by simpa using hw)
   simp at hp hl hm hc hr hw ⊢
   grind
  ·have := ho 3 (by simpa using hm) (by simpa using hw)
   simp at hp hl hm hc hr hw ⊢
   grind
  ·simp at hp hl hm hc hr hw ⊢
   grind
  ·simp [aM] at hp hl hm hc hr hw ⊢
   grind
theorem Bw : ∀ (l : List aK) (d n : Int), 12 < n → cntL l d n = n
 | [], d, n, h => by rw [cntL]
 | k :: l, d, n, h => by rw [cntL, if_neg (by omega)]
mutual
theorem oW : ∀ (g : aK) (d : Int), 1 ≤ F7 g d
 | ⟨kind, rows, from_, to_, low, high, clear, days, times, within, cents, kids⟩, d => by
  rw [F7]
  split
  ·omega
  ·exact cntL_pos kids (d + 1) 1 (by omega)
theorem cntL_pos : ∀ (l : List aK) (d n : Int), 1 ≤ n → n ≤ cntL l d n
 | [], d, n, h => by rw [cntL]; omega
 | k :: l, d, n, h => by
  rw [cntL]
  split
  ·have h1 := oW k d
   have h2 := cntL_pos l d (n + F7 k d) (by omega)
   omega
  ·omega
end
theorem Bu : ∀ (l : List aK) (d n : Int), 1 ≤ n → (∃ k ∈ l, 12 < F7 k d) → 12 < cntL l d n
 | [], d, n, h, ⟨k, hk, _⟩ => by cases hk
 | k :: l, d, n, h, ⟨x, hx, hb⟩ => by
  rw [cntL]
  split
  ·have h1 := oW k d
   rcases List.mem_cons.1 hx with rfl | hx
   ·have := cntL_pos l d (n + F7 x d) (by omega)
    omega
   ·exact Bu l d _ (by omega) ⟨x, hx, hb⟩
  ·omega
theorem oO : ∀ (l : List aK) (d : Int), (∃ k ∈ l, cB k d = none) → sizeL l d = none
 | [], d, ⟨k, hk, _⟩ => by cases hk
 | k :: l, d, ⟨x, hx, hb⟩ => by
  rw [sizeL]
  rcases List.mem_cons.1 hx with rfl | hx
  ·rw [hb]
  ·cases cB k d with
   | none => rfl
   | some m => simp only; rw [oO l d ⟨x, hx, hb⟩]
mutual
theorem zH : ∀ (g : aK) (d : Int), match cB g d with
  | some n => 1 ≤ n ∧ (n ≤ 12 → F7 g d = n) ∧ (12 < n → 12 < F7 g d)
  | none => 12 < F7 g d
 | ⟨kind, rows, from_, to_, low, high, clear, days, times, within, cents, kids⟩, d => by
  have hL := size_cntL kids (d + 1) 1 (by omega)
  generalize hg : (⟨kind, rows, from_, to_, low, high, clear, days, times, within, cents, kids⟩ : aK) = g
  have hkids : g.kids = kids := by rw [← hg]
  rw [eZ, sX, hkids]
  by_cases hd : 4 < d
  ·simp [hd]
  ·simp only [hd, decide_false, Bool.false_or]
   cases hok : okB g with
   | false =>
    simp only [Bool.not_false, if_true]
    cases hkd : iP g with
    | false => simp
    | true =>
     simp only [Bool.not_true]
     rcases Dp g hkd with h | ⟨k, hk, hb⟩
     ·rw [h] at hok; cases hok
     ·refine Bu kids _ _ (by omega) ⟨k, hkids ▸ hk, ?_⟩
      rw [sX]
      have : iP k = false := by unfold iP; rw [if_neg (by omega), if_neg (by omega), if_neg (by omega), if_neg (by omega), if_neg (by omega), if_neg (by omega)]
      simp [this]
   | true =>
    simp only [Bool.not_true]
    cases hkd : iP g with
    | false =>
     rcases Eh g hok with h | ⟨k, hk, hb⟩
     ·rw [h] at hkd; cases hkd
     ·have : sizeL kids (d + 1) = none := by
       refine oO kids _ ⟨k, hkids ▸ hk, ?_⟩
       rw [eZ]
       have : okB k = false := by simp [okB, inB]; intro h; omega
       simp [this]
      rw [this]
      simp
    | true =>
     simp only [Bool.not_true]
     cases hs : sizeL kids (d + 1) with
     | none => rw [hs] at hL; simpa using hL
     | some m => rw [hs] at hL; simp only at hL ⊢; exact ⟨by omega, hL.2.1, hL.2.2⟩
theorem size_cntL : ∀ (l : List aK) (d n : Int), 1 ≤ n → match sizeL l d with
  | some m => 0 ≤ m ∧ (n + m ≤ 12 → cntL l d n = n + m) ∧ (12 < n + m → 12 < cntL l d n)
  | none => 12 < cntL l d n
 | [], d, n, h => by rw [sizeL, cntL]; simp
 | k :: l, d, n, h => by
  have h1 := zH k d
  have h2 := size_cntL l d (n + F7 k d) (by have := oW k d; omega)
  rw [sizeL, cntL]
  have h3 := cntL_pos l d (n + F7 k d) (by have := oW k d; omega)
  cases hk : cB k d with
  | none =>
   rw [hk] at h1
   simp only at h1 ⊢
   split <;> omega
  | some m =>
   rw [hk] at h1
   simp only at h1 ⊢
   cases hl : sizeL l d with
   | none =>
    rw [hl] at h2
    simp only at h2 ⊢
    split <;> omega
   | some q =>
    rw [hl] at h2
    simp only at h2 ⊢
    by_cases hn : n ≤ 12
    ·rw [if_pos hn]
     by_cases hm : m ≤ 12
     ·rw [h1.2.1 hm] at h2 h3 ⊢
      refine ⟨by omega, fun h => by rw [h2.2.1 (by omega)]; omega, fun h => h2.2.2 (by omega)⟩
     ·have := h1.2.2 (by omega)
      refine ⟨by omega, fun h => by omega, fun h => by omega⟩
    ·rw [if_neg hn]
     exact ⟨by omega, fun h => by omega, fun h => by omega⟩
end
theorem Jy (g : aK) : cA g = decide (F7 g 1 ≤ 12) := by
 have h := zH g 1
 unfold cA
 cases hs : cB g 1 with
 | none => rw [hs] at h; simp only at h ⊢; symm; simpa using h
 | some n =>
  rw [hs] at h
  simp only at h ⊢
  by_cases hn : n ≤ 12
  ·rw [h.2.1 hn]
  ·have := h.2.2 (by omega)
   rw [decide_eq_false hn, decide_eq_false (by omega)]
end Go.SX
namespace Go.SX
open Go.Proofs
set_option maxHeartbeats 400000000
set_option maxRecDepth 100000
@[reducible] def iS (n : Int) : SV Cd := .p (.int .i64 n)
@[reducible] def bS (b : Bool) : SV Cd := .p (.bool b)
@[reducible] def lS (l : List Int) : SV Cd := .p (.dsl U.int l)
@[reducible] def pC (rows : List Int) : SV Cd := .agg [.p (.dsl U.int rows)]
@[reducible] def aP (g : aK) : SV Cd := .agg [.p (.int .i64 g.kind), .p (.dsl U.int g.rows), .p (.int .i64 g.from_), .p (.int .i64 g.to_), .p (.int .i64 g.low), .p (.int .i64 g.high), .p (.bool g.clear), .p (.int .i64 g.days), .p (.int .i64 g.times), .p (.int .i64 g.within), .p (.dsl U.int g.cents), .p (.dsl U.goal g.kids)]
@[reducible] def evA (e : aD) : SV Cd := .agg [.p (.int .i64 e.kind), .p (.int .i64 e.at_), .p (.int .i64 e.image), .p (.dsl U.int e.rows), .p (.int .i64 e.sun), .p (.int .i64 e.look), .p (.bool e.clear)]
theorem oin (n low high : Int) : aG Tryz.prog Dc 77 [.p (.int .i64 n), .p (.int .i64 low), .p (.int .i64 high)] [] (.p (.bool (inB n low high))) [] := by
 refine aC Ax aF Tryz.func77 (c := _) rfl Tryz.call77 60 ?_
 (repeat' ((conv => whnf); first | (exfalso; omega) | refine x0C (eB ?_ rfl) | refine x0C ?_ | refine spC (fun hb => ?_) fun hb => ?_ | refine aJ (fun hb => ?_) ?_ | refine taC ?_ | refine saC ?_ | exact sdV | refine aA ?_ ?_ | refine aB mixed ?_))
 all_goals (first | (simp_all [inB]; done) | (simp_all [inB]; omega) | (simp_all [inB]; grind))
theorem tin (n low high : Int) : aG Tryz.prog Dc 32 [.p (.int .i64 n), .p (.int .i64 low), .p (.int .i64 high)] [] (.p (.bool (inB n low high))) [] := by
 refine aC Ax aF Tryz.func32 (c := _) rfl Tryz.call32 60 ?_
 (repeat' ((conv => whnf); first | (exfalso; omega) | refine x0C (eB ?_ rfl) | refine x0C ?_ | refine spC (fun hb => ?_) fun hb => ?_ | refine aJ (fun hb => ?_) ?_ | refine taC ?_ | refine saC ?_ | exact sdV | refine aA ?_ ?_ | refine aB mixed ?_))
 all_goals (first | (simp_all [inB]; done) | (simp_all [inB]; omega) | (simp_all [inB]; grind))
theorem gin (n low high : Int) : aG Tryz.prog Dc 84 [.p (.int .i64 n), .p (.int .i64 low), .p (.int .i64 high)] [] (.p (.bool (inB n low high))) [] := by
 refine aC Ax aF Tryz.func84 (c := _) rfl Tryz.call84 60 ?_
 (repeat' ((conv => whnf); first | (exfalso; omega) | refine x0C (eB ?_ rfl) | refine x0C ?_ | refine spC (fun hb => ?_) fun hb => ?_ | refine aJ (fun hb => ?_) ?_ | refine taC ?_ | refine saC ?_ | exact sdV | refine aA ?_ ?_ | refine aB mixed ?_))
 all_goals (first | (simp_all [inB]; done) | (simp_all [inB]; omega) | (simp_all [inB]; grind))
theorem Y1 (n low high : Int) : aG Tryz.prog Dc 151 [.p (.int .i64 n), .p (.int .i64 low), .p (.int .i64 high)] [] (.p (.bool (inB n low high))) [] := by
 refine aC Ax aF Tryz.func151 (c := _) rfl Tryz.call151 60 ?_
 (repeat' ((conv => whnf); first | (exfalso; omega) | refine x0C (eB ?_ rfl) | refine x0C ?_ | refine spC (fun hb => ?_) fun hb => ?_ | refine aJ (fun hb => ?_) ?_ | refine taC ?_ | refine saC ?_ | exact sdV | refine aA ?_ ?_ | refine aB mixed ?_))
 all_goals (first | (simp_all [inB]; done) | (simp_all [inB]; omega) | (simp_all [inB]; grind))
theorem Zd (n low high : Int) : aG Tryz.prog Dc 136 [.p (.int .i64 n), .p (.int .i64 low), .p (.int .i64 high)] [] (.p (.bool (inB n low high))) [] := by
 refine aC Ax aF Tryz.func136 (c := _) rfl Tryz.call136 60 ?_
 (repeat' ((conv => whnf); first | (exfalso; omega) | refine x0C (eB ?_ rfl) | refine x0C ?_ | refine spC (fun hb => ?_) fun hb => ?_ | refine aJ (fun hb => ?_) ?_ | refine taC ?_ | refine saC ?_ | exact sdV | refine aA ?_ ?_ | refine aB mixed ?_))
 all_goals (first | (simp_all [inB]; done) | (simp_all [inB]; omega) | (simp_all [inB]; grind))
theorem Cg (k : Int) : aG Tryz.prog Dc 113 [.p (.int .i64 k)] [] (.p (.int .i64 (qF k))) [] := by
 refine aC Ax aF Tryz.func113 (c := _) rfl Tryz.call113 60 ?_
 (repeat' ((conv => whnf); first | (exfalso; omega) | refine x0C (eI ?_ rfl) | refine x0C ?_ | refine spC (fun hb => ?_) fun hb => ?_ | refine aJ (fun hb => ?_) ?_ | refine taC ?_ | refine saC ?_ | exact sdV | refine aA ?_ ?_ | refine aB mixed ?_))
 all_goals (simp_all [qF]; done)
theorem U2 (a b : aK) : aG Tryz.prog Dc 78 [aP a, aP b] [] (.p (.bool (kG a b))) [] := by
 refine aC Ax aF Tryz.func78 (c := _) rfl Tryz.call78 200 ?_
 (repeat' ((conv => whnf); first | (exfalso; omega) | refine x0C (eB ?_ rfl) | refine x0C ?_ | refine spC (fun hb => ?_) fun hb => ?_ | refine aJ (fun hb => ?_) ?_ | refine taC ?_ | refine saC ?_ | exact sdV | refine aA ?_ ?_ | refine aB mixed ?_))
 all_goals (simp_all [kG]; done)
theorem Eg (g : aK) : aG Tryz.prog Dc 79 [aP g] [] (aP (qJ g)) [] := by
 unfold qJ
 refine aC Ax aF Tryz.func79 (c := _) rfl Tryz.call79 300 ?_
 (repeat' ((conv => whnf); first | (exfalso; omega) | refine x0C ?_ | refine spC (fun hb => ?_) fun hb => ?_ | refine aJ (fun hb => ?_) ?_ | refine taC ?_ | refine saC ?_ | exact sdV | refine aA ?_ ?_ | refine aB mixed ?_))
 all_goals (simp only [*, if_true, if_false]; exact vwV)
@[reducible] def q02 (d : Nd) : SV Cd := .agg [iS d.ev, iS d.no, iS d.yes]
def aU (K : Obj) (B : List Nd) : Prop := ∃ es clk, K = .map es clk ∧ M3 es.toList B
@[reducible] def bdH (n : Int) (K : Obj) (B : List Nd) : List (HS Cd) := [.vart none [iS n, .slice 2 0 3 0 B.length, .mapp 1], .obj K, .rows U.node B]
@[reducible] def bdD (n : Int) (K : Obj) (B : List Nd) : List (HS Cd) := [.vart none [iS n, .slice 3 0 3 0 B.length, .mapp 1], .obj K, .dead, .rows U.node B]
theorem Np (n : Int) {K : Obj} {B : List Nd} (hK : aU K B) (e s0 s1 : Int) (hl : B.length ≤ 1000000000000) :
  ∃ B' K' s, A9 B e s0 s1 B' s ∧ aU K' B' ∧ aG Tryz.prog Dc 60 [.ptr 0 0, iS e, iS s0, iS s1] (bdH n K B) (iS s) (bdD n K' B') := by
 obtain ⟨es, clk, rfl, hK⟩ := hK
 by_cases h0 : s0 = s1
 ·refine ⟨B, _, s0, .inl ⟨h0, rfl, rfl⟩, ⟨es, clk, rfl, hK⟩, ?_⟩
  refine aC Ax aF Tryz.func60 (c := _) rfl Tryz.call60 200 ?_
  (repeat' ((conv => whnf); first | (exfalso; omega) | exact enC [some 0, some 1, none, some 2] | refine x0C ?_ | refine spC (fun hb => ?_) fun hb => ?_ | refine aJ (fun hb => ?_) ?_ | refine taC ?_ | refine saC ?_ | exact sdV | refine aA ?_ ?_ | refine aB mixed ?_))
 ·rcases Jx hK ⟨e, s0, s1⟩ with ⟨hq, hm⟩ | ⟨i, k, hq, hk⟩
  ·refine ⟨B ++ [⟨e, s0, s1⟩], .map (es.push ⟨.agg (eL (ndK ⟨e, s0, s1⟩)).toArray, .int .i64 B.length, clk⟩) (clk + 1), B.length, .inr (.inr ⟨h0, hm, rfl, rfl⟩), ⟨_, _, rfl, Hi hK _ clk⟩, ?_⟩
   have hW : List.take B.length B ++ List.take 1 (List.drop 0 [(⟨e, s0, s1⟩ : Nd)]) = B ++ [⟨e, s0, s1⟩] := by simp
   refine aC Ax aF Tryz.func60 (c := _) rfl Tryz.call60 200 ?_
   (repeat' ((conv => whnf); first | (exfalso; omega) | refine bM hq ?_ | exact enC [some 0, some 1, some 2, some 5] (hv := by exact hsW) | refine x0C ?_ | refine spC (fun hb => ?_) fun hb => ?_ | refine aJ (fun hb => ?_) ?_ | refine taC ?_ | refine saC ?_ | exact sdV | refine aA ?_ ?_ | refine aB mixed ?_))
  ·refine ⟨B, _, k, .inr (.inl ⟨h0, ⟨k, hk, rfl⟩, rfl⟩), ⟨es, clk, rfl, hK⟩, ?_⟩
   refine aC Ax aF Tryz.func60 (c := _) rfl Tryz.call60 200 ?_
   (repeat' ((conv => whnf); first | (exfalso; omega) | refine bM hq ?_ | exact enC [some 0, some 1, none, some 2] | refine x0C ?_ | refine spC (fun hb => ?_) fun hb => ?_ | refine aJ (fun hb => ?_) ?_ | refine taC ?_ | refine saC ?_ | exact sdV | refine aA ?_ ?_ | refine aB mixed ?_))
theorem Sr (n : Int) {K : Obj} {B : List Nd} (hK : aU K B) (e : Int) (hl : B.length ≤ 1000000000000) :
  ∃ B' K' s, A9 B e (-1) (-2) B' s ∧ aU K' B' ∧ aG Tryz.prog Dc 27 [.ptr 0 0, iS e] (bdH n K B) (iS s) (bdD n K' B') := by
 obtain ⟨B', K', s, h1, h2, h3⟩ := Np n hK e (-1) (-2) hl
 refine ⟨B', K', s, h1, h2, ?_⟩
 refine aC Ax aF Tryz.func27 (c := _) rfl Tryz.call27 100 ?_
 (repeat' ((conv => whnf); first | (exfalso; omega) | refine chC [some 0, some 1, some 2] h3 ?_ | exact enC [some 0, some 1, some 2, some 3] | refine x0C ?_ | refine spC (fun hb => ?_) fun hb => ?_ | refine aJ (fun hb => ?_) ?_ | refine taC ?_ | refine saC ?_ | exact sdV | refine aA ?_ ?_ | refine aB mixed ?_))
def mX (n : Int) (B : List Nd) (s : Int) : Nd := if s < 0 then ⟨n, s, s⟩ else B.getD s.toNat ndz
theorem Yg (n : Int) {K : Obj} {B : List Nd} (s : Int) (hs : St B.length s) : aG Tryz.prog Dc 117 [.ptr 0 0, iS s] (bdH n K B) (q02 (mX n B s)) (bdH n K B) := by
 have h2 := hs.2
 by_cases h : s < 0
 ·rw [show mX n B s = ⟨n, s, s⟩ by unfold mX; rw [if_pos h]]
  refine aC Ax aF Tryz.func117 (c := _) rfl Tryz.call117 100 ?_
  (repeat' ((conv => whnf); first | (exfalso; omega) | exact enC [some 0, some 1, some 2] | refine x0C ?_ | refine spC (fun hb => ?_) fun hb => ?_ | refine aJ (fun hb => ?_) ?_ | refine taC ?_ | refine saC ?_ | exact sdV | refine aA ?_ ?_ | refine aB mixed ?_))
 ·rw [show mX n B s = B.getD (0 + s.toNat) (Cd.dflt U.node) by unfold mX; rw [if_neg h, Nat.zero_add]; rfl]
  refine aC Ax aF Tryz.func117 (c := _) rfl Tryz.call117 100 ?_
  (repeat' ((conv => whnf); first | (exfalso; omega) | exact enC [some 0, some 1, some 2] | refine x0C ?_ | refine spC (fun hb => ?_) fun hb => ?_ | refine aJ (fun hb => ?_) ?_ | refine taC ?_ | refine saC ?_ | exact sdV | refine aA ?_ ?_ | refine aB mixed ?_))
def Ts (M : Obj) (P : PM) : Prop := ∃ es clk, M = .map es clk ∧ Lh es.toList P
@[reducible] def Wr : List (SV Cd) := [.ptr 3 0, .ptr 5 0, .ptr 6 0, .ptr 7 0]
@[reducible] def Wq : SV Cd := .fn (.func 85) [] Wr
@[reducible] def q0n (n : Int) (K : Obj) (B : List Nd) (M : Obj) (z : Int) (O : List Nd) : List (HS Cd) := [.vart none [iS n, .slice 2 0 3 0 B.length, .mapp 1], .obj K, .rows U.node B, .vart none [.mapp 4], .obj M, .vart none [.ptr 0 0], .vart none [Wq], .vart none [iS n, iS z, .slice 8 0 3 0 O.length], .rows U.node O]
@[reducible] def Zz (n : Int) (K : Obj) (B : List Nd) (M : Obj) (z : Int) (O : List Nd) : List (HS Cd) := [.vart none [iS n, .slice 2 0 3 0 B.length, .mapp 1], .obj K, .rows U.node B, .vart none [.mapp 4], .obj M, .vart none [.ptr 0 0], .vart none [Wq], .vart none [iS n, iS z, .slice 9 0 3 0 O.length], .dead, .rows U.node O]
theorem Je {n : Int} {B : List Nd} {P : PM} {O : List Nd} (h : Cc n B P O) : O.length ≤ B.length := by
 have key : ∀ m, m ≤ O.length → ∃ L : List Nat, L.length = m ∧ L.Nodup ∧ ∀ x ∈ L, x < B.length ∧ ∃ i : Nat, i < m ∧ P x = some (i : Int) := by
  intro m
  induction m with
  | zero => intro _; exact ⟨[], rfl, List.nodup_nil, by simp⟩
  | succ m ih =>
   intro hm
   obtain ⟨L, h1, h2, h3⟩ := ih (by omega)
   obtain ⟨s, d, h4, h5, _⟩ := h.nodes m _ (List.getElem?_eq_getElem (by omega))
   refine ⟨s :: L, by simp [h1], List.nodup_cons.2 ⟨fun hs => ?_, h2⟩, fun x hx => ?_⟩
   ·obtain ⟨_, i, hi, e⟩ := h3 s hs
    rw [h4] at e; injection e with e; omega
   ·rcases List.mem_cons.1 hx with rfl | hx
    ·exact ⟨(List.getElem?_eq_some_iff.1 h5).1, m, by omega, h4⟩
    ·obtain ⟨g1, i, hi, e⟩ := h3 x hx
     exact ⟨g1, i, by omega, e⟩
 obtain ⟨L, h1, h2, h3⟩ := key O.length (Nat.le_refl _)
 have := C1 (m := List.range B.length) h2 fun x hx => List.mem_range.2 (h3 x hx).1
 simp at this; omega
theorem q0r (n z : Int) {K : Obj} {B : List Nd} (hB : WFN n B) (hl : B.length ≤ 1000000000000) : ∀ (m : Nat) (s : Int), St B.length s → s < m → ∀ {P : PM} {O : List Nd} {M : Obj}, Cc n B P O → Ts M P →
  ∃ P' O' k M', Q1 B P O s P' O' k ∧ Ts M' P' ∧ aG Tryz.prog Dc 85 ([iS s] ++ Wr) (q0n n K B M z O) (iS k) (Zz n K B M' z O') := by
 intro m
 induction m with
 | zero =>
  intro s hs hm P O M hI hM
  obtain ⟨es, clk, rfl, hP⟩ := hM
  have h1 := hs.1
  have hPs : P s = some s := by
   rcases show s = -1 ∨ s = -2 by omega with rfl | rfl
   ·exact hI.neg.1
   ·exact hI.neg.2
  rcases sN hP s with ⟨_, h⟩ | ⟨i, v, h2, h3⟩
  ·rw [hPs] at h; cases h
  ·rw [hPs] at h3; injection h3 with h3; subst h3
   refine ⟨P, O, s, _, .hit hPs, ⟨es, clk, rfl, hP⟩, ?_⟩
   refine aC Ax aF Tryz.func85 (c := _) rfl Tryz.call85 300 ?_
   (repeat' ((conv => whnf); first | (exfalso; omega) | refine bM h2 ?_ | exact enC [some 0, some 1, some 2, some 3, some 4, some 5, some 6, some 7, none, some 8] | refine x0C ?_ | refine spC (fun hb => ?_) fun hb => ?_ | refine aJ (fun hb => ?_) ?_ | refine taC ?_ | refine saC ?_ | exact sdV | refine aA ?_ ?_ | refine aB mixed ?_))
 | succ m ih =>
  intro s hs hm P O M hI hM
  obtain ⟨es, clk, rfl, hP⟩ := hM
  rcases sN hP s with ⟨hq, hn⟩ | ⟨i, v, h2, h3⟩
  rotate_left
  ·refine ⟨P, O, v, _, .hit h3, ⟨es, clk, rfl, hP⟩, ?_⟩
   refine aC Ax aF Tryz.func85 (c := _) rfl Tryz.call85 300 ?_
   (repeat' ((conv => whnf); first | (exfalso; omega) | refine bM h2 ?_ | exact enC [some 0, some 1, some 2, some 3, some 4, some 5, some 6, some 7, none, some 8] | refine x0C ?_ | refine spC (fun hb => ?_) fun hb => ?_ | refine aJ (fun hb => ?_) ?_ | refine taC ?_ | refine saC ?_ | exact sdV | refine aA ?_ ?_ | refine aB mixed ?_))
  ·have hs0 : 0 ≤ s := by
    by_cases h : 0 ≤ s
    ·exact h
    ·have h1 := hs.1
     rcases show s = -1 ∨ s = -2 by omega with rfl | rfl
     ·rw [hI.neg.1] at hn; cases hn
     ·rw [hI.neg.2] at hn; cases hn
   have hlt : s.toNat < B.length := by have := hs.2; omega
   have hss : ((s.toNat : Nat) : Int) = s := by omega
   have hg := List.getElem?_eq_getElem hlt
   obtain ⟨g1, g2, g3, g4, g5, g6, g7⟩ := hB.ok _ _ hg
   have a1 := g4.2
   have a2 := g5.2
   have hgd : B.getD (0 + s.toNat) (Cd.dflt U.node) = B[s.toNat] := by rw [Nat.zero_add, List.getD_eq_getElem?_getD, hg]; rfl
   obtain ⟨d, hd⟩ : ∃ d, d = B[s.toNat] := ⟨_, rfl⟩
   rw [← hd] at g1 g2 g3 g4 g5 g6 g7 hg hgd a1 a2
   obtain ⟨P1, O1, k1, M1, c1, p1, m1⟩ := ih d.no (g4.mono (by omega)) (by omega) hI ⟨es, clk, rfl, hP⟩
   have I1 := (vE hB c1 hI).1
   obtain ⟨P2, O2, k2, M2, c2, p2, m2⟩ := ih d.yes (g5.mono (by omega)) (by omega) I1 p1
   have I2 := (vE hB c2 I1).1
   have hO := Je I2
   have hcome := Q1.new (by rw [hss]; exact hn) hg c1 c2
   have hn2 : P2 s = none := by rw [pE hB c2 s (by omega), pE hB c1 s (by omega), hn]
   obtain ⟨es2, clk2, rfl, hP2⟩ := p2
   have hq2 : Instr.findNow (.int .i64) (.int .i64 s) es2.toList 0 = some none := by
    rcases sN hP2 s with ⟨h, _⟩ | ⟨_, v, _, h⟩
    ·exact h
    ·rw [hn2] at h; cases h
   have hP3 := Lu hP2 (k := O2.length) hn2 clk2
   obtain ⟨i3, hq3⟩ : ∃ i : Nat, Instr.findNow (.int .i64) (.int .i64 s) (es2.push ⟨.int .i64 s, .int .i64 (O2.length : Nat), clk2⟩).toList 0 = some (some (i, .int .i64 (O2.length : Nat))) := by
    rcases sN hP3 s with ⟨_, h⟩ | ⟨i, v, h, h2⟩
    ·unfold upM at h; rw [if_pos rfl] at h; cases h
    ·unfold upM at h2; rw [if_pos rfl] at h2; injection h2 with h2; subst h2; exact ⟨i, h⟩
   rw [hss] at hcome
   refine ⟨_, _, _, .map (es2.push ⟨.int .i64 s, .int .i64 (O2.length : Nat), clk2⟩) (clk2 + 1), hcome, ⟨_, _, rfl, hP3⟩, ?_⟩
   have hW : List.take O2.length O2 ++ List.take 1 (List.drop 0 [(⟨d.ev, k1, k2⟩ : Nd)]) = O2 ++ [⟨d.ev, k1, k2⟩] := by simp
   clear ih hI I1 I2 c1 c2 p1 hcome hP hP2 hP3 hB
   subst hgd
   refine aC Ax aF Tryz.func85 (c := _) rfl Tryz.call85 300 ?_
   (repeat' ((conv => whnf); first | (exfalso; omega) | refine bM hq ?_ | refine bM hq2 ?_ | refine bM hq3 ?_ | refine chC [some 0, some 1, some 2, some 3, some 4, some 5, some 6, some 7, some 8] m1 ?_ | refine chC [some 0, some 1, some 2, some 3, some 4, some 5, some 6, some 7, some 10] m2 ?_ | exact enC [some 0, some 1, some 2, some 3, some 4, some 5, some 6, some 7, some 8, some 13] (hv := by exact hsW) | refine x0C ?_ | refine spC (fun hb => ?_) fun hb => ?_ | refine aJ (fun hb => ?_) ?_ | refine taC ?_ | refine saC ?_ | exact sdV | refine aA ?_ ?_ | refine aB mixed ?_))
@[reducible] def wJ (n k : Int) (N : List Nd) : SV Cd := .agg [iS n, iS k, .p (.dsl U.node N)]
theorem X8 (n : Int) {K : Obj} {B : List Nd} (hB : WFN n B) (hl : B.length ≤ 1000000000000) (s : Int) (hs : St B.length s) :
  ∃ P' N k, Q1 B (idM 0) [] s P' N k ∧ aG Tryz.prog Dc 48 [.ptr 0 0, iS s] (bdH n K B) (wJ n k N) (bdH n K B) := by
 have hp0 : Ts (.map #[⟨.int .i64 (-1), .int .i64 (-1), 0⟩, ⟨.int .i64 (-2), .int .i64 (-2), 1⟩] 2) (idM 0) := by
  refine ⟨_, _, rfl, fun e he => ?_, fun s v h => ?_⟩
  ·simp at he
   rcases he with rfl | rfl
   ·exact ⟨-1, -1, ⟨rfl, rfl⟩, rfl⟩
   ·exact ⟨-2, -2, ⟨rfl, rfl⟩, rfl⟩
  ·unfold idM at h
   split at h
   ·rename_i hs
    injection h with h; subst h
    rcases show s = -1 ∨ s = -2 by omega with rfl | rfl
    ·exact ⟨_, List.mem_cons_self .., rfl, rfl⟩
    ·exact ⟨_, List.mem_cons_of_mem _ (List.mem_cons_self ..), rfl, rfl⟩
   ·cases h
 obtain ⟨P', N, k, M', h1, h2, h3⟩ := q0r n 0 (K := K) hB hl (B.length + 1) s hs (by have := hs.2; omega) tS hp0
 refine ⟨P', N, k, h1, ?_⟩
 refine aC Ax aF Tryz.func48 (c := _) rfl Tryz.call48 300 ?_
 (repeat' ((conv => whnf); first | (exfalso; omega) | refine bM rfl ?_ | (refine Q8 [some 0, some 1, some 2, some 3, some 4, some 5, some 6, some 7, some 8, none] [] [(5, .vart none [iS n, iS 0, .slice 9 0 3 0 0]), (9, .rows U.node [])] [iS s, .ptr 7 0, .ptr 3 0, .ptr 8 0, .ptr 5 0] (by exact bkV) (by exact snV) ?_; (conv => whnf); refine wQ [some 0, some 1, some 2, some 7, some 6, some 3, some 8, some 5, some 9] h3 rfl rfl ⟨rfl, rfl, rfl, rfl, rfl, rfl, rfl, rfl, rfl, trivial⟩ ?_) | exact enC [some 0, some 1, some 2] | refine x0C ?_ | refine spC (fun hb => ?_) fun hb => ?_ | refine aJ (fun hb => ?_) ?_ | refine taC ?_ | refine saC ?_ | exact sdV | refine aA ?_ ?_ | refine aB mixed ?_))
theorem q0x (n : Nat) (hn : n ≤ 10) {K : Obj} {B : List Nd} (hB : WFN n B) (hl : B.length ≤ 1000000000000) (s : Int) (hs : St B.length s) :
  ∃ N k, R6 n N k ∧ (∀ σ, cM σ N k = cM σ B s) ∧ aG Tryz.prog Dc 25 [.ptr 0 0, iS s] (bdH n K B) (.tuple [wJ n k N, iS 0]) (bdH n K B) := by
 obtain ⟨P', N, k, h1, h2⟩ := X8 n (K := K) hB hl s hs
 obtain ⟨h3, h4⟩ := Gp hB h1
 refine ⟨N, k, h3, h4, ?_⟩
 have hpow : 2 ^ n ≤ 1024 := Nat.pow_le_pow_right (by omega) hn
 have := h3.few
 refine aC Ax aF Tryz.func25 (c := _) rfl Tryz.call25 100 ?_
 (repeat' ((conv => whnf); first | (exfalso; omega) | refine chC [some 0, some 1, some 2] h2 ?_ | exact enC [some 0, some 1, some 2] | refine x0C ?_ | refine spC (fun hb => ?_) fun hb => ?_ | refine aJ (fun hb => ?_) ?_ | refine taC ?_ | refine saC ?_ | exact sdV | refine aA ?_ ?_ | refine aB mixed ?_))
end Go.SX
