/-
  SX, part V6: calls of functions that only read: what the caller owns is seen as persistent for the while.
-/
import Derived.Test.YtfbicphocelpeaaGreatDoorSxV2
import Derived.Lib.MakeNoZero
import Derived.Laws.Externs
import Derived.KernelRfl
import Derived.Test.YtfbicphocelpeaaGreatDoorSxP
import Derived.Test.YtfbicphocelpeaaGreatDoorProg
set_option linter.unusedVariables false
set_option linter.unusedSimpArgs false
namespace Go.SX
open Go.RowKit
variable {C : Cod}
mutual
def fP : SV C → Bool
 | .p (.int _ _) => true
 | .p (.bool _) => true
 | .p (.str _) => true
 | .tuple l => plainL l
 | .agg l => plainL l
 | _ => false
def plainL : List (SV C) → Bool
 | [] => true
 | x :: l => fP x && plainL l
end
section
variable {P : Program} {D : aJ C} {A : Aux C D} {tab : Tab C} {X : Ctx C} {R : kU C} {k : List (It C)} {T : List (SV C)} {Hp : List (HS C)}
mutual
theorem qS {w w' : World} {E E' : Env} : ∀ (x : SV C) (v : Value), fP x = true → Den D w E x v → Den D w' E' x v
 | .p (.int k n), v, _, h => by simp only [Den] at *; cases h; exact .int _ _
 | .p (.bool b), v, _, h => by simp only [Den] at *; cases h; exact .bool _
 | .p (.str l), v, _, h => by simp only [Den] at *; cases h; exact .str _
 | .tuple l, v, hp, h => by
  simp only [fP] at hp;simp only [Den] at *;obtain ⟨xs, h1, h2⟩ := h;exact ⟨xs, h1, plainL_denA l _ hp h2⟩
 | .agg l, v, hp, h => by
  simp only [fP] at hp;simp only [Den] at *;obtain ⟨xs, h1, h2⟩ := h;exact ⟨xs, h1, plainL_denC l _ hp h2⟩
 | .p (.lit _), v, hp, h => by simp [fP] at hp
 | .p (.dsl _ _), v, hp, h => by simp [fP] at hp
 | .p (.fds _ _), v, hp, h => by simp [fP] at hp
 | .any, v, hp, h => by simp [fP] at hp
 | .ptr _ _, v, hp, h => by simp [fP] at hp
 | .eptr _ _ _ _ _, v, hp, h => by simp [fP] at hp
 | .dptr _ _, v, hp, h => by simp [fP] at hp
 | .slice _ _ _ _ _, v, hp, h => by simp [fP] at hp
 | .arr _ _ _, v, hp, h => by simp [fP] at hp
 | .fn _ _ _, v, hp, h => by simp [fP] at hp
 | .iface _ _, v, hp, h => by simp [fP] at hp
 | .yieldv _, v, hp, h => by simp [fP] at hp
 | .mapp _, v, hp, h => by simp [fP] at hp
theorem plainL_denA {w w' : World} {E E' : Env} : ∀ (l : List (SV C)) (vs : List Value), plainL l = true → DenA D w E l vs → DenA D w' E' l vs
 | [], vs, _, h => by simp only [DenA] at *; exact h
 | x :: l, vs, hp, h => by
  simp only [plainL, Bool.and_eq_true] at hp;simp only [DenA] at *;obtain ⟨v, v2, h1, h2, h3⟩ := h;exact ⟨v, v2, h1, qS x v hp.1 h2, plainL_denA l v2 hp.2 h3⟩
theorem plainL_denC {w w' : World} {E E' : Env} : ∀ (l : List (SV C)) (vs : List Value), plainL l = true → DenC D w E l vs → DenC D w' E' l vs
 | [], vs, _, h => by simp only [DenC] at *; exact h
 | x :: l, vs, hp, h => by
  simp only [plainL, Bool.and_eq_true] at hp;have hx : x.isArr = false := by cases x <;> first | rfl | simp [fP] at hp
  rw [bT hx] at *;obtain ⟨v, v2, h1, h2, h3, h4⟩ := h;exact ⟨v, v2, h1, h2, qS x v hp.1 h3, plainL_denC l v2 hp.2 h4⟩
end
theorem q4e {x : Option Nat} {c : Nat} (h : x = none) : x ≠ some c := by rw [h]; simp
theorem q4p {x : Option Nat} {a c : Nat} (h : x = some a) (hn : a ≠ c) : x ≠ some c := by rw [h]; simpa using hn
structure q5d (Hp : List (HS C)) (θ : List (Option Nat)) (l m : List (SV C)) : Prop where
 h : ViewL Hp θ l m
theorem No {f : FuncId} {args args' : List (SV C)} {ret : SV C} {dst : Option Nat} {all rest : List Oper} (hM : aF P D f args' [] ret []) (hv : q5d Hp [] args args') (hp : fP ret = true)
  (h : dI T dst ret fun T' => R (.ops all rest :: k) T' Hp) : kX P D X R f args dst all rest k T Hp := by
 rw [bU] at h;refine kX.of (fun ret' Hp' => ret' = ret ∧ Hp' = Hp) ⟨.inl ⟨hM.enter, fun B σ df a w E _ hR vs hd => ?_⟩⟩ ?_
 ·let B0 : dP := ⟨w, { F := E.F, β := fun _ => .fresh }, fun _ => True, 0, fun _ _ => rfl, [], false⟩
  have hf0 : Fr B0 E w := ⟨rfl, rfl, rfl, Nat.le_refl _, fun b _ ho => absurd trivial ho, ⟨fun b hb => ⟨hb, rfl⟩, fun c => .inr (.inr rfl), fun c b e => by cases e⟩, fun b _ => .inr (.inl trivial), fun c b _ => .inl trivial⟩;obtain ⟨g1, g2, g3⟩ := gU hR.sat hf0 (θ := []) (Hp' := []) ⟨trivial, rfl, rfl⟩;have hd' := view_denA hR.sat g1 args args' vs hv.h hd;refine (hM.calls w (E.view [] []) (fun c _ => rfl) vs g2 hd').mono ?_;rintro e w' ⟨v, E', rfl, hv', _, hfr⟩;have hsame : ∀ b, b < w.heap.size → w'.heap[b]? = w.heap[b]? := fun b hb => hfr.same b hb (by rintro ⟨c, hc⟩; cases hc);have hL := dW.same hsame hR.sat.F;exact ⟨v, E, ret, Hp, rfl, qS ret v hp hv', hR.later hL (hR.sat.same hsame hfr.size) (hR.fr.on hR.sat.F hsame hfr.size hfr.os hfr.tape hfr.output), rfl, rfl⟩
 ·rintro ret' Hp' ⟨rfl, rfl⟩; exact h
def qN : List (Option Nat) → (List (Option Nat) → Prop) → Prop
 | [], K => K []
 | none :: l, K => qN l fun m => K (none :: m)
 | some n :: l, K => Ns n fun n => qN l fun m => K (some n :: m)
theorem iR : ∀ (l : List (Option Nat)) (K : List (Option Nat) → Prop), qN l K = K l
 | [], _ => rfl
 | none :: l, K => by simp only [qN, iR l]
 | some n :: l, K => by simp only [qN, pK, iR l]
def qb0 : List (HS C) → Nat → List (Option Nat)
 | [], _ => []
 | _ :: l, k => some k :: qb0 l (k + 1)
theorem Si {m0 : Nat} {T T' : List (SV C)} {Hp Hp' : List (HS C)} {args args' : List (SV C)} (θ : List (Option Nat)) (hT : ViewL Hp θ T T') (ha : ViewL Hp θ args args') (hv : uG Hp θ Hp' m0) : q0c D m0 T Hp args T' Hp' args' := by
 rintro B E df a w rfl hR hsz;obtain ⟨h1, h2, h3⟩ := gU hR.sat hR.fr hv;have hlen : ∀ (l m : List (SV C)), ViewL Hp θ l m → l.length = m.length := by
  intro l
  induction l with
  | nil => intro m h; cases m with
   | nil => rfl
   | cons y m => simp [ViewL] at h
  | cons x l ih => intro m h; cases m with
   | nil => simp [ViewL] at h
   | cons y m => simp only [ViewL] at h; simp [ih m h.2]
 have hget : ∀ (l m : List (SV C)) (i : Nat) (v : Value), ViewL Hp θ l m → Den D w E (bX l i) v → Den D w (E.view θ Hp') (bX m i) v := by
  intro l
  induction l with
  | nil => intro m i v h _; cases m with
   | nil => trivial
   | cons y m => simp [ViewL] at h
  | cons x l ih => intro m i v h hd; cases m with
   | nil => simp [ViewL] at h
   | cons y m =>
    simp only [ViewL] at h;cases i with
    | zero => exact nT hR.sat h1 x y v h.1 hd
    | succ i => exact ih m i v h.2 hd
 exact ⟨_, ⟨fun i => hget T T' i _ hT (hR.den i), h2, h3, hR.defers, hR.marks.mono fun b hb => ⟨h1.F b hb, rfl⟩⟩, by rw [hsz, hlen T T' hT], fun vs hd => view_denA hR.sat h1 args args' vs ha hd⟩
theorem Pm {p X Y : Prop} (h1 : p → X) (h2 : Y) : qc0 p X Y := ⟨h1, h2⟩
theorem fV {q : Option (Option (Nat × Value))} {Y : Option (Nat × Value) → Prop} {r : Option (Nat × Value)} (h1 : q = some r) (h2 : Y r) : qa8 q Y := ⟨r, h1, h2⟩
theorem rS {op : Op} {vals : List (SV C)} {hs : List (Nat × HS C)} {dst : Option Nat} {all rest : List Oper} (θ : List (Option Nat)) (us : List (Nat × SV C)) (cs : List (Nat × HS C)) (hb : Po X.m0 θ T Hp (pD T us) (fS Hp cs))
  (h : dQ (pD T us) fun T1 => eP Hp cs fun Hp1 => dQ (bD T1 (aN op)) fun vals => sQ Hp1 0 fun m => sB P D X R False dst all rest k T1 Hp1 (exec A tab op vals (rC Hp1 vals) m)) : oL op vals hs (qb8 P A tab X R op dst all rest k T Hp) := by
 rw [bB, cS, bB, eG, Nat.add_zero] at h;refine ⟨_, _, fun B E df a w hm hR hsz => ?_, h⟩;exact Si (D := D) _ hb.T (show ViewL Hp θ [] [] from trivial) ⟨hb.H, hb.id, hb.nd⟩ B E df a w hm hR hsz
theorem Zj {m0 : Nat} {ops : List Oper} (θ : List (Option Nat)) (us : List (Nat × SV C)) (cs : List (Nat × HS C)) (hb : Po m0 θ T Hp (pD T us) (fS Hp cs))
  (h : dQ (pD T us) fun T1 => eP Hp cs fun Hp1 => Ub P A tab m0 R ops k T1 Hp1) : Ub P A tab m0 R ops k T Hp := by
 rw [bB, cS] at h;obtain ⟨T1, Hp1, hs, h1⟩ := h.h;exact ⟨T1, Hp1, fun B df a w hm hR => hs B df a w hm (Sn θ hb.T ⟨hb.H, hb.id, hb.nd⟩ B df a w hm hR), h1⟩
def Wc (b : Bool) (X : Prop) : Prop := match b with
 | true => X
 | false => False
def Oz {α : Type} (x : Option α) (K : α → Prop) : Prop := match x with
 | some a => K a
 | none => False
def B1 (Hp : List (HS C)) (ρ : List (Option Nat)) (n0 : Nat) (H1 : List (HS C)) (ret0 : SV C) (K : SV C → List (Option Nat) → List (Nat × HS C) → Prop) : Prop :=
 sQ Hp 0 fun m => qN (ρ ++ gL (H1.length - n0) m) fun θ => Wc (ndO θ && Nat.ble n0 H1.length) (Oz (gR θ H1) fun H1' => Oz (nJ θ ret0) fun ret => K ret θ (J6 θ H1'))
theorem xW {f : FuncId} {args0 args : List (SV C)} {H0 H0' H1 : List (HS C)} {ret0 : SV C} {dst : Option Nat} {all rest : List Oper} (ρ : List (Option Nat)) (hM : aF P D f args0 H0 ret0 H1)
  (hargs : renL ρ args0 = some args) (hH0 : gR ρ H0 = some H0') (hat : eA (aR Hp) ρ H0')
  (h : B1 Hp ρ H0.length H1 ret0 fun ret _ ws => dI T dst ret fun T' => eP Hp ws fun Hp' => R (.ops all rest :: k) T' Hp') : kX P D X R f args dst all rest k T Hp := by
 unfold B1 at h;rw [eG, Nat.add_zero, iR] at h;unfold Wc at h;split at h
 ·rename_i hc;simp only [Bool.and_eq_true] at hc;unfold Oz at h;split at h
  ·rename_i H1' hH1;split at h
   ·rename_i ret hret;exact Ov ρ hM hargs hH0 hat _ rfl hc.1 (Nat.le_of_ble_eq_true hc.2) hH1 hret h
   ·exact h.elim
  ·exact h.elim
 ·exact h.elim
theorem cI {next : DK C} {f : FuncId} {args0 args : List (SV C)} {H0 H0' H1 : List (HS C)} {ret0 : SV C} {dst : Option Nat} {fs fc : List Nat} {tr : List Ent} (ρ : List (Option Nat)) (hM : aF P D f args0 H0 ret0 H1)
  (hargs : renL ρ args0 = some args) (hH0 : gR ρ H0 = some H0') (hat : eA (aR Hp) ρ H0')
  (h : B1 Hp ρ H0.length H1 ret0 fun ret θ ws => cZ (fc ++ Nf θ) fun fc => cZ (vY ws) fun ids => dI T dst ret fun T' => eP Hp ws fun Hp' => next (⟨dst, fs, fc, ids⟩ :: tr) T' Hp') : By P D next f args dst fs fc tr T Hp := by
 unfold B1 at h;rw [eG, Nat.add_zero, iR] at h;unfold Wc at h;split at h
 ·rename_i hc;simp only [Bool.and_eq_true] at hc;unfold Oz at h;split at h
  ·rename_i H1' hH1;split at h
   ·rename_i ret hret;exact Gd ρ hM hargs hH0 hat _ rfl hc.1 (Nat.le_of_ble_eq_true hc.2) hH1 hret h
   ·exact h.elim
  ·exact h.elim
 ·exact h.elim
theorem bP {D : aJ C} {m0 : Nat} {body : Code} {γ : Type} (I : γ → List (Nat × SV C)) (U : γ → List (Nat × HS C)) (good : γ → Prop) (μ : γ → Nat) (g0 : γ) (h0 : good g0) (hent : Po m0 (qb0 Hp 0) T Hp (K7 body T (I g0)) (fS Hp (U g0)))
  (hround : ∀ g, good g → ∀ K : List (SV C) → List (HS C) → Prop, (∀ g' θ T' Hp', Pt (good g') → Pt (μ g' < μ g) → Po m0 θ T' Hp' (K7 body T (I g')) (fS Hp (U g')) → K T' Hp') →
   dQ (K7 body T (I g)) fun T1 => eP Hp (U g) fun Hp1 => R (.code body :: .endLoop K :: k) T1 Hp1) : Ye D m0 R body k T Hp := by
 refine yG I (fun g => fS Hp (U g)) good μ g0 h0 _ hent fun g hg K hK => ?_;have := hround g hg K hK;rw [bB, cS] at this;rw [bB, bH];exact this
end
end Go.SX
namespace Go.SX
variable {C : Cod}
class Bl (b : Bool) (p q : outParam Prop) : Prop where
 t : b = true → p
 f : b = false → q
instance (priority := 10) blB (b : Bool) : Bl b (b = true) (b = false) := ⟨id, id⟩
instance (priority := 20) blN (b : Bool) : Bl (!b) (b = false) (b = true) := ⟨by simp, by simp⟩
instance (priority := 30) blD (p : Prop) [Decidable p] : Bl (decide p) p (¬p) := ⟨by simp, by simp⟩
instance (priority := 40) blE (p : Prop) [Decidable p] : Bl (!decide p) (¬p) p := ⟨by simp, by simp⟩
theorem spC {b : Bool} {p q X Y : Prop} [hb : Bl b p q] (h1 : p → X) (h2 : q → Y) : yS b X Y := q3e (fun h => h1 (hb.t h)) (fun h => h2 (hb.f h))
theorem sdV {p : Prop} (h : p := by
  first | ((repeat' (first | refine And.intro ?_ ?_ | exact inR_i64 (by omega) (by omega) | omega | rfl | exact trivial | exact q4e rfl | exact q4p rfl (Nat.ne_of_beq_eq_false rfl) | exact Nat.ne_of_beq_eq_false rfl | (dsimp only [D3]; omega) | (simp; done) | (simp; omega))); done) | fail) : Pt p := ⟨h⟩
theorem saC {p q : Prop} (h2 : q) (h1 : Pt p := by first | exact sdV | fail) : p ∧ q := ⟨h1.h, h2⟩
section
variable {P : Program} {D : aJ C} {tab : Tab C} {A : Aux C D} {X : Ctx C} {R : kU C} {k : List (It C)} {T : List (SV C)} {Hp : List (HS C)} {m0 : Nat} {f : FuncId} {args args' : List (SV C)} {dst : Option Nat} {all rest : List Oper} {next : DK C} {fs fc : List Nat} {tr : List Ent} {ret : SV C}
theorem taC {t : List Ent} {Z : Prop} (h2 : Z) (h1 : N4 all t.reverse = true := by kernel_rfl) : Jf all t ∧ Z := ⟨⟨h1⟩, h2⟩
theorem x0C {rs : List ResultVar} (hE : q54 Hp [] ret (jD D tab T Hp rs)) : (Exit.ret = Exit.normal ∨ Exit.ret = Exit.ret) ∧ ∃ θ l, jD D tab T Hp rs = some l ∧ nS Hp θ (xU l) ret ∧ uG Hp θ [] 0 :=
 aZ [] (.inr rfl) hE trivial rfl rfl
theorem eB {rs : List ResultVar} {θ : List (Option Nat)} {b r : Bool} (h1 : b = r) (h2 : jD D tab T Hp rs = some [.p (.bool b)]) : q54 Hp θ (.p (.bool r)) (jD D tab T Hp rs) := by
 subst h1; rw [h2]; exact ⟨rfl⟩
theorem eI {rs : List ResultVar} {θ : List (Option Nat)} {K : IntKind} {b r : Int} (h1 : b = r) (h2 : jD D tab T Hp rs = some [.p (.int K b)]) : q54 Hp θ (.p (.int K r)) (jD D tab T Hp rs) := by
 subst h1; rw [h2]; exact ⟨rfl⟩
theorem cpC (hM : aF P D f args [] ret []) (h : dI T dst ret fun T' => R (.ops all rest :: k) T' Hp) (h1 : renL [] args = some args := by rfl) (h2 : nJ [] ret = some ret := by rfl) : kX P D X R f args dst all rest k T Hp := Ob hM h1 h2 h
theorem dpC (hM : aF P D f args [] ret []) (h : cZ fc fun fc => dI T dst ret fun T' => next (⟨dst, fs, fc, []⟩ :: tr) T' Hp) (h1 : renL [] args = some args := by rfl) (h2 : nJ [] ret = some ret := by rfl) : By P D next f args dst fs fc tr T Hp := Hb hM h1 h2 h
theorem fzV {θ : List (Option Nat)} {c o n off len : Nat} {u : C.U} {ys xs : List (C.El u)} (h1 : aR Hp c = .rows u xs := by rfl) (h2 : o = 0 := by rfl) (h3 : n = C.n u := by rfl) (h4 : off + len ≤ xs.length := by first | (simp; done) | (simp; omega) | omega)
  (h5 : ys = (xs.drop off).take len := by first | (simp; done) | (simp [List.take_of_length_le]; done) | (simp [List.take_of_length_le]; rfl)) (h6 : inO θ c = false := by rfl) : uX Hp θ c o n off len u ys := ⟨xs, h1, h2, h3, h4, h5, h6⟩
theorem fvV {θ : List (Option Nat)} {c : Nat} {cells : List (PV C)} {t : Option TypeId} {vs : List (SV C)} (h1 : aR Hp c = .vart t vs := by rfl) (h2 : R5 Hp θ vs cells := by first | ((repeat' (first | exact trivial | exact rfl | refine And.intro ?_ ?_ | exact fzV)); done) | fail) (h3 : inO θ c = false := by rfl) : A1 Hp θ c cells := ⟨t, vs, h1, h2, h3⟩
theorem snV {θ : List (Option Nat)} {l m : List (SV C)} (h : ViewL Hp θ l m := by first | ((repeat' (first | exact trivial | exact rfl | refine And.intro ?_ ?_ | exact fzV | exact fvV)); done) | fail) : q5d Hp θ l m := ⟨h⟩
theorem rdC (hM : aF P D f args' [] ret []) (h : dI T dst ret fun T' => R (.ops all rest :: k) T' Hp) (hv : q5d Hp [] args args' := by first | exact snV | fail) (hp : fP ret = true := by rfl) : kX P D X R f args dst all rest k T Hp := No hM hv hp h
theorem vwV {θ : List (Option Nat)} {l : Option (List (SV C))} (h : q9d Hp θ ret l := by first | ((repeat' (first | exact trivial | exact rfl | refine And.intro ?_ ?_ | exact fzV | exact fvV)); done) | fail) : q54 Hp θ ret l := ⟨h⟩
theorem hsV {θ l : List (Option Nat)} {m : List (HS C)} (h : gI Hp θ l m := by first | ((repeat' (first | exact trivial | exact rfl | refine And.intro ?_ ?_ | exact ⟨_, rfl⟩ | exact fzV | exact fvV)); done) | fail) : gI Hp θ l m := h
theorem bkV {θ : List (Option Nat)} {T' : List (SV C)} {Hp' : List (HS C)} (h1 : ViewL Hp θ T T' := by first | ((repeat' (first | exact trivial | exact rfl | refine And.intro ?_ ?_ | exact fzV | exact fvV)); done) | fail) (h2 : gI Hp θ θ Hp' := by first | exact hsV | fail) (h3 : idO m0 0 θ = true := by rfl) (h4 : ndO θ = true := by rfl) : Po m0 θ T Hp T' Hp' := ⟨h1, h2, h3, h4⟩
theorem enC {rs : List ResultVar} {H1 : List (HS C)} {e : Exit} (θ : List (Option Nat)) (he : e = .normal ∨ e = .ret := by first | exact .inr rfl | exact .inl rfl) (hE : q54 Hp θ ret (jD D tab T Hp rs) := by exact vwV) (hv : gI Hp θ θ H1 := by exact hsV) (hid : idO m0 0 θ = true := by rfl) (hnd : ndO θ = true := by rfl) :
  (e = .normal ∨ e = .ret) ∧ ∃ θ l, jD D tab T Hp rs = some l ∧ nS Hp θ (xU l) ret ∧ uG Hp θ H1 m0 := aZ θ he hE hv hid hnd
theorem chC {args0 : List (SV C)} {H0 H0' H1 : List (HS C)} {ret0 : SV C} (ρ : List (Option Nat)) (hM : aF P D f args0 H0 ret0 H1) (h : B1 Hp ρ H0.length H1 ret0 fun ret _ ws => dI T dst ret fun T' => eP Hp ws fun Hp' => R (.ops all rest :: k) T' Hp')
  (hargs : renL ρ args0 = some args := by rfl) (hH0 : gR ρ H0 = some H0' := by rfl) (hat : eA (aR Hp) ρ H0' := by (repeat' (first | exact trivial | exact rfl | refine And.intro ?_ ?_))) : kX P D X R f args dst all rest k T Hp := xW ρ hM hargs hH0 hat h
end
theorem q1n {P : Program} {D : aJ C} {f : FuncId} {args args' : List (SV C)} {ret : SV C} {H1 : List (HS C)} (hM : aF P D f args' [] ret H1) (h : q5d [] [] args args') : aF P D f args [] ret H1 := by
 refine ⟨hM.enter, fun w E hm vs hs hd => hM.calls w E hm vs hs (view_denA hs ⟨fun _ h => h, fun j d e => by simp [ixO] at e, fun j e => by simp [ixL] at e, fun c b _ e => ?_⟩ args args' vs h.h hd)⟩;rw [hm c (Nat.zero_le c)] at e;cases e
theorem Fq {P : Program} {D : aJ C} {f : FuncId} {args args' : List (SV C)} {ret : SV C} {H1 : List (HS C)} (hM : aF P D f args' [] ret []) (hv : q5d H1 [] args args') (hp : fP ret = true) : aF P D f args H1 ret H1 := by
 refine ⟨hM.enter, fun w E hm vs hs hd => ?_⟩
 let B0 : dP := ⟨w, { F := E.F, β := fun _ => .fresh }, fun _ => True, 0, fun _ _ => rfl, [], false⟩
 have hf0 : Fr B0 E w := ⟨rfl, rfl, rfl, Nat.le_refl _, fun b _ ho => absurd trivial ho, ⟨fun b hb => ⟨hb, rfl⟩, fun c => .inr (.inr rfl), fun c b e => by cases e⟩, fun b _ => .inr (.inl trivial), fun c b _ => .inl trivial⟩;obtain ⟨g1, g2, g3⟩ := gU hs hf0 (θ := []) (Hp' := []) ⟨trivial, rfl, rfl⟩;have hd' := view_denA hs g1 args args' vs hv.h hd;refine (hM.calls w (E.view [] []) (fun c _ => rfl) vs g2 hd').mono ?_;rintro e w' ⟨v, E', rfl, hv', _, hfr⟩;have hsame : ∀ b, b < w.heap.size → w'.heap[b]? = w.heap[b]? := fun b hb => hfr.same b hb (by rintro ⟨c, hc⟩; cases hc);exact ⟨v, E, rfl, qS ret v hp hv', hs.same hsame hfr.size, (Fr.here (m := H1.length) (hm := hm)).on hs.F hsame hfr.size hfr.os hfr.tape hfr.output⟩
theorem Ix {P : Program} {D : aJ C} {X : Ctx C} {R : kU C} {k : List (It C)} {T : List (SV C)} {Hp : List (HS C)} {f : FuncId} {args : List (SV C)} {dst : Option Nat} {all rest : List Oper} (θ : List (Option Nat)) (us : List (Nat × SV C)) (cs : List (Nat × HS C)) (args' : List (SV C)) (hb : Po X.m0 θ T Hp (pD T us) (fS Hp cs)) (ha : q5d Hp θ args args')
  (h : dQ (pD T us) fun T1 => eP Hp cs fun Hp1 => kX P D X R f args' dst all rest k T1 Hp1) : kX P D X R f args dst all rest k T Hp := by
 rw [bB, cS] at h;obtain ⟨T2, Hp2, args2, hsub, hor⟩ := h.h;refine ⟨T2, Hp2, args2, fun B E df a w hm hR hsz => ?_, hor⟩;obtain ⟨E1, hR1, hsz1, hd1⟩ := Si (D := D) _ hb.T ha.h ⟨hb.H, hb.id, hb.nd⟩ B E df a w hm hR hsz;obtain ⟨E2, hR2, hsz2, hd2⟩ := hsub B E1 df a w hm hR1 hsz1;exact ⟨E2, hR2, hsz2, fun vs hv => hd2 vs (hd1 vs hv)⟩
end Go.SX
namespace Go.SX
theorem rR {C : Cod} {o : Op} {vals : List (SV C)} {hs : List (Nat × HS C)} {Y Z : Prop} (h : oL o vals hs Y) : oL o vals hs (Y ∨ Z) := ⟨.inl h.h⟩
end Go.SX
namespace Go.SX
variable {C : Cod}
def pB : PV C → Value → Bool
 | .int k n, .int k' n' => decide (k = k') && decide (n = n')
 | .bool b, .bool b' => b == b'
 | .str l, .string s => decide (l = s.data.toList)
 | .lit (.slice none 0 0), .slice none 0 0 => true
 | .lit (.pointer none), .pointer none => true
 | .lit (.map none), .map none => true
 | .lit .nilFunc, .nilFunc => true
 | .lit .nilIface, .nilIface => true
 | _, _ => false
def pLB : List (PV C) → List Value → Option (List Value)
 | [], vs => some vs
 | x :: l, v :: vs => if pB x v then pLB l vs else none
 | _ :: _, [] => none
def oP (D : aJ C) : List (SV C) → List Value → Bool
 | [], [] => true
 | .p x :: l, v :: vs => pB x v && oP D l vs
 | .arr u N xs :: l, vs => decide (xs.length = N) && (match pLB (xs.flatMap (D.enc u)) vs with
  | some r => oP D l r
  | none => false)
 | _, _ => false
def q2e (P : Program) (size : Nat) : TK → TypeDesc → Bool
 | .int k, .int k' => decide (k' = k)
 | .bool, .bool => true
 | .str, .string => true
 | .struct fs, .struct F => decide (F.toList.map (fun f => (f.offset, f.type)) = fs) && fs.all fun f => (P.info? f.2).isSome
 | .arr n e, .array n' e' => decide (n' = n) && decide (e' = e) && (match P.info? e with | some ie => decide (size = n * ie.size) | none => false)
 | .slice e, .slice e' => decide (e' = e)
 | .ptr e, .pointer e' => decide (e' = e)
 | .uptr, .unsafePointer => true
 | .ifc, .interface _ => true
 | .map k e, .map kt e' => decide (e' = e) && (match P.underlying kt with | some d => (match k, d with | .int q, .int q' => decide (q' = q) | .str, .string => true | _, _ => false) | none => false)
 | .other, d => match d with | .struct _ | .array _ _ => false | _ => true
 | _, _ => false
def zbB (P : Program) (t : TypeId) : TK → Bool
 | .bool => match P.info? t with
  | some info => match info.zero with
   | some (.bool false) => true
   | _ => false
  | none => false
 | _ => true
def tyB (P : Program) (D : aJ C) (t : TypeId) (i : TI C) : Bool :=
 (match P.info? t with
  | some info => decide (info.size = i.size) && decide (info.bytes = i.bytes) && (match info.zero with
   | some z => decide (z.cells.size = i.size) && oP D i.zero z.cells.toList
   | none => false)
  | none => false) &&
 (match P.underlying t with
  | some d => q2e P i.size i.kind d
  | none => false) &&
 decide (0 < i.size) && (match i.code with
  | some u => decide (C.n u = i.size) && (match C.ty u with
   | some t' => decide (t' = t)
   | none => true)
  | none => true) && (match i.typed with
  | true => liesAt P P.depth t (i.size / P.cellsOf t) 0 t 1
  | false => true) && (match i.cks with
  | [] => true
  | l => i.kind.agg && ckB P 64 t l && !P.eqGuardType P.depth t) && zbB P t i.kind
section
variable {P : Program} {D : aJ C} {w : World} {E : Env}
theorem q60 {x : PV C} {v : Value} (h : pB x v = true) {F : Nat → Prop} : iV D w F x v := by
 unfold pB at h;split at h
 ·simp at h; obtain ⟨rfl, rfl⟩ := h; exact .int _ _
 ·simp at h; subst h; exact .bool _
 ·simp at h; subst h; rename_i s; obtain ⟨⟨l⟩⟩ := s; exact .str _
 ·exact .lit _ rfl
 ·exact .lit _ rfl
 ·exact .lit _ rfl
 ·exact .lit _ rfl
 ·exact .lit _ rfl
 ·cases h
theorem q17 {F : Nat → Prop} : ∀ (l : List (PV C)) (vs r : List Value), pLB l vs = some r → ∃ v1, vs = v1 ++ r ∧ cA D w F l v1
 | [], vs, r, h => by simp [pLB] at h; subst h; exact ⟨[], rfl, rfl, fun j pv v hp _ => by simp at hp⟩
 | x :: l, [], r, h => by simp [pLB] at h
 | x :: l, v :: vs, r, h => by
  simp only [pLB] at h;split at h
  ·rename_i hb;obtain ⟨v1, rfl, h1⟩ := q17 (F := F) l vs r h;refine ⟨v :: v1, rfl, by simp [h1.1], fun j pv u hp hu => ?_⟩;cases j with
   | zero => simp at hp hu; subst hp; subst hu; exact q60 hb
   | succ j => exact h1.2 j pv u (by simpa using hp) (by simpa using hu)
  ·cases h
theorem Z8 : ∀ (l : List (SV C)) (vs : List Value), oP D l vs = true → DenC D w E l vs
 | [], [], _ => by simp only [DenC]
 | [], _ :: _, h => by simp [oP] at h
 | .p x :: l, [], h => by simp [oP] at h
 | .p x :: l, v :: vs, h => by
  simp only [oP, Bool.and_eq_true] at h;have h1 : iV D w E.F x v := q60 h.1;simp only [DenC, Den];exact ⟨v, vs, rfl, h1.oneCell, h1, Z8 l vs h.2⟩
 | .arr u N xs :: l, vs, h => by
  have h' : xs.length = N ∧ (match pLB (xs.flatMap (D.enc u)) vs with | some r => oP D l r | none => false) = true := by
   cases vs <;> simpa [oP] using h
  obtain ⟨h1, h2⟩ := h';cases hp : pLB (xs.flatMap (D.enc u)) vs with
  | none => rw [hp] at h2; cases h2
  | some r =>
   rw [hp] at h2;obtain ⟨v1, e, h3⟩ := q17 (D := D) (w := w) (F := E.F) _ vs r hp;simp only [DenC];exact ⟨h1, v1, r, e, h3, Z8 l r h2⟩
 | .any :: l, vs, h => by cases vs <;> simp [oP] at h
 | .ptr _ _ :: l, vs, h => by cases vs <;> simp [oP] at h
 | .eptr _ _ _ _ _ :: l, vs, h => by cases vs <;> simp [oP] at h
 | .dptr _ _ :: l, vs, h => by cases vs <;> simp [oP] at h
 | .slice _ _ _ _ _ :: l, vs, h => by cases vs <;> simp [oP] at h
 | .agg _ :: l, vs, h => by cases vs <;> simp [oP] at h
 | .fn _ _ _ :: l, vs, h => by cases vs <;> simp [oP] at h
 | .iface _ _ :: l, vs, h => by cases vs <;> simp [oP] at h
 | .tuple _ :: l, vs, h => by cases vs <;> simp [oP] at h
theorem q0g {size : Nat} {k : TK} {d : TypeDesc} (h : q2e P size k d = true) : lG P size k d := by
 unfold q2e at h;split at h
 ·simp at h; subst h; rfl
 ·rfl
 ·rfl
 ·simp at h;exact ⟨_, rfl, h.1, fun f hf => by
   have := h.2 f.1 f.2 hf;simpa [Option.isSome_iff_ne_none] using this⟩
 ·simp at h;obtain ⟨⟨rfl, rfl⟩, h2⟩ := h;split at h2
  ·rename_i ie hie;exact ⟨rfl, ie, hie, by simpa using h2⟩
  ·cases h2
 ·simp at h; subst h; rfl
 ·simp at h; subst h; rfl
 ·rfl
 ·exact ⟨_, rfl⟩
 ·simp only [Bool.and_eq_true, decide_eq_true_eq] at h;obtain ⟨rfl, h2⟩ := h;refine ⟨_, rfl, ?_⟩;split at h2
  ·rename_i d hd;split at h2
   ·simp at h2; subst h2; exact hd
   ·exact hd
   ·cases h2
  ·cases h2
 ·simp only [lG];exact h
 ·cases h
theorem q89 {t : TypeId} {i : TI C} (h : tyB P D t i = true) : yA P D t i := by
 simp only [tyB, Bool.and_eq_true, decide_eq_true_eq] at h;obtain ⟨⟨⟨⟨⟨⟨h1, h2⟩, h3⟩, h4⟩, h6⟩, h5⟩, h8⟩ := h;refine ⟨?_, ?_, h3, fun u hu => ?_, fun u t' hu ht => ?_, fun ht => ?_, fun hk => ?_, fun hc => ?_⟩
 ·split at h1
  ·rename_i info hinfo;simp only [Bool.and_eq_true, decide_eq_true_eq] at h1;obtain ⟨⟨h5, h6⟩, h7⟩ := h1;split at h7
   ·rename_i z hz;simp only [Bool.and_eq_true, decide_eq_true_eq] at h7;exact ⟨info, z, hinfo, h5, h6, hz, h7.1, fun w E => Z8 _ _ h7.2⟩
   ·cases h7
  ·cases h1
 ·split at h2
  ·rename_i d hd; exact ⟨d, hd, q0g h2⟩
  ·cases h2
 ·rw [hu] at h4; simp only [Bool.and_eq_true, decide_eq_true_eq] at h4; exact h4.1
 ·rw [hu] at h4; simp only [Bool.and_eq_true, decide_eq_true_eq] at h4; rw [ht] at h4; simpa using h4.2
 ·rw [ht] at h6; exact h6
 ·rw [hk] at h8;simp only [zbB] at h8;split at h8
  ·rename_i info hi;split at h8
   ·rename_i hz; exact ⟨info, hi, hz⟩
   ·cases h8
  ·cases h8
 ·split at h5
  ·rename_i h; exact (hc h).elim
  ·simp only [Bool.and_eq_true, Bool.not_eq_true'] at h5;exact ⟨h5.1.1, h5.1.2, h5.2⟩
end
end Go.SX
namespace Go.SX
structure A5 where
 a : Int
 b : Int
 c : Int
 d : Int
 e : Int
deriving DecidableEq
structure A4 where
 a : Int
 b : Int
 c : Int
 d : Int
deriving DecidableEq
structure A3 where
 a : Int
 b : Int
 c : Int
deriving DecidableEq
structure q2l where
 from_ : Int
 to_ : Int
deriving DecidableEq
structure q8g where
 x : Int
 y : Int
deriving DecidableEq
structure aI where
 kind : Int
 rows : List Int
 from_ : Int
 to_ : Int
 low : Int
 high : Int
 clear : Bool
 days : Int
 times : Int
 within : Int
 cents : List Int
 kids : List aI
structure iF where
 id : Int
 owner : Int
 goal : aI
 price : Int
 group : Int
 urgent : Bool
 known : Int
 due : Int
structure aB where
 kind : Int
 at_ : Int
 image : Int
 rows : List Int
 sun : Int
 look : Int
 clear : Bool
deriving DecidableEq
structure Evs where
 l : List aB
deriving DecidableEq
inductive bN where
 | n (i : Int)
 | s (l : List UInt8)
@[reducible] def q6n : bN → Value
 | .n i => .iface 3 (.int .i64 i)
 | .s l => .iface 9 (.string ⟨⟨l⟩⟩)
inductive U where
 | int | bool | str | u8 | u32 | u64 | anyv | arr5 | arr4 | arr3 | spell | cell | goal | order | event | evs
deriving DecidableEq
@[reducible] def U.El : U → Type
 | .int => Int
 | .bool => Bool
 | .str => List UInt8
 | .u8 => Int
 | .u32 => Int
 | .u64 => Int
 | .anyv => bN
 | .arr5 => A5
 | .arr4 => A4
 | .arr3 => A3
 | .spell => q2l
 | .cell => q8g
 | .goal => aI
 | .order => iF
 | .event => aB
 | .evs => Evs
def U.dflt : (u : U) → u.El
 | .int => (0 : Int)
 | .bool => false
 | .str => ([] : List UInt8)
 | .u8 => (0 : Int)
 | .u32 => (0 : Int)
 | .u64 => (0 : Int)
 | .anyv => (bN.n 0)
 | .arr5 => (⟨0, 0, 0, 0, 0⟩ : A5)
 | .arr4 => (⟨0, 0, 0, 0⟩ : A4)
 | .arr3 => (⟨0, 0, 0⟩ : A3)
 | .spell => (⟨0, 0⟩ : q2l)
 | .cell => (⟨0, 0⟩ : q8g)
 | .goal => (⟨0, [], 0, 0, 0, 0, false, 0, 0, 0, [], []⟩ : aI)
 | .order => (⟨0, 0, (⟨0, [], 0, 0, 0, 0, false, 0, 0, 0, [], []⟩), 0, 0, false, 0, 0⟩ : iF)
 | .event => (⟨0, 0, 0, [], 0, 0, false⟩ : aB)
 | .evs => (⟨[]⟩ : Evs)
def U.n : U → Nat
 | .int => 1
 | .bool => 1
 | .str => 1
 | .u8 => 1
 | .u32 => 1
 | .u64 => 1
 | .anyv => 1
 | .arr5 => 5
 | .arr4 => 4
 | .arr3 => 3
 | .spell => 2
 | .cell => 2
 | .goal => 12
 | .order => 19
 | .event => 7
 | .evs => 1
def U.glob : Nat → List Value
 | 1 => [.int .u8 0, .int .u8 1, .int .u8 56, .int .u8 2, .int .u8 57, .int .u8 49, .int .u8 28, .int .u8 3, .int .u8 61, .int .u8 58, .int .u8 42, .int .u8 50, .int .u8 38, .int .u8 29, .int .u8 17, .int .u8 4, .int .u8 62, .int .u8 47, .int .u8 59, .int .u8 36, .int .u8 45, .int .u8 43, .int .u8 51, .int .u8 22, .int .u8 53, .int .u8 39, .int .u8 33, .int .u8 30, .int .u8 24, .int .u8 18, .int .u8 12, .int .u8 5, .int .u8 63, .int .u8 55, .int .u8 48, .int .u8 27, .int .u8 60, .int .u8 41, .int .u8 37, .int .u8 16, .int .u8 46, .int .u8 35, .int .u8 44, .int .u8 21, .int .u8 52, .int .u8 32, .int .u8 23, .int .u8 11, .int .u8 54, .int .u8 26, .int .u8 40, .int .u8 15, .int .u8 34, .int .u8 20, .int .u8 31, .int .u8 10, .int .u8 25, .int .u8 14, .int .u8 19, .int .u8 9, .int .u8 13, .int .u8 8, .int .u8 7, .int .u8 6]
 | 3 => [.int .u64 1, .int .u64 10, .int .u64 100, .int .u64 1000, .int .u64 10000, .int .u64 100000, .int .u64 1000000, .int .u64 10000000, .int .u64 100000000, .int .u64 1000000000, .int .u64 10000000000, .int .u64 100000000000, .int .u64 1000000000000, .int .u64 10000000000000, .int .u64 100000000000000, .int .u64 1000000000000000, .int .u64 10000000000000000, .int .u64 100000000000000000, .int .u64 1000000000000000000, .int .u64 10000000000000000000]
 | _ => []
def U.gifc : Nat → Bool
 | 4 => true
 | 5 => true
 | _ => false
def U.ty : U → Option TypeId
 | .u8 => some 5
 | _ => none
@[reducible] def Cd : Cod := { U := U, El := U.El, dflt := U.dflt, n := U.n, glob := U.glob, ty := U.ty, gifc := U.gifc }
def Ik : (u : U) → u.El → List (PV Cd)
 | .int, x => [.int .i64 x]
 | .bool, x => [.bool x]
 | .str, x => [.str x]
 | .u8, x => [.int .u8 x]
 | .u32, x => [.int .u32 x]
 | .u64, x => [.int .u64 x]
 | .anyv, x => [.lit (q6n x)]
 | .arr5, x => [.int .i64 x.a, .int .i64 x.b, .int .i64 x.c, .int .i64 x.d, .int .i64 x.e]
 | .arr4, x => [.int .i64 x.a, .int .i64 x.b, .int .i64 x.c, .int .i64 x.d]
 | .arr3, x => [.int .i64 x.a, .int .i64 x.b, .int .i64 x.c]
 | .spell, x => [.int .i64 x.from_, .int .i64 x.to_]
 | .cell, x => [.int .i64 x.x, .int .i64 x.y]
 | .goal, x => [.int .i64 x.kind, .dsl U.int x.rows, .int .i64 x.from_, .int .i64 x.to_, .int .i64 x.low, .int .i64 x.high, .bool x.clear, .int .i64 x.days, .int .i64 x.times, .int .i64 x.within, .dsl U.int x.cents, .dsl U.goal x.kids]
 | .order, x => [.int .i64 x.id, .int .i64 x.owner, .int .i64 x.goal.kind, .dsl U.int x.goal.rows, .int .i64 x.goal.from_, .int .i64 x.goal.to_, .int .i64 x.goal.low, .int .i64 x.goal.high, .bool x.goal.clear, .int .i64 x.goal.days, .int .i64 x.goal.times, .int .i64 x.goal.within, .dsl U.int x.goal.cents, .dsl U.goal x.goal.kids, .int .i64 x.price, .int .i64 x.group, .bool x.urgent, .int .i64 x.known, .int .i64 x.due]
 | .event, x => [.int .i64 x.kind, .int .i64 x.at_, .int .i64 x.image, .dsl U.int x.rows, .int .i64 x.sun, .int .i64 x.look, .bool x.clear]
 | .evs, x => [.dsl U.event x.l]
def q91 : (u : U) → List (PV Cd) → Option u.El
 | .int, [.int .i64 a0] => some a0
 | .bool, [.bool a0] => some a0
 | .str, [.str a0] => some a0
 | .u8, [.int .u8 a0] => some a0
 | .u32, [.int .u32 a0] => some a0
 | .u64, [.int .u64 a0] => some a0
 | .anyv, [.lit (.iface 3 (.int .i64 i))] => some (bN.n i)
 | .anyv, [.lit (.iface 9 (.string ⟨⟨l⟩⟩))] => some (bN.s l)
 | .arr5, [.int .i64 a0, .int .i64 a1, .int .i64 a2, .int .i64 a3, .int .i64 a4] => some (⟨a0, a1, a2, a3, a4⟩ : A5)
 | .arr4, [.int .i64 a0, .int .i64 a1, .int .i64 a2, .int .i64 a3] => some (⟨a0, a1, a2, a3⟩ : A4)
 | .arr3, [.int .i64 a0, .int .i64 a1, .int .i64 a2] => some (⟨a0, a1, a2⟩ : A3)
 | .spell, [.int .i64 a0, .int .i64 a1] => some (⟨a0, a1⟩ : q2l)
 | .cell, [.int .i64 a0, .int .i64 a1] => some (⟨a0, a1⟩ : q8g)
 | .goal, [.int .i64 a0, .dsl U.int a1, .int .i64 a2, .int .i64 a3, .int .i64 a4, .int .i64 a5, .bool a6, .int .i64 a7, .int .i64 a8, .int .i64 a9, .dsl U.int a10, .dsl U.goal a11] => some (⟨a0, a1, a2, a3, a4, a5, a6, a7, a8, a9, a10, a11⟩ : aI)
 | .order, [.int .i64 a0, .int .i64 a1, .int .i64 a2, .dsl U.int a3, .int .i64 a4, .int .i64 a5, .int .i64 a6, .int .i64 a7, .bool a8, .int .i64 a9, .int .i64 a10, .int .i64 a11, .dsl U.int a12, .dsl U.goal a13, .int .i64 a14, .int .i64 a15, .bool a16, .int .i64 a17, .int .i64 a18] => some (⟨a0, a1, ⟨a2, a3, a4, a5, a6, a7, a8, a9, a10, a11, a12, a13⟩, a14, a15, a16, a17, a18⟩ : iF)
 | .event, [.int .i64 a0, .int .i64 a1, .int .i64 a2, .dsl U.int a3, .int .i64 a4, .int .i64 a5, .bool a6] => some (⟨a0, a1, a2, a3, a4, a5, a6⟩ : aB)
 | .evs, [.dsl U.event a0] => some (⟨a0⟩ : Evs)
 | _, _ => none
theorem q32 (u : U) (l : List (PV Cd)) (x : u.El) (h : q91 u l = some x) : Ik u x = l := by
 unfold q91 at h;split at h <;> first | (injection h with h; subst h; rfl) | (injection h)
def Dc : aJ Cd where
 enc := Ik
 dec := q91
 dec_ok := q32
 enc_len := by intro u x; cases u <;> rfl
 n_pos := by intro u; cases u <;> decide
def q4v : (u u' : U) → List u'.El → Option (List u.El)
 | .int, .int, l => some l
 | .bool, .bool, l => some l
 | .str, .str, l => some l
 | .u8, .u8, l => some l
 | .u32, .u32, l => some l
 | .u64, .u64, l => some l
 | .anyv, .anyv, l => some l
 | .arr5, .arr5, l => some l
 | .arr4, .arr4, l => some l
 | .arr3, .arr3, l => some l
 | .spell, .spell, l => some l
 | .cell, .cell, l => some l
 | .goal, .goal, l => some l
 | .order, .order, l => some l
 | .event, .event, l => some l
 | .evs, .evs, l => some l
 | _, _, _ => none
theorem Xe (u u' : U) (ys : List u'.El) (zs : List u.El) (h : q4v u u' ys = some zs) : zs.map (Ik u) = ys.map (Ik u') ∧ u.n = u'.n := by
 unfold q4v at h;split at h <;> first | (injection h with h; subst h; exact ⟨rfl, rfl⟩) | (injection h)
def ckU : U → List CK
 | .int => [.int .i64]
 | .bool => [.bool]
 | .str => [.str]
 | .u8 => [.int .u8]
 | .u32 => [.int .u32]
 | .u64 => [.int .u64]
 | .arr5 => [.int .i64, .int .i64, .int .i64, .int .i64, .int .i64]
 | .arr4 => [.int .i64, .int .i64, .int .i64, .int .i64]
 | .arr3 => [.int .i64, .int .i64, .int .i64]
 | .spell => [.int .i64, .int .i64]
 | .cell => [.int .i64, .int .i64]
 | _ => []
theorem q65 (u : U) (h : ckU u ≠ []) (x : u.El) : (Ik u x).map Ps = (ckU u).map some := by
 cases u <;> first | rfl | exact (h rfl).elim
theorem q05 (u : U) (h : ckU u ≠ []) (x y : u.El) (e : Ik u x = Ik u y) : x = y := by
 cases u <;> first | exact (h rfl).elim | (simp [Ik] at e; first | exact e | (cases x; cases y; simp_all))
theorem yV {α β : Type} (f : α → List β) (n : Nat) (hn : 0 < n) (hf : ∀ x, (f x).length = n) (hi : ∀ x y, f x = f y → x = y) : ∀ xs ys : List α, xs.flatMap f = ys.flatMap f → xs = ys
 | [], [], _ => rfl
 | [], y :: ys, h => by have := congrArg List.length h; simp [hf] at this; omega
 | x :: xs, [], h => by have := congrArg List.length h; simp [hf] at this; omega
 | x :: xs, y :: ys, h => by
  simp only [List.flatMap_cons] at h;have h1 := List.append_inj h (by rw [hf, hf]);rw [hi x y h1.1, yV f n hn hf hi xs ys h1.2]
def eqU : (u u' : U) → List u.El → List u'.El → Option Bool
 | .int, .int, xs, ys => some (decide (xs = ys))
 | .bool, .bool, xs, ys => some (decide (xs = ys))
 | .str, .str, xs, ys => some (decide (xs = ys))
 | .u8, .u8, xs, ys => some (decide (xs = ys))
 | .u32, .u32, xs, ys => some (decide (xs = ys))
 | .u64, .u64, xs, ys => some (decide (xs = ys))
 | .arr5, .arr5, xs, ys => some (decide (xs = ys))
 | .arr4, .arr4, xs, ys => some (decide (xs = ys))
 | .arr3, .arr3, xs, ys => some (decide (xs = ys))
 | .spell, .spell, xs, ys => some (decide (xs = ys))
 | .cell, .cell, xs, ys => some (decide (xs = ys))
 | _, _, _, _ => none
theorem sS {α β : Type} (f : α → β) : ∀ xs : List α, (xs.flatMap fun x => [f x]) = xs.map f
 | [] => rfl
 | x :: xs => by rw [List.flatMap_cons, sS f xs]; rfl
def Tr : (u : U) → List UInt8 → Option (List u.El)
 | .u8, l => some (l.map fun b => (b.toNat : Int))
 | _, _ => none
theorem Py (u : U) (l : List UInt8) (xs : List u.El) (h : Tr u l = some xs) : U.n u = 1 ∧ xs.flatMap (Ik u) = l.map (fun b => PV.int .u8 b.toNat) := by
 unfold Tr at h;split at h
 ·injection h with h; subst h;refine ⟨rfl, ?_⟩;have h1 := sS (fun n : Int => (PV.int .u8 n : PV Cd)) (l.map fun b => (b.toNat : Int));rw [List.map_map] at h1;exact h1
 ·cases h
def q9y : (u : U) → List u.El → Option (List UInt8)
 | .u8, xs => some (xs.map fun n : Int => UInt8.ofNat n.toNat)
 | _, _ => none
theorem q5g (u : U) (xs : List u.El) (l : List UInt8) (h : q9y u xs = some l) : U.n u = 1 ∧ ∃ ns : List Int, xs.flatMap (Ik u) = ns.map (PV.int .u8) ∧ l = ns.map (fun n => UInt8.ofNat n.toNat) := by
 unfold q9y at h;split at h
 ·injection h with h; subst h;exact ⟨rfl, _, sS (fun n : Int => (PV.int .u8 n : PV Cd)) _, rfl⟩
 ·cases h
theorem q6q (u u' : U) (xs : List u.El) (ys : List u'.El) (b : Bool) (h : eqU u u' xs ys = some b) : ckU u ≠ [] ∧ ckU u' ≠ [] ∧ (b = true ↔ xs.flatMap (Ik u) = ys.flatMap (Ik u')) := by
 have key : ∀ (u : U) (hu : ckU u ≠ []) (xs ys : List u.El), (xs = ys ↔ xs.flatMap (Ik u) = ys.flatMap (Ik u)) := fun u hu xs ys =>
  ⟨fun e => by rw [e], yV (Ik u) u.n (Dc.n_pos u) (fun x => Dc.enc_len u x) (q05 u hu) xs ys⟩
 unfold eqU at h;split at h
 all_goals first
  | (injection h with h; subst h; refine ⟨by decide, by decide, ?_⟩; rw [decide_eq_true_iff]; exact key _ (by decide) _ _)
  | (injection h)
def Ax : Aux Cd Dc where
 castL := q4v
 castL_ok := Xe
 ckA := ckU
 ckA_ok := q65
 eqA := eqU
 eqA_ok := q6q
 ofBytes := Tr
 ofBytes_ok := Py
 toBytes := q9y
 toBytes_ok := q5g
theorem inR_i64 {n : Int} (h1 : -9223372036854775808 ≤ n) (h2 : n ≤ 9223372036854775807) : InR .i64 n := by
 show IntKind.i64.wrap n = n;exact IntWalk.i64_in n ⟨h1, h2⟩
end Go.SX
namespace Go.SX
@[reducible] def ti (k : TK) (s b : Nat) (z : List (SV Cd)) (c : Option U := none) (q : List CK := []) : TI Cd := { kind := k, size := s, bytes := b, zero := z, code := c, cks := q }
@[reducible] def oT : TI Cd := ti .other 1 8 [.p (.lit .nilFunc)]
@[reducible] def sT (e : Nat) : TI Cd := ti (.slice e) 1 24 [.p (.lit (.slice none 0 0))]
@[reducible] def pT (e : Nat) : TI Cd := ti (.ptr e) 1 8 [.p (.lit (.pointer none))]
def q8c : Nat → List (Nat × TI Cd)
 | 0 => [(1, oT),
  (2, ti (.int .i64) 1 8 [.p (.int .i64 0)]),
  (3, ti (.int .i64) 1 8 [.p (.int .i64 0)] (some U.int)),
  (4, ti (.bool) 1 1 [.p (.bool false)] (some U.bool)),
  (5, ti (.int .u8) 1 1 [.p (.int .u8 0)] (some U.u8)),
  (9, ti (.str) 1 16 [.p (.str [])] (some U.str)),
  (12, ti (.int .u64) 1 8 [.p (.int .u64 0)]),
  (13, ti (.struct [(0, 9), (1, 12)]) 2 24 [.p (.str []), .p (.int .u64 0)])]
 | 1 => [(20, ti (.ifc) 1 16 [.p (.lit .nilIface)] (some U.anyv)),
  (21, ti (.int .i32) 1 4 [.p (.int .i32 0)]),
  (22, sT 137),
  (23, sT 101),
  (24, ti (.struct [(0, 22), (1, 23)]) 2 48 [.p (.lit (.slice none 0 0)), .p (.lit (.slice none 0 0))]),
  (25, ti (.struct [(0, 22), (1, 23)]) 2 48 [.p (.lit (.slice none 0 0)), .p (.lit (.slice none 0 0))]),
  (26, oT),
  (27, sT 3),
  (28, ti (.struct [(0, 27)]) 1 24 [.p (.lit (.slice none 0 0))]),
  (29, ti (.struct [(0, 27)]) 1 24 [.p (.lit (.slice none 0 0))]),
  (30, ti (.struct [(0, 3), (1, 3)]) 2 16 [.p (.int .i64 0), .p (.int .i64 0)]),
  (31, ti (.struct [(0, 3), (1, 3)]) 2 16 [.p (.int .i64 0), .p (.int .i64 0)] (some U.spell) [.int .i64, .int .i64])]
 | 2 => [(32, sT 34),
  (33, ti (.struct [(0, 3), (1, 29), (2, 31), (4, 3), (5, 3), (6, 4), (7, 3), (8, 3), (9, 3), (10, 27), (11, 32)]) 12 144 [.p (.int .i64 0), .p (.lit (.slice none 0 0)), .p (.int .i64 0), .p (.int .i64 0), .p (.int .i64 0), .p (.int .i64 0), .p (.bool false), .p (.int .i64 0), .p (.int .i64 0), .p (.int .i64 0), .p (.lit (.slice none 0 0)), .p (.lit (.slice none 0 0))]),
  (34, ti (.struct [(0, 3), (1, 29), (2, 31), (4, 3), (5, 3), (6, 4), (7, 3), (8, 3), (9, 3), (10, 27), (11, 32)]) 12 144 [.p (.int .i64 0), .p (.lit (.slice none 0 0)), .p (.int .i64 0), .p (.int .i64 0), .p (.int .i64 0), .p (.int .i64 0), .p (.bool false), .p (.int .i64 0), .p (.int .i64 0), .p (.int .i64 0), .p (.lit (.slice none 0 0)), .p (.lit (.slice none 0 0))] (some U.goal)),
  (35, ti (.slice 40) 1 24 [.p (.lit (.slice none 0 0))] (some U.evs)),
  (37, oT),
  (38, oT),
  (39, ti (.struct [(0, 3), (1, 3), (2, 3), (3, 29), (4, 3), (5, 3), (6, 4)]) 7 72 [.p (.int .i64 0), .p (.int .i64 0), .p (.int .i64 0), .p (.lit (.slice none 0 0)), .p (.int .i64 0), .p (.int .i64 0), .p (.bool false)]),
  (40, ti (.struct [(0, 3), (1, 3), (2, 3), (3, 29), (4, 3), (5, 3), (6, 4)]) 7 72 [.p (.int .i64 0), .p (.int .i64 0), .p (.int .i64 0), .p (.lit (.slice none 0 0)), .p (.int .i64 0), .p (.int .i64 0), .p (.bool false)] (some U.event)),
  (41, ti (.int .i64) 1 8 [.p (.int .i64 0)] (some U.int)),
  (43, oT),
  (44, ti (.struct [(0, 3), (1, 3), (2, 34), (14, 3), (15, 3), (16, 4), (17, 3), (18, 3)]) 19 200 [.p (.int .i64 0), .p (.int .i64 0), .p (.int .i64 0), .p (.lit (.slice none 0 0)), .p (.int .i64 0), .p (.int .i64 0), .p (.int .i64 0), .p (.int .i64 0), .p (.bool false), .p (.int .i64 0), .p (.int .i64 0), .p (.int .i64 0), .p (.lit (.slice none 0 0)), .p (.lit (.slice none 0 0)), .p (.int .i64 0), .p (.int .i64 0), .p (.bool false), .p (.int .i64 0), .p (.int .i64 0)]),
  (45, ti (.struct [(0, 3), (1, 3), (2, 34), (14, 3), (15, 3), (16, 4), (17, 3), (18, 3)]) 19 200 [.p (.int .i64 0), .p (.int .i64 0), .p (.int .i64 0), .p (.lit (.slice none 0 0)), .p (.int .i64 0), .p (.int .i64 0), .p (.int .i64 0), .p (.int .i64 0), .p (.bool false), .p (.int .i64 0), .p (.int .i64 0), .p (.int .i64 0), .p (.lit (.slice none 0 0)), .p (.lit (.slice none 0 0)), .p (.int .i64 0), .p (.int .i64 0), .p (.bool false), .p (.int .i64 0), .p (.int .i64 0)] (some U.order)),
  (47, oT)]
 | 3 => [(49, oT),
  (51, oT),
  (52, oT),
  (54, oT),
  (56, oT),
  (58, oT),
  (59, oT),
  (60, oT),
  (61, oT),
  (62, oT),
  (63, oT)]
 | 4 => [(64, oT),
  (65, oT),
  (66, oT),
  (67, oT),
  (68, pT 71),
  (69, sT 9),
  (70, ti (.struct [(0, 69)]) 1 24 [.p (.lit (.slice none 0 0))]),
  (71, ti (.struct [(0, 69)]) 1 24 [.p (.lit (.slice none 0 0))]),
  (72, oT),
  (73, oT),
  (74, oT),
  (75, oT),
  (76, pT 79),
  (77, oT),
  (78, ti (.struct [(0, 69), (1, 3), (2, 3)]) 3 40 [.p (.lit (.slice none 0 0)), .p (.int .i64 0), .p (.int .i64 0)]),
  (79, ti (.struct [(0, 69), (1, 3), (2, 3)]) 3 40 [.p (.lit (.slice none 0 0)), .p (.int .i64 0), .p (.int .i64 0)])]
 | 5 => [(83, oT),
  (84, ti (.struct [(0, 3), (1, 27)]) 2 32 [.p (.int .i64 0), .p (.lit (.slice none 0 0))]),
  (85, ti (.struct [(0, 3), (1, 27)]) 2 32 [.p (.int .i64 0), .p (.lit (.slice none 0 0))]),
  (87, oT),
  (88, oT),
  (89, oT),
  (90, oT),
  (91, oT),
  (93, ti (.struct [(0, 35), (1, 3)]) 2 32 [.p (.lit (.slice none 0 0)), .p (.int .i64 0)]),
  (94, ti (.struct [(0, 35), (1, 3)]) 2 32 [.p (.lit (.slice none 0 0)), .p (.int .i64 0)]),
  (95, oT)]
 | 6 => [(96, ti (.map (.int .i64) 4) 1 8 [.p (.lit (.map none))]),
  (97, oT),
  (99, oT),
  (100, oT),
  (101, ti (.arr 4 3) 4 32 [.arr U.int 4 (List.replicate 4 (Cd.dflt U.int))] (some U.arr4) [.int .i64, .int .i64, .int .i64, .int .i64]),
  (102, oT),
  (103, oT),
  (104, sT 20),
  (105, oT),
  (106, oT),
  (107, oT),
  (108, oT),
  (109, pT 112),
  (110, sT 5),
  (111, ti (.struct [(0, 109), (1, 110)]) 2 32 [.p (.lit (.pointer none)), .p (.lit (.slice none 0 0))])]
 | 7 => [(112, { kind := .struct [(0, 109), (1, 110)], size := 2, bytes := 32, zero := [.p (.lit (.pointer none)), .p (.lit (.slice none 0 0))], code := none, typed := true }),
  (113, oT),
  (114, ti (.ifc) 1 16 [.p (.lit .nilIface)]),
  (115, ti (.ifc) 1 16 [.p (.lit .nilIface)]),
  (117, oT),
  (118, oT),
  (119, oT),
  (120, oT),
  (121, oT),
  (122, oT),
  (123, oT),
  (125, oT),
  (126, oT)]
 | 8 => [(128, oT),
  (129, pT 131),
  (130, ti (.struct [(0, 34), (12, 3)]) 13 152 [.p (.int .i64 0), .p (.lit (.slice none 0 0)), .p (.int .i64 0), .p (.int .i64 0), .p (.int .i64 0), .p (.int .i64 0), .p (.bool false), .p (.int .i64 0), .p (.int .i64 0), .p (.int .i64 0), .p (.lit (.slice none 0 0)), .p (.lit (.slice none 0 0)), .p (.int .i64 0)]),
  (131, ti (.struct [(0, 34), (12, 3)]) 13 152 [.p (.int .i64 0), .p (.lit (.slice none 0 0)), .p (.int .i64 0), .p (.int .i64 0), .p (.int .i64 0), .p (.int .i64 0), .p (.bool false), .p (.int .i64 0), .p (.int .i64 0), .p (.int .i64 0), .p (.lit (.slice none 0 0)), .p (.lit (.slice none 0 0)), .p (.int .i64 0)]),
  (132, oT),
  (133, oT),
  (134, oT),
  (135, oT),
  (136, oT),
  (137, ti (.arr 5 3) 5 40 [.arr U.int 5 (List.replicate 5 (Cd.dflt U.int))] (some U.arr5) [.int .i64, .int .i64, .int .i64, .int .i64, .int .i64]),
  (138, oT),
  (139, oT),
  (140, oT),
  (141, ti (.int .u64) 1 8 [.p (.int .u64 0)]),
  (142, oT),
  (143, pT 5)]
 | 9 => [(144, oT),
  (145, oT),
  (146, ti (.struct [(0, 3), (1, 3), (2, 145)]) 3 24 [.p (.int .i64 0), .p (.int .i64 0), .p (.lit .nilFunc)]),
  (147, ti (.struct [(0, 3), (1, 3), (2, 145)]) 3 24 [.p (.int .i64 0), .p (.int .i64 0), .p (.lit .nilFunc)]),
  (149, ti (.map .str 147) 1 8 [.p (.lit (.map none))]),
  (150, oT),
  (151, oT),
  (152, oT),
  (153, oT),
  (154, ti (.map (.int .i64) 153) 1 8 [.p (.lit (.map none))]),
  (155, oT),
  (156, oT),
  (157, oT),
  (158, oT),
  (159, oT)]
 | 10 => [(160, oT),
  (161, oT),
  (162, oT),
  (163, oT),
  (164, oT),
  (165, oT),
  (166, sT 35),
  (167, oT),
  (168, oT),
  (169, oT),
  (170, oT),
  (172, oT),
  (173, { kind := .arr 24 3, size := 24, bytes := 192, zero := [.arr U.int 24 (List.replicate 24 (Cd.dflt U.int))], code := none, cks := [.int .i64, .int .i64, .int .i64, .int .i64, .int .i64, .int .i64, .int .i64, .int .i64, .int .i64, .int .i64, .int .i64, .int .i64, .int .i64, .int .i64, .int .i64, .int .i64, .int .i64, .int .i64, .int .i64, .int .i64, .int .i64, .int .i64, .int .i64, .int .i64], seq := true }),
  (174, ti (.struct [(0, 3), (1, 3)]) 2 16 [.p (.int .i64 0), .p (.int .i64 0)]),
  (175, ti (.struct [(0, 3), (1, 3)]) 2 16 [.p (.int .i64 0), .p (.int .i64 0)] (some U.cell) [.int .i64, .int .i64])]
 | 11 => [(176, oT),
  (177, oT),
  (178, oT),
  (179, ti (.int .u32) 1 4 [.p (.int .u32 0)] (some U.u32)),
  (180, oT),
  (181, ti (.int .u64) 1 8 [.p (.int .u64 0)] (some U.u64)),
  (182, ti (.uptr) 1 8 [.p (.lit (.pointer none))]),
  (183, oT),
  (184, oT),
  (185, oT),
  (186, oT),
  (187, oT),
  (188, oT),
  (189, oT),
  (190, oT),
  (191, oT)]
 | 12 => [(192, oT),
  (193, oT),
  (194, oT),
  (195, oT),
  (196, oT),
  (197, { kind := .arr 24 5, size := 24, bytes := 24, zero := [.arr U.u8 24 (List.replicate 24 (Cd.dflt U.u8))], code := none, cks := [.int .u8, .int .u8, .int .u8, .int .u8, .int .u8, .int .u8, .int .u8, .int .u8, .int .u8, .int .u8, .int .u8, .int .u8, .int .u8, .int .u8, .int .u8, .int .u8, .int .u8, .int .u8, .int .u8, .int .u8, .int .u8, .int .u8, .int .u8, .int .u8], seq := true }),
  (198, oT),
  (200, oT),
  (201, { kind := .arr 32 5, size := 32, bytes := 32, zero := [.arr U.u8 32 (List.replicate 32 (Cd.dflt U.u8))], code := none, cks := [.int .u8, .int .u8, .int .u8, .int .u8, .int .u8, .int .u8, .int .u8, .int .u8, .int .u8, .int .u8, .int .u8, .int .u8, .int .u8, .int .u8, .int .u8, .int .u8, .int .u8, .int .u8, .int .u8, .int .u8, .int .u8, .int .u8, .int .u8, .int .u8, .int .u8, .int .u8, .int .u8, .int .u8, .int .u8, .int .u8, .int .u8, .int .u8], seq := true }),
  (202, { kind := .arr 64 5, size := 64, bytes := 64, zero := [.arr U.u8 64 (List.replicate 64 (Cd.dflt U.u8))], code := none, seq := true }),
  (203, oT),
  (205, oT),
  (206, oT),
  (207, ti (.int .i64) 1 8 [.p (.int .i64 0)])]
 | 13 => [(209, oT),
  (210, pT 233),
  (211, oT),
  (212, oT),
  (213, oT),
  (214, oT),
  (215, oT),
  (216, oT),
  (217, oT),
  (218, oT),
  (219, oT),
  (220, oT),
  (221, oT),
  (222, oT),
  (223, oT)]
 | 14 => [(224, oT),
  (225, oT),
  (226, oT),
  (227, { kind := .arr 20 181, size := 20, bytes := 160, zero := [.arr U.u64 20 (List.replicate 20 (Cd.dflt U.u64))], code := none, cks := [.int .u64, .int .u64, .int .u64, .int .u64, .int .u64, .int .u64, .int .u64, .int .u64, .int .u64, .int .u64, .int .u64, .int .u64, .int .u64, .int .u64, .int .u64, .int .u64, .int .u64, .int .u64, .int .u64, .int .u64], seq := true }),
  (228, { kind := .arr 65 5, size := 65, bytes := 65, zero := [.arr U.u8 65 (List.replicate 65 (Cd.dflt U.u8))], code := none, seq := true }),
  (230, oT),
  (231, oT),
  (232, ti (.struct [(0, 9), (1, 9), (2, 115)]) 3 48 [.p (.str []), .p (.str []), .p (.lit .nilIface)]),
  (233, ti (.struct [(0, 9), (1, 9), (2, 115)]) 3 48 [.p (.str []), .p (.str []), .p (.lit .nilIface)]),
  (234, oT),
  (235, oT),
  (236, oT),
  (237, sT 175),
  (238, oT),
  (239, { kind := .arr 256 5, size := 256, bytes := 256, zero := [.arr U.u8 256 (List.replicate 256 (Cd.dflt U.u8))], code := none, seq := true })]
 | 15 => [(240, ti (.struct [(0, 5), (1, 5)]) 2 2 [.p (.int .u8 0), .p (.int .u8 0)]),
  (241, ti (.struct [(0, 5), (1, 5)]) 2 2 [.p (.int .u8 0), .p (.int .u8 0)]),
  (242, ti (.arr 16 241) 32 32 [.p (.int .u8 0), .p (.int .u8 0), .p (.int .u8 0), .p (.int .u8 0), .p (.int .u8 0), .p (.int .u8 0), .p (.int .u8 0), .p (.int .u8 0), .p (.int .u8 0), .p (.int .u8 0), .p (.int .u8 0), .p (.int .u8 0), .p (.int .u8 0), .p (.int .u8 0), .p (.int .u8 0), .p (.int .u8 0), .p (.int .u8 0), .p (.int .u8 0), .p (.int .u8 0), .p (.int .u8 0), .p (.int .u8 0), .p (.int .u8 0), .p (.int .u8 0), .p (.int .u8 0), .p (.int .u8 0), .p (.int .u8 0), .p (.int .u8 0), .p (.int .u8 0), .p (.int .u8 0), .p (.int .u8 0), .p (.int .u8 0), .p (.int .u8 0)] (none) [.int .u8, .int .u8, .int .u8, .int .u8, .int .u8, .int .u8, .int .u8, .int .u8, .int .u8, .int .u8, .int .u8, .int .u8, .int .u8, .int .u8, .int .u8, .int .u8, .int .u8, .int .u8, .int .u8, .int .u8, .int .u8, .int .u8, .int .u8, .int .u8, .int .u8, .int .u8, .int .u8, .int .u8, .int .u8, .int .u8, .int .u8, .int .u8]),
  (244, oT),
  (245, oT),
  (246, pT 248),
  (247, ti (.struct [(0, 9)]) 1 16 [.p (.str [])]),
  (248, ti (.struct [(0, 9)]) 1 16 [.p (.str [])]),
  (249, oT),
  (250, oT),
  (251, oT),
  (252, ti (.int .i64) 1 8 [.p (.int .i64 0)]),
  (254, oT),
  (255, oT)]
 | 16 => [(256, oT),
  (257, oT),
  (258, ti (.int .u64) 1 8 [.p (.int .u64 0)]),
  (259, oT),
  (260, oT),
  (261, oT),
  (262, pT 3),
  (263, oT),
  (264, pT 258),
  (266, oT)]
 | 17 => [(272, oT),
  (275, oT)]
 | _ => []
def lkT : List (Nat × TI Cd) → Nat → Option (TI Cd)
 | [], _ => none
 | (n, i) :: l, t => match Nat.beq n t with
  | true => some i
  | false => lkT l t
theorem Qy : ∀ (l : List (Nat × TI Cd)) (t : Nat) (i : TI Cd), lkT l t = some i → (t, i) ∈ l
 | [], t, i, h => by simp [lkT] at h
 | (n, j) :: l, t, i, h => by
  simp only [lkT] at h;split at h
  ·rename_i hb;injection h with h;subst h;rw [Nat.eq_of_beq_eq_true hb];exact List.mem_cons_self ..
  ·exact List.mem_cons_of_mem _ (Qy l t i h)
def tab : Tab Cd := fun t => lkT (q8c (t / 16)) t
set_option maxRecDepth 100000 in
set_option maxHeartbeats 4000000 in
theorem q53 (c : Nat) : (q8c c).all (fun p => tyB Go.Proofs.Tryz.prog Dc p.1 p.2) = true := by
 unfold q8c;split <;> kernel_rfl
theorem aD : bZ Go.Proofs.Tryz.prog Dc tab := by
 intro t i h;have h1 := List.all_eq_true.1 (q53 (t / 16)) (t, i) (Qy (q8c (t / 16)) t i h);exact q89 h1
theorem mixed : Go.Proofs.Tryz.prog.follows .mixedOrders = true := by kernel_rfl
end Go.SX
namespace Go.SX
def inB (n low high : Int) : Bool := decide (low ≤ n) && decide (n ≤ high)
theorem aK (n low high : Int) : inB n low high = true ↔ low ≤ n ∧ n ≤ high := by simp [inB]
theorem Ul (n low high : Int) : inB n low high = false ↔ ¬ (low ≤ n ∧ n ≤ high) := by rw [← aK]; simp
def pW (r : Int) : Bool := inB r 0 281474976710655
def bE (rows : List Int) : Bool := decide ((rows.length : Int) = 24) && rows.all pW
def oU (g : aI) : aI :=
 if g.kind = 1 then ⟨g.kind, [], g.from_, g.to_, g.low, g.high, g.clear, 0, 0, 0, [], []⟩
 else if g.kind = 2 then ⟨g.kind, [], 0, 0, g.low, 0, false, 0, 0, g.within, [], []⟩
 else if g.kind = 3 then ⟨g.kind, [], g.from_, 0, 0, 0, false, g.days, g.times, g.within, [], []⟩
 else if g.kind = 4 then ⟨g.kind, [], 0, 0, 0, 0, false, 0, 0, g.within, [], []⟩
 else ⟨g.kind, [], 0, 0, 0, 0, false, 0, 0, 0, [], []⟩
def kC (a b : aI) : Bool := decide (a.kind = b.kind) && decide (a.from_ = b.from_ ∧ a.to_ = b.to_) && decide (a.low = b.low) && decide (a.high = b.high) && (a.clear == b.clear) && decide (a.days = b.days) && decide (a.times = b.times) && decide (a.within = b.within)
def vZ (g : aI) : Bool :=
 if g.kind = 1 then bE g.rows && g.rows.any (fun r => decide (r ≠ 0)) && inB g.from_ 0 1000000 && inB g.to_ (g.from_ + 1) 1000000 && inB g.low 0 90 && inB g.high g.low 90
 else if g.kind = 2 then inB g.low 1 8 && inB g.within 1 1000000
 else if g.kind = 3 then inB g.days 1 60 && inB g.times 1 6 && inB g.within 0 (1440 * g.days) && inB g.from_ 0 1000000
 else if g.kind = 4 then inB g.within 0 1000000
 else true
def dM (k : Int) : Int := if k = 2 ∨ k = 3 then 1 else if k = 4 then 3 else 6
def mY (g : aI) : Bool := if g.kind = 1 then decide ((g.kids.length : Int) = 0) else if g.kind = 5 ∨ g.kind = 6 then inB g.kids.length 2 4 else decide ((g.kids.length : Int) = 1)
def iB (g : aI) : Bool := if g.kind = 6 then decide ((g.cents.length : Int) = g.kids.length) && !g.cents.any (fun n => !inB n 0 1000000000) else decide ((g.cents.length : Int) = 0)
def eU (g : aI) : Bool := mY g && iB g && (decide (g.kind = 1) || decide ((g.rows.length : Int) = 0)) && !g.kids.any (fun k => decide (dM g.kind < k.kind))
def okB (g : aI) : Bool := inB g.kind 1 6 && kC g (oU g) && vZ g && eU g
mutual
def bQ : aI → Int → Option Int
 | ⟨kind, rows, from_, to_, low, high, clear, days, times, within, cents, kids⟩, d =>
  if decide (4 < d) || !okB ⟨kind, rows, from_, to_, low, high, clear, days, times, within, cents, kids⟩ then none else match sizeL kids (d + 1) with
   | none => none
   | some m => some (1 + m)
def sizeL : List aI → Int → Option Int
 | [], _ => some 0
 | k :: l, d => match bQ k d with
  | none => none
  | some m => match sizeL l d with
   | none => none
   | some n => some (m + n)
end
theorem fY (g : aI) (d : Int) : bQ g d = if decide (4 < d) || !okB g then none else match sizeL g.kids (d + 1) with | none => none | some m => some (1 + m) := by
 cases g; rw [bQ]
def cF (g : aI) : Bool := match bQ g 1 with
 | none => false
 | some n => decide (n ≤ 12)
def wU (f t : Int) : Bool := inB f 0 1000000 && inB t 0 1000000 && decide (f < t)
def Td (g : aI) (most : Int) : Bool := decide ((g.kids.length : Int) = 1) && inB (g.kids.getD 0 (U.dflt .goal)).kind 1 most
def kB (g own : aI) (a c : Bool) : Bool := decide (g.from_ = own.from_ ∧ g.to_ = own.to_) && decide (g.low = own.low) && decide (g.high = own.high) && (g.clear == own.clear) && decide (g.days = own.days) && decide (g.times = own.times) && decide (g.within = own.within) &&
 (a || decide ((g.rows.length : Int) = 0)) && (c || decide ((g.cents.length : Int) = 0))
def lF (g : aI) : Bool :=
 if g.kind = 1 then kB g ⟨0, [], g.from_, g.to_, g.low, g.high, g.clear, 0, 0, 0, [], []⟩ true false && decide ((g.kids.length : Int) = 0) && bE g.rows && g.rows.any (fun r => decide (r ≠ 0)) && wU g.from_ g.to_ && inB g.low 0 90 && inB g.high g.low 90
 else if g.kind = 2 then kB g ⟨0, [], 0, 0, g.low, 0, false, 0, 0, g.within, [], []⟩ false false && Td g 1 && inB g.low 1 8 && inB g.within 1 1000000
 else if g.kind = 3 then kB g ⟨0, [], g.from_, 0, 0, 0, false, g.days, g.times, g.within, [], []⟩ false false && Td g 1 && inB g.days 1 60 && inB g.times 1 6 && inB g.within 0 (1440 * g.days) && inB g.from_ 0 1000000
 else if g.kind = 4 then kB g ⟨0, [], 0, 0, 0, 0, false, 0, 0, g.within, [], []⟩ false false && Td g 3 && inB g.within 0 1000000
 else if g.kind = 5 then kB g ⟨0, [], 0, 0, 0, 0, false, 0, 0, 0, [], []⟩ false false && inB g.kids.length 2 4
 else if g.kind = 6 then g.cents.all (fun n => inB n 0 1000000000) && kB g ⟨0, [], 0, 0, 0, 0, false, 0, 0, 0, [], []⟩ false true && inB g.kids.length 2 4 && decide ((g.cents.length : Int) = g.kids.length)
 else false
mutual
def Aw : aI → Int → Int
 | ⟨kind, rows, from_, to_, low, high, clear, days, times, within, cents, kids⟩, d =>
  if decide (4 < d) || !lF ⟨kind, rows, from_, to_, low, high, clear, days, times, within, cents, kids⟩ then 13 else cntL kids (d + 1) 1
def cntL : List aI → Int → Int → Int
 | [], _, n => n
 | k :: l, d, n => if n ≤ 12 then cntL l d (n + Aw k d) else n
end
theorem B9 (g : aI) (d : Int) : Aw g d = if decide (4 < d) || !lF g then 13 else cntL g.kids (d + 1) 1 := by
 cases g; rw [Aw]
theorem Ol (g : aI) (h : lF g = true) : okB g = true ∨ ∃ k ∈ g.kids, 6 < k.kind := by
 by_cases hk : g.kids.any (fun k => decide (6 < k.kind)) = true
 ·right;obtain ⟨k, h1, h2⟩ := List.any_eq_true.1 hk;exact ⟨k, h1, of_decide_eq_true h2⟩
 ·left;have hw : ∀ q : Int, (∀ k ∈ g.kids, k.kind ≤ q) → g.kids.any (fun k => decide (q < k.kind)) = false := by
   intro q hq;rw [List.any_eq_false];intro k hk;simpa using hq k hk
  have h6 : ∀ k ∈ g.kids, k.kind ≤ 6 := by
   intro k hm
   by_cases h6 : 6 < k.kind
   ·exact absurd (List.any_eq_true.2 ⟨k, hm, by simpa using h6⟩) hk
   ·omega
  have hone : ∀ q : Int, Td g q = true → (g.kids.length : Int) = 1 ∧ ∀ k ∈ g.kids, k.kind ≤ q := by
   intro q hq;simp only [Td, Bool.and_eq_true, decide_eq_true_eq, aK] at hq;obtain ⟨h1, h2⟩ := hq;refine ⟨h1, fun k hk => ?_⟩
   match hkk : g.kids with
   | [] => rw [hkk] at hk; cases hk
   | [x] => rw [hkk] at hk h2; simp at hk; subst hk; exact h2.2
   | _ :: _ :: _ => rw [hkk] at h1; simp at h1; omega
  unfold lF at h;unfold okB kC oU vZ eU mY iB dM;split at h
  ·rename_i e;simp only [kB, wU, Bool.and_eq_true, Bool.or_eq_true, decide_eq_true_eq, aK, beq_iff_eq, e] at h;have := hw 6 h6;simp [e, aK, this];simp at h
   grind
  ·split at h
   ·rename_i e;simp only [kB, Bool.and_eq_true, Bool.or_eq_true, decide_eq_true_eq, aK, beq_iff_eq] at h;have h1 := hone 1 h.1.1.2;have := hw 1 h1.2;simp [e, aK, this];simp at h
    grind
   ·split at h
    ·rename_i e;simp only [kB, Bool.and_eq_true, Bool.or_eq_true, decide_eq_true_eq, aK, beq_iff_eq] at h;have h1 := hone 1 h.1.1.1.1.2;have := hw 1 h1.2;simp [e, aK, this];simp at h
     grind
    ·split at h
     ·rename_i e;simp only [kB, Bool.and_eq_true, Bool.or_eq_true, decide_eq_true_eq, aK, beq_iff_eq] at h;have h1 := hone 3 h.1.2;have := hw 3 h1.2;simp [e, aK, this];simp at h
      grind
     ·split at h
      ·rename_i e;simp only [kB, Bool.and_eq_true, Bool.or_eq_true, decide_eq_true_eq, aK, beq_iff_eq] at h;have := hw 6 h6;simp [e, aK, this];simp at h
       grind
      ·split at h
       ·rename_i e;simp only [kB, Bool.and_eq_true, Bool.or_eq_true, decide_eq_true_eq, aK, beq_iff_eq] at h;have := hw 6 h6;simp [e, aK, this];simp [aK] at h
        grind
       ·cases h
theorem Pe (g : aI) (h : okB g = true) : lF g = true ∨ ∃ k ∈ g.kids, k.kind < 1 := by
 by_cases hk : g.kids.any (fun k => decide (k.kind < 1)) = true
 ·right;obtain ⟨k, h1, h2⟩ := List.any_eq_true.1 hk;exact ⟨k, h1, of_decide_eq_true h2⟩
 ·left;have h1 : ∀ k ∈ g.kids, 1 ≤ k.kind := by
   intro k hm
   by_cases h6 : k.kind < 1
   ·exact absurd (List.any_eq_true.2 ⟨k, hm, by simpa using h6⟩) hk
   ·omega
  have hone : ∀ q : Int, (g.kids.length : Int) = 1 → g.kids.any (fun k => decide (q < k.kind)) = false → Td g q = true := by
   intro q hl hq;rw [List.any_eq_false] at hq;simp only [Td, Bool.and_eq_true, decide_eq_true_eq, aK];refine ⟨hl, ?_⟩
   match hkk : g.kids with
   | [] => rw [hkk] at hl; simp at hl
   | [x] =>
    rw [hkk] at hq h1;have a := hq x (by simp);have b := h1 x (by simp);simp at a;exact ⟨b, a⟩
   | _ :: _ :: _ => rw [hkk] at hl; simp at hl; omega
  unfold okB eU mY iB at h;simp only [Bool.and_eq_true, Bool.not_eq_true', aK] at h;obtain ⟨⟨⟨⟨ha, hb⟩, hp⟩, hl⟩, ⟨⟨hm, hc⟩, hr⟩, hw⟩ := h;have hkk : g.kind = 1 ∨ g.kind = 2 ∨ g.kind = 3 ∨ g.kind = 4 ∨ g.kind = 5 ∨ g.kind = 6 := by omega
  have ho := fun q => hone q;clear hone;rcases hkk with e | e | e | e | e | e <;> simp only [kC, oU, vZ, dM, e, Bool.and_eq_true, decide_eq_true_eq, beq_iff_eq, aK] at hp hl hm hc hr hw <;> simp only [lF, kB, wU, e, Bool.and_eq_true, decide_eq_true_eq, beq_iff_eq, aK]
  ·simp [aK] at hp hl hm hc hr hw ⊢
   grind
  ·have := ho 1 (by simpa using hm) (by simpa using hw);simp at hp hl hm hc hr hw ⊢
   grind
  ·have := ho 1 (by simpa using hm) (by simpa using hw);simp at hp hl hm hc hr hw ⊢
   grind
  ·have := ho 3 (by simpa using hm) (by simpa using hw);simp at hp hl hm hc hr hw ⊢
   grind
  ·simp at hp hl hm hc hr hw ⊢
   grind
  ·simp [aK] at hp hl hm hc hr hw ⊢
   grind
theorem Lw : ∀ (l : List aI) (d n : Int), 12 < n → cntL l d n = n
 | [], d, n, h => by rw [cntL]
 | k :: l, d, n, h => by rw [cntL, if_neg (by omega)]
mutual
theorem uM : ∀ (g : aI) (d : Int), 1 ≤ Aw g d
 | ⟨kind, rows, from_, to_, low, high, clear, days, times, within, cents, kids⟩, d => by
  rw [Aw];split
  ·omega
  ·exact cntL_pos kids (d + 1) 1 (by omega)
theorem cntL_pos : ∀ (l : List aI) (d n : Int), 1 ≤ n → n ≤ cntL l d n
 | [], d, n, h => by rw [cntL]; omega
 | k :: l, d, n, h => by
  rw [cntL];split
  ·have h1 := uM k d;have h2 := cntL_pos l d (n + Aw k d) (by omega);omega
  ·omega
end
theorem Jl : ∀ (l : List aI) (d n : Int), 1 ≤ n → (∃ k ∈ l, 12 < Aw k d) → 12 < cntL l d n
 | [], d, n, h, ⟨k, hk, _⟩ => by cases hk
 | k :: l, d, n, h, ⟨x, hx, hb⟩ => by
  rw [cntL];split
  ·have h1 := uM k d;rcases List.mem_cons.1 hx with rfl | hx
   ·have := cntL_pos l d (n + Aw x d) (by omega);omega
   ·exact Jl l d _ (by omega) ⟨x, hx, hb⟩
  ·omega
theorem uZ : ∀ (l : List aI) (d : Int), (∃ k ∈ l, bQ k d = none) → sizeL l d = none
 | [], d, ⟨k, hk, _⟩ => by cases hk
 | k :: l, d, ⟨x, hx, hb⟩ => by
  rw [sizeL];rcases List.mem_cons.1 hx with rfl | hx
  ·rw [hb]
  ·cases bQ k d with
   | none => rfl
   | some m => simp only; rw [uZ l d ⟨x, hx, hb⟩]
mutual
theorem V9 : ∀ (g : aI) (d : Int), match bQ g d with
  | some n => 1 ≤ n ∧ (n ≤ 12 → Aw g d = n) ∧ (12 < n → 12 < Aw g d)
  | none => 12 < Aw g d
 | ⟨kind, rows, from_, to_, low, high, clear, days, times, within, cents, kids⟩, d => by
  have hL := size_cntL kids (d + 1) 1 (by omega);generalize hg : (⟨kind, rows, from_, to_, low, high, clear, days, times, within, cents, kids⟩ : aI) = g;have hkids : g.kids = kids := by rw [← hg]
  rw [fY, B9, hkids]
  by_cases hd : 4 < d
  ·simp [hd]
  ·simp only [hd, decide_false, Bool.false_or];cases hok : okB g with
   | false =>
    simp only [Bool.not_false, if_true];cases hkd : lF g with
    | false => simp
    | true =>
     simp only [Bool.not_true];rcases Ol g hkd with h | ⟨k, hk, hb⟩
     ·rw [h] at hok; cases hok
     ·refine Jl kids _ _ (by omega) ⟨k, hkids ▸ hk, ?_⟩;rw [B9];have : lF k = false := by unfold lF; rw [if_neg (by omega), if_neg (by omega), if_neg (by omega), if_neg (by omega), if_neg (by omega), if_neg (by omega)]
      simp [this]
   | true =>
    simp only [Bool.not_true];cases hkd : lF g with
    | false =>
     rcases Pe g hok with h | ⟨k, hk, hb⟩
     ·rw [h] at hkd; cases hkd
     ·have : sizeL kids (d + 1) = none := by
       refine uZ kids _ ⟨k, hkids ▸ hk, ?_⟩;rw [fY];have : okB k = false := by simp [okB, inB]; intro h; omega
       simp [this]
      rw [this];simp
    | true =>
     simp only [Bool.not_true];cases hs : sizeL kids (d + 1) with
     | none => rw [hs] at hL; simpa using hL
     | some m => rw [hs] at hL; simp only at hL ⊢; exact ⟨by omega, hL.2.1, hL.2.2⟩
theorem size_cntL : ∀ (l : List aI) (d n : Int), 1 ≤ n → match sizeL l d with
  | some m => 0 ≤ m ∧ (n + m ≤ 12 → cntL l d n = n + m) ∧ (12 < n + m → 12 < cntL l d n)
  | none => 12 < cntL l d n
 | [], d, n, h => by rw [sizeL, cntL]; simp
 | k :: l, d, n, h => by
  have h1 := V9 k d;have h2 := size_cntL l d (n + Aw k d) (by have := uM k d; omega);rw [sizeL, cntL];have h3 := cntL_pos l d (n + Aw k d) (by have := uM k d; omega);cases hk : bQ k d with
  | none =>
   rw [hk] at h1;simp only at h1 ⊢;split <;> omega
  | some m =>
   rw [hk] at h1;simp only at h1 ⊢;cases hl : sizeL l d with
   | none =>
    rw [hl] at h2;simp only at h2 ⊢;split <;> omega
   | some q =>
    rw [hl] at h2;simp only at h2 ⊢
    by_cases hn : n ≤ 12
    ·rw [if_pos hn]
     by_cases hm : m ≤ 12
     ·rw [h1.2.1 hm] at h2 h3 ⊢;refine ⟨by omega, fun h => by rw [h2.2.1 (by omega)]; omega, fun h => h2.2.2 (by omega)⟩
     ·have := h1.2.2 (by omega);refine ⟨by omega, fun h => by omega, fun h => by omega⟩
    ·rw [if_neg hn];exact ⟨by omega, fun h => by omega, fun h => by omega⟩
end
theorem Sm (g : aI) : cF g = decide (Aw g 1 ≤ 12) := by
 have h := V9 g 1;unfold cF;cases hs : bQ g 1 with
 | none => rw [hs] at h; simp only at h ⊢; symm; simpa using h
 | some n =>
  rw [hs] at h;simp only at h ⊢
  by_cases hn : n ≤ 12
  ·rw [h.2.1 hn]
  ·have := h.2.2 (by omega);rw [decide_eq_false hn, decide_eq_false (by omega)]
end Go.SX
namespace Go.SX
open Go.Proofs
set_option maxHeartbeats 400000000
set_option maxRecDepth 100000
@[reducible] def iS (n : Int) : SV Cd := .p (.int .i64 n)
@[reducible] def bS (b : Bool) : SV Cd := .p (.bool b)
@[reducible] def lS (l : List Int) : SV Cd := .p (.dsl U.int l)
@[reducible] def sG (rows : List Int) : SV Cd := .agg [.p (.dsl U.int rows)]
@[reducible] def aM (g : aI) : SV Cd := .agg [.p (.int .i64 g.kind), .p (.dsl U.int g.rows), .p (.int .i64 g.from_), .p (.int .i64 g.to_), .p (.int .i64 g.low), .p (.int .i64 g.high), .p (.bool g.clear), .p (.int .i64 g.days), .p (.int .i64 g.times), .p (.int .i64 g.within), .p (.dsl U.int g.cents), .p (.dsl U.goal g.kids)]
@[reducible] def evA (e : aB) : SV Cd := .agg [.p (.int .i64 e.kind), .p (.int .i64 e.at_), .p (.int .i64 e.image), .p (.dsl U.int e.rows), .p (.int .i64 e.sun), .p (.int .i64 e.look), .p (.bool e.clear)]
theorem oin (n low high : Int) : aF Tryz.prog Dc 45 [.p (.int .i64 n), .p (.int .i64 low), .p (.int .i64 high)] [] (.p (.bool (inB n low high))) [] := by
 refine aA Ax aD Tryz.func45 (c := _) rfl Tryz.call45 60 ?_
 (repeat' ((conv => whnf); first | refine x0C (eB ?_ rfl) | refine spC (fun hb => ?_) fun hb => ?_))
 all_goals (first | (simp_all [inB]; done) | (simp_all [inB]; omega) | (simp_all [inB]; grind))
theorem tin (n low high : Int) : aF Tryz.prog Dc 33 [.p (.int .i64 n), .p (.int .i64 low), .p (.int .i64 high)] [] (.p (.bool (inB n low high))) [] := by
 refine aA Ax aD Tryz.func33 (c := _) rfl Tryz.call33 60 ?_
 (repeat' ((conv => whnf); first | refine x0C (eB ?_ rfl) | refine spC (fun hb => ?_) fun hb => ?_))
 all_goals (first | (simp_all [inB]; done) | (simp_all [inB]; omega) | (simp_all [inB]; grind))
theorem gin (n low high : Int) : aF Tryz.prog Dc 105 [.p (.int .i64 n), .p (.int .i64 low), .p (.int .i64 high)] [] (.p (.bool (inB n low high))) [] := by
 refine aA Ax aD Tryz.func105 (c := _) rfl Tryz.call105 60 ?_
 (repeat' ((conv => whnf); first | refine x0C (eB ?_ rfl) | refine spC (fun hb => ?_) fun hb => ?_))
 all_goals (first | (simp_all [inB]; done) | (simp_all [inB]; omega) | (simp_all [inB]; grind))
theorem Kl (n low high : Int) : aF Tryz.prog Dc 177 [.p (.int .i64 n), .p (.int .i64 low), .p (.int .i64 high)] [] (.p (.bool (inB n low high))) [] := by
 refine aA Ax aD Tryz.func177 (c := _) rfl Tryz.call177 60 ?_
 (repeat' ((conv => whnf); first | refine x0C (eB ?_ rfl) | refine spC (fun hb => ?_) fun hb => ?_))
 all_goals (first | (simp_all [inB]; done) | (simp_all [inB]; omega) | (simp_all [inB]; grind))
theorem q8d (n low high : Int) : aF Tryz.prog Dc 147 [.p (.int .i64 n), .p (.int .i64 low), .p (.int .i64 high)] [] (.p (.bool (inB n low high))) [] := by
 refine aA Ax aD Tryz.func147 (c := _) rfl Tryz.call147 60 ?_
 (repeat' ((conv => whnf); first | refine x0C (eB ?_ rfl) | refine spC (fun hb => ?_) fun hb => ?_))
 all_goals (first | (simp_all [inB]; done) | (simp_all [inB]; omega) | (simp_all [inB]; grind))
theorem iQ (k : Int) : aF Tryz.prog Dc 83 [.p (.int .i64 k)] [] (.p (.int .i64 (dM k))) [] := by
 refine aA Ax aD Tryz.func83 (c := _) rfl Tryz.call83 60 ?_
 (repeat' ((conv => whnf); first | (exfalso; omega) | refine x0C (eI ?_ rfl) | refine spC (fun hb => ?_) fun hb => ?_))
 all_goals (simp_all [dM]; done)
theorem Hj (a b : aI) : aF Tryz.prog Dc 85 [aM a, aM b] [] (.p (.bool (kC a b))) [] := by
 refine aA Ax aD Tryz.func85 (c := _) rfl Tryz.call85 200 ?_
 (repeat' ((conv => whnf); first | refine x0C (eB ?_ rfl) | refine spC (fun hb => ?_) fun hb => ?_))
 all_goals (simp_all [kC]; done)
theorem Oy (g : aI) : aF Tryz.prog Dc 86 [aM g] [] (aM (oU g)) [] := by
 unfold oU;refine aA Ax aD Tryz.func86 (c := _) rfl Tryz.call86 300 ?_
 (repeat' ((conv => whnf); first | refine x0C ?_ | refine spC (fun hb => ?_) fun hb => ?_ | refine taC ?_ | refine aE mixed ?_))
 all_goals (simp only [*, if_true, if_false]; exact vwV)
end Go.SX
namespace Go.SX
def Oq {α : Type} (p : α → Bool) (xs : List α) : Int := match xs.findIdx? p with
 | some i => i
 | none => -1
theorem yE {α : Type} {p : α → Bool} {xs : List α} {i : Nat} {x : α} (h1 : xs[i]? = some x) (h2 : p x = true) (h3 : (xs.take i).any p = false) : Oq p xs = i := by
 have : xs.findIdx? p = some i := by
  rw [List.findIdx?_eq_some_iff_getElem];obtain ⟨hi, hx⟩ := List.getElem?_eq_some_iff.1 h1;refine ⟨hi, by rw [hx]; exact h2, fun j hj => ?_⟩;rw [List.any_eq_false] at h3;exact h3 _ (List.mem_iff_getElem.2 ⟨j, by simp; omega, by simp⟩)
 unfold Oq; rw [this]
theorem mL {α : Type} {p : α → Bool} {xs : List α} (h : xs.any p = false) : Oq p xs = -1 := by
 have : xs.findIdx? p = none := by
  rw [List.findIdx?_eq_none_iff];rw [List.any_eq_false] at h;intro x hx; simpa using h x hx
 unfold Oq; rw [this]
theorem nU {α : Type} (p : α → Bool) (xs : List α) : decide (0 ≤ Oq p xs) = xs.any p := by
 cases h : xs.any p with
 | false => rw [mL h]; rfl
 | true =>
  have : ∃ i, xs.findIdx? p = some i := by
   cases hf : xs.findIdx? p with
   | some i => exact ⟨i, rfl⟩
   | none =>
    rw [List.findIdx?_eq_none_iff] at hf;obtain ⟨x, hx, hp⟩ := List.any_eq_true.1 h;rw [hf x hx] at hp; cases hp
  obtain ⟨i, hi⟩ := this;unfold Oq; rw [hi]; simp
theorem iA {α : Type} {p : α → Bool} {xs : List α} {i : Nat} {x : α} (h1 : xs[i]? = some x) (h2 : p x = false) (h3 : (xs.take i).any p = false) : (xs.take (i + 1)).any p = false := by
 rw [List.take_add_one, h1];simp [List.any_append, h3, h2]
theorem jG {α : Type} {p : α → Bool} {xs : List α} {i : Nat} (hi : xs.length ≤ i) (h : (xs.take i).any p = false) : xs.any p = false := by
 rwa [List.take_of_length_le hi] at h
def Ly : List Int → Int → List Int
 | [], n => [n]
 | a :: l, n => if a < n then a :: Ly l n else if a = n then a :: l else n :: a :: l
def Ew (l : List Int) : List Int := l.foldl Ly []
def Db (a b : List Int) : Bool := bE a && bE b && (List.range 24).all fun y => decide ((b.getD y 0).toNat &&& (2 ^ 48 - ((a.getD y 0).toNat + 1)) = 0)
def J8 (g : aI) (e : aB) : Bool := decide (e.kind = 1) && decide (g.from_ ≤ e.at_) && decide (e.at_ < g.to_) && inB e.sun g.low g.high && (e.clear || !g.clear) && Db e.rows g.rows
def iJ (g : aI) (l : List aB) : List aB := l.filter (J8 g)
def fI (e : aB) : Bool := inB e.at_ 0 1000000 && inB e.image 0 999 && (if e.kind = 1 then inB e.sun (-90) 90 && inB e.look (-4) 4 && bE e.rows else if e.kind = 2 then decide ((e.rows.length : Int) = 0) && decide (e.sun = 0) && decide (e.look = 0) && !e.clear else false)
def eN (a b : aB) : Bool := decide (a.at_ < b.at_) || decide (a.at_ = b.at_) && (decide (a.kind < b.kind) || decide (a.kind = b.kind) && decide (a.image < b.image))
def Xc (a b : Int) : Int := max (a - b) (b - a)
def bY (g : aI) (a b : aB) : Bool := inB (b.at_ - a.at_) g.within (1440 * g.days)
def nW (g : aI) (a : aB) : Bool := decide (a.at_ ≤ g.from_ + 1440 * g.days)
def cV (g : aI) : List aB → List Int
 | [] => []
 | a :: l => ((l.zip (cV g l)).foldl (fun m p => if bY g a p.1 then max m (1 + p.2) else m) 1) :: cV g l
def C1 (g : aI) : List aB → Int → Option aB → Option (List Int)
 | l, need, last => if need = 0 then some [] else match l with
  | [] => none
  | a :: l' => if decide (need ≤ (cV g (a :: l')).headD 0) && (match last with | none => nW g a | some b => bY g b a) then (match C1 g l' (need - 1) (some a) with | some r => some (a.image :: r) | none => none) else C1 g l' need last
termination_by l => l.length
def Sr (l : List aB) (e : aB) (within : Int) : Bool := l.any fun d => decide (d.kind = 2) && decide (d.image = e.image) && inB (d.at_ - e.at_) 0 within
def xX (l : List aB) (within : Int) : List aB := l.filter fun e => !(decide (e.kind = 1) && !Sr l e within)
def Y3 (g : aI) : List aB → Option (aB × aB)
 | [] => none
 | a :: l => match l.find? (fun b => decide (g.low ≤ Xc a.look b.look) && decide (Xc a.at_ b.at_ ≤ g.within)) with
  | some b => some (a, b)
  | none => Y3 g l
end Go.SX
