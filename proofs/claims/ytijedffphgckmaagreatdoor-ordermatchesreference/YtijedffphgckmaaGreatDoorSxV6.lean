/-
  SX, part V6: calls of functions that only read: what the caller owns is seen as persistent for the while.
-/
import Derived.Test.YtijedffphgckmaaGreatDoorSxV2
import Derived.Lib.MakeNoZero
import Derived.Laws.Externs
import Derived.KernelRfl
import Derived.Test.YtijedffphgckmaaGreatDoorSxP
import Derived.Test.YtijedffphgckmaaGreatDoorProg
set_option linter.unusedVariables false
set_option linter.unusedSimpArgs false
namespace Go.SX
open Go.RowKit
variable {C : Cod}
mutual
def q4g : SV C → Bool
 | .p (.int _ _) => true
 | .p (.bool _) => true
 | .p (.str _) => true
 | .tuple l => plainL l
 | .agg l => plainL l
 | _ => false
def plainL : List (SV C) → Bool
 | [] => true
 | x :: l => q4g x && plainL l
end
section
variable {P : Program} {D : q09 C} {A : Aux C D} {tab : Tab C} {X : Ctx C} {R : q61 C} {k : List (It C)} {T : List (SV C)} {Hp : List (HS C)}
mutual
theorem qa7 {w w' : World} {E E' : Env} : ∀ (x : SV C) (v : Value), q4g x = true → Den D w E x v → Den D w' E' x v
 | .p (.int k n), v, _, h => by simp only [Den] at *; cases h; exact .int _ _
 | .p (.bool b), v, _, h => by simp only [Den] at *; cases h; exact .bool _
 | .p (.str l), v, _, h => by simp only [Den] at *; cases h; exact .str _
 | .tuple l, v, hp, h => by
  simp only [q4g] at hp
  simp only [Den] at *
  obtain ⟨xs, h1, h2⟩ := h
  exact ⟨xs, h1, plainL_denA l _ hp h2⟩
 | .agg l, v, hp, h => by
  simp only [q4g] at hp
  simp only [Den] at *
  obtain ⟨xs, h1, h2⟩ := h
  exact ⟨xs, h1, plainL_denC l _ hp h2⟩
 | .p (.lit _), v, hp, h => by simp [q4g] at hp
 | .p (.dsl _ _), v, hp, h => by simp [q4g] at hp
 | .p (.fds _ _), v, hp, h => by simp [q4g] at hp
 | .any, v, hp, h => by simp [q4g] at hp
 | .ptr _ _, v, hp, h => by simp [q4g] at hp
 | .eptr _ _ _ _ _, v, hp, h => by simp [q4g] at hp
 | .dptr _ _, v, hp, h => by simp [q4g] at hp
 | .slice _ _ _ _ _, v, hp, h => by simp [q4g] at hp
 | .arr _ _ _, v, hp, h => by simp [q4g] at hp
 | .fn _ _ _, v, hp, h => by simp [q4g] at hp
 | .iface _ _, v, hp, h => by simp [q4g] at hp
 | .yieldv _, v, hp, h => by simp [q4g] at hp
 | .mapp _, v, hp, h => by simp [q4g] at hp
theorem plainL_denA {w w' : World} {E E' : Env} : ∀ (l : List (SV C)) (vs : List Value), plainL l = true → DenA D w E l vs → DenA D w' E' l vs
 | [], vs, _, h => by simp only [DenA] at *; exact h
 | x :: l, vs, hp, h => by
  simp only [plainL, Bool.and_eq_true] at hp
  simp only [DenA] at *
  obtain ⟨v, v2, h1, h2, h3⟩ := h
  exact ⟨v, v2, h1, qa7 x v hp.1 h2, plainL_denA l v2 hp.2 h3⟩
theorem plainL_denC {w w' : World} {E E' : Env} : ∀ (l : List (SV C)) (vs : List Value), plainL l = true → DenC D w E l vs → DenC D w' E' l vs
 | [], vs, _, h => by simp only [DenC] at *; exact h
 | x :: l, vs, hp, h => by
  simp only [plainL, Bool.and_eq_true] at hp
  have hx : x.isArr = false := by cases x <;> first | rfl | simp [q4g] at hp
  rw [q1s hx] at *
  obtain ⟨v, v2, h1, h2, h3, h4⟩ := h
  exact ⟨v, v2, h1, h2, qa7 x v hp.1 h3, plainL_denC l v2 hp.2 h4⟩
end
theorem y3i {x : Option Nat} {c : Nat} (h : x = none) : x ≠ some c := by rw [h]; simp
theorem y64 {x : Option Nat} {a c : Nat} (h : x = some a) (hn : a ≠ c) : x ≠ some c := by rw [h]; simpa using hn
structure y6d (Hp : List (HS C)) (θ : List (Option Nat)) (l m : List (SV C)) : Prop where
 h : ViewL Hp θ l m
theorem zf1 {f : FuncId} {args args' : List (SV C)} {ret : SV C} {dst : Option Nat} {all rest : List Oper} (hM : q07 P D f args' [] ret []) (hv : y6d Hp [] args args') (hp : q4g ret = true)
  (h : q33 T dst ret fun T' => R (.ops all rest :: k) T' Hp) : q8r P D X R f args dst all rest k T Hp := by
 rw [q1u] at h
 refine q8r.of (fun ret' Hp' => ret' = ret ∧ Hp' = Hp) ⟨.inl ⟨hM.enter, fun B σ df a w E _ hR vs hd => ?_⟩⟩ ?_
 ·let B0 : q3b := ⟨w, { F := E.F, β := fun _ => .fresh }, fun _ => True, 0, fun _ _ => rfl, [], false⟩
  have hf0 : Fr B0 E w := ⟨rfl, rfl, rfl, Nat.le_refl _, fun b _ ho => absurd trivial ho, ⟨fun b hb => ⟨hb, rfl⟩, fun c => .inr (.inr rfl), fun c b e => by cases e⟩, fun b _ => .inr (.inl trivial), fun c b _ => .inl trivial⟩
  obtain ⟨g1, g2, g3⟩ := q59 hR.sat hf0 (θ := []) (Hp' := []) ⟨trivial, rfl, rfl⟩
  have hd' := view_denA hR.sat g1 args args' vs hv.h hd
  refine (hM.calls w (E.view [] []) (fun c _ => rfl) vs g2 hd').mono ?_
  rintro e w' ⟨v, E', rfl, hv', _, hfr⟩
  have hsame : ∀ b, b < w.heap.size → w'.heap[b]? = w.heap[b]? := fun b hb => hfr.same b hb (by rintro ⟨c, hc⟩; cases hc)
  have hL := q3a.same hsame hR.sat.F
  exact ⟨v, E, ret, Hp, rfl, qa7 ret v hp hv', hR.later hL (hR.sat.same hsame hfr.size) (hR.fr.on hR.sat.F hsame hfr.size hfr.os hfr.tape hfr.output), rfl, rfl⟩
 ·rintro ret' Hp' ⟨rfl, rfl⟩; exact h
def qa5 : List (Option Nat) → (List (Option Nat) → Prop) → Prop
 | [], K => K []
 | none :: l, K => qa5 l fun m => K (none :: m)
 | some n :: l, K => zd5 n fun n => qa5 l fun m => K (some n :: m)
theorem q5f : ∀ (l : List (Option Nat)) (K : List (Option Nat) → Prop), qa5 l K = K l
 | [], _ => rfl
 | none :: l, K => by simp only [qa5, q5f l]
 | some n :: l, K => by simp only [qa5, q9j, q5f l]
def yd3 : List (HS C) → Nat → List (Option Nat)
 | [], _ => []
 | _ :: l, k => some k :: yd3 l (k + 1)
theorem y56 {m0 : Nat} {T T' : List (SV C)} {Hp Hp' : List (HS C)} {args args' : List (SV C)} (θ : List (Option Nat)) (hT : ViewL Hp θ T T') (ha : ViewL Hp θ args args') (hv : qf9 Hp θ Hp' m0) : y0a D m0 T Hp args T' Hp' args' := by
 rintro B E df a w rfl hR hsz
 obtain ⟨h1, h2, h3⟩ := q59 hR.sat hR.fr hv
 have hlen : ∀ (l m : List (SV C)), ViewL Hp θ l m → l.length = m.length := by
  intro l
  induction l with
  | nil => intro m h; cases m with
   | nil => rfl
   | cons y m => simp [ViewL] at h
  | cons x l ih => intro m h; cases m with
   | nil => simp [ViewL] at h
   | cons y m => simp only [ViewL] at h; simp [ih m h.2]
 have hget : ∀ (l m : List (SV C)) (i : Nat) (v : Value), ViewL Hp θ l m → Den D w E (q1x l i) v → Den D w (E.view θ Hp') (q1x m i) v := by
  intro l
  induction l with
  | nil => intro m i v h _; cases m with
   | nil => trivial
   | cons y m => simp [ViewL] at h
  | cons x l ih => intro m i v h hd; cases m with
   | nil => simp [ViewL] at h
   | cons y m =>
    simp only [ViewL] at h
    cases i with
    | zero => exact q7i hR.sat h1 x y v h.1 hd
    | succ i => exact ih m i v h.2 hd
 exact ⟨_, ⟨fun i => hget T T' i _ hT (hR.den i), h2, h3, hR.defers, hR.marks.mono fun b hb => ⟨h1.F b hb, rfl⟩⟩, by rw [hsz, hlen T T' hT], fun vs hd => view_denA hR.sat h1 args args' vs ha hd⟩
theorem q52 {p X Y : Prop} (h1 : p → X) (h2 : Y) : yd4 p X Y := ⟨h1, h2⟩
theorem q86 {q : Option (Option (Nat × Value))} {Y : Option (Nat × Value) → Prop} {r : Option (Nat × Value)} (h1 : q = some r) (h2 : Y r) : yc0 q Y := ⟨r, h1, h2⟩
theorem y8r {op : Op} {vals : List (SV C)} {hs : List (Nat × HS C)} {dst : Option Nat} {all rest : List Oper} (θ : List (Option Nat)) (us : List (Nat × SV C)) (cs : List (Nat × HS C)) (hb : zy2 X.m0 θ T Hp (qm7 T us) (q47 Hp cs))
  (h : q3c (qm7 T us) fun T1 => q49 Hp cs fun Hp1 => q3c (q1c T1 (q0i op)) fun vals => qd8 Hp1 0 fun m => qc9 P D X R False dst all rest k T1 Hp1 (exec A tab op vals (qa8 Hp1 vals) m)) : q93 op vals hs (yd2 P A tab X R op dst all rest k T Hp) := by
 rw [q1f, q30, q1f, q3h, Nat.add_zero] at h
 refine ⟨_, _, fun B E df a w hm hR hsz => ?_, h⟩
 exact y56 (D := D) _ hb.T (show ViewL Hp θ [] [] from trivial) ⟨hb.H, hb.id, hb.nd⟩ B E df a w hm hR hsz
theorem zc1 {m0 : Nat} {ops : List Oper} (θ : List (Option Nat)) (us : List (Nat × SV C)) (cs : List (Nat × HS C)) (hb : zy2 m0 θ T Hp (qm7 T us) (q47 Hp cs))
  (h : q3c (qm7 T us) fun T1 => q49 Hp cs fun Hp1 => zm8 P A tab m0 R ops k T1 Hp1) : zm8 P A tab m0 R ops k T Hp := by
 rw [q1f, q30] at h
 obtain ⟨T1, Hp1, hs, h1⟩ := h.h
 exact ⟨T1, Hp1, fun B df a w hm hR => hs B df a w hm (zo2 θ hb.T ⟨hb.H, hb.id, hb.nd⟩ B df a w hm hR), h1⟩
def zo0 (b : Bool) (X : Prop) : Prop := match b with
 | true => X
 | false => False
def ze9 {α : Type} (x : Option α) (K : α → Prop) : Prop := match x with
 | some a => K a
 | none => False
def z0p (Hp : List (HS C)) (ρ : List (Option Nat)) (n0 : Nat) (H1 : List (HS C)) (ret0 : SV C) (K : SV C → List (Option Nat) → List (Nat × HS C) → Prop) : Prop :=
 qd8 Hp 0 fun m => qa5 (ρ ++ q4s (H1.length - n0) m) fun θ => zo0 (ndO θ && Nat.ble n0 H1.length) (ze9 (q53 θ H1) fun H1' => ze9 (q8b θ ret0) fun ret => K ret θ (z0s θ H1'))
theorem q01 {f : FuncId} {args0 args : List (SV C)} {H0 H0' H1 : List (HS C)} {ret0 : SV C} {dst : Option Nat} {all rest : List Oper} (ρ : List (Option Nat)) (hM : q07 P D f args0 H0 ret0 H1)
  (hargs : renL ρ args0 = some args) (hH0 : q53 ρ H0 = some H0') (hat : q3q (q0r Hp) ρ H0')
  (h : z0p Hp ρ H0.length H1 ret0 fun ret _ ws => q33 T dst ret fun T' => q49 Hp ws fun Hp' => R (.ops all rest :: k) T' Hp') : q8r P D X R f args dst all rest k T Hp := by
 unfold z0p at h
 rw [q3h, Nat.add_zero, q5f] at h
 unfold zo0 at h
 split at h
 ·rename_i hc
  simp only [Bool.and_eq_true] at hc
  unfold ze9 at h
  split at h
  ·rename_i H1' hH1
   split at h
   ·rename_i ret hret
    exact zd7 ρ hM hargs hH0 hat _ rfl hc.1 (Nat.le_of_ble_eq_true hc.2) hH1 hret h
   ·exact h.elim
  ·exact h.elim
 ·exact h.elim
theorem q37 {next : DK C} {f : FuncId} {args0 args : List (SV C)} {H0 H0' H1 : List (HS C)} {ret0 : SV C} {dst : Option Nat} {fs fc : List Nat} {tr : List Ent} (ρ : List (Option Nat)) (hM : q07 P D f args0 H0 ret0 H1)
  (hargs : renL ρ args0 = some args) (hH0 : q53 ρ H0 = some H0') (hat : q3q (q0r Hp) ρ H0')
  (h : z0p Hp ρ H0.length H1 ret0 fun ret θ ws => q2s (fc ++ zh3 θ) fun fc => q2s (ql6 ws) fun ids => q33 T dst ret fun T' => q49 Hp ws fun Hp' => next (⟨dst, fs, fc, ids⟩ :: tr) T' Hp') : z67 P D next f args dst fs fc tr T Hp := by
 unfold z0p at h
 rw [q3h, Nat.add_zero, q5f] at h
 unfold zo0 at h
 split at h
 ·rename_i hc
  simp only [Bool.and_eq_true] at hc
  unfold ze9 at h
  split at h
  ·rename_i H1' hH1
   split at h
   ·rename_i ret hret
    exact z7i ρ hM hargs hH0 hat _ rfl hc.1 (Nat.le_of_ble_eq_true hc.2) hH1 hret h
   ·exact h.elim
  ·exact h.elim
 ·exact h.elim
theorem q0u {D : q09 C} {m0 : Nat} {body : Code} {γ : Type} (I : γ → List (Nat × SV C)) (U : γ → List (Nat × HS C)) (good : γ → Prop) (μ : γ → Nat) (g0 : γ) (h0 : good g0) (hent : zy2 m0 (yd3 Hp 0) T Hp (z0k body T (I g0)) (q47 Hp (U g0)))
  (hround : ∀ g, good g → ∀ K : List (SV C) → List (HS C) → Prop, (∀ g' θ T' Hp', zk7 (good g') → zk7 (μ g' < μ g) → zy2 m0 θ T' Hp' (z0k body T (I g')) (q47 Hp (U g')) → K T' Hp') →
   q3c (z0k body T (I g)) fun T1 => q49 Hp (U g) fun Hp1 => R (.code body :: .endLoop K :: k) T1 Hp1) : y00 D m0 R body k T Hp := by
 refine qr2 I (fun g => q47 Hp (U g)) good μ g0 h0 _ hent fun g hg K hK => ?_
 have := hround g hg K hK
 rw [q1f, q30] at this
 rw [q1f, q1g]
 exact this
end
end Go.SX
namespace Go.SX
variable {C : Cod}
class Bl (b : Bool) (p q : outParam Prop) : Prop where
 t : b = true → p
 f : b = false → q
instance (priority := 10) blB (b : Bool) : Bl b (b = true) (b = false) := ⟨id, id⟩
instance (priority := 20) blN (b : Bool) : Bl (!b) (b = false) (b = true) := ⟨by simp, by simp⟩
instance (priority := 30) blD (p : Prop) [Decidable p] : Bl (decide p) p (¬p) := ⟨by simp, by simp⟩
instance (priority := 40) blE (p : Prop) [Decidable p] : Bl (!decide p) (¬p) p := ⟨by simp, by simp⟩
theorem spC {b : Bool} {p q X Y : Prop} [hb : Bl b p q] (h1 : p → X) (h2 : q → Y) : qv9 b X Y := y5v (fun h => h1 (hb.t h)) (fun h => h2 (hb.f h))
theorem sdV {p : Prop} (h : p := by
  first | ((repeat' (first | refine And.intro ?_ ?_ | exact inR_i64 (by omega) (by omega) | omega | rfl | exact trivial | exact y3i rfl | exact y64 rfl (Nat.ne_of_beq_eq_false rfl) | exact Nat.ne_of_beq_eq_false rfl | (dsimp only [qr9]; omega) | (simp; done) | (simp; omega))); done) | fail) : zk7 p := ⟨h⟩
theorem saC {p q : Prop} (h2 : q) (h1 : zk7 p := by first | exact sdV | fail) : p ∧ q := ⟨h1.h, h2⟩
section
variable {P : Program} {D : q09 C} {tab : Tab C} {A : Aux C D} {X : Ctx C} {R : q61 C} {k : List (It C)} {T : List (SV C)} {Hp : List (HS C)} {m0 : Nat} {f : FuncId} {args args' : List (SV C)} {dst : Option Nat} {all rest : List Oper} {next : DK C} {fs fc : List Nat} {tr : List Ent} {ret : SV C}
theorem taC {t : List Ent} {Z : Prop} (h2 : Z) (h1 : z1v all t.reverse = true := by kernel_rfl) : z86 all t ∧ Z := ⟨⟨h1⟩, h2⟩
theorem x0C {rs : List ResultVar} (hE : y6i Hp [] ret (q6e D tab T Hp rs)) : (Exit.ret = Exit.normal ∨ Exit.ret = Exit.ret) ∧ ∃ θ l, q6e D tab T Hp rs = some l ∧ q8z Hp θ (qu8 l) ret ∧ qf9 Hp θ [] 0 :=
 q08 [] (.inr rfl) hE trivial rfl rfl
theorem eB {rs : List ResultVar} {θ : List (Option Nat)} {b r : Bool} (h1 : b = r) (h2 : q6e D tab T Hp rs = some [.p (.bool b)]) : y6i Hp θ (.p (.bool r)) (q6e D tab T Hp rs) := by
 subst h1; rw [h2]; exact ⟨rfl⟩
theorem eI {rs : List ResultVar} {θ : List (Option Nat)} {K : IntKind} {b r : Int} (h1 : b = r) (h2 : q6e D tab T Hp rs = some [.p (.int K b)]) : y6i Hp θ (.p (.int K r)) (q6e D tab T Hp rs) := by
 subst h1; rw [h2]; exact ⟨rfl⟩
theorem cpC (hM : q07 P D f args [] ret []) (h : q33 T dst ret fun T' => R (.ops all rest :: k) T' Hp) (h1 : renL [] args = some args := by rfl) (h2 : q8b [] ret = some ret := by rfl) : q8r P D X R f args dst all rest k T Hp := zf0 hM h1 h2 h
theorem dpC (hM : q07 P D f args [] ret []) (h : q2s fc fun fc => q33 T dst ret fun T' => next (⟨dst, fs, fc, []⟩ :: tr) T' Hp) (h1 : renL [] args = some args := by rfl) (h2 : q8b [] ret = some ret := by rfl) : z67 P D next f args dst fs fc tr T Hp := z7l hM h1 h2 h
theorem fzV {θ : List (Option Nat)} {c o n off len : Nat} {u : C.U} {ys xs : List (C.El u)} (h1 : q0r Hp c = .rows u xs := by rfl) (h2 : o = 0 := by rfl) (h3 : n = C.n u := by rfl) (h4 : off + len ≤ xs.length := by first | (simp; done) | (simp; omega) | omega)
  (h5 : ys = (xs.drop off).take len := by first | (simp; done) | (simp [List.take_of_length_le]; done) | (simp [List.take_of_length_le]; rfl)) (h6 : inO θ c = false := by rfl) : qg5 Hp θ c o n off len u ys := ⟨xs, h1, h2, h3, h4, h5, h6⟩
theorem fvV {θ : List (Option Nat)} {c : Nat} {cells : List (PV C)} {t : Option TypeId} {vs : List (SV C)} (h1 : q0r Hp c = .vart t vs := by rfl) (h2 : z1z Hp θ vs cells := by first | ((repeat' (first | exact trivial | exact rfl | refine And.intro ?_ ?_ | exact fzV)); done) | fail) (h3 : inO θ c = false := by rfl) : qw1 Hp θ c cells := ⟨t, vs, h1, h2, h3⟩
theorem snV {θ : List (Option Nat)} {l m : List (SV C)} (h : ViewL Hp θ l m := by first | ((repeat' (first | exact trivial | exact rfl | refine And.intro ?_ ?_ | exact fzV | exact fvV)); done) | fail) : y6d Hp θ l m := ⟨h⟩
theorem rdC (hM : q07 P D f args' [] ret []) (h : q33 T dst ret fun T' => R (.ops all rest :: k) T' Hp) (hv : y6d Hp [] args args' := by first | exact snV | fail) (hp : q4g ret = true := by rfl) : q8r P D X R f args dst all rest k T Hp := zf1 hM hv hp h
theorem vwV {θ : List (Option Nat)} {l : Option (List (SV C))} (h : yb1 Hp θ ret l := by first | ((repeat' (first | exact trivial | exact rfl | refine And.intro ?_ ?_ | exact fzV | exact fvV)); done) | fail) : y6i Hp θ ret l := ⟨h⟩
theorem hsV {θ l : List (Option Nat)} {m : List (HS C)} (h : q55 Hp θ l m := by first | ((repeat' (first | exact trivial | exact rfl | refine And.intro ?_ ?_ | exact ⟨_, rfl⟩ | exact fzV | exact fvV)); done) | fail) : q55 Hp θ l m := h
theorem bkV {θ : List (Option Nat)} {T' : List (SV C)} {Hp' : List (HS C)} (h1 : ViewL Hp θ T T' := by first | ((repeat' (first | exact trivial | exact rfl | refine And.intro ?_ ?_ | exact fzV | exact fvV)); done) | fail) (h2 : q55 Hp θ θ Hp' := by first | exact hsV | fail) (h3 : idO m0 0 θ = true := by rfl) (h4 : ndO θ = true := by rfl) : zy2 m0 θ T Hp T' Hp' := ⟨h1, h2, h3, h4⟩
end
theorem zt7 {P : Program} {D : q09 C} {f : FuncId} {args args' : List (SV C)} {ret : SV C} {H1 : List (HS C)} (hM : q07 P D f args' [] ret H1) (h : y6d [] [] args args') : q07 P D f args [] ret H1 := by
 refine ⟨hM.enter, fun w E hm vs hs hd => hM.calls w E hm vs hs (view_denA hs ⟨fun _ h => h, fun j d e => by simp [ixO] at e, fun j e => by simp [ixL] at e, fun c b _ e => ?_⟩ args args' vs h.h hd)⟩
 rw [hm c (Nat.zero_le c)] at e
 cases e
theorem yb9 {P : Program} {D : q09 C} {f : FuncId} {args args' : List (SV C)} {ret : SV C} {H1 : List (HS C)} (hM : q07 P D f args' [] ret []) (hv : y6d H1 [] args args') (hp : q4g ret = true) : q07 P D f args H1 ret H1 := by
 refine ⟨hM.enter, fun w E hm vs hs hd => ?_⟩
 let B0 : q3b := ⟨w, { F := E.F, β := fun _ => .fresh }, fun _ => True, 0, fun _ _ => rfl, [], false⟩
 have hf0 : Fr B0 E w := ⟨rfl, rfl, rfl, Nat.le_refl _, fun b _ ho => absurd trivial ho, ⟨fun b hb => ⟨hb, rfl⟩, fun c => .inr (.inr rfl), fun c b e => by cases e⟩, fun b _ => .inr (.inl trivial), fun c b _ => .inl trivial⟩
 obtain ⟨g1, g2, g3⟩ := q59 hs hf0 (θ := []) (Hp' := []) ⟨trivial, rfl, rfl⟩
 have hd' := view_denA hs g1 args args' vs hv.h hd
 refine (hM.calls w (E.view [] []) (fun c _ => rfl) vs g2 hd').mono ?_
 rintro e w' ⟨v, E', rfl, hv', _, hfr⟩
 have hsame : ∀ b, b < w.heap.size → w'.heap[b]? = w.heap[b]? := fun b hb => hfr.same b hb (by rintro ⟨c, hc⟩; cases hc)
 exact ⟨v, E, rfl, qa7 ret v hp hv', hs.same hsame hfr.size, (Fr.here (m := H1.length) (hm := hm)).on hs.F hsame hfr.size hfr.os hfr.tape hfr.output⟩
end Go.SX
namespace Go.SX
variable {C : Cod}
def pB : PV C → Value → Bool
 | .int k n, .int k' n' => decide (k = k') && decide (n = n')
 | .bool b, .bool b' => b == b'
 | .str l, .string s => decide (l = s.data.toList)
 | .lit (.slice none 0 0), .slice none 0 0 => true
 | .lit (.pointer none), .pointer none => true
 | .lit (.map none), .map none => true
 | .lit .nilFunc, .nilFunc => true
 | .lit .nilIface, .nilIface => true
 | _, _ => false
def pLB : List (PV C) → List Value → Option (List Value)
 | [], vs => some vs
 | x :: l, v :: vs => if pB x v then pLB l vs else none
 | _ :: _, [] => none
def q96 (D : q09 C) : List (SV C) → List Value → Bool
 | [], [] => true
 | .p x :: l, v :: vs => pB x v && q96 D l vs
 | .arr u N xs :: l, vs => decide (xs.length = N) && (match pLB (xs.flatMap (D.enc u)) vs with
  | some r => q96 D l r
  | none => false)
 | _, _ => false
def y3w (P : Program) (size : Nat) : TK → TypeDesc → Bool
 | .int k, .int k' => decide (k' = k)
 | .bool, .bool => true
 | .str, .string => true
 | .struct fs, .struct F => decide (F.toList.map (fun f => (f.offset, f.type)) = fs) && fs.all fun f => (P.info? f.2).isSome
 | .arr n e, .array n' e' => decide (n' = n) && decide (e' = e) && (match P.info? e with | some ie => decide (size = n * ie.size) | none => false)
 | .slice e, .slice e' => decide (e' = e)
 | .ptr e, .pointer e' => decide (e' = e)
 | .uptr, .unsafePointer => true
 | .ifc, .interface _ => true
 | .map k e, .map kt e' => decide (e' = e) && (match P.underlying kt with | some d => (match k, d with | .int q, .int q' => decide (q' = q) | .str, .string => true | _, _ => false) | none => false)
 | .other, d => match d with | .struct _ | .array _ _ => false | _ => true
 | _, _ => false
def zbB (P : Program) (t : TypeId) : TK → Bool
 | .bool => match P.info? t with
  | some info => match info.zero with
   | some (.bool false) => true
   | _ => false
  | none => false
 | _ => true
def tyB (P : Program) (D : q09 C) (t : TypeId) (i : TI C) : Bool :=
 (match P.info? t with
  | some info => decide (info.size = i.size) && decide (info.bytes = i.bytes) && (match info.zero with
   | some z => decide (z.cells.size = i.size) && q96 D i.zero z.cells.toList
   | none => false)
  | none => false) &&
 (match P.underlying t with
  | some d => y3w P i.size i.kind d
  | none => false) &&
 decide (0 < i.size) && (match i.code with
  | some u => decide (C.n u = i.size) && (match C.ty u with
   | some t' => decide (t' = t)
   | none => true)
  | none => true) && (match i.typed with
  | true => liesAt P P.depth t (i.size / P.cellsOf t) 0 t 1
  | false => true) && (match i.cks with
  | [] => true
  | l => i.kind.agg && ckB P 64 t l && !P.eqGuardType P.depth t) && zbB P t i.kind
section
variable {P : Program} {D : q09 C} {w : World} {E : Env}
theorem y8u {x : PV C} {v : Value} (h : pB x v = true) {F : Nat → Prop} : q4a D w F x v := by
 unfold pB at h
 split at h
 ·simp at h; obtain ⟨rfl, rfl⟩ := h; exact .int _ _
 ·simp at h; subst h; exact .bool _
 ·simp at h; subst h; rename_i s; obtain ⟨⟨l⟩⟩ := s; exact .str _
 ·exact .lit _ rfl
 ·exact .lit _ rfl
 ·exact .lit _ rfl
 ·exact .lit _ rfl
 ·exact .lit _ rfl
 ·cases h
theorem y2c {F : Nat → Prop} : ∀ (l : List (PV C)) (vs r : List Value), pLB l vs = some r → ∃ v1, vs = v1 ++ r ∧ q1v D w F l v1
 | [], vs, r, h => by simp [pLB] at h; subst h; exact ⟨[], rfl, rfl, fun j pv v hp _ => by simp at hp⟩
 | x :: l, [], r, h => by simp [pLB] at h
 | x :: l, v :: vs, r, h => by
  simp only [pLB] at h
  split at h
  ·rename_i hb
   obtain ⟨v1, rfl, h1⟩ := y2c (F := F) l vs r h
   refine ⟨v :: v1, rfl, by simp [h1.1], fun j pv u hp hu => ?_⟩
   cases j with
   | zero => simp at hp hu; subst hp; subst hu; exact y8u hb
   | succ j => exact h1.2 j pv u (by simpa using hp) (by simpa using hu)
  ·cases h
theorem z2t : ∀ (l : List (SV C)) (vs : List Value), q96 D l vs = true → DenC D w E l vs
 | [], [], _ => by simp only [DenC]
 | [], _ :: _, h => by simp [q96] at h
 | .p x :: l, [], h => by simp [q96] at h
 | .p x :: l, v :: vs, h => by
  simp only [q96, Bool.and_eq_true] at h
  have h1 : q4a D w E.F x v := y8u h.1
  simp only [DenC, Den]
  exact ⟨v, vs, rfl, h1.oneCell, h1, z2t l vs h.2⟩
 | .arr u N xs :: l, vs, h => by
  have h' : xs.length = N ∧ (match pLB (xs.flatMap (D.enc u)) vs with | some r => q96 D l r | none => false) = true := by
   cases vs <;> simpa [q96] using h
  obtain ⟨h1, h2⟩ := h'
  cases hp : pLB (xs.flatMap (D.enc u)) vs with
  | none => rw [hp] at h2; cases h2
  | some r =>
   rw [hp] at h2
   obtain ⟨v1, e, h3⟩ := y2c (D := D) (w := w) (F := E.F) _ vs r hp
   simp only [DenC]
   exact ⟨h1, v1, r, e, h3, z2t l r h2⟩
 | .any :: l, vs, h => by cases vs <;> simp [q96] at h
 | .ptr _ _ :: l, vs, h => by cases vs <;> simp [q96] at h
 | .eptr _ _ _ _ _ :: l, vs, h => by cases vs <;> simp [q96] at h
 | .dptr _ _ :: l, vs, h => by cases vs <;> simp [q96] at h
 | .slice _ _ _ _ _ :: l, vs, h => by cases vs <;> simp [q96] at h
 | .agg _ :: l, vs, h => by cases vs <;> simp [q96] at h
 | .fn _ _ _ :: l, vs, h => by cases vs <;> simp [q96] at h
 | .iface _ _ :: l, vs, h => by cases vs <;> simp [q96] at h
 | .tuple _ :: l, vs, h => by cases vs <;> simp [q96] at h
theorem y1j {size : Nat} {k : TK} {d : TypeDesc} (h : y3w P size k d = true) : q79 P size k d := by
 unfold y3w at h
 split at h
 ·simp at h; subst h; rfl
 ·rfl
 ·rfl
 ·simp at h
  exact ⟨_, rfl, h.1, fun f hf => by
   have := h.2 f.1 f.2 hf
   simpa [Option.isSome_iff_ne_none] using this⟩
 ·simp at h
  obtain ⟨⟨rfl, rfl⟩, h2⟩ := h
  split at h2
  ·rename_i ie hie
   exact ⟨rfl, ie, hie, by simpa using h2⟩
  ·cases h2
 ·simp at h; subst h; rfl
 ·simp at h; subst h; rfl
 ·rfl
 ·exact ⟨_, rfl⟩
 ·simp only [Bool.and_eq_true, decide_eq_true_eq] at h
  obtain ⟨rfl, h2⟩ := h
  refine ⟨_, rfl, ?_⟩
  split at h2
  ·rename_i d hd
   split at h2
   ·simp at h2; subst h2; exact hd
   ·exact hd
   ·cases h2
  ·cases h2
 ·simp only [q79]
  exact h
 ·cases h
theorem y7v {t : TypeId} {i : TI C} (h : tyB P D t i = true) : qr4 P D t i := by
 simp only [tyB, Bool.and_eq_true, decide_eq_true_eq] at h
 obtain ⟨⟨⟨⟨⟨⟨h1, h2⟩, h3⟩, h4⟩, h6⟩, h5⟩, h8⟩ := h
 refine ⟨?_, ?_, h3, fun u hu => ?_, fun u t' hu ht => ?_, fun ht => ?_, fun hk => ?_, fun hc => ?_⟩
 ·split at h1
  ·rename_i info hinfo
   simp only [Bool.and_eq_true, decide_eq_true_eq] at h1
   obtain ⟨⟨h5, h6⟩, h7⟩ := h1
   split at h7
   ·rename_i z hz
    simp only [Bool.and_eq_true, decide_eq_true_eq] at h7
    exact ⟨info, z, hinfo, h5, h6, hz, h7.1, fun w E => z2t _ _ h7.2⟩
   ·cases h7
  ·cases h1
 ·split at h2
  ·rename_i d hd; exact ⟨d, hd, y1j h2⟩
  ·cases h2
 ·rw [hu] at h4; simp only [Bool.and_eq_true, decide_eq_true_eq] at h4; exact h4.1
 ·rw [hu] at h4; simp only [Bool.and_eq_true, decide_eq_true_eq] at h4; rw [ht] at h4; simpa using h4.2
 ·rw [ht] at h6; exact h6
 ·rw [hk] at h8
  simp only [zbB] at h8
  split at h8
  ·rename_i info hi
   split at h8
   ·rename_i hz; exact ⟨info, hi, hz⟩
   ·cases h8
  ·cases h8
 ·split at h5
  ·rename_i h; exact (hc h).elim
  ·simp only [Bool.and_eq_true, Bool.not_eq_true'] at h5
   exact ⟨h5.1.1, h5.1.2, h5.2⟩
end
end Go.SX
namespace Go.SX
structure A5 where
 a : Int
 b : Int
 c : Int
 d : Int
 e : Int
deriving DecidableEq
structure A3 where
 a : Int
 b : Int
 c : Int
deriving DecidableEq
structure y3n where
 from_ : Int
 to_ : Int
deriving DecidableEq
structure y9c where
 x : Int
 y : Int
deriving DecidableEq
structure q06 where
 kind : Int
 rows : List Int
 from_ : Int
 to_ : Int
 low : Int
 high : Int
 clear : Bool
 days : Int
 times : Int
 within : Int
 cents : List Int
 kids : List q06
structure q2c where
 id : Int
 owner : Int
 goal : q06
 price : Int
 group : Int
 urgent : Bool
 known : Int
 due : Int
inductive q1o where
 | n (i : Int)
 | s (l : List UInt8)
@[reducible] def y7p : q1o → Value
 | .n i => .iface 3 (.int .i64 i)
 | .s l => .iface 9 (.string ⟨⟨l⟩⟩)
inductive U where
 | int | bool | str | u8 | u32 | u64 | anyv | arr5 | arr3 | spell | cell | goal | order
deriving DecidableEq
@[reducible] def U.El : U → Type
 | .int => Int
 | .bool => Bool
 | .str => List UInt8
 | .u8 => Int
 | .u32 => Int
 | .u64 => Int
 | .anyv => q1o
 | .arr5 => A5
 | .arr3 => A3
 | .spell => y3n
 | .cell => y9c
 | .goal => q06
 | .order => q2c
def U.dflt : (u : U) → u.El
 | .int => (0 : Int)
 | .bool => false
 | .str => ([] : List UInt8)
 | .u8 => (0 : Int)
 | .u32 => (0 : Int)
 | .u64 => (0 : Int)
 | .anyv => (q1o.n 0)
 | .arr5 => (⟨0, 0, 0, 0, 0⟩ : A5)
 | .arr3 => (⟨0, 0, 0⟩ : A3)
 | .spell => (⟨0, 0⟩ : y3n)
 | .cell => (⟨0, 0⟩ : y9c)
 | .goal => (⟨0, [], 0, 0, 0, 0, false, 0, 0, 0, [], []⟩ : q06)
 | .order => (⟨0, 0, (⟨0, [], 0, 0, 0, 0, false, 0, 0, 0, [], []⟩), 0, 0, false, 0, 0⟩ : q2c)
def U.n : U → Nat
 | .int => 1
 | .bool => 1
 | .str => 1
 | .u8 => 1
 | .u32 => 1
 | .u64 => 1
 | .anyv => 1
 | .arr5 => 5
 | .arr3 => 3
 | .spell => 2
 | .cell => 2
 | .goal => 12
 | .order => 19
def U.glob : Nat → List Value
 | 1 => [.int .u8 0, .int .u8 1, .int .u8 56, .int .u8 2, .int .u8 57, .int .u8 49, .int .u8 28, .int .u8 3, .int .u8 61, .int .u8 58, .int .u8 42, .int .u8 50, .int .u8 38, .int .u8 29, .int .u8 17, .int .u8 4, .int .u8 62, .int .u8 47, .int .u8 59, .int .u8 36, .int .u8 45, .int .u8 43, .int .u8 51, .int .u8 22, .int .u8 53, .int .u8 39, .int .u8 33, .int .u8 30, .int .u8 24, .int .u8 18, .int .u8 12, .int .u8 5, .int .u8 63, .int .u8 55, .int .u8 48, .int .u8 27, .int .u8 60, .int .u8 41, .int .u8 37, .int .u8 16, .int .u8 46, .int .u8 35, .int .u8 44, .int .u8 21, .int .u8 52, .int .u8 32, .int .u8 23, .int .u8 11, .int .u8 54, .int .u8 26, .int .u8 40, .int .u8 15, .int .u8 34, .int .u8 20, .int .u8 31, .int .u8 10, .int .u8 25, .int .u8 14, .int .u8 19, .int .u8 9, .int .u8 13, .int .u8 8, .int .u8 7, .int .u8 6]
 | 3 => [.int .u64 1, .int .u64 10, .int .u64 100, .int .u64 1000, .int .u64 10000, .int .u64 100000, .int .u64 1000000, .int .u64 10000000, .int .u64 100000000, .int .u64 1000000000, .int .u64 10000000000, .int .u64 100000000000, .int .u64 1000000000000, .int .u64 10000000000000, .int .u64 100000000000000, .int .u64 1000000000000000, .int .u64 10000000000000000, .int .u64 100000000000000000, .int .u64 1000000000000000000, .int .u64 10000000000000000000]
 | _ => []
def U.gifc : Nat → Bool
 | 4 => true
 | 5 => true
 | _ => false
def U.ty : U → Option TypeId
 | .u8 => some 5
 | _ => none
@[reducible] def Cd : Cod := { U := U, El := U.El, dflt := U.dflt, n := U.n, glob := U.glob, ty := U.ty, gifc := U.gifc }
def z8c : (u : U) → u.El → List (PV Cd)
 | .int, x => [.int .i64 x]
 | .bool, x => [.bool x]
 | .str, x => [.str x]
 | .u8, x => [.int .u8 x]
 | .u32, x => [.int .u32 x]
 | .u64, x => [.int .u64 x]
 | .anyv, x => [.lit (y7p x)]
 | .arr5, x => [.int .i64 x.a, .int .i64 x.b, .int .i64 x.c, .int .i64 x.d, .int .i64 x.e]
 | .arr3, x => [.int .i64 x.a, .int .i64 x.b, .int .i64 x.c]
 | .spell, x => [.int .i64 x.from_, .int .i64 x.to_]
 | .cell, x => [.int .i64 x.x, .int .i64 x.y]
 | .goal, x => [.int .i64 x.kind, .dsl U.int x.rows, .int .i64 x.from_, .int .i64 x.to_, .int .i64 x.low, .int .i64 x.high, .bool x.clear, .int .i64 x.days, .int .i64 x.times, .int .i64 x.within, .dsl U.int x.cents, .dsl U.goal x.kids]
 | .order, x => [.int .i64 x.id, .int .i64 x.owner, .int .i64 x.goal.kind, .dsl U.int x.goal.rows, .int .i64 x.goal.from_, .int .i64 x.goal.to_, .int .i64 x.goal.low, .int .i64 x.goal.high, .bool x.goal.clear, .int .i64 x.goal.days, .int .i64 x.goal.times, .int .i64 x.goal.within, .dsl U.int x.goal.cents, .dsl U.goal x.goal.kids, .int .i64 x.price, .int .i64 x.group, .bool x.urgent, .int .i64 x.known, .int .i64 x.due]
def y9j : (u : U) → List (PV Cd) → Option u.El
 | .int, [.int .i64 a0] => some a0
 | .bool, [.bool a0] => some a0
 | .str, [.str a0] => some a0
 | .u8, [.int .u8 a0] => some a0
 | .u32, [.int .u32 a0] => some a0
 | .u64, [.int .u64 a0] => some a0
 | .anyv, [.lit (.iface 3 (.int .i64 i))] => some (q1o.n i)
 | .anyv, [.lit (.iface 9 (.string ⟨⟨l⟩⟩))] => some (q1o.s l)
 | .arr5, [.int .i64 a0, .int .i64 a1, .int .i64 a2, .int .i64 a3, .int .i64 a4] => some (⟨a0, a1, a2, a3, a4⟩ : A5)
 | .arr3, [.int .i64 a0, .int .i64 a1, .int .i64 a2] => some (⟨a0, a1, a2⟩ : A3)
 | .spell, [.int .i64 a0, .int .i64 a1] => some (⟨a0, a1⟩ : y3n)
 | .cell, [.int .i64 a0, .int .i64 a1] => some (⟨a0, a1⟩ : y9c)
 | .goal, [.int .i64 a0, .dsl U.int a1, .int .i64 a2, .int .i64 a3, .int .i64 a4, .int .i64 a5, .bool a6, .int .i64 a7, .int .i64 a8, .int .i64 a9, .dsl U.int a10, .dsl U.goal a11] => some (⟨a0, a1, a2, a3, a4, a5, a6, a7, a8, a9, a10, a11⟩ : q06)
 | .order, [.int .i64 a0, .int .i64 a1, .int .i64 a2, .dsl U.int a3, .int .i64 a4, .int .i64 a5, .int .i64 a6, .int .i64 a7, .bool a8, .int .i64 a9, .int .i64 a10, .int .i64 a11, .dsl U.int a12, .dsl U.goal a13, .int .i64 a14, .int .i64 a15, .bool a16, .int .i64 a17, .int .i64 a18] => some (⟨a0, a1, ⟨a2, a3, a4, a5, a6, a7, a8, a9, a10, a11, a12, a13⟩, a14, a15, a16, a17, a18⟩ : q2c)
 | _, _ => none
theorem y4z (u : U) (l : List (PV Cd)) (x : u.El) (h : y9j u l = some x) : z8c u x = l := by
 unfold y9j at h
 split at h <;> first | (injection h with h; subst h; rfl) | (injection h)
def Dc : q09 Cd where
 enc := z8c
 dec := y9j
 dec_ok := y4z
 enc_len := by intro u x; cases u <;> rfl
 n_pos := by intro u; cases u <;> decide
def y5r : (u u' : U) → List u'.El → Option (List u.El)
 | .int, .int, l => some l
 | .bool, .bool, l => some l
 | .str, .str, l => some l
 | .u8, .u8, l => some l
 | .u32, .u32, l => some l
 | .u64, .u64, l => some l
 | .anyv, .anyv, l => some l
 | .arr5, .arr5, l => some l
 | .arr3, .arr3, l => some l
 | .spell, .spell, l => some l
 | .cell, .cell, l => some l
 | .goal, .goal, l => some l
 | .order, .order, l => some l
 | _, _, _ => none
theorem y16 (u u' : U) (ys : List u'.El) (zs : List u.El) (h : y5r u u' ys = some zs) : zs.map (z8c u) = ys.map (z8c u') ∧ u.n = u'.n := by
 unfold y5r at h
 split at h <;> first | (injection h with h; subst h; exact ⟨rfl, rfl⟩) | (injection h)
def ckU : U → List CK
 | .int => [.int .i64]
 | .bool => [.bool]
 | .str => [.str]
 | .u8 => [.int .u8]
 | .u32 => [.int .u32]
 | .u64 => [.int .u64]
 | .arr5 => [.int .i64, .int .i64, .int .i64, .int .i64, .int .i64]
 | .arr3 => [.int .i64, .int .i64, .int .i64]
 | .spell => [.int .i64, .int .i64]
 | .cell => [.int .i64, .int .i64]
 | _ => []
theorem y81 (u : U) (h : ckU u ≠ []) (x : u.El) : (z8c u x).map zk6 = (ckU u).map some := by
 cases u <;> first | rfl | exact (h rfl).elim
theorem y1y (u : U) (h : ckU u ≠ []) (x y : u.El) (e : z8c u x = z8c u y) : x = y := by
 cases u <;> first | exact (h rfl).elim | (simp [z8c] at e; first | exact e | (cases x; cases y; simp_all))
theorem qs1 {α β : Type} (f : α → List β) (n : Nat) (hn : 0 < n) (hf : ∀ x, (f x).length = n) (hi : ∀ x y, f x = f y → x = y) : ∀ xs ys : List α, xs.flatMap f = ys.flatMap f → xs = ys
 | [], [], _ => rfl
 | [], y :: ys, h => by have := congrArg List.length h; simp [hf] at this; omega
 | x :: xs, [], h => by have := congrArg List.length h; simp [hf] at this; omega
 | x :: xs, y :: ys, h => by
  simp only [List.flatMap_cons] at h
  have h1 := List.append_inj h (by rw [hf, hf])
  rw [hi x y h1.1, qs1 f n hn hf hi xs ys h1.2]
def eqU : (u u' : U) → List u.El → List u'.El → Option Bool
 | .int, .int, xs, ys => some (decide (xs = ys))
 | .bool, .bool, xs, ys => some (decide (xs = ys))
 | .str, .str, xs, ys => some (decide (xs = ys))
 | .u8, .u8, xs, ys => some (decide (xs = ys))
 | .u32, .u32, xs, ys => some (decide (xs = ys))
 | .u64, .u64, xs, ys => some (decide (xs = ys))
 | .arr5, .arr5, xs, ys => some (decide (xs = ys))
 | .arr3, .arr3, xs, ys => some (decide (xs = ys))
 | .spell, .spell, xs, ys => some (decide (xs = ys))
 | .cell, .cell, xs, ys => some (decide (xs = ys))
 | _, _, _, _ => none
theorem qf6 {α β : Type} (f : α → β) : ∀ xs : List α, (xs.flatMap fun x => [f x]) = xs.map f
 | [] => rfl
 | x :: xs => by rw [List.flatMap_cons, qf6 f xs]; rfl
def zo5 : (u : U) → List UInt8 → Option (List u.El)
 | .u8, l => some (l.map fun b => (b.toNat : Int))
 | _, _ => none
theorem zo7 (u : U) (l : List UInt8) (xs : List u.El) (h : zo5 u l = some xs) : U.n u = 1 ∧ xs.flatMap (z8c u) = l.map (fun b => PV.int .u8 b.toNat) := by
 unfold zo5 at h
 split at h
 ·injection h with h; subst h
  refine ⟨rfl, ?_⟩
  have h1 := qf6 (fun n : Int => (PV.int .u8 n : PV Cd)) (l.map fun b => (b.toNat : Int))
  rw [List.map_map] at h1
  exact h1
 ·cases h
def y9i : (u : U) → List u.El → Option (List UInt8)
 | .u8, xs => some (xs.map fun n : Int => UInt8.ofNat n.toNat)
 | _, _ => none
theorem y65 (u : U) (xs : List u.El) (l : List UInt8) (h : y9i u xs = some l) : U.n u = 1 ∧ ∃ ns : List Int, xs.flatMap (z8c u) = ns.map (PV.int .u8) ∧ l = ns.map (fun n => UInt8.ofNat n.toNat) := by
 unfold y9i at h
 split at h
 ·injection h with h; subst h
  exact ⟨rfl, _, qf6 (fun n : Int => (PV.int .u8 n : PV Cd)) _, rfl⟩
 ·cases h
theorem y93 (u u' : U) (xs : List u.El) (ys : List u'.El) (b : Bool) (h : eqU u u' xs ys = some b) : ckU u ≠ [] ∧ ckU u' ≠ [] ∧ (b = true ↔ xs.flatMap (z8c u) = ys.flatMap (z8c u')) := by
 have key : ∀ (u : U) (hu : ckU u ≠ []) (xs ys : List u.El), (xs = ys ↔ xs.flatMap (z8c u) = ys.flatMap (z8c u)) := fun u hu xs ys =>
  ⟨fun e => by rw [e], qs1 (z8c u) u.n (Dc.n_pos u) (fun x => Dc.enc_len u x) (y1y u hu) xs ys⟩
 unfold eqU at h
 split at h
 all_goals first
  | (injection h with h; subst h; refine ⟨by decide, by decide, ?_⟩; rw [decide_eq_true_iff]; exact key _ (by decide) _ _)
  | (injection h)
def Ax : Aux Cd Dc where
 castL := y5r
 castL_ok := y16
 ckA := ckU
 ckA_ok := y81
 eqA := eqU
 eqA_ok := y93
 ofBytes := zo5
 ofBytes_ok := zo7
 toBytes := y9i
 toBytes_ok := y65
theorem inR_i64 {n : Int} (h1 : -9223372036854775808 ≤ n) (h2 : n ≤ 9223372036854775807) : InR .i64 n := by
 show IntKind.i64.wrap n = n
 exact IntWalk.i64_in n ⟨h1, h2⟩
end Go.SX
namespace Go.SX
def y9f : Nat → List (Nat × TI Cd)
 | 0 => [(1, { kind := .other, size := 1, bytes := 8, zero := [.p (.lit .nilFunc)], code := none }),
  (2, { kind := .int .i64, size := 1, bytes := 8, zero := [.p (.int .i64 0)], code := none }),
  (3, { kind := .int .i64, size := 1, bytes := 8, zero := [.p (.int .i64 0)], code := some U.int }),
  (4, { kind := .bool, size := 1, bytes := 1, zero := [.p (.bool false)], code := some U.bool }),
  (5, { kind := .int .u8, size := 1, bytes := 1, zero := [.p (.int .u8 0)], code := some U.u8 }),
  (9, { kind := .str, size := 1, bytes := 16, zero := [.p (.str [])], code := some U.str }),
  (12, { kind := .int .u64, size := 1, bytes := 8, zero := [.p (.int .u64 0)], code := none }),
  (13, { kind := .struct [(0, 9), (1, 12)], size := 2, bytes := 24, zero := [.p (.str []), .p (.int .u64 0)], code := none })]
 | 1 => [(20, { kind := .ifc, size := 1, bytes := 16, zero := [.p (.lit .nilIface)], code := some U.anyv }),
  (21, { kind := .int .i32, size := 1, bytes := 4, zero := [.p (.int .i32 0)], code := none }),
  (22, { kind := .arr 7 3, size := 7, bytes := 56, zero := [.arr U.int 7 (List.replicate 7 (Cd.dflt U.int))], code := none, cks := [.int .i64, .int .i64, .int .i64, .int .i64, .int .i64, .int .i64, .int .i64] }),
  (23, { kind := .slice 121, size := 1, bytes := 24, zero := [.p (.lit (.slice none 0 0))], code := none }),
  (24, { kind := .slice 3, size := 1, bytes := 24, zero := [.p (.lit (.slice none 0 0))], code := none }),
  (25, { kind := .struct [(0, 24)], size := 1, bytes := 24, zero := [.p (.lit (.slice none 0 0))], code := none }),
  (26, { kind := .struct [(0, 24)], size := 1, bytes := 24, zero := [.p (.lit (.slice none 0 0))], code := none }),
  (27, { kind := .struct [(0, 3), (1, 3)], size := 2, bytes := 16, zero := [.p (.int .i64 0), .p (.int .i64 0)], code := none }),
  (28, { kind := .struct [(0, 3), (1, 3)], size := 2, bytes := 16, zero := [.p (.int .i64 0), .p (.int .i64 0)], code := some U.spell, cks := [.int .i64, .int .i64] }),
  (29, { kind := .slice 31, size := 1, bytes := 24, zero := [.p (.lit (.slice none 0 0))], code := none }),
  (30, { kind := .struct [(0, 3), (1, 26), (2, 28), (4, 3), (5, 3), (6, 4), (7, 3), (8, 3), (9, 3), (10, 24), (11, 29)], size := 12, bytes := 144, zero := [.p (.int .i64 0), .p (.lit (.slice none 0 0)), .p (.int .i64 0), .p (.int .i64 0), .p (.int .i64 0), .p (.int .i64 0), .p (.bool false), .p (.int .i64 0), .p (.int .i64 0), .p (.int .i64 0), .p (.lit (.slice none 0 0)), .p (.lit (.slice none 0 0))], code := none }),
  (31, { kind := .struct [(0, 3), (1, 26), (2, 28), (4, 3), (5, 3), (6, 4), (7, 3), (8, 3), (9, 3), (10, 24), (11, 29)], size := 12, bytes := 144, zero := [.p (.int .i64 0), .p (.lit (.slice none 0 0)), .p (.int .i64 0), .p (.int .i64 0), .p (.int .i64 0), .p (.int .i64 0), .p (.bool false), .p (.int .i64 0), .p (.int .i64 0), .p (.int .i64 0), .p (.lit (.slice none 0 0)), .p (.lit (.slice none 0 0))], code := some U.goal })]
 | 2 => [(32, { kind := .struct [(0, 3), (1, 3), (2, 31), (14, 3), (15, 3), (16, 4), (17, 3), (18, 3)], size := 19, bytes := 200, zero := [.p (.int .i64 0), .p (.int .i64 0), .p (.int .i64 0), .p (.lit (.slice none 0 0)), .p (.int .i64 0), .p (.int .i64 0), .p (.int .i64 0), .p (.int .i64 0), .p (.bool false), .p (.int .i64 0), .p (.int .i64 0), .p (.int .i64 0), .p (.lit (.slice none 0 0)), .p (.lit (.slice none 0 0)), .p (.int .i64 0), .p (.int .i64 0), .p (.bool false), .p (.int .i64 0), .p (.int .i64 0)], code := none }),
  (33, { kind := .struct [(0, 3), (1, 3), (2, 31), (14, 3), (15, 3), (16, 4), (17, 3), (18, 3)], size := 19, bytes := 200, zero := [.p (.int .i64 0), .p (.int .i64 0), .p (.int .i64 0), .p (.lit (.slice none 0 0)), .p (.int .i64 0), .p (.int .i64 0), .p (.int .i64 0), .p (.int .i64 0), .p (.bool false), .p (.int .i64 0), .p (.int .i64 0), .p (.int .i64 0), .p (.lit (.slice none 0 0)), .p (.lit (.slice none 0 0)), .p (.int .i64 0), .p (.int .i64 0), .p (.bool false), .p (.int .i64 0), .p (.int .i64 0)], code := some U.order }),
  (34, { kind := .other, size := 1, bytes := 8, zero := [.p (.lit .nilFunc)], code := none }),
  (35, { kind := .other, size := 1, bytes := 8, zero := [.p (.lit .nilFunc)], code := none }),
  (36, { kind := .other, size := 1, bytes := 8, zero := [.p (.lit .nilFunc)], code := none }),
  (37, { kind := .other, size := 1, bytes := 8, zero := [.p (.lit .nilFunc)], code := none }),
  (38, { kind := .slice 9, size := 1, bytes := 24, zero := [.p (.lit (.slice none 0 0))], code := none }),
  (39, { kind := .slice 33, size := 1, bytes := 24, zero := [.p (.lit (.slice none 0 0))], code := none }),
  (40, { kind := .int .i64, size := 1, bytes := 8, zero := [.p (.int .i64 0)], code := some U.int }),
  (42, { kind := .other, size := 1, bytes := 8, zero := [.p (.lit .nilFunc)], code := none }),
  (43, { kind := .other, size := 1, bytes := 8, zero := [.p (.lit .nilFunc)], code := none }),
  (44, { kind := .other, size := 1, bytes := 8, zero := [.p (.lit .nilFunc)], code := none }),
  (45, { kind := .other, size := 1, bytes := 8, zero := [.p (.lit .nilFunc)], code := none }),
  (46, { kind := .other, size := 1, bytes := 8, zero := [.p (.lit .nilFunc)], code := none }),
  (47, { kind := .other, size := 1, bytes := 8, zero := [.p (.lit .nilFunc)], code := none })]
 | 3 => [(49, { kind := .other, size := 1, bytes := 8, zero := [.p (.lit .nilFunc)], code := none }),
  (50, { kind := .other, size := 1, bytes := 8, zero := [.p (.lit .nilFunc)], code := none }),
  (51, { kind := .other, size := 1, bytes := 8, zero := [.p (.lit .nilFunc)], code := none }),
  (52, { kind := .other, size := 1, bytes := 8, zero := [.p (.lit .nilFunc)], code := none }),
  (53, { kind := .slice 55, size := 1, bytes := 24, zero := [.p (.lit (.slice none 0 0))], code := none }),
  (54, { kind := .other, size := 1, bytes := 8, zero := [.p (.lit .nilFunc)], code := none }),
  (55, { kind := .arr 3 3, size := 3, bytes := 24, zero := [.arr U.int 3 (List.replicate 3 (Cd.dflt U.int))], code := some U.arr3, cks := [.int .i64, .int .i64, .int .i64] }),
  (56, { kind := .other, size := 1, bytes := 8, zero := [.p (.lit .nilFunc)], code := none }),
  (57, { kind := .other, size := 1, bytes := 8, zero := [.p (.lit .nilFunc)], code := none }),
  (58, { kind := .slice 5, size := 1, bytes := 24, zero := [.p (.lit (.slice none 0 0))], code := none }),
  (59, { kind := .other, size := 1, bytes := 8, zero := [.p (.lit .nilFunc)], code := none }),
  (60, { kind := .other, size := 1, bytes := 8, zero := [.p (.lit .nilFunc)], code := none }),
  (61, { kind := .other, size := 1, bytes := 8, zero := [.p (.lit .nilFunc)], code := none }),
  (62, { kind := .other, size := 1, bytes := 8, zero := [.p (.lit .nilFunc)], code := none }),
  (63, { kind := .other, size := 1, bytes := 8, zero := [.p (.lit .nilFunc)], code := none })]
 | 4 => [(64, { kind := .other, size := 1, bytes := 8, zero := [.p (.lit .nilFunc)], code := none }),
  (65, { kind := .other, size := 1, bytes := 8, zero := [.p (.lit .nilFunc)], code := none }),
  (66, { kind := .ptr 68, size := 1, bytes := 8, zero := [.p (.lit (.pointer none))], code := none }),
  (67, { kind := .struct [(0, 38)], size := 1, bytes := 24, zero := [.p (.lit (.slice none 0 0))], code := none }),
  (68, { kind := .struct [(0, 38)], size := 1, bytes := 24, zero := [.p (.lit (.slice none 0 0))], code := none }),
  (69, { kind := .other, size := 1, bytes := 8, zero := [.p (.lit .nilFunc)], code := none }),
  (70, { kind := .other, size := 1, bytes := 8, zero := [.p (.lit .nilFunc)], code := none }),
  (71, { kind := .other, size := 1, bytes := 8, zero := [.p (.lit .nilFunc)], code := none }),
  (72, { kind := .other, size := 1, bytes := 8, zero := [.p (.lit .nilFunc)], code := none }),
  (73, { kind := .other, size := 1, bytes := 8, zero := [.p (.lit .nilFunc)], code := none }),
  (75, { kind := .other, size := 1, bytes := 8, zero := [.p (.lit .nilFunc)], code := none }),
  (76, { kind := .other, size := 1, bytes := 8, zero := [.p (.lit .nilFunc)], code := none }),
  (77, { kind := .other, size := 1, bytes := 8, zero := [.p (.lit .nilFunc)], code := none }),
  (78, { kind := .other, size := 1, bytes := 8, zero := [.p (.lit .nilFunc)], code := none }),
  (79, { kind := .other, size := 1, bytes := 8, zero := [.p (.lit .nilFunc)], code := none })]
 | 5 => [(80, { kind := .ptr 82, size := 1, bytes := 8, zero := [.p (.lit (.pointer none))], code := none }),
  (81, { kind := .struct [(0, 38), (1, 3), (2, 3)], size := 3, bytes := 40, zero := [.p (.lit (.slice none 0 0)), .p (.int .i64 0), .p (.int .i64 0)], code := none }),
  (82, { kind := .struct [(0, 38), (1, 3), (2, 3)], size := 3, bytes := 40, zero := [.p (.lit (.slice none 0 0)), .p (.int .i64 0), .p (.int .i64 0)], code := none }),
  (86, { kind := .other, size := 1, bytes := 8, zero := [.p (.lit .nilFunc)], code := none }),
  (87, { kind := .ptr 89, size := 1, bytes := 8, zero := [.p (.lit (.pointer none))], code := none }),
  (88, { kind := .struct [(0, 38), (1, 3), (2, 4), (3, 3)], size := 4, bytes := 48, zero := [.p (.lit (.slice none 0 0)), .p (.int .i64 0), .p (.bool false), .p (.int .i64 0)], code := none }),
  (89, { kind := .struct [(0, 38), (1, 3), (2, 4), (3, 3)], size := 4, bytes := 48, zero := [.p (.lit (.slice none 0 0)), .p (.int .i64 0), .p (.bool false), .p (.int .i64 0)], code := none }),
  (90, { kind := .other, size := 1, bytes := 8, zero := [.p (.lit .nilFunc)], code := none }),
  (91, { kind := .other, size := 1, bytes := 8, zero := [.p (.lit .nilFunc)], code := none }),
  (92, { kind := .other, size := 1, bytes := 8, zero := [.p (.lit .nilFunc)], code := none }),
  (93, { kind := .other, size := 1, bytes := 8, zero := [.p (.lit .nilFunc)], code := none }),
  (94, { kind := .other, size := 1, bytes := 8, zero := [.p (.lit .nilFunc)], code := none }),
  (95, { kind := .other, size := 1, bytes := 8, zero := [.p (.lit .nilFunc)], code := none })]
 | 6 => [(97, { kind := .other, size := 1, bytes := 8, zero := [.p (.lit .nilFunc)], code := none }),
  (98, { kind := .slice 20, size := 1, bytes := 24, zero := [.p (.lit (.slice none 0 0))], code := none }),
  (99, { kind := .other, size := 1, bytes := 8, zero := [.p (.lit .nilFunc)], code := none }),
  (100, { kind := .other, size := 1, bytes := 8, zero := [.p (.lit .nilFunc)], code := none }),
  (101, { kind := .other, size := 1, bytes := 8, zero := [.p (.lit .nilFunc)], code := none }),
  (102, { kind := .ptr 104, size := 1, bytes := 8, zero := [.p (.lit (.pointer none))], code := none }),
  (103, { kind := .struct [(0, 102), (1, 58)], size := 2, bytes := 32, zero := [.p (.lit (.pointer none)), .p (.lit (.slice none 0 0))], code := none }),
  (104, { kind := .struct [(0, 102), (1, 58)], size := 2, bytes := 32, zero := [.p (.lit (.pointer none)), .p (.lit (.slice none 0 0))], code := none, typed := true }),
  (105, { kind := .other, size := 1, bytes := 8, zero := [.p (.lit .nilFunc)], code := none }),
  (106, { kind := .ifc, size := 1, bytes := 16, zero := [.p (.lit .nilIface)], code := none }),
  (107, { kind := .ifc, size := 1, bytes := 16, zero := [.p (.lit .nilIface)], code := none }),
  (109, { kind := .other, size := 1, bytes := 8, zero := [.p (.lit .nilFunc)], code := none }),
  (110, { kind := .other, size := 1, bytes := 8, zero := [.p (.lit .nilFunc)], code := none }),
  (111, { kind := .other, size := 1, bytes := 8, zero := [.p (.lit .nilFunc)], code := none })]
 | 7 => [(112, { kind := .other, size := 1, bytes := 8, zero := [.p (.lit .nilFunc)], code := none }),
  (113, { kind := .other, size := 1, bytes := 8, zero := [.p (.lit .nilFunc)], code := none }),
  (114, { kind := .other, size := 1, bytes := 8, zero := [.p (.lit .nilFunc)], code := none }),
  (115, { kind := .other, size := 1, bytes := 8, zero := [.p (.lit .nilFunc)], code := none }),
  (116, { kind := .other, size := 1, bytes := 8, zero := [.p (.lit .nilFunc)], code := none }),
  (117, { kind := .other, size := 1, bytes := 8, zero := [.p (.lit .nilFunc)], code := none }),
  (118, { kind := .ptr 31, size := 1, bytes := 8, zero := [.p (.lit (.pointer none))], code := none }),
  (119, { kind := .other, size := 1, bytes := 8, zero := [.p (.lit .nilFunc)], code := none }),
  (120, { kind := .other, size := 1, bytes := 8, zero := [.p (.lit .nilFunc)], code := none }),
  (121, { kind := .arr 5 3, size := 5, bytes := 40, zero := [.arr U.int 5 (List.replicate 5 (Cd.dflt U.int))], code := some U.arr5, cks := [.int .i64, .int .i64, .int .i64, .int .i64, .int .i64] }),
  (122, { kind := .other, size := 1, bytes := 8, zero := [.p (.lit .nilFunc)], code := none }),
  (123, { kind := .other, size := 1, bytes := 8, zero := [.p (.lit .nilFunc)], code := none }),
  (124, { kind := .int .u64, size := 1, bytes := 8, zero := [.p (.int .u64 0)], code := none }),
  (125, { kind := .other, size := 1, bytes := 8, zero := [.p (.lit .nilFunc)], code := none }),
  (126, { kind := .ptr 5, size := 1, bytes := 8, zero := [.p (.lit (.pointer none))], code := none }),
  (127, { kind := .other, size := 1, bytes := 8, zero := [.p (.lit .nilFunc)], code := none })]
 | 8 => [(128, { kind := .other, size := 1, bytes := 8, zero := [.p (.lit .nilFunc)], code := none }),
  (129, { kind := .other, size := 1, bytes := 8, zero := [.p (.lit .nilFunc)], code := none }),
  (130, { kind := .other, size := 1, bytes := 8, zero := [.p (.lit .nilFunc)], code := none }),
  (131, { kind := .other, size := 1, bytes := 8, zero := [.p (.lit .nilFunc)], code := none }),
  (132, { kind := .other, size := 1, bytes := 8, zero := [.p (.lit .nilFunc)], code := none }),
  (133, { kind := .other, size := 1, bytes := 8, zero := [.p (.lit .nilFunc)], code := none }),
  (134, { kind := .other, size := 1, bytes := 8, zero := [.p (.lit .nilFunc)], code := none }),
  (135, { kind := .other, size := 1, bytes := 8, zero := [.p (.lit .nilFunc)], code := none }),
  (136, { kind := .struct [(0, 3), (1, 3), (2, 135)], size := 3, bytes := 24, zero := [.p (.int .i64 0), .p (.int .i64 0), .p (.lit .nilFunc)], code := none }),
  (137, { kind := .struct [(0, 3), (1, 3), (2, 135)], size := 3, bytes := 24, zero := [.p (.int .i64 0), .p (.int .i64 0), .p (.lit .nilFunc)], code := none }),
  (139, { kind := .map .str 137, size := 1, bytes := 8, zero := [.p (.lit (.map none))], code := none }),
  (140, { kind := .other, size := 1, bytes := 8, zero := [.p (.lit .nilFunc)], code := none }),
  (141, { kind := .other, size := 1, bytes := 8, zero := [.p (.lit .nilFunc)], code := none }),
  (142, { kind := .other, size := 1, bytes := 8, zero := [.p (.lit .nilFunc)], code := none }),
  (143, { kind := .struct [(0, 3), (1, 3)], size := 2, bytes := 16, zero := [.p (.int .i64 0), .p (.int .i64 0)], code := none })]
 | 9 => [(144, { kind := .struct [(0, 3), (1, 3)], size := 2, bytes := 16, zero := [.p (.int .i64 0), .p (.int .i64 0)], code := some U.cell, cks := [.int .i64, .int .i64] }),
  (145, { kind := .other, size := 1, bytes := 8, zero := [.p (.lit .nilFunc)], code := none }),
  (146, { kind := .other, size := 1, bytes := 8, zero := [.p (.lit .nilFunc)], code := none }),
  (147, { kind := .int .u32, size := 1, bytes := 4, zero := [.p (.int .u32 0)], code := some U.u32 }),
  (148, { kind := .other, size := 1, bytes := 8, zero := [.p (.lit .nilFunc)], code := none }),
  (149, { kind := .int .u64, size := 1, bytes := 8, zero := [.p (.int .u64 0)], code := some U.u64 }),
  (150, { kind := .uptr, size := 1, bytes := 8, zero := [.p (.lit (.pointer none))], code := none }),
  (151, { kind := .other, size := 1, bytes := 8, zero := [.p (.lit .nilFunc)], code := none }),
  (152, { kind := .other, size := 1, bytes := 8, zero := [.p (.lit .nilFunc)], code := none }),
  (153, { kind := .other, size := 1, bytes := 8, zero := [.p (.lit .nilFunc)], code := none }),
  (154, { kind := .other, size := 1, bytes := 8, zero := [.p (.lit .nilFunc)], code := none }),
  (155, { kind := .other, size := 1, bytes := 8, zero := [.p (.lit .nilFunc)], code := none }),
  (156, { kind := .other, size := 1, bytes := 8, zero := [.p (.lit .nilFunc)], code := none }),
  (157, { kind := .other, size := 1, bytes := 8, zero := [.p (.lit .nilFunc)], code := none }),
  (158, { kind := .slice 144, size := 1, bytes := 24, zero := [.p (.lit (.slice none 0 0))], code := none }),
  (159, { kind := .other, size := 1, bytes := 8, zero := [.p (.lit .nilFunc)], code := none })]
 | 10 => [(160, { kind := .other, size := 1, bytes := 8, zero := [.p (.lit .nilFunc)], code := none }),
  (161, { kind := .other, size := 1, bytes := 8, zero := [.p (.lit .nilFunc)], code := none }),
  (163, { kind := .other, size := 1, bytes := 8, zero := [.p (.lit .nilFunc)], code := none }),
  (164, { kind := .other, size := 1, bytes := 8, zero := [.p (.lit .nilFunc)], code := none }),
  (165, { kind := .arr 24 5, size := 24, bytes := 24, zero := [.arr U.u8 24 (List.replicate 24 (Cd.dflt U.u8))], code := none, cks := [.int .u8, .int .u8, .int .u8, .int .u8, .int .u8, .int .u8, .int .u8, .int .u8, .int .u8, .int .u8, .int .u8, .int .u8, .int .u8, .int .u8, .int .u8, .int .u8, .int .u8, .int .u8, .int .u8, .int .u8, .int .u8, .int .u8, .int .u8, .int .u8], seq := true }),
  (166, { kind := .other, size := 1, bytes := 8, zero := [.p (.lit .nilFunc)], code := none }),
  (168, { kind := .other, size := 1, bytes := 8, zero := [.p (.lit .nilFunc)], code := none }),
  (169, { kind := .arr 32 5, size := 32, bytes := 32, zero := [.arr U.u8 32 (List.replicate 32 (Cd.dflt U.u8))], code := none, cks := [.int .u8, .int .u8, .int .u8, .int .u8, .int .u8, .int .u8, .int .u8, .int .u8, .int .u8, .int .u8, .int .u8, .int .u8, .int .u8, .int .u8, .int .u8, .int .u8, .int .u8, .int .u8, .int .u8, .int .u8, .int .u8, .int .u8, .int .u8, .int .u8, .int .u8, .int .u8, .int .u8, .int .u8, .int .u8, .int .u8, .int .u8, .int .u8], seq := true }),
  (170, { kind := .arr 64 5, size := 64, bytes := 64, zero := [.arr U.u8 64 (List.replicate 64 (Cd.dflt U.u8))], code := none, seq := true }),
  (171, { kind := .other, size := 1, bytes := 8, zero := [.p (.lit .nilFunc)], code := none }),
  (172, { kind := .other, size := 1, bytes := 8, zero := [.p (.lit .nilFunc)], code := none }),
  (173, { kind := .int .i64, size := 1, bytes := 8, zero := [.p (.int .i64 0)], code := none }),
  (175, { kind := .other, size := 1, bytes := 8, zero := [.p (.lit .nilFunc)], code := none })]
 | 11 => [(176, { kind := .ptr 186, size := 1, bytes := 8, zero := [.p (.lit (.pointer none))], code := none }),
  (177, { kind := .other, size := 1, bytes := 8, zero := [.p (.lit .nilFunc)], code := none }),
  (178, { kind := .other, size := 1, bytes := 8, zero := [.p (.lit .nilFunc)], code := none }),
  (179, { kind := .other, size := 1, bytes := 8, zero := [.p (.lit .nilFunc)], code := none }),
  (180, { kind := .arr 20 149, size := 20, bytes := 160, zero := [.arr U.u64 20 (List.replicate 20 (Cd.dflt U.u64))], code := none, cks := [.int .u64, .int .u64, .int .u64, .int .u64, .int .u64, .int .u64, .int .u64, .int .u64, .int .u64, .int .u64, .int .u64, .int .u64, .int .u64, .int .u64, .int .u64, .int .u64, .int .u64, .int .u64, .int .u64, .int .u64], seq := true }),
  (181, { kind := .arr 65 5, size := 65, bytes := 65, zero := [.arr U.u8 65 (List.replicate 65 (Cd.dflt U.u8))], code := none, seq := true }),
  (183, { kind := .other, size := 1, bytes := 8, zero := [.p (.lit .nilFunc)], code := none }),
  (184, { kind := .other, size := 1, bytes := 8, zero := [.p (.lit .nilFunc)], code := none }),
  (185, { kind := .struct [(0, 9), (1, 9), (2, 107)], size := 3, bytes := 48, zero := [.p (.str []), .p (.str []), .p (.lit .nilIface)], code := none }),
  (186, { kind := .struct [(0, 9), (1, 9), (2, 107)], size := 3, bytes := 48, zero := [.p (.str []), .p (.str []), .p (.lit .nilIface)], code := none }),
  (187, { kind := .other, size := 1, bytes := 8, zero := [.p (.lit .nilFunc)], code := none }),
  (188, { kind := .arr 256 5, size := 256, bytes := 256, zero := [.arr U.u8 256 (List.replicate 256 (Cd.dflt U.u8))], code := none, seq := true }),
  (189, { kind := .struct [(0, 5), (1, 5)], size := 2, bytes := 2, zero := [.p (.int .u8 0), .p (.int .u8 0)], code := none }),
  (190, { kind := .struct [(0, 5), (1, 5)], size := 2, bytes := 2, zero := [.p (.int .u8 0), .p (.int .u8 0)], code := none }),
  (191, { kind := .arr 16 190, size := 32, bytes := 32, zero := [.p (.int .u8 0), .p (.int .u8 0), .p (.int .u8 0), .p (.int .u8 0), .p (.int .u8 0), .p (.int .u8 0), .p (.int .u8 0), .p (.int .u8 0), .p (.int .u8 0), .p (.int .u8 0), .p (.int .u8 0), .p (.int .u8 0), .p (.int .u8 0), .p (.int .u8 0), .p (.int .u8 0), .p (.int .u8 0), .p (.int .u8 0), .p (.int .u8 0), .p (.int .u8 0), .p (.int .u8 0), .p (.int .u8 0), .p (.int .u8 0), .p (.int .u8 0), .p (.int .u8 0), .p (.int .u8 0), .p (.int .u8 0), .p (.int .u8 0), .p (.int .u8 0), .p (.int .u8 0), .p (.int .u8 0), .p (.int .u8 0), .p (.int .u8 0)], code := none, cks := [.int .u8, .int .u8, .int .u8, .int .u8, .int .u8, .int .u8, .int .u8, .int .u8, .int .u8, .int .u8, .int .u8, .int .u8, .int .u8, .int .u8, .int .u8, .int .u8, .int .u8, .int .u8, .int .u8, .int .u8, .int .u8, .int .u8, .int .u8, .int .u8, .int .u8, .int .u8, .int .u8, .int .u8, .int .u8, .int .u8, .int .u8, .int .u8] })]
 | 12 => [(193, { kind := .other, size := 1, bytes := 8, zero := [.p (.lit .nilFunc)], code := none }),
  (194, { kind := .other, size := 1, bytes := 8, zero := [.p (.lit .nilFunc)], code := none }),
  (195, { kind := .ptr 197, size := 1, bytes := 8, zero := [.p (.lit (.pointer none))], code := none }),
  (196, { kind := .struct [(0, 9)], size := 1, bytes := 16, zero := [.p (.str [])], code := none }),
  (197, { kind := .struct [(0, 9)], size := 1, bytes := 16, zero := [.p (.str [])], code := none }),
  (203, { kind := .other, size := 1, bytes := 8, zero := [.p (.lit .nilFunc)], code := none }),
  (206, { kind := .other, size := 1, bytes := 8, zero := [.p (.lit .nilFunc)], code := none })]
 | _ => []
def lkT : List (Nat × TI Cd) → Nat → Option (TI Cd)
 | [], _ => none
 | (n, i) :: l, t => match Nat.beq n t with
  | true => some i
  | false => lkT l t
theorem zl6 : ∀ (l : List (Nat × TI Cd)) (t : Nat) (i : TI Cd), lkT l t = some i → (t, i) ∈ l
 | [], t, i, h => by simp [lkT] at h
 | (n, j) :: l, t, i, h => by
  simp only [lkT] at h
  split at h
  ·rename_i hb
   injection h with h
   subst h
   rw [Nat.eq_of_beq_eq_true hb]
   exact List.mem_cons_self ..
  ·exact List.mem_cons_of_mem _ (zl6 l t i h)
def tab : Tab Cd := fun t => lkT (y9f (t / 16)) t
set_option maxRecDepth 100000 in
set_option maxHeartbeats 4000000 in
theorem y4f (c : Nat) : (y9f c).all (fun p => tyB Go.Proofs.Tryz.prog Dc p.1 p.2) = true := by
 unfold y9f
 split <;> kernel_rfl
theorem q03 : q1z Go.Proofs.Tryz.prog Dc tab := by
 intro t i h
 have h1 := List.all_eq_true.1 (y4f (t / 16)) (t, i) (zl6 (y9f (t / 16)) t i h)
 exact y7v h1
theorem mixed : Go.Proofs.Tryz.prog.follows .mixedOrders = true := by kernel_rfl
end Go.SX
namespace Go.SX
def inB (n low high : Int) : Bool := decide (low ≤ n) && decide (n ≤ high)
theorem q0f (n low high : Int) : inB n low high = true ↔ low ≤ n ∧ n ≤ high := by simp [inB]
theorem z7h (n low high : Int) : inB n low high = false ↔ ¬ (low ≤ n ∧ n ≤ high) := by rw [← q0f]; simp
def qp9 (r : Int) : Bool := inB r 0 281474976710655
def q29 (rows : List Int) : Bool := decide ((rows.length : Int) = 24) && rows.all qp9
def q77 (g : q06) : q06 :=
 if g.kind = 1 then ⟨g.kind, [], g.from_, g.to_, g.low, g.high, g.clear, 0, 0, 0, [], []⟩
 else if g.kind = 2 then ⟨g.kind, [], 0, 0, g.low, 0, false, 0, 0, g.within, [], []⟩
 else if g.kind = 3 then ⟨g.kind, [], g.from_, 0, 0, 0, false, g.days, g.times, g.within, [], []⟩
 else if g.kind = 4 then ⟨g.kind, [], 0, 0, 0, 0, false, 0, 0, g.within, [], []⟩
 else ⟨g.kind, [], 0, 0, 0, 0, false, 0, 0, 0, [], []⟩
def q3s (a b : q06) : Bool := decide (a.kind = b.kind) && decide (a.from_ = b.from_ ∧ a.to_ = b.to_) && decide (a.low = b.low) && decide (a.high = b.high) && (a.clear == b.clear) && decide (a.days = b.days) && decide (a.times = b.times) && decide (a.within = b.within)
def qp5 (g : q06) : Bool :=
 if g.kind = 1 then q29 g.rows && g.rows.any (fun r => decide (r ≠ 0)) && inB g.from_ 0 1000000 && inB g.to_ (g.from_ + 1) 1000000 && inB g.low 0 90 && inB g.high g.low 90
 else if g.kind = 2 then inB g.low 1 8 && inB g.within 1 1000000
 else if g.kind = 3 then inB g.days 1 60 && inB g.times 1 6 && inB g.within 0 (1440 * g.days) && inB g.from_ 0 1000000
 else if g.kind = 4 then inB g.within 0 1000000
 else true
def q1m (k : Int) : Int := if k = 2 ∨ k = 3 then 1 else if k = 4 then 3 else 6
def q6u (g : q06) : Bool := if g.kind = 1 then decide ((g.kids.length : Int) = 0) else if g.kind = 5 ∨ g.kind = 6 then inB g.kids.length 2 4 else decide ((g.kids.length : Int) = 1)
def q48 (g : q06) : Bool := if g.kind = 6 then decide ((g.cents.length : Int) = g.kids.length) && !g.cents.any (fun n => !inB n 0 1000000000) else decide ((g.cents.length : Int) = 0)
def q35 (g : q06) : Bool := q6u g && q48 g && (decide (g.kind = 1) || decide ((g.rows.length : Int) = 0)) && !g.kids.any (fun k => decide (q1m g.kind < k.kind))
def okB (g : q06) : Bool := inB g.kind 1 6 && q3s g (q77 g) && qp5 g && q35 g
mutual
def q2j : q06 → Int → Option Int
 | ⟨kind, rows, from_, to_, low, high, clear, days, times, within, cents, kids⟩, d =>
  if decide (4 < d) || !okB ⟨kind, rows, from_, to_, low, high, clear, days, times, within, cents, kids⟩ then none else match sizeL kids (d + 1) with
   | none => none
   | some m => some (1 + m)
def sizeL : List q06 → Int → Option Int
 | [], _ => some 0
 | k :: l, d => match q2j k d with
  | none => none
  | some m => match sizeL l d with
   | none => none
   | some n => some (m + n)
end
theorem q3g (g : q06) (d : Int) : q2j g d = if decide (4 < d) || !okB g then none else match sizeL g.kids (d + 1) with | none => none | some m => some (1 + m) := by
 cases g; rw [q2j]
def q2r (g : q06) : Bool := match q2j g 1 with
 | none => false
 | some n => decide (n ≤ 12)
def qp3 (f t : Int) : Bool := inB f 0 1000000 && inB t 0 1000000 && decide (f < t)
def zy0 (g : q06) (most : Int) : Bool := decide ((g.kids.length : Int) = 1) && inB (g.kids.getD 0 (U.dflt .goal)).kind 1 most
def q68 (g own : q06) (a c : Bool) : Bool := decide (g.from_ = own.from_ ∧ g.to_ = own.to_) && decide (g.low = own.low) && decide (g.high = own.high) && (g.clear == own.clear) && decide (g.days = own.days) && decide (g.times = own.times) && decide (g.within = own.within) &&
 (a || decide ((g.rows.length : Int) = 0)) && (c || decide ((g.cents.length : Int) = 0))
def q7c (g : q06) : Bool :=
 if g.kind = 1 then q68 g ⟨0, [], g.from_, g.to_, g.low, g.high, g.clear, 0, 0, 0, [], []⟩ true false && decide ((g.kids.length : Int) = 0) && q29 g.rows && g.rows.any (fun r => decide (r ≠ 0)) && qp3 g.from_ g.to_ && inB g.low 0 90 && inB g.high g.low 90
 else if g.kind = 2 then q68 g ⟨0, [], 0, 0, g.low, 0, false, 0, 0, g.within, [], []⟩ false false && zy0 g 1 && inB g.low 1 8 && inB g.within 1 1000000
 else if g.kind = 3 then q68 g ⟨0, [], g.from_, 0, 0, 0, false, g.days, g.times, g.within, [], []⟩ false false && zy0 g 1 && inB g.days 1 60 && inB g.times 1 6 && inB g.within 0 (1440 * g.days) && inB g.from_ 0 1000000
 else if g.kind = 4 then q68 g ⟨0, [], 0, 0, 0, 0, false, 0, 0, g.within, [], []⟩ false false && zy0 g 3 && inB g.within 0 1000000
 else if g.kind = 5 then q68 g ⟨0, [], 0, 0, 0, 0, false, 0, 0, 0, [], []⟩ false false && inB g.kids.length 2 4
 else if g.kind = 6 then g.cents.all (fun n => inB n 0 1000000000) && q68 g ⟨0, [], 0, 0, 0, 0, false, 0, 0, 0, [], []⟩ false true && inB g.kids.length 2 4 && decide ((g.cents.length : Int) = g.kids.length)
 else false
mutual
def z6q : q06 → Int → Int
 | ⟨kind, rows, from_, to_, low, high, clear, days, times, within, cents, kids⟩, d =>
  if decide (4 < d) || !q7c ⟨kind, rows, from_, to_, low, high, clear, days, times, within, cents, kids⟩ then 13 else cntL kids (d + 1) 1
def cntL : List q06 → Int → Int → Int
 | [], _, n => n
 | k :: l, d, n => if n ≤ 12 then cntL l d (n + z6q k d) else n
end
theorem qt6 (g : q06) (d : Int) : z6q g d = if decide (4 < d) || !q7c g then 13 else cntL g.kids (d + 1) 1 := by
 cases g; rw [z6q]
theorem zg3 (g : q06) (h : q7c g = true) : okB g = true ∨ ∃ k ∈ g.kids, 6 < k.kind := by
 by_cases hk : g.kids.any (fun k => decide (6 < k.kind)) = true
 ·right
  obtain ⟨k, h1, h2⟩ := List.any_eq_true.1 hk
  exact ⟨k, h1, of_decide_eq_true h2⟩
 ·left
  have hw : ∀ q : Int, (∀ k ∈ g.kids, k.kind ≤ q) → g.kids.any (fun k => decide (q < k.kind)) = false := by
   intro q hq
   rw [List.any_eq_false]
   intro k hk
   simpa using hq k hk
  have h6 : ∀ k ∈ g.kids, k.kind ≤ 6 := by
   intro k hm
   by_cases h6 : 6 < k.kind
   ·exact absurd (List.any_eq_true.2 ⟨k, hm, by simpa using h6⟩) hk
   ·omega
  have hone : ∀ q : Int, zy0 g q = true → (g.kids.length : Int) = 1 ∧ ∀ k ∈ g.kids, k.kind ≤ q := by
   intro q hq
   simp only [zy0, Bool.and_eq_true, decide_eq_true_eq, q0f] at hq
   obtain ⟨h1, h2⟩ := hq
   refine ⟨h1, fun k hk => ?_⟩
   match hkk : g.kids with
   | [] => rw [hkk] at hk; cases hk
   | [x] => rw [hkk] at hk h2; simp at hk; subst hk; exact h2.2
   | _ :: _ :: _ => rw [hkk] at h1; simp at h1; omega
  unfold q7c at h
  unfold okB q3s q77 qp5 q35 q6u q48 q1m
  split at h
  ·rename_i e
   simp only [q68, qp3, Bool.and_eq_true, Bool.or_eq_true, decide_eq_true_eq, q0f, beq_iff_eq, e] at h
   have := hw 6 h6
   simp [e, q0f, this]
   simp at h
   grind
  ·split at h
   ·rename_i e
    simp only [q68, Bool.and_eq_true, Bool.or_eq_true, decide_eq_true_eq, q0f, beq_iff_eq] at h
    have h1 := hone 1 h.1.1.2
    have := hw 1 h1.2
    simp [e, q0f, this]
    simp at h
    grind
   ·split at h
    ·rename_i e
     simp only [q68, Bool.and_eq_true, Bool.or_eq_true, decide_eq_true_eq, q0f, beq_iff_eq] at h
     have h1 := hone 1 h.1.1.1.1.2
     have := hw 1 h1.2
     simp [e, q0f, this]
     simp at h
     grind
    ·split at h
     ·rename_i e
      simp only [q68, Bool.and_eq_true, Bool.or_eq_true, decide_eq_true_eq, q0f, beq_iff_eq] at h
      have h1 := hone 3 h.1.2
      have := hw 3 h1.2
      simp [e, q0f, this]
      simp at h
      grind
     ·split at h
      ·rename_i e
       simp only [q68, Bool.and_eq_true, Bool.or_eq_true, decide_eq_true_eq, q0f, beq_iff_eq] at h
       have := hw 6 h6
       simp [e, q0f, this]
       simp at h
       grind
      ·split at h
       ·rename_i e
        simp only [q68, Bool.and_eq_true, Bool.or_eq_true, decide_eq_true_eq, q0f, beq_iff_eq] at h
        have := hw 6 h6
        simp [e, q0f, this]
        simp [q0f] at h
        grind
       ·cases h
theorem zg5 (g : q06) (h : okB g = true) : q7c g = true ∨ ∃ k ∈ g.kids, k.kind < 1 := by
 by_cases hk : g.kids.any (fun k => decide (k.kind < 1)) = true
 ·right
  obtain ⟨k, h1, h2⟩ := List.any_eq_true.1 hk
  exact ⟨k, h1, of_decide_eq_true h2⟩
 ·left
  have h1 : ∀ k ∈ g.kids, 1 ≤ k.kind := by
   intro k hm
   by_cases h6 : k.kind < 1
   ·exact absurd (List.any_eq_true.2 ⟨k, hm, by simpa using h6⟩) hk
   ·omega
  have hone : ∀ q : Int, (g.kids.length : Int) = 1 → g.kids.any (fun k => decide (q < k.kind)) = false → zy0 g q = true := by
   intro q hl hq
   rw [List.any_eq_false] at hq
   simp only [zy0, Bool.and_eq_true, decide_eq_true_eq, q0f]
   refine ⟨hl, ?_⟩
   match hkk : g.kids with
   | [] => rw [hkk] at hl; simp at hl
   | [x] =>
    rw [hkk] at hq h1
    have a := hq x (by simp)
    have b := h1 x (by simp)
    simp at a
    exact ⟨b, a⟩
   | _ :: _ :: _ => rw [hkk] at hl; simp at hl; omega
  unfold okB q35 q6u q48 at h
  simp only [Bool.and_eq_true, Bool.not_eq_true', q0f] at h
  obtain ⟨⟨⟨⟨ha, hb⟩, hp⟩, hl⟩, ⟨⟨hm, hc⟩, hr⟩, hw⟩ := h
  have hkk : g.kind = 1 ∨ g.kind = 2 ∨ g.kind = 3 ∨ g.kind = 4 ∨ g.kind = 5 ∨ g.kind = 6 := by omega
  have ho := fun q => hone q
  clear hone
  rcases hkk with e | e | e | e | e | e <;> simp only [q3s, q77, qp5, q1m, e, Bool.and_eq_true, decide_eq_true_eq, beq_iff_eq, q0f] at hp hl hm hc hr hw <;> simp only [q7c, q68, qp3, e, Bool.and_eq_true, decide_eq_true_eq, beq_iff_eq, q0f]
  ·simp [q0f] at hp hl hm hc hr hw ⊢
   grind
  ·have := ho 1 (by simpa using hm) (by simpa using hw)
   simp at hp hl hm hc hr hw ⊢
   grind
  ·have := ho 1 (by simpa using hm) (by simpa using hw)
   simp at hp hl hm hc hr hw ⊢
   grind
  ·have := ho 3 (by simpa using hm) (by simpa using hw)
   simp at hp hl hm hc hr hw ⊢
   grind
  ·simp at hp hl hm hc hr hw ⊢
   grind
  ·simp [q0f] at hp hl hm hc hr hw ⊢
   grind
theorem z97 : ∀ (l : List q06) (d n : Int), 12 < n → cntL l d n = n
 | [], d, n, h => by rw [cntL]
 | k :: l, d, n, h => by rw [cntL, if_neg (by omega)]
mutual
theorem qh7 : ∀ (g : q06) (d : Int), 1 ≤ z6q g d
 | ⟨kind, rows, from_, to_, low, high, clear, days, times, within, cents, kids⟩, d => by
  rw [z6q]
  split
  ·omega
  ·exact cntL_pos kids (d + 1) 1 (by omega)
theorem cntL_pos : ∀ (l : List q06) (d n : Int), 1 ≤ n → n ≤ cntL l d n
 | [], d, n, h => by rw [cntL]; omega
 | k :: l, d, n, h => by
  rw [cntL]
  split
  ·have h1 := qh7 k d
   have h2 := cntL_pos l d (n + z6q k d) (by omega)
   omega
  ·omega
end
theorem zb1 : ∀ (l : List q06) (d n : Int), 1 ≤ n → (∃ k ∈ l, 12 < z6q k d) → 12 < cntL l d n
 | [], d, n, h, ⟨k, hk, _⟩ => by cases hk
 | k :: l, d, n, h, ⟨x, hx, hb⟩ => by
  rw [cntL]
  split
  ·have h1 := qh7 k d
   rcases List.mem_cons.1 hx with rfl | hx
   ·have := cntL_pos l d (n + z6q x d) (by omega)
    omega
   ·exact zb1 l d _ (by omega) ⟨x, hx, hb⟩
  ·omega
theorem qi0 : ∀ (l : List q06) (d : Int), (∃ k ∈ l, q2j k d = none) → sizeL l d = none
 | [], d, ⟨k, hk, _⟩ => by cases hk
 | k :: l, d, ⟨x, hx, hb⟩ => by
  rw [sizeL]
  rcases List.mem_cons.1 hx with rfl | hx
  ·rw [hb]
  ·cases q2j k d with
   | none => rfl
   | some m => simp only; rw [qi0 l d ⟨x, hx, hb⟩]
mutual
theorem z3p : ∀ (g : q06) (d : Int), match q2j g d with
  | some n => 1 ≤ n ∧ (n ≤ 12 → z6q g d = n) ∧ (12 < n → 12 < z6q g d)
  | none => 12 < z6q g d
 | ⟨kind, rows, from_, to_, low, high, clear, days, times, within, cents, kids⟩, d => by
  have hL := size_cntL kids (d + 1) 1 (by omega)
  generalize hg : (⟨kind, rows, from_, to_, low, high, clear, days, times, within, cents, kids⟩ : q06) = g
  have hkids : g.kids = kids := by rw [← hg]
  rw [q3g, qt6, hkids]
  by_cases hd : 4 < d
  ·simp [hd]
  ·simp only [hd, decide_false, Bool.false_or]
   cases hok : okB g with
   | false =>
    simp only [Bool.not_false, if_true]
    cases hkd : q7c g with
    | false => simp
    | true =>
     simp only [Bool.not_true]
     rcases zg3 g hkd with h | ⟨k, hk, hb⟩
     ·rw [h] at hok; cases hok
     ·refine zb1 kids _ _ (by omega) ⟨k, hkids ▸ hk, ?_⟩
      rw [qt6]
      have : q7c k = false := by unfold q7c; rw [if_neg (by omega), if_neg (by omega), if_neg (by omega), if_neg (by omega), if_neg (by omega), if_neg (by omega)]
      simp [this]
   | true =>
    simp only [Bool.not_true]
    cases hkd : q7c g with
    | false =>
     rcases zg5 g hok with h | ⟨k, hk, hb⟩
     ·rw [h] at hkd; cases hkd
     ·have : sizeL kids (d + 1) = none := by
       refine qi0 kids _ ⟨k, hkids ▸ hk, ?_⟩
       rw [q3g]
       have : okB k = false := by simp [okB, inB]; intro h; omega
       simp [this]
      rw [this]
      simp
    | true =>
     simp only [Bool.not_true]
     cases hs : sizeL kids (d + 1) with
     | none => rw [hs] at hL; simpa using hL
     | some m => rw [hs] at hL; simp only at hL ⊢; exact ⟨by omega, hL.2.1, hL.2.2⟩
theorem size_cntL : ∀ (l : List q06) (d n : Int), 1 ≤ n → match sizeL l d with
  | some m => 0 ≤ m ∧ (n + m ≤ 12 → cntL l d n = n + m) ∧ (12 < n + m → 12 < cntL l d n)
  | none => 12 < cntL l d n
 | [], d, n, h => by rw [sizeL, cntL]; simp
 | k :: l, d, n, h => by
  have h1 := z3p k d
  have h2 := size_cntL l d (n + z6q k d) (by have := qh7 k d; omega)
  rw [sizeL, cntL]
  have h3 := cntL_pos l d (n + z6q k d) (by have := qh7 k d; omega)
  cases hk : q2j k d with
  | none =>
   rw [hk] at h1
   simp only at h1 ⊢
   split <;> omega
  | some m =>
   rw [hk] at h1
   simp only at h1 ⊢
   cases hl : sizeL l d with
   | none =>
    rw [hl] at h2
    simp only at h2 ⊢
    split <;> omega
   | some q =>
    rw [hl] at h2
    simp only at h2 ⊢
    by_cases hn : n ≤ 12
    ·rw [if_pos hn]
     by_cases hm : m ≤ 12
     ·rw [h1.2.1 hm] at h2 h3 ⊢
      refine ⟨by omega, fun h => by rw [h2.2.1 (by omega)]; omega, fun h => h2.2.2 (by omega)⟩
     ·have := h1.2.2 (by omega)
      refine ⟨by omega, fun h => by omega, fun h => by omega⟩
    ·rw [if_neg hn]
     exact ⟨by omega, fun h => by omega, fun h => by omega⟩
end
theorem zt5 (g : q06) : q2r g = decide (z6q g 1 ≤ 12) := by
 have h := z3p g 1
 unfold q2r
 cases hs : q2j g 1 with
 | none => rw [hs] at h; simp only at h ⊢; symm; simpa using h
 | some n =>
  rw [hs] at h
  simp only at h ⊢
  by_cases hn : n ≤ 12
  ·rw [h.2.1 hn]
  ·have := h.2.2 (by omega)
   rw [decide_eq_false hn, decide_eq_false (by omega)]
end Go.SX
namespace Go.SX
open Go.Proofs
set_option maxHeartbeats 400000000
set_option maxRecDepth 100000
@[reducible] def iS (n : Int) : SV Cd := .p (.int .i64 n)
@[reducible] def bS (b : Bool) : SV Cd := .p (.bool b)
@[reducible] def lS (l : List Int) : SV Cd := .p (.dsl U.int l)
@[reducible] def z36 (rows : List Int) : SV Cd := .agg [.p (.dsl U.int rows)]
@[reducible] def q0m (g : q06) : SV Cd := .agg [.p (.int .i64 g.kind), .p (.dsl U.int g.rows), .p (.int .i64 g.from_), .p (.int .i64 g.to_), .p (.int .i64 g.low), .p (.int .i64 g.high), .p (.bool g.clear), .p (.int .i64 g.days), .p (.int .i64 g.times), .p (.int .i64 g.within), .p (.dsl U.int g.cents), .p (.dsl U.goal g.kids)]
theorem oin (n low high : Int) : q07 Tryz.prog Dc 41 [.p (.int .i64 n), .p (.int .i64 low), .p (.int .i64 high)] [] (.p (.bool (inB n low high))) [] := by
 refine q00 Ax q03 Tryz.func41 (c := _) rfl Tryz.call41 60 ?_
 (repeat' ((conv => whnf); first | refine x0C (eB ?_ rfl) | refine spC (fun hb => ?_) fun hb => ?_))
 all_goals (first | (simp_all [inB]; done) | (simp_all [inB]; omega) | (simp_all [inB]; grind))
theorem gin (n low high : Int) : q07 Tryz.prog Dc 114 [.p (.int .i64 n), .p (.int .i64 low), .p (.int .i64 high)] [] (.p (.bool (inB n low high))) [] := by
 refine q00 Ax q03 Tryz.func114 (c := _) rfl Tryz.call114 60 ?_
 (repeat' ((conv => whnf); first | refine x0C (eB ?_ rfl) | refine spC (fun hb => ?_) fun hb => ?_))
 all_goals (first | (simp_all [inB]; done) | (simp_all [inB]; omega) | (simp_all [inB]; grind))
theorem z6z (n low high : Int) : q07 Tryz.prog Dc 42 [.p (.int .i64 n), .p (.int .i64 low), .p (.int .i64 high)] [] (.p (.bool (inB n low high))) [] := by
 refine q00 Ax q03 Tryz.func42 (c := _) rfl Tryz.call42 60 ?_
 (repeat' ((conv => whnf); first | refine x0C (eB ?_ rfl) | refine spC (fun hb => ?_) fun hb => ?_))
 all_goals (first | (simp_all [inB]; done) | (simp_all [inB]; omega) | (simp_all [inB]; grind))
theorem q5m (k : Int) : q07 Tryz.prog Dc 96 [.p (.int .i64 k)] [] (.p (.int .i64 (q1m k))) [] := by
 refine q00 Ax q03 Tryz.func96 (c := _) rfl Tryz.call96 60 ?_
 (repeat' ((conv => whnf); first | (exfalso; omega) | refine x0C (eI ?_ rfl) | refine spC (fun hb => ?_) fun hb => ?_))
 all_goals (simp_all [q1m]; done)
theorem z0c (a b : q06) : q07 Tryz.prog Dc 66 [q0m a, q0m b] [] (.p (.bool (q3s a b))) [] := by
 refine q00 Ax q03 Tryz.func66 (c := _) rfl Tryz.call66 200 ?_
 (repeat' ((conv => whnf); first | refine x0C (eB ?_ rfl) | refine spC (fun hb => ?_) fun hb => ?_))
 all_goals (simp_all [q3s]; done)
theorem ze5 (g : q06) : q07 Tryz.prog Dc 67 [q0m g] [] (q0m (q77 g)) [] := by
 unfold q77
 refine q00 Ax q03 Tryz.func67 (c := _) rfl Tryz.call67 300 ?_
 (repeat' ((conv => whnf); first | refine x0C ?_ | refine spC (fun hb => ?_) fun hb => ?_ | refine taC ?_ | refine q02 mixed ?_))
 all_goals (simp only [*, if_true, if_false]; exact vwV)
end Go.SX
namespace Go.SX
def y31 {α : Type} (p : α → Bool) (xs : List α) : Int := match xs.findIdx? p with
 | some i => i
 | none => -1
theorem z9x {α : Type} {p : α → Bool} {xs : List α} {i : Nat} {x : α} (h1 : xs[i]? = some x) (h2 : p x = true) (h3 : (xs.take i).any p = false) : y31 p xs = i := by
 have : xs.findIdx? p = some i := by
  rw [List.findIdx?_eq_some_iff_getElem]
  obtain ⟨hi, hx⟩ := List.getElem?_eq_some_iff.1 h1
  refine ⟨hi, by rw [hx]; exact h2, fun j hj => ?_⟩
  rw [List.any_eq_false] at h3
  exact h3 _ (List.mem_iff_getElem.2 ⟨j, by simp; omega, by simp⟩)
 unfold y31; rw [this]
theorem qv1 {α : Type} {p : α → Bool} {xs : List α} (h : xs.any p = false) : y31 p xs = -1 := by
 have : xs.findIdx? p = none := by
  rw [List.findIdx?_eq_none_iff]
  rw [List.any_eq_false] at h
  intro x hx; simpa using h x hx
 unfold y31; rw [this]
theorem qu1 {α : Type} (p : α → Bool) (xs : List α) : decide (0 ≤ y31 p xs) = xs.any p := by
 cases h : xs.any p with
 | false => rw [qv1 h]; rfl
 | true =>
  have : ∃ i, xs.findIdx? p = some i := by
   cases hf : xs.findIdx? p with
   | some i => exact ⟨i, rfl⟩
   | none =>
    rw [List.findIdx?_eq_none_iff] at hf
    obtain ⟨x, hx, hp⟩ := List.any_eq_true.1 h
    rw [hf x hx] at hp; cases hp
  obtain ⟨i, hi⟩ := this
  unfold y31; rw [hi]; simp
theorem qg1 {α : Type} {p : α → Bool} {xs : List α} {i : Nat} {x : α} (h1 : xs[i]? = some x) (h2 : p x = false) (h3 : (xs.take i).any p = false) : (xs.take (i + 1)).any p = false := by
 rw [List.take_add_one, h1]
 simp [List.any_append, h3, h2]
theorem qn9 {α : Type} {p : α → Bool} {xs : List α} {i : Nat} (hi : xs.length ≤ i) (h : (xs.take i).any p = false) : xs.any p = false := by
 rwa [List.take_of_length_le hi] at h
end Go.SX
namespace Go.SX
open Go.Proofs
set_option maxHeartbeats 400000000
set_option maxRecDepth 100000
inductive y17 : List (SV Cd) → Prop
 | c0 : y17 []
 | c1 (c : List (PV Cd)) : y17 [.dptr c 0]
 | c2 (n : Int) : y17 [iS n]
 | c3 (c d : List (PV Cd)) : y17 [.dptr c 0, .dptr d 0]
 | c5 (l : List Int) : y17 [lS l]
theorem getD_some {α : Type} {xs : List α} {i : Nat} {d : α} (h : i < xs.length) : xs[i]? = some (xs.getD (i : Int).toNat d) := by simp [List.getD_eq_getElem?_getD, List.getElem?_eq_getElem h]
theorem y98 {f : FuncId} {caps : List (SV Cd)} (hc : y17 caps) {p : Int → Bool} (xs : List Int) (hl : (xs.length : Int) ≤ 9223372036854775807) (hf : ∀ x ∈ xs, q07 Tryz.prog Dc f (iS x :: caps) [] (bS (p x)) []) :
  q07 Tryz.prog Dc 116 [(.p (.dsl U.int xs)), .fn (.func f) [] caps] [] (iS (y31 p xs)) [] := by
 cases hc <;>
 ·refine q00 Ax q03 Tryz.func116 (c := _) rfl Tryz.call116 200 ?_
  (repeat' ((conv => whnf); first | fail))
  refine q0u (fun i : Nat => [(8, iS i)]) (fun _ => []) (fun i => i ≤ xs.length ∧ (xs.take i).any p = false) (fun i => xs.length - i) 0 ⟨Nat.zero_le _, by simp⟩ (by exact bkV) ?_
  intro i hi K hK
  rcases Nat.lt_or_ge i xs.length with hlt | hge
  ·have hg := getD_some (d := Cd.dflt U.int) hlt
   have hx := hf _ (List.mem_of_getElem? hg)
   cases hp : p (xs.getD (i : Int).toNat (Cd.dflt U.int)) with
   | false =>
    rw [hp] at hx
    (repeat' ((conv => whnf); first | (exfalso; omega) | refine cpC (hx) ?_ | refine hK (i + 1) [] _ _ ⟨by omega, qg1 hg hp hi.2⟩ ⟨by omega⟩ (by exact bkV) | refine spC (fun hb => ?_) fun hb => ?_ | refine saC ?_))
   | true =>
    rw [hp] at hx
    (repeat' ((conv => whnf); first | (exfalso; omega) | refine cpC (hx) ?_ | refine x0C (eI (z9x hg hp hi.2).symm rfl) | refine spC (fun hb => ?_) fun hb => ?_ | refine saC ?_))
  ·have := qv1 (qn9 hge hi.2)
   (repeat' ((conv => whnf); first | (exfalso; omega) | refine x0C (eI this.symm rfl) | refine spC (fun hb => ?_) fun hb => ?_))
theorem y2u {f : FuncId} {caps : List (SV Cd)} (hc : y17 caps) {p : Int → Bool} (xs : List Int) (hl : (xs.length : Int) ≤ 9223372036854775807) (hf : ∀ x ∈ xs, q07 Tryz.prog Dc f (iS x :: caps) [] (bS (p x)) []) :
  q07 Tryz.prog Dc 93 [(.p (.dsl U.int xs)), .fn (.func f) [] caps] [] (bS (xs.any p)) [] := by
 have h := y98 hc xs hl hf
 rw [← qu1]
 cases hc <;>
 ·refine q00 Ax q03 Tryz.func93 (c := _) rfl Tryz.call93 200 ?_
  (repeat' ((conv => whnf); first | refine cpC (h) ?_ | refine x0C (eB rfl rfl)))
theorem y5b {f : FuncId} {caps : List (SV Cd)} (hc : y17 caps) {p : q06 → Bool} (xs : List q06) (hl : (xs.length : Int) ≤ 9223372036854775807) (hf : ∀ x ∈ xs, q07 Tryz.prog Dc f (q0m x :: caps) [] (bS (p x)) []) :
  q07 Tryz.prog Dc 117 [(.p (.dsl U.goal xs)), .fn (.func f) [] caps] [] (iS (y31 p xs)) [] := by
 cases hc <;>
 ·refine q00 Ax q03 Tryz.func117 (c := _) rfl Tryz.call117 200 ?_
  (repeat' ((conv => whnf); first | fail))
  refine q0u (fun i : Nat => [(8, iS i)]) (fun _ => []) (fun i => i ≤ xs.length ∧ (xs.take i).any p = false) (fun i => xs.length - i) 0 ⟨Nat.zero_le _, by simp⟩ (by exact bkV) ?_
  intro i hi K hK
  rcases Nat.lt_or_ge i xs.length with hlt | hge
  ·have hg := getD_some (d := Cd.dflt U.goal) hlt
   have hx := hf _ (List.mem_of_getElem? hg)
   cases hp : p (xs.getD (i : Int).toNat (Cd.dflt U.goal)) with
   | false =>
    rw [hp] at hx
    (repeat' ((conv => whnf); first | (exfalso; omega) | refine cpC (hx) ?_ | refine hK (i + 1) [] _ _ ⟨by omega, qg1 hg hp hi.2⟩ ⟨by omega⟩ (by exact bkV) | refine spC (fun hb => ?_) fun hb => ?_ | refine saC ?_))
   | true =>
    rw [hp] at hx
    (repeat' ((conv => whnf); first | (exfalso; omega) | refine cpC (hx) ?_ | refine x0C (eI (z9x hg hp hi.2).symm rfl) | refine spC (fun hb => ?_) fun hb => ?_ | refine saC ?_))
  ·have := qv1 (qn9 hge hi.2)
   (repeat' ((conv => whnf); first | (exfalso; omega) | refine x0C (eI this.symm rfl) | refine spC (fun hb => ?_) fun hb => ?_))
theorem y4r {f : FuncId} {caps : List (SV Cd)} (hc : y17 caps) {p : q06 → Bool} (xs : List q06) (hl : (xs.length : Int) ≤ 9223372036854775807) (hf : ∀ x ∈ xs, q07 Tryz.prog Dc f (q0m x :: caps) [] (bS (p x)) []) :
  q07 Tryz.prog Dc 97 [(.p (.dsl U.goal xs)), .fn (.func f) [] caps] [] (bS (xs.any p)) [] := by
 have h := y5b hc xs hl hf
 rw [← qu1]
 cases hc <;>
 ·refine q00 Ax q03 Tryz.func97 (c := _) rfl Tryz.call97 200 ?_
  (repeat' ((conv => whnf); first | refine cpC (h) ?_ | refine x0C (eB rfl rfl)))
end Go.SX
