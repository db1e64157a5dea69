/-
  SX, part V8: the stops' laws in a short form.
-/
import Derived.Test.YtdaghncicimipaaGreatDoorSxV6
import Derived.Lib.MakeNoZero
import Derived.Laws.Externs
import Derived.KernelRfl
set_option linter.unusedSimpArgs false
namespace Go.SX
set_option linter.unusedVariables false
variable {C : Cod}
class Bl (b : Bool) (p q : outParam Prop) : Prop where
  t : b = true → p
  f : b = false → q
instance (priority := 10) blB (b : Bool) : Bl b (b = true) (b = false) := ⟨id, id⟩
instance (priority := 20) blN (b : Bool) : Bl (!b) (b = false) (b = true) := ⟨by simp, by simp⟩
instance (priority := 30) blD (p : Prop) [Decidable p] : Bl (decide p) p (¬p) := ⟨by simp, by simp⟩
instance (priority := 40) blE (p : Prop) [Decidable p] : Bl (!decide p) (¬p) p := ⟨by simp, by simp⟩
theorem spC {b : Bool} {p q X Y : Prop} [hb : Bl b p q] (h1 : p → X) (h2 : q → Y) : condX b X Y := split_x (fun h => h1 (hb.t h)) (fun h => h2 (hb.f h))
theorem sdV {p : Prop} (h : p := by
    first | ((repeat' (first | refine And.intro ?_ ?_ | exact inR_i64 (by omega) (by omega) | omega | rfl | exact trivial | exact none_ne rfl | exact some_ne rfl (Nat.ne_of_beq_eq_false rfl) | exact Nat.ne_of_beq_eq_false rfl | (dsimp only [srcSide]; omega) | (simp; done) | (simp; omega))); done) | fail) : Side p := ⟨h⟩
theorem saC {p q : Prop} (h2 : q) (h1 : Side p := by first | exact sdV | fail) : p ∧ q := ⟨h1.h, h2⟩
section
variable {P : Program} {D : Codec C} {tab : Tab C} {A : Aux C D} {X : Ctx C} {R : Kont C} {k : List (It C)} {T : List (SV C)} {Hp : List (HS C)} {m0 : Nat} {f : FuncId} {args args' : List (SV C)} {dst : Option Nat} {all rest : List Oper} {next : DK C} {fs fc : List Nat} {tr : List Ent} {ret : SV C}
theorem taC {t : List Ent} {Z : Prop} (h2 : Z) (h1 : traceB all t.reverse = true := by kernel_rfl) : TraceOK all t ∧ Z := ⟨⟨h1⟩, h2⟩
theorem x0C {rs : List ResultVar} (hE : EndV Hp [] ret (resOf D tab T Hp rs)) : (Exit.ret = Exit.normal ∨ Exit.ret = Exit.ret) ∧ ∃ θ l, resOf D tab T Hp rs = some l ∧ View Hp θ (retOf l) ret ∧ ViewOK Hp θ [] 0 :=
  end_fn [] (.inr rfl) hE trivial rfl rfl
theorem eB {rs : List ResultVar} {θ : List (Option Nat)} {b r : Bool} (h1 : b = r) (h2 : resOf D tab T Hp rs = some [.p (.bool b)]) : EndV Hp θ (.p (.bool r)) (resOf D tab T Hp rs) := by
  subst h1; rw [h2]; exact ⟨rfl⟩
theorem eI {rs : List ResultVar} {θ : List (Option Nat)} {K : IntKind} {b r : Int} (h1 : b = r) (h2 : resOf D tab T Hp rs = some [.p (.int K b)]) : EndV Hp θ (.p (.int K r)) (resOf D tab T Hp rs) := by
  subst h1; rw [h2]; exact ⟨rfl⟩
theorem cpC (hM : Meets P D f args [] ret []) (h : setOK T dst ret fun T' => R (.ops all rest :: k) T' Hp) (h1 : renL [] args = some args := by rfl) (h2 : renS [] ret = some ret := by rfl) : CallX P D X R f args dst all rest k T Hp := callx_pure hM h1 h2 h
theorem dpC (hM : Meets P D f args [] ret []) (h : forceL fc fun fc => setOK T dst ret fun T' => next (⟨dst, fs, fc, []⟩ :: tr) T' Hp) (h1 : renL [] args = some args := by rfl) (h2 : renS [] ret = some ret := by rfl) : DCallX P D next f args dst fs fc tr T Hp := dcallx_pure hM h1 h2 h
theorem fzV {θ : List (Option Nat)} {c o n off len : Nat} {u : C.U} {ys xs : List (C.El u)} (h1 : getC Hp c = .rows u xs := by rfl) (h2 : o = 0 := by rfl) (h3 : n = C.n u := by rfl) (h4 : off + len ≤ xs.length := by first | (simp; done) | (simp; omega) | omega)
    (h5 : ys = (xs.drop off).take len := by first | (simp; done) | (simp [List.take_of_length_le]; done) | (simp [List.take_of_length_le]; rfl)) (h6 : inO θ c = false := by rfl) : FrozenAs Hp θ c o n off len u ys := ⟨xs, h1, h2, h3, h4, h5, h6⟩
theorem fvV {θ : List (Option Nat)} {c : Nat} {cells : List (PV C)} {t : Option TypeId} {vs : List (SV C)} (h1 : getC Hp c = .vart t vs := by rfl) (h2 : ViewPs Hp θ vs cells := by first | ((repeat' (first | exact trivial | exact rfl | refine And.intro ?_ ?_ | exact fzV)); done) | fail) (h3 : inO θ c = false := by rfl) : FrozenVar Hp θ c cells := ⟨t, vs, h1, h2, h3⟩
theorem snV {θ : List (Option Nat)} {l m : List (SV C)} (h : ViewL Hp θ l m := by first | ((repeat' (first | exact trivial | exact rfl | refine And.intro ?_ ?_ | exact fzV | exact fvV)); done) | fail) : Seen Hp θ l m := ⟨h⟩
theorem rdC (hM : Meets P D f args' [] ret []) (h : setOK T dst ret fun T' => R (.ops all rest :: k) T' Hp) (hv : Seen Hp [] args args' := by first | exact snV | fail) (hp : plainS ret = true := by rfl) : CallX P D X R f args dst all rest k T Hp := callx_read hM hv hp h
theorem vwV {θ : List (Option Nat)} {l : Option (List (SV C))} (h : endV Hp θ ret l := by first | ((repeat' (first | exact trivial | exact rfl | refine And.intro ?_ ?_ | exact fzV | exact fvV)); done) | fail) : EndV Hp θ ret l := ⟨h⟩
theorem hsV {θ l : List (Option Nat)} {m : List (HS C)} (h : ViewHs Hp θ l m := by first | ((repeat' (first | exact trivial | exact rfl | refine And.intro ?_ ?_ | exact ⟨_, rfl⟩ | exact fzV | exact fvV)); done) | fail) : ViewHs Hp θ l m := h
theorem bkV {θ : List (Option Nat)} {T' : List (SV C)} {Hp' : List (HS C)} (h1 : ViewL Hp θ T T' := by first | ((repeat' (first | exact trivial | exact rfl | refine And.intro ?_ ?_ | exact fzV | exact fvV)); done) | fail) (h2 : ViewHs Hp θ θ Hp' := by first | exact hsV | fail) (h3 : idO m0 0 θ = true := by rfl) (h4 : ndO θ = true := by rfl) : Back m0 θ T Hp T' Hp' := ⟨h1, h2, h3, h4⟩
end
theorem mviewC {P : Program} {D : Codec C} {f : FuncId} {args args' : List (SV C)} {ret : SV C} {H1 : List (HS C)} (hM : Meets P D f args' [] ret H1) (h : Seen [] [] args args') : Meets P D f args [] ret H1 := by
  refine ⟨hM.enter, fun w E hm vs hs hd => hM.calls w E hm vs hs (view_denA hs ⟨fun _ h => h, fun j d e => by simp [ixO] at e, fun j e => by simp [ixL] at e, fun c b _ e => ?_⟩ args args' vs h.h hd)⟩
  rw [hm c (Nat.zero_le c)] at e
  cases e
/-- a contract over what lasts, at what the caller owns -/
theorem mownC {P : Program} {D : Codec C} {f : FuncId} {args args' : List (SV C)} {ret : SV C} {H1 : List (HS C)} (hM : Meets P D f args' [] ret []) (hv : Seen H1 [] args args') (hp : plainS ret = true) : Meets P D f args H1 ret H1 := by
  refine ⟨hM.enter, fun w E hm vs hs hd => ?_⟩
  let B0 : Base := ⟨w, { F := E.F, β := fun _ => .fresh }, fun _ => True, 0, fun _ _ => rfl⟩
  have hf0 : Fr B0 E w := ⟨rfl, rfl, rfl, Nat.le_refl _, fun b _ ho => absurd trivial ho, ⟨fun b hb => ⟨hb, rfl⟩, fun c => .inr (.inr rfl), fun c b e => by cases e⟩, fun b _ => .inr (.inl trivial), fun c b _ => .inl trivial⟩
  obtain ⟨g1, g2, g3⟩ := view_env hs hf0 (θ := []) (Hp' := []) ⟨trivial, rfl, rfl⟩
  have hd' := view_denA hs g1 args args' vs hv.h hd
  refine (hM.calls w (E.view [] []) (fun c _ => rfl) vs g2 hd').mono ?_
  rintro e w' ⟨v, E', rfl, hv', _, hfr⟩
  have hsame : ∀ b, b < w.heap.size → w'.heap[b]? = w.heap[b]? := fun b hb => hfr.same b hb (by rintro ⟨c, hc⟩; cases hc)
  exact ⟨v, E, rfl, plainS_den ret v hp hv', hs.same hsame hfr.size, (Fr.here (m := H1.length) (hm := hm)).on hs.F hsame hfr.size hfr.os hfr.tape hfr.output⟩
theorem frzC {P : Program} {D : Codec C} {X : Ctx C} {R : Kont C} {k : List (It C)} {T : List (SV C)} {Hp : List (HS C)} {f : FuncId} {args : List (SV C)} {dst : Option Nat} {all rest : List Oper} (θ : List (Option Nat)) (us : List (Nat × SV C)) (cs : List (Nat × HS C)) (args' : List (SV C)) (hb : Back X.m0 θ T Hp (setMany T us) (setCs Hp cs)) (ha : Seen Hp θ args args')
    (h : forceV (setMany T us) fun T1 => setCsK Hp cs fun Hp1 => CallX P D X R f args' dst all rest k T1 Hp1) : CallX P D X R f args dst all rest k T Hp := by
  rw [forceV_eq, setCsK_eq] at h
  obtain ⟨T2, Hp2, args2, hsub, S, h1, h2⟩ := h.h
  refine ⟨T2, Hp2, args2, fun B E df a w hm hR hsz => ?_, S, h1, h2⟩
  obtain ⟨E1, hR1, hsz1, hd1⟩ := subA_of (D := D) _ hb.T ha.h ⟨hb.H, hb.id, hb.nd⟩ B E df a w hm hR hsz
  obtain ⟨E2, hR2, hsz2, hd2⟩ := hsub B E1 df a w hm hR1 hsz1
  exact ⟨E2, hR2, hsz2, fun vs hv => hd2 vs (hd1 vs hv)⟩
end Go.SX
