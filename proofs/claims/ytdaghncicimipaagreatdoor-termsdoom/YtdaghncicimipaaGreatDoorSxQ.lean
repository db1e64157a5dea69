/-
  SX, part Q: the new environment of a view; contracts; calls by contract.
-/
import Derived.Test.YtdaghncicimipaaGreatDoorSxP
set_option linter.unusedVariables false
set_option linter.unusedSimpArgs false
namespace Go.SX
open Go.RowKit
variable {C : Cod}
section
variable {P : Program} {D : Codec C} {tab : Tab C} {B : Base} {E : Env} {df : List Deferred} {a : Act} {w : World}

def isDead : HS C → Bool
  | .dead => true
  | _ => false

/-- the environment of a view -/
def Env.view (E : Env) (θ : List (Option Nat)) (Hp' : List (HS C)) : Env :=
  { F := fun b => E.F b ∨ ∃ c, inO θ c = false ∧ E.β c = .loc b,
    β := fun j => match isDead (getC Hp' j) with
      | true => .dead
      | false => match ixL θ j with
        | some (some d) => E.β d
        | some none => .virt
        | none => .fresh }

structure ViewOK (Hp : List (HS C)) (θ : List (Option Nat)) (Hp' : List (HS C)) (m0 : Nat) : Prop where
  H : ViewHs Hp θ θ Hp'
  id : idO m0 0 θ = true
  nd : ndO θ = true

theorem viewH_dead {Hp : List (HS C)} {θ : List (Option Nat)} {x y : HS C} (h : ViewH Hp θ x y) (hy : isDead y = false) :
    (∃ t vs ws, x = .vart t vs ∧ y = .vart t ws ∧ ViewL Hp θ vs ws) ∨ (∃ u xs, x = .rows u xs ∧ y = .rows u xs) ∨ ∃ o, x = .obj o ∧ y = .obj o := by
  cases y with
  | obj o =>
    cases x with
    | obj o' => simp only [ViewH] at h; subst h; exact .inr (.inr ⟨_, rfl, rfl⟩)
    | _ => simp [ViewH] at h
  | fresh => cases x <;> simp [ViewH] at h
  | dead => simp [isDead] at hy
  | vart t' ws =>
    cases x with
    | vart t vs => simp only [ViewH] at h; obtain ⟨rfl, h⟩ := h; exact .inl ⟨_, vs, ws, rfl, rfl, h⟩
    | _ => simp [ViewH] at h
  | rows v ys =>
    cases x with
    | rows u xs => simp only [ViewH] at h; exact .inr (.inl ⟨u, xs, rfl, h⟩)
    | _ => simp [ViewH] at h

theorem view_env {Hp Hp' : List (HS C)} {θ : List (Option Nat)} (hs : Sat D w E (getC Hp)) (hf : Fr B E w) (hv : ViewOK Hp θ Hp' B.m0) :
    EnvView w E (E.view θ Hp') θ ∧ Sat D w (E.view θ Hp') (getC Hp') ∧ Fr B (E.view θ Hp') w := by
  obtain ⟨hlen, hsome, hnone, hout⟩ := viewHs_get Hp θ θ Hp' hv.H
  have hβ : ∀ j, (E.view θ Hp').β j = match isDead (getC Hp' j) with | true => .dead | false => match ixL θ j with | some (some d) => E.β d | some none => .virt | none => .fresh := fun j => rfl
  have hEV : EnvView w E (E.view θ Hp') θ := by
    refine ⟨fun b hb => .inl hb, fun j d hj => ?_, fun j hj => ?_, fun c b hc hb => .inr ⟨c, hc, hb⟩⟩
    · rw [hβ, (ixO_of_ixL θ j d).2 hj]
      cases isDead (getC Hp' j)
      · exact .inl rfl
      · exact .inr rfl
    · rw [hβ, hj]
      cases isDead (getC Hp' j)
      · exact .inl rfl
      · exact .inr rfl
  have hat : ∀ j b, (E.view θ Hp').β j = .loc b → ∃ d, ixO θ j = some d ∧ E.β d = .loc b ∧ isDead (getC Hp' j) = false := by
    intro j b e
    rw [hβ] at e
    cases hd : isDead (getC Hp' j) with
    | true => rw [hd] at e; cases e
    | false =>
      rw [hd] at e
      cases hj : ixL θ j with
      | none => rw [hj] at e; cases e
      | some q =>
        cases q with
        | none => rw [hj] at e; cases e
        | some d => rw [hj] at e; exact ⟨d, (ixO_of_ixL θ j d).1 hj, e, rfl⟩
  refine ⟨hEV, ⟨fun j => ?_, fun j b e => ?_, fun j j' b e e' => ?_, ?_, hs.glob.mono fun b hb => ⟨hEV.F b hb, rfl⟩⟩, ?_⟩
  · -- ok
    rw [hβ]
    cases hd : isDead (getC Hp' j) with
    | true =>
      cases hg : getC Hp' j <;> rw [hg] at hd <;> simp [isDead] at hd
      rfl
    | false =>
      cases hj : ixL θ j with
      | none => exact hout j hj
      | some q =>
        cases q with
        | none => exact hnone j hj
        | some d =>
          have hok := hs.ok d
          simp only
          rcases viewH_dead (hsome j d hj) hd with ⟨ty, vs, ws, e1, e2, hl⟩ | ⟨u, xs, e1, e2⟩ | ⟨ob, e1, e2⟩
          · rw [e1] at hok
            rw [e2]
            cases hb : E.β d with
            | fresh => rw [hb] at hok; simp [HS.ok] at hok
            | dead => rw [hb] at hok; simp [HS.ok] at hok
            | virt => rw [hb] at hok; simp [HS.ok] at hok
            | loc b =>
              rw [hb] at hok
              obtain ⟨cs, T, h1, h2⟩ := hok
              exact ⟨cs, T, h1, view_denC hs hEV vs ws _ hl h2⟩
          · rw [e1] at hok
            rw [e2]
            cases hb : E.β d with
            | fresh => rw [hb] at hok; simp [HS.ok] at hok
            | dead => rw [hb] at hok; simp [HS.ok] at hok
            | virt => rw [hb] at hok; exact hok
            | loc b =>
              rw [hb] at hok
              obtain ⟨cs, T, h1, h2, h3⟩ := hok
              exact ⟨cs, T, h1, h2, h3.mono fun b hb => ⟨.inl hb, rfl⟩⟩
          · rw [e1] at hok
            rw [e2]
            cases hb : E.β d with
            | fresh => rw [hb] at hok; simp [HS.ok] at hok
            | dead => rw [hb] at hok; simp [HS.ok] at hok
            | virt => rw [hb] at hok; simp [HS.ok] at hok
            | loc b =>
              rw [hb] at hok
              exact hok
  · obtain ⟨d, hd, e1, _⟩ := hat j b e
    refine ⟨(hs.own d b e1).1, ?_⟩
    rintro (hF | ⟨c, hc, hb⟩)
    · exact (hs.own d b e1).2 hF
    · have := hs.inj c d b hb e1
      subst this
      have := ixO_in θ j c hd
      rw [hc] at this; cases this
  · obtain ⟨d, hd, e1, _⟩ := hat j b e
    obtain ⟨d', hd', e1', _⟩ := hat j' b e'
    have := hs.inj d d' b e1 e1'
    subst this
    exact ndO_inj θ hv.nd j j' d hd hd'
  · rintro b (hF | ⟨c, _, hb⟩)
    · exact hs.F b hF
    · exact (hs.own c b hb).1
  · refine ⟨hf.os, hf.tape, hf.output, hf.size, hf.same, ⟨fun b hb => ⟨.inl (hf.late.F b hb).1, (hf.late.F b hb).2⟩, fun c => ?_, fun c b e1 e2 cs T hcs => ?_⟩, ?_, fun j b e => ?_⟩
    · by_cases hc : c < B.m0
      · have h1 := idO_spec B.m0 0 θ hv.id c hc
        rw [Nat.zero_add] at h1
        rcases hEV.β c c h1 with e | e
        · rw [e]; exact hf.late.β c
        · exact .inr (.inl e)
      · exact .inr (.inr (B.hm0 c (by omega)))
    · by_cases hc : c < B.m0
      · have h1 := idO_spec B.m0 0 θ hv.id c hc
        rw [Nat.zero_add] at h1
        have e3 : E.β c = .loc b := by
          rcases hEV.β c c h1 with e | e
          · rw [← e]; exact e2
          · rw [e] at e2; cases e2
        exact hf.late.size c b e1 e3 cs T hcs
      · rw [B.hm0 c (by omega)] at e1; cases e1
    · rintro b (hF | ⟨c, _, hb⟩)
      · exact hf.newF b hF
      · rcases hf.newO c b hb with h | h
        · exact .inr (.inl h)
        · exact .inr (.inr h)
    · obtain ⟨d, _, e1, _⟩ := hat j b e
      exact hf.newO d b e1

/-- slots seen as others -/
theorem sub_of {m0 : Nat} {T T' : List (SV C)} {Hp Hp' : List (HS C)} (θ : List (Option Nat)) (hT : ViewL Hp θ T T') (hv : ViewOK Hp θ Hp' m0) : SubS D m0 T Hp T' Hp' := by
  rintro B df a w rfl ⟨E, hR, hsz⟩
  obtain ⟨h1, h2, h3⟩ := view_env hR.sat hR.fr hv
  have hlen : ∀ (l m : List (SV C)), ViewL Hp θ l m → l.length = m.length := by
    intro l
    induction l with
    | nil => intro m h; cases m with
      | nil => rfl
      | cons y m => simp [ViewL] at h
    | cons x l ih => intro m h; cases m with
      | nil => simp [ViewL] at h
      | cons y m => simp only [ViewL] at h; simp [ih m h.2]
  have hget : ∀ (l m : List (SV C)) (i : Nat) (v : Value), ViewL Hp θ l m → Den D w E (getT l i) v → Den D w (E.view θ Hp') (getT m i) v := by
    intro l
    induction l with
    | nil => intro m i v h _; cases m with
      | nil => trivial
      | cons y m => simp [ViewL] at h
    | cons x l ih => intro m i v h hd; cases m with
      | nil => simp [ViewL] at h
      | cons y m =>
        simp only [ViewL] at h
        cases i with
        | zero => exact view_den hR.sat h1 x y v h.1 hd
        | succ i => exact ih m i v h.2 hd
  exact ⟨_, ⟨fun i => hget T T' i _ hT (hR.den i), h2, h3, hR.defers, hR.marks.mono fun b hb => ⟨h1.F b hb, rfl⟩⟩, by rw [hsz, hlen T T' hT]⟩

/-- A contract: called at args over the heap H0, f returns ret over the heap H1. -/
structure Meets (P : Program) (D : Codec C) (f : FuncId) (args : List (SV C)) (H0 : List (HS C)) (ret : SV C) (H1 : List (HS C)) : Prop where
  enter : ∀ args w, (callFunc f args).run P w = .ok (.enter f args) w
  calls : ∀ w E (hm : ∀ c, H0.length ≤ c → E.β c = .fresh) vs, Sat D w E (getC H0) → DenA D w E args vs →
    CallsIn (Fc none) 0 P f vs.toArray w fun e w' => ∃ v E', e = .returned v ∧ Den D w' E' ret v ∧ Sat D w' E' (getC H1) ∧ Fr ⟨w, E, fun b => ∃ c, E.β c = .loc b, H0.length, hm⟩ E' w'

/-- the results of a function, off its slots and heap -/
def resOf (D : Codec C) (tab : Tab C) (T : List (SV C)) (Hp : List (HS C)) : List ResultVar → Option (List (SV C))
  | [] => some []
  | .tmp t :: r => match resOf D tab T Hp r with
    | some l => some (getT T t :: l)
    | none => none
  | .cell t ty :: r => match doLoad D tab ty (getT T t) (hsOf Hp [getT T t]) with
    | .val v => match resOf D tab T Hp r with
      | some l => some (v :: l)
      | none => none
    | _ => none
def retOf : List (SV C) → SV C
  | [x] => x
  | l => .tuple l

/-- what a function's end must be -/
def EndPost (D : Codec C) (tab : Tab C) (rs : List ResultVar) (m0 : Nat) (ret : SV C) (H1 : List (HS C)) : Post C := fun e T Hp =>
  (e = .normal ∨ e = .ret) ∧ ∃ θ l, resOf D tab T Hp rs = some l ∧ View Hp θ (retOf l) ret ∧ ViewOK Hp θ H1 m0

def anys : Nat → List (SV C)
  | 0 => []
  | n + 1 => .any :: anys n

theorem anys_length : ∀ n, (anys n : List (SV C)).length = n
  | 0 => rfl
  | n + 1 => by simp [anys, anys_length n]
theorem getT_anys : ∀ n i, getT (anys n : List (SV C)) i = .any
  | 0, i => rfl
  | n + 1, 0 => rfl
  | n + 1, i + 1 => getT_anys n i
theorem getT_append : ∀ (l m : List (SV C)) (i : Nat), getT (l ++ m) i = if i < l.length then getT l i else getT m (i - l.length)
  | [], m, i => by simp
  | x :: l, m, 0 => by simp [getT]
  | x :: l, m, i + 1 => by simp [getT, getT_append l m i]
theorem denA_length : ∀ (l : List (SV C)) (vs : List Value), DenA D w E l vs → l.length = vs.length
  | [], vs, h => by simp only [DenA] at h; subst h; rfl
  | x :: l, vs, h => by simp only [DenA] at h; obtain ⟨v, v2, rfl, _, h2⟩ := h; simp [denA_length l v2 h2]
theorem denA_getT : ∀ (l : List (SV C)) (vs : List Value), DenA D w E l vs → ∀ i, i < l.length → Den D w E (getT l i) (vs.getD i undef)
  | [], vs, _, i, h => by simp at h
  | x :: l, vs, h, i, hi => by
    simp only [DenA] at h
    obtain ⟨v, v2, rfl, h1, h2⟩ := h
    cases i with
    | zero => simpa [getT] using h1
    | succ i => simpa [getT] using denA_getT l v2 h2 i (by simpa using hi)

def res1 (tmps : Array Value) : ResultVar → Sem Value
  | .tmp t => pure (tmps.getD t undef)
  | .cell q t => do loadVar t (← asAddr (tmps.getD q undef))

theorem res1_cell {t q : Nat} {u : Value} (h : (Instr.loadAt t (a.tmps.getD q undef)).run P w = .ok u w) : (res1 a.tmps (.cell q t)).run P w = .ok u w := by
  simp only [res1]
  unfold Instr.loadAt at h
  generalize a.tmps.getD q undef = v at h ⊢
  cases v with
  | pointer ad =>
    cases ad with
    | none => simp [Instr.sureAddr] at h
    | some ad => simpa [Instr.sureAddr, asAddr] using h
  | _ => simp [Instr.sureAddr] at h

theorem resOf_ok (hT : TabOK P D tab) {T : List (SV C)} {Hp : List (HS C)} (hR : Rel D B E (getT T) (getC Hp) df a w) : ∀ (rs : List ResultVar) (l : List (SV C)), resOf D tab T Hp rs = some l →
    ∃ vs, (rs.mapM (res1 a.tmps)).run P w = .ok vs w ∧ DenA D w E l vs
  | [], l, h => by
    simp only [resOf, Option.some.injEq] at h; subst h
    exact ⟨[], by simp, by simp only [DenA]⟩
  | .tmp t :: r, l, h => by
    simp only [resOf] at h
    cases hr : resOf D tab T Hp r with
    | none => simp [hr] at h
    | some l' =>
      simp [hr] at h; subst h
      obtain ⟨vs, h1, h2⟩ := resOf_ok hT hR r l' hr
      refine ⟨a.tmps.getD t undef :: vs, by simp [List.mapM_cons, h1, res1], ?_⟩
      simp only [DenA]
      exact ⟨_, _, rfl, hR.den t, h2⟩
  | .cell q t :: r, l, h => by
    simp only [resOf] at h
    have hload := load_core (P := P) (t := t) hT hR.sat (hR.den q) (hs := hsOf Hp [getT T q]) (fun c hc => lk_hsOf Hp [getT T q] _ (by simp) c hc)
    cases hd : doLoad D tab t (getT T q) (hsOf Hp [getT T q]) with
    | val v =>
      rw [hd] at hload h
      simp only at hload h
      obtain ⟨u, h3, h4⟩ := hload
      cases hr : resOf D tab T Hp r with
      | none => simp [hr] at h
      | some l' =>
        simp [hr] at h; subst h
        obtain ⟨vs, h1, h2⟩ := resOf_ok hT hR r l' hr
        refine ⟨u :: vs, by simp [List.mapM_cons, h1, res1_cell h3], ?_⟩
        simp only [DenA]
        exact ⟨_, _, rfl, h4, h2⟩
    | _ => rw [hd] at h; simp at h

theorem results_run (hT : TabOK P D tab) {T : List (SV C)} {Hp : List (HS C)} (hR : Rel D B E (getT T) (getC Hp) df a w) {fn : Func} {l : List (SV C)} (h : resOf D tab T Hp fn.results.toList = some l) :
    ∃ v, (results fn a.tmps).run P w = .ok v w ∧ Den D w E (retOf l) v := by
  obtain ⟨vs, h1, h2⟩ := resOf_ok (P := P) hT hR _ _ h
  have h3 : (fn.results.mapM (res1 a.tmps)).run P w = .ok vs.toArray w := by
    rw [Array.mapM_eq_mapM_toList]
    simp [h1]
  have h4 : (results fn a.tmps).run P w = .ok (if h : vs.toArray.size = 1 then vs.toArray[0] else .tuple vs.toArray) w := by
    have e : results fn a.tmps = (fn.results.mapM (res1 a.tmps) >>= fun vs => pure (if h : vs.size = 1 then vs[0] else .tuple vs)) := by
      unfold results
      congr 1
    rw [e, Sem.run_bind, h3]
    rfl
  refine ⟨_, h4, ?_⟩
  cases l with
  | nil => simp only [DenA] at h2; subst h2; simp only [retOf, Den, DenA]; exact ⟨_, by simp, rfl⟩
  | cons x l =>
    cases l with
    | nil =>
      simp only [DenA] at h2
      obtain ⟨v, v2, rfl, h5, rfl⟩ := h2
      simpa [retOf] using h5
    | cons y l =>
      have h2' := h2
      simp only [DenA] at h2
      obtain ⟨v, v2, rfl, h5, v3, v4, rfl, h6, h7⟩ := h2
      simp only [retOf, Den]
      refine ⟨(v :: v3 :: v4).toArray, by simp, by simpa using h2'⟩

end
end Go.SX
