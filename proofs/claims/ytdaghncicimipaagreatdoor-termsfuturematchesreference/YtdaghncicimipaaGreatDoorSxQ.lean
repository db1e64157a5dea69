/-
  SX, part Q: the new environment of a view; contracts; calls by contract.
-/
import Derived.Test.YtdaghncicimipaaGreatDoorSxM2
import Derived.RangeFuncNested
set_option linter.unusedVariables false
set_option linter.unusedSimpArgs false
namespace Go.SX
open Go.RowKit
variable {C : Cod}
section
variable {P : Program} {D : Codec C} {tab : Tab C} {B : Base} {E : Env} {df : List Deferred} {a : Act} {w : World}

def isDead : HS C → Bool
 | .dead => true
 | _ => false

/-- the environment of a view -/
def Env.view (E : Env) (θ : List (Option Nat)) (Hp' : List (HS C)) : Env :=
  { F := fun b => E.F b ∨ ∃ c, inO θ c = false ∧ E.β c = .loc b,
    β := fun j => match isDead (getC Hp' j) with
      | true => .dead
      | false => match ixL θ j with
        | some (some d) => E.β d
        | some none => .virt
        | none => .fresh }

structure ViewOK (Hp : List (HS C)) (θ : List (Option Nat)) (Hp' : List (HS C)) (m0 : Nat) : Prop where
 H : ViewHs Hp θ θ Hp'
 id : idO m0 0 θ = true
 nd : ndO θ = true

theorem viewH_dead {Hp : List (HS C)} {θ : List (Option Nat)} {x y : HS C} (h : ViewH Hp θ x y) (hy : isDead y = false) :
  (∃ t vs ws, x = .vart t vs ∧ y = .vart t ws ∧ ViewL Hp θ vs ws) ∨ (∃ u xs, x = .rows u xs ∧ y = .rows u xs) ∨ ∃ o, x = .obj o ∧ y = .obj o := by
 cases y with
 | obj o =>
  cases x with
  | obj o' => simp only [ViewH] at h; subst h; exact .inr (.inr ⟨_, rfl, rfl⟩)
  | _ => simp [ViewH] at h
 | fresh => cases x <;> simp [ViewH] at h
 | dead => simp [isDead] at hy
 | vart t' ws =>
  cases x with
  | vart t vs => simp only [ViewH] at h; obtain ⟨rfl, h⟩ := h; exact .inl ⟨_, vs, ws, rfl, rfl, h⟩
  | _ => simp [ViewH] at h
 | rows v ys =>
  cases x with
  | rows u xs => simp only [ViewH] at h; exact .inr (.inl ⟨u, xs, rfl, h⟩)
  | _ => simp [ViewH] at h

theorem view_env {Hp Hp' : List (HS C)} {θ : List (Option Nat)} (hs : Sat D w E (getC Hp)) (hf : Fr B E w) (hv : ViewOK Hp θ Hp' B.m0) :
  EnvView w E (E.view θ Hp') θ ∧ Sat D w (E.view θ Hp') (getC Hp') ∧ Fr B (E.view θ Hp') w := by
 obtain ⟨hlen, hsome, hnone, hout⟩ := viewHs_get Hp θ θ Hp' hv.H
 have hβ : ∀ j, (E.view θ Hp').β j = match isDead (getC Hp' j) with | true => .dead | false => match ixL θ j with | some (some d) => E.β d | some none => .virt | none => .fresh := fun j => rfl
 have hEV : EnvView w E (E.view θ Hp') θ := by
  refine ⟨fun b hb => .inl hb, fun j d hj => ?_, fun j hj => ?_, fun c b hc hb => .inr ⟨c, hc, hb⟩⟩
  ·rw [hβ, (ixO_of_ixL θ j d).2 hj]
   cases isDead (getC Hp' j)
   ·exact .inl rfl
   ·exact .inr rfl
  ·rw [hβ, hj]
   cases isDead (getC Hp' j)
   ·exact .inl rfl
   ·exact .inr rfl
 have hat : ∀ j b, (E.view θ Hp').β j = .loc b → ∃ d, ixO θ j = some d ∧ E.β d = .loc b ∧ isDead (getC Hp' j) = false := by
  intro j b e
  rw [hβ] at e
  cases hd : isDead (getC Hp' j) with
  | true => rw [hd] at e; cases e
  | false =>
   rw [hd] at e
   cases hj : ixL θ j with
   | none => rw [hj] at e; cases e
   | some q =>
    cases q with
    | none => rw [hj] at e; cases e
    | some d => rw [hj] at e; exact ⟨d, (ixO_of_ixL θ j d).1 hj, e, rfl⟩
 refine ⟨hEV, ⟨fun j => ?_, fun j b e => ?_, fun j j' b e e' => ?_, ?_, hs.glob.mono fun b hb => ⟨hEV.F b hb, rfl⟩⟩, ?_⟩
 ·rw [hβ]
  cases hd : isDead (getC Hp' j) with
  | true =>
   cases hg : getC Hp' j <;> rw [hg] at hd <;> simp [isDead] at hd
   rfl
  | false =>
   cases hj : ixL θ j with
   | none => exact hout j hj
   | some q =>
    cases q with
    | none => exact hnone j hj
    | some d =>
     have hok := hs.ok d
     simp only
     rcases viewH_dead (hsome j d hj) hd with ⟨ty, vs, ws, e1, e2, hl⟩ | ⟨u, xs, e1, e2⟩ | ⟨ob, e1, e2⟩
     ·rw [e1] at hok
      rw [e2]
      cases hb : E.β d with
      | fresh => rw [hb] at hok; simp [HS.ok] at hok
      | dead => rw [hb] at hok; simp [HS.ok] at hok
      | virt => rw [hb] at hok; simp [HS.ok] at hok
      | loc b =>
       rw [hb] at hok
       obtain ⟨cs, T, h1, h2⟩ := hok
       exact ⟨cs, T, h1, view_denC hs hEV vs ws _ hl h2⟩
     ·rw [e1] at hok
      rw [e2]
      cases hb : E.β d with
      | fresh => rw [hb] at hok; simp [HS.ok] at hok
      | dead => rw [hb] at hok; simp [HS.ok] at hok
      | virt => rw [hb] at hok; exact hok
      | loc b =>
       rw [hb] at hok
       obtain ⟨cs, T, h1, h2, h3⟩ := hok
       exact ⟨cs, T, h1, h2, h3.mono fun b hb => ⟨.inl hb, rfl⟩⟩
     ·rw [e1] at hok
      rw [e2]
      cases hb : E.β d with
      | fresh => rw [hb] at hok; simp [HS.ok] at hok
      | dead => rw [hb] at hok; simp [HS.ok] at hok
      | virt => rw [hb] at hok; simp [HS.ok] at hok
      | loc b =>
       rw [hb] at hok
       exact hok
 ·obtain ⟨d, hd, e1, _⟩ := hat j b e
  refine ⟨(hs.own d b e1).1, ?_⟩
  rintro (hF | ⟨c, hc, hb⟩)
  ·exact (hs.own d b e1).2 hF
  ·have := hs.inj c d b hb e1
   subst this
   have := ixO_in θ j c hd
   rw [hc] at this; cases this
 ·obtain ⟨d, hd, e1, _⟩ := hat j b e
  obtain ⟨d', hd', e1', _⟩ := hat j' b e'
  have := hs.inj d d' b e1 e1'
  subst this
  exact ndO_inj θ hv.nd j j' d hd hd'
 ·rintro b (hF | ⟨c, _, hb⟩)
  ·exact hs.F b hF
  ·exact (hs.own c b hb).1
 ·refine ⟨hf.os, hf.tape, hf.output, hf.size, hf.same, ⟨fun b hb => ⟨.inl (hf.late.F b hb).1, (hf.late.F b hb).2⟩, fun c => ?_, fun c b e1 e2 cs T hcs => ?_⟩, ?_, fun j b e => ?_⟩
  ·by_cases hc : c < B.m0
   ·have h1 := idO_spec B.m0 0 θ hv.id c hc
    rw [Nat.zero_add] at h1
    rcases hEV.β c c h1 with e | e
    ·rw [e]; exact hf.late.β c
    ·exact .inr (.inl e)
   ·exact .inr (.inr (B.hm0 c (by omega)))
  ·by_cases hc : c < B.m0
   ·have h1 := idO_spec B.m0 0 θ hv.id c hc
    rw [Nat.zero_add] at h1
    have e3 : E.β c = .loc b := by
     rcases hEV.β c c h1 with e | e
     ·rw [← e]; exact e2
     ·rw [e] at e2; cases e2
    exact hf.late.size c b e1 e3 cs T hcs
   ·rw [B.hm0 c (by omega)] at e1; cases e1
  ·rintro b (hF | ⟨c, _, hb⟩)
   ·exact hf.newF b hF
   ·rcases hf.newO c b hb with h | h
    ·exact .inr (.inl h)
    ·exact .inr (.inr h)
  ·obtain ⟨d, _, e1, _⟩ := hat j b e
   exact hf.newO d b e1

/-- slots seen as others -/
theorem sub_of {m0 : Nat} {T T' : List (SV C)} {Hp Hp' : List (HS C)} (θ : List (Option Nat)) (hT : ViewL Hp θ T T') (hv : ViewOK Hp θ Hp' m0) : SubS D m0 T Hp T' Hp' := by
 rintro B df a w rfl ⟨E, hR, hsz⟩
 obtain ⟨h1, h2, h3⟩ := view_env hR.sat hR.fr hv
 have hlen : ∀ (l m : List (SV C)), ViewL Hp θ l m → l.length = m.length := by
  intro l
  induction l with
  | nil => intro m h; cases m with
   | nil => rfl
   | cons y m => simp [ViewL] at h
  | cons x l ih => intro m h; cases m with
   | nil => simp [ViewL] at h
   | cons y m => simp only [ViewL] at h; simp [ih m h.2]
 have hget : ∀ (l m : List (SV C)) (i : Nat) (v : Value), ViewL Hp θ l m → Den D w E (getT l i) v → Den D w (E.view θ Hp') (getT m i) v := by
  intro l
  induction l with
  | nil => intro m i v h _; cases m with
   | nil => trivial
   | cons y m => simp [ViewL] at h
  | cons x l ih => intro m i v h hd; cases m with
   | nil => simp [ViewL] at h
   | cons y m =>
    simp only [ViewL] at h
    cases i with
    | zero => exact view_den hR.sat h1 x y v h.1 hd
    | succ i => exact ih m i v h.2 hd
 exact ⟨_, ⟨fun i => hget T T' i _ hT (hR.den i), h2, h3, hR.defers, hR.marks.mono fun b hb => ⟨h1.F b hb, rfl⟩⟩, by rw [hsz, hlen T T' hT]⟩

/-- A contract: called at args over the heap H0, f returns ret over the heap H1. -/
structure Meets (P : Program) (D : Codec C) (f : FuncId) (args : List (SV C)) (H0 : List (HS C)) (ret : SV C) (H1 : List (HS C)) : Prop where
 enter : ∀ args w, (callFunc f args).run P w = .ok (.enter f args) w
 calls : ∀ w E (hm : ∀ c, H0.length ≤ c → E.β c = .fresh) vs, Sat D w E (getC H0) → DenA D w E args vs →
  CallsIn (Fc none) 0 P f vs.toArray w fun e w' => ∃ v E', e = .returned v ∧ Den D w' E' ret v ∧ Sat D w' E' (getC H1) ∧ Fr ⟨w, E, fun b => ∃ c, E.β c = .loc b, H0.length, hm⟩ E' w'

/-- the results of a function, off its slots and heap -/
def resOf (D : Codec C) (tab : Tab C) (T : List (SV C)) (Hp : List (HS C)) : List ResultVar → Option (List (SV C))
 | [] => some []
 | .tmp t :: r => match resOf D tab T Hp r with
  | some l => some (getT T t :: l)
  | none => none
 | .cell t ty :: r => match doLoad D tab ty (getT T t) (hsOf Hp [getT T t]) with
  | .val v => match resOf D tab T Hp r with
   | some l => some (v :: l)
   | none => none
  | _ => none
def retOf : List (SV C) → SV C
 | [x] => x
 | l => .tuple l

/-- what a function's end must be -/
def EndPost (D : Codec C) (tab : Tab C) (rs : List ResultVar) (m0 : Nat) (ret : SV C) (H1 : List (HS C)) : Post C := fun e T Hp =>
 (e = .normal ∨ e = .ret) ∧ ∃ θ l, resOf D tab T Hp rs = some l ∧ View Hp θ (retOf l) ret ∧ ViewOK Hp θ H1 m0

def anys : Nat → List (SV C)
 | 0 => []
 | n + 1 => .any :: anys n

theorem anys_length : ∀ n, (anys n : List (SV C)).length = n
 | 0 => rfl
 | n + 1 => by simp [anys, anys_length n]
theorem getT_anys : ∀ n i, getT (anys n : List (SV C)) i = .any
 | 0, i => rfl
 | n + 1, 0 => rfl
 | n + 1, i + 1 => getT_anys n i
theorem getT_append : ∀ (l m : List (SV C)) (i : Nat), getT (l ++ m) i = if i < l.length then getT l i else getT m (i - l.length)
 | [], m, i => by simp
 | x :: l, m, 0 => by simp [getT]
 | x :: l, m, i + 1 => by simp [getT, getT_append l m i]
theorem denA_length : ∀ (l : List (SV C)) (vs : List Value), DenA D w E l vs → l.length = vs.length
 | [], vs, h => by simp only [DenA] at h; subst h; rfl
 | x :: l, vs, h => by simp only [DenA] at h; obtain ⟨v, v2, rfl, _, h2⟩ := h; simp [denA_length l v2 h2]
theorem denA_getT : ∀ (l : List (SV C)) (vs : List Value), DenA D w E l vs → ∀ i, i < l.length → Den D w E (getT l i) (vs.getD i undef)
 | [], vs, _, i, h => by simp at h
 | x :: l, vs, h, i, hi => by
  simp only [DenA] at h
  obtain ⟨v, v2, rfl, h1, h2⟩ := h
  cases i with
  | zero => simpa [getT] using h1
  | succ i => simpa [getT] using denA_getT l v2 h2 i (by simpa using hi)

def res1 (tmps : Array Value) : ResultVar → Sem Value
 | .tmp t => pure (tmps.getD t undef)
 | .cell q t => do loadVar t (← asAddr (tmps.getD q undef))

theorem res1_cell {t q : Nat} {u : Value} (h : (Instr.loadAt t (a.tmps.getD q undef)).run P w = .ok u w) : (res1 a.tmps (.cell q t)).run P w = .ok u w := by
 simp only [res1]
 unfold Instr.loadAt at h
 generalize a.tmps.getD q undef = v at h ⊢
 cases v with
 | pointer ad =>
  cases ad with
  | none => simp [Instr.sureAddr] at h
  | some ad => simpa [Instr.sureAddr, asAddr] using h
 | _ => simp [Instr.sureAddr] at h

theorem resOf_ok (hT : TabOK P D tab) {T : List (SV C)} {Hp : List (HS C)} (hR : Rel D B E (getT T) (getC Hp) df a w) : ∀ (rs : List ResultVar) (l : List (SV C)), resOf D tab T Hp rs = some l →
  ∃ vs, (rs.mapM (res1 a.tmps)).run P w = .ok vs w ∧ DenA D w E l vs
 | [], l, h => by
  simp only [resOf, Option.some.injEq] at h; subst h
  exact ⟨[], by simp, by simp only [DenA]⟩
 | .tmp t :: r, l, h => by
  simp only [resOf] at h
  cases hr : resOf D tab T Hp r with
  | none => simp [hr] at h
  | some l' =>
   simp [hr] at h; subst h
   obtain ⟨vs, h1, h2⟩ := resOf_ok hT hR r l' hr
   refine ⟨a.tmps.getD t undef :: vs, by simp [List.mapM_cons, h1, res1], ?_⟩
   simp only [DenA]
   exact ⟨_, _, rfl, hR.den t, h2⟩
 | .cell q t :: r, l, h => by
  simp only [resOf] at h
  have hload := load_core (P := P) (t := t) hT hR.sat (hR.den q) (hs := hsOf Hp [getT T q]) (fun c hc => lk_hsOf Hp [getT T q] _ (by simp) c hc)
  cases hd : doLoad D tab t (getT T q) (hsOf Hp [getT T q]) with
  | val v =>
   rw [hd] at hload h
   simp only at hload h
   obtain ⟨u, h3, h4⟩ := hload
   cases hr : resOf D tab T Hp r with
   | none => simp [hr] at h
   | some l' =>
    simp [hr] at h; subst h
    obtain ⟨vs, h1, h2⟩ := resOf_ok hT hR r l' hr
    refine ⟨u :: vs, by simp [List.mapM_cons, h1, res1_cell h3], ?_⟩
    simp only [DenA]
    exact ⟨_, _, rfl, h4, h2⟩
  | _ => rw [hd] at h; simp at h

theorem results_run (hT : TabOK P D tab) {T : List (SV C)} {Hp : List (HS C)} (hR : Rel D B E (getT T) (getC Hp) df a w) {fn : Func} {l : List (SV C)} (h : resOf D tab T Hp fn.results.toList = some l) :
  ∃ v, (results fn a.tmps).run P w = .ok v w ∧ Den D w E (retOf l) v := by
 obtain ⟨vs, h1, h2⟩ := resOf_ok (P := P) hT hR _ _ h
 have h3 : (fn.results.mapM (res1 a.tmps)).run P w = .ok vs.toArray w := by
  rw [Array.mapM_eq_mapM_toList]
  simp [h1]
 have h4 : (results fn a.tmps).run P w = .ok (if h : vs.toArray.size = 1 then vs.toArray[0] else .tuple vs.toArray) w := by
  have e : results fn a.tmps = (fn.results.mapM (res1 a.tmps) >>= fun vs => pure (if h : vs.size = 1 then vs[0] else .tuple vs)) := by
   unfold results
   congr 1
  rw [e, Sem.run_bind, h3]
  rfl
 refine ⟨_, h4, ?_⟩
 cases l with
 | nil => simp only [DenA] at h2; subst h2; simp only [retOf, Den, DenA]; exact ⟨_, by simp, rfl⟩
 | cons x l =>
  cases l with
  | nil =>
   simp only [DenA] at h2
   obtain ⟨v, v2, rfl, h5, rfl⟩ := h2
   simpa [retOf] using h5
  | cons y l =>
   have h2' := h2
   simp only [DenA] at h2
   obtain ⟨v, v2, rfl, h5, v3, v4, rfl, h6, h7⟩ := h2
   simp only [retOf, Den]
   refine ⟨(v :: v3 :: v4).toArray, by simp, by simpa using h2'⟩

end
end Go.SX

/-
 SX, part R: a call by its contract.
-/
namespace Go.SX
open Go.RowKit
variable {C : Cod}

/-- ρ: which of the caller's numbers the callee's first ones are; then come new ones, from m on -/
def newIds : Nat → Nat → List (Option Nat)
 | 0, _ => []
 | n + 1, m => some m :: newIds n (m + 1)
def renHs (θ : List (Option Nat)) : List (HS C) → Option (List (HS C))
 | [] => some []
 | x :: l => match renH θ x with
  | some y => match renHs θ l with
   | some r => some (y :: r)
   | none => none
  | none => none
/-- the caller's heap holds, at ρ, what the contract asks -/
def heapAt (H : Nat → HS C) : List (Option Nat) → List (HS C) → Prop
 | [], [] => True
 | some d :: l, h :: m => H d = h ∧ heapAt H l m
 | _, _ => False
def zipW : List (Option Nat) → List (HS C) → List (Nat × HS C)
 | some d :: l, h :: m => (d, h) :: zipW l m
 | _, _ => []

section
variable {P : Program} {D : Codec C} {tab : Tab C} {B : Base} {E : Env} {σ : Nat → SV C} {H : Nat → HS C} {df : List Deferred} {a : Act} {w : World}

theorem zipW_spec : ∀ (θ : List (Option Nat)) (m : List (HS C)) (H : Nat → HS C), ndO θ = true → θ.length = m.length → (∀ j, j < θ.length → ∃ d, ixL θ j = some (some d)) →
    (∀ j d, ixO θ j = some d → upHs H (zipW θ m) d = getC m j) ∧ (∀ c, inO θ c = false → upHs H (zipW θ m) c = H c) := by
  intro θ
  induction θ with
  | nil => intro m H _ hl _; exact ⟨fun j d h => by simp [ixO] at h, fun c _ => rfl⟩
  | cons x l ih =>
    intro m H hn hl hall
    cases m with
    | nil => simp at hl
    | cons y m =>
      cases x with
      | none => obtain ⟨d, hd⟩ := hall 0 (by simp); simp [ixL] at hd
      | some d =>
        simp only [ndO] at hn
        cases hi : inO l d with
        | true => rw [hi] at hn; simp at hn
        | false =>
          rw [hi] at hn
          obtain ⟨h1, h2⟩ := ih m (upH H d y) hn (by simpa using hl) (fun j hj => by
            obtain ⟨e, he⟩ := hall (j + 1) (by simpa using hj)
            exact ⟨e, by simpa [ixL] using he⟩)
          simp only [zipW, upHs]
          refine ⟨fun j e hj => ?_, fun c hc => ?_⟩
          · cases j with
            | zero =>
              simp [ixO] at hj; subst hj
              rw [h2 d hi]; simp [upH, getC]
            | succ j => exact h1 j e (by simpa [ixO] using hj)
          · simp only [inO] at hc
            split at hc
            · cases hc
            · rename_i hdc
              rw [h2 c hc]
              simp [upH, Ne.symm hdc]

theorem renHs_get : ∀ (θ : List (Option Nat)) (l m : List (HS C)), renHs θ l = some m → l.length = m.length ∧ ∀ j, renH θ (getC l j) = some (getC m j)
 | θ, [], m, h => by simp only [renHs, Option.some.injEq] at h; subst h; exact ⟨rfl, fun j => rfl⟩
 | θ, x :: l, m, h => by
  simp only [renHs] at h
  cases hx : renH θ x with
  | none => simp [hx] at h
  | some y =>
   cases hl : renHs θ l with
   | none => simp [hx, hl] at h
   | some r =>
    simp [hx, hl] at h; subst h
    obtain ⟨h1, h2⟩ := renHs_get θ l r hl
    refine ⟨by simp [h1], fun j => ?_⟩
    cases j with
    | zero => exact hx
    | succ j => exact h2 j

theorem heapAt_get : ∀ (Hp : Nat → HS C) (ρ : List (Option Nat)) (l : List (HS C)), heapAt Hp ρ l → ρ.length = l.length ∧ (∀ j, j < ρ.length → ∃ d, ixL ρ j = some (some d)) ∧ ∀ j d, ixO ρ j = some d → Hp d = getC l j
 | Hp, [], [], _ => ⟨rfl, fun j h => by simp at h, fun j d h => by simp [ixO] at h⟩
 | Hp, [], _ :: _, h => by simp [heapAt] at h
 | Hp, none :: _, _, h => by simp [heapAt] at h
 | Hp, some d :: l, [], h => by simp [heapAt] at h
 | Hp, some d :: l, y :: m, h => by
  simp only [heapAt] at h
  obtain ⟨h1, h2, h3⟩ := heapAt_get Hp l m h.2
  refine ⟨by simp [h1], fun j hj => ?_, fun j e hj => ?_⟩
  ·cases j with
   | zero => exact ⟨d, rfl⟩
   | succ j => exact h2 j (by simpa using hj)
  ·cases j with
   | zero => simp [ixO] at hj; subst hj; exact h.1
   | succ j => exact h3 j e (by simpa [ixO] using hj)

theorem ixL_len {α : Type} : ∀ (l : List α) (j : Nat), ixL l j = none ↔ l.length ≤ j := by
 intro l j; rw [ixL_eq]; exact List.getElem?_eq_none_iff
theorem newIds_spec : ∀ (n m j : Nat), ixO (newIds n m) j = if j < n then some (m + j) else none
 | 0, m, j => by simp [newIds, ixO]
 | n + 1, m, 0 => by simp [newIds, ixO]
 | n + 1, m, j + 1 => by
  simp only [newIds, ixO, newIds_spec n (m + 1) j, Nat.add_lt_add_iff_right]
  split <;> simp; omega
theorem newIds_length : ∀ (n m : Nat), (newIds n m).length = n
 | 0, m => rfl
 | n + 1, m => by simp [newIds, newIds_length n]
theorem ixO_append : ∀ (l m : List (Option Nat)) (j : Nat), ixO (l ++ m) j = if j < l.length then ixO l j else ixO m (j - l.length)
 | [], m, j => by simp
 | x :: l, m, 0 => by simp [ixO]
 | x :: l, m, j + 1 => by simp [ixO, ixO_append l m j]

theorem getC_ge : ∀ (l : List (HS C)) (c : Nat), l.length ≤ c → getC l c = .fresh
 | [], c, _ => rfl
 | x :: l, 0, h => by simp at h
 | x :: l, c + 1, h => getC_ge l c (by simpa using h)

def posO : List (Option Nat) → Nat → Nat
 | [], _ => 0
 | x :: l, c => if x = some c then 0 else posO l c + 1
theorem posO_spec : ∀ (θ : List (Option Nat)) (c : Nat), inO θ c = true → ixO θ (posO θ c) = some c
 | [], c, h => by simp [inO] at h
 | none :: l, c, h => by
  simp only [posO]
  rw [if_neg (by simp)]
  exact posO_spec l c (by simpa [inO] using h)
 | some d :: l, c, h => by
  simp only [posO, Option.some.injEq]
  by_cases hd : d = c
  ·rw [if_pos hd]; simp [ixO, hd]
  ·rw [if_neg hd]; simp only [inO, if_neg hd] at h; exact posO_spec l c h

/-- **A call by its contract.** -/
theorem callAt_of_meets' {f : FuncId} {args0 args : List (SV C)} {H0 H0' H1 H1' : List (HS C)} {ret0 ret : SV C} {Hf : Nat → HS C} {nw : Nat} (hM : Meets P D f args0 H0 ret0 H1) (ρ : List (Option Nat))
  (hargs : renL ρ args0 = some args) (hH0 : renHs ρ H0 = some H0') (hat : heapAt Hf ρ H0') (θ : List (Option Nat)) (hθ : θ = ρ ++ newIds (H1.length - H0.length) nw) (hfr : ∀ k, k < H1.length - H0.length → Hf (nw + k) = .fresh) (hnd : ndO θ = true) (hle : H0.length ≤ H1.length)
  (hH1 : renHs θ H1 = some H1') (hret : renS θ ret0 = some ret) : CallAt P D f args (Hf) ret (zipW θ H1') := by
 refine ⟨.inl ⟨hM.enter, fun B σ df a w E hR vs hd => ?_⟩⟩
 obtain ⟨hρl, hρs, hρh⟩ := heapAt_get Hf ρ H0' hat
 obtain ⟨hl0, hren0⟩ := renHs_get ρ H0 H0' hH0
 obtain ⟨hl1, hren1⟩ := renHs_get θ H1 H1' hH1
 have hρlen : ρ.length = H0.length := hρl.trans hl0.symm
 have hθlen : θ.length = H1.length := by rw [hθ, List.length_append, newIds_length, hρlen]; omega
 have hθρ : ∀ j, j < H0.length → ixO θ j = ixO ρ j := fun j hj => by rw [hθ, ixO_append, if_pos (by omega)]
 have hθn : ∀ j, H0.length ≤ j → j < H1.length → ixO θ j = some (nw + (j - H0.length)) := fun j h1 h2 => by
  rw [hθ, ixO_append, if_neg (by omega), newIds_spec, hρlen, if_pos (by omega)]
 have hfreshC : ∀ c j, H0.length ≤ j → j < H1.length → some (nw + (j - H0.length)) = some c → Hf c = .fresh := fun c j h1 h2 h3 => by injection h3 with h3; rw [← h3]; exact hfr _ (by omega)
 -- the callee's environment
 let e0 : Env := E.sub ρ
 have he0 : ∀ j d, ixO ρ j = some d → e0.β j = E.β d := fun j d hj => by simp [e0, Env.sub, hj]
 have hρlt : ∀ j d, ixO ρ j = some d → j < H0.length := fun j d h => by
  have h1 := (ixO_of_ixL ρ j d).2 h
  by_cases hj : j < H0.length
  ·exact hj
  ·have h2 : ixL ρ j = none := (ixL_len ρ j).2 (by omega)
   rw [h2] at h1; cases h1
 have hθlt : ∀ j d, ixO θ j = some d → j < H1.length := fun j d h => by
  have h1 := (ixO_of_ixL θ j d).2 h
  by_cases hj : j < H1.length
  ·exact hj
  ·have h2 : ixL θ j = none := (ixL_len θ j).2 (by omega)
   rw [h2] at h1; cases h1
 have he0n : ∀ c, H0.length ≤ c → e0.β c = .fresh := fun c hc => by
  have : ixO ρ c = none := by
   cases h : ixO ρ c with
   | none => rfl
   | some d => exact absurd (hρlt c d h) (by omega)
  simp [e0, Env.sub, this]
 have he0at : ∀ j b, e0.β j = .loc b → ∃ d, ixO ρ j = some d ∧ E.β d = .loc b := fun j b e => by
  cases h : ixO ρ j with
  | none => simp [e0, Env.sub, h] at e
  | some d => exact ⟨d, rfl, by rw [← he0 j d h]; exact e⟩
 have hndρ : ∀ j j' d, ixO ρ j = some d → ixO ρ j' = some d → j = j' := fun j j' d h h' =>
  ndO_inj θ hnd j j' d (by rw [hθρ j (hρlt j d h)]; exact h) (by rw [hθρ j' (hρlt j' d h')]; exact h')
 have hsat0 : Sat D w e0 (getC H0) := by
  refine ⟨fun j => ?_, fun j b e => ?_, fun j j' b e e' => ?_, hR.sat.F, hR.sat.glob.mono fun b hb => ⟨hb, rfl⟩⟩
  ·by_cases hj : j < H0.length
   ·obtain ⟨d, hd⟩ := hρs j (by omega)
    have hd' := (ixO_of_ixL ρ j d).1 hd
    rw [he0 j d hd']
    have hok := hR.sat.ok d
    rw [hρh j d hd'] at hok
    exact (ren_ok (D := D) (w := w) (E := E) (E' := e0) rfl he0 (hren0 j) _).1 hok
   ·rw [he0n j (by omega), getC_ge H0 j (by omega)]; rfl
  ·obtain ⟨d, _, hd⟩ := he0at j b e
   exact hR.sat.own d b hd
  ·obtain ⟨d, h1, hd⟩ := he0at j b e
   obtain ⟨d', h1', hd'⟩ := he0at j' b e'
   have := hR.sat.inj d d' b hd hd'
   subst this
   exact hndρ j j' d h1 h1'
 have hd0 : DenA D w e0 args0 vs := (ren_denA (D := D) (w := w) (E := E) (E' := e0) rfl he0 args0 args vs hargs).1 hd
 refine (hM.calls w e0 he0n vs hsat0 hd0).mono ?_
 rintro e w' ⟨v, e1, rfl, hv, hs1, hf1⟩
 -- the caller's environment behind the call
 let E1 : Env := { F := e1.F, β := fun c => if inO θ c = true then e1.β (posO θ c) else E.β c }
 have hE1 : ∀ j d, ixO θ j = some d → e1.β j = E1.β d := fun j d hj => by
  have hin := ixO_in θ j d hj
  have := ndO_inj θ hnd _ _ d (posO_spec θ d hin) hj
  simp [E1, hin, this]
 have hE1n : ∀ c, inO θ c = false → E1.β c = E.β c := fun c hc => by simp [E1, hc]
 have hin_of : ∀ j d, ixO ρ j = some d → inO θ d = true := fun j d h => ixO_in θ j d (by rw [hθρ j (hρlt j d h)]; exact h)
 -- a block of a number that the callee doesn't know
 have hforeign : ∀ c b, inO θ c = false → E.β c = .loc b → ¬ ∃ j, e0.β j = .loc b := fun c b hc hb ⟨j, hj⟩ => by
  obtain ⟨d, h1, h2⟩ := he0at j b hj
  have := hR.sat.inj d c b h2 hb
  subst this
  rw [hin_of j d h1] at hc; cases hc
 have hL : Later w E w' E1 := by
  refine ⟨fun b hb => hf1.late.F b hb, fun c => ?_, fun c b e1' e2 cs T hcs => ?_⟩
  ·cases hc : inO θ c with
   | false => exact .inl (hE1n c hc)
   | true =>
    have hp := posO_spec θ c hc
    rw [← hE1 _ c hp]
    by_cases hj : posO θ c < H0.length
    ·have hp' := hp
     rw [hθρ _ hj] at hp'
     rcases hf1.late.β (posO θ c) with h | h | h
     ·exact .inl (by rw [h]; exact he0 _ c hp')
     ·exact .inr (.inl h)
     ·exact .inr (.inr (by rw [← he0 _ c hp']; exact h))
    ·have hp' := hp
     rw [hθn _ (by omega) (hθlt _ _ hp)] at hp'
     have hge : Hf c = .fresh := hfreshC c _ (by omega) (hθlt _ _ hp) hp'
     have hok := hR.sat.ok c
     rw [hge] at hok
     exact .inr (.inr (fresh_β hR.sat hge))
  ·cases hc : inO θ c with
   | false =>
    have hlt := (hR.sat.own c b e1').1
    exact ⟨cs, T, Row.of (hf1.same b hlt (hforeign c b hc e1')) hcs, rfl⟩
   | true =>
    have hp := posO_spec θ c hc
    rw [← hE1 _ c hp] at e2
    by_cases hj : posO θ c < H0.length
    ·have hp' := hp
     rw [hθρ _ hj] at hp'
     exact hf1.late.size (posO θ c) b (by rw [← e1']; exact he0 _ c hp') e2 cs T hcs
    ·have hp' := hp
     rw [hθn _ (by omega) (hθlt _ _ hp)] at hp'
     have hge : Hf c = .fresh := hfreshC c _ (by omega) (hθlt _ _ hp) hp'
     rw [fresh_β hR.sat hge] at e1'; cases e1'
 have hθall : ∀ j, j < θ.length → ∃ d, ixL θ j = some (some d) := fun j hj => by
  by_cases h : j < H0.length
  ·obtain ⟨d, hd⟩ := hρs j (by omega)
   exact ⟨d, (ixO_of_ixL θ j d).2 (by rw [hθρ j h]; exact (ixO_of_ixL ρ j d).1 hd)⟩
  ·exact ⟨_, (ixO_of_ixL θ j _).2 (hθn j (by omega) (by omega))⟩
 obtain ⟨hz1, hz2⟩ := zipW_spec θ H1' (Hf) hnd (by omega) hθall
 have hsatE : Sat D w' E1 (upHs (Hf) (zipW θ H1')) := by
  refine ⟨fun c => ?_, fun c b e => ?_, fun c c' b e e' => ?_, hs1.F, hs1.glob.mono fun b hb => ⟨hb, rfl⟩⟩
  ·cases hc : inO θ c with
   | false =>
    rw [hz2 c hc, hE1n c hc]
    exact HS.ok_mono hL (hR.sat.ok c) fun b hb => hf1.same b (hR.sat.own c b hb).1 (hforeign c b hc hb)
   | true =>
    have hp := posO_spec θ c hc
    rw [hz1 _ c hp, ← hE1 _ c hp]
    exact (ren_ok (D := D) (w := w') (E := E1) (E' := e1) rfl hE1 (hren1 _) _).2 (hs1.ok _)
  ·cases hc : inO θ c with
   | false =>
    rw [hE1n c hc] at e
    have hlt := (hR.sat.own c b e).1
    refine ⟨Nat.lt_of_lt_of_le hlt hf1.size, fun hF => ?_⟩
    rcases hf1.newF b hF with h | h | h
    ·exact (hR.sat.own c b e).2 h
    ·exact hforeign c b hc e h
    ·exact absurd hlt (Nat.not_lt.2 h)
   | true =>
    have hp := posO_spec θ c hc
    rw [← hE1 _ c hp] at e
    exact hs1.own _ b e
  ·have mixed : ∀ c c' b, inO θ c = true → inO θ c' = false → E1.β c = .loc b → E1.β c' = .loc b → False := fun c c' b hc hc' e e' => by
    have hp := posO_spec θ c hc
    rw [← hE1 _ c hp] at e
    rw [hE1n c' hc'] at e'
    rcases hf1.newO _ b e with h | h
    ·exact hforeign c' b hc' e' h
    ·exact absurd (hR.sat.own c' b e').1 (Nat.not_lt.2 h)
   cases hc : inO θ c with
   | false =>
    cases hc' : inO θ c' with
    | false => rw [hE1n c hc] at e; rw [hE1n c' hc'] at e'; exact hR.sat.inj c c' b e e'
    | true => exact (mixed c' c b hc' hc e' e).elim
   | true =>
    cases hc' : inO θ c' with
    | false => exact (mixed c c' b hc hc' e e').elim
    | true =>
     have hp := posO_spec θ c hc
     have hp' := posO_spec θ c' hc'
     rw [← hE1 _ c hp] at e
     rw [← hE1 _ c' hp'] at e'
     have := hs1.inj _ _ b e e'
     rw [this, hp'] at hp
     simpa using hp.symm
 have hO : ∀ b, (∃ j, e0.β j = .loc b) → B.O b ∨ B.w0.heap.size ≤ b := fun b ⟨j, hj⟩ => by
  obtain ⟨d, _, h2⟩ := he0at j b hj
  exact hR.fr.newO d b h2
 have hfrE : Fr B E1 w' := by
  refine ⟨hf1.os.trans hR.fr.os, hf1.tape.trans hR.fr.tape, hf1.output.trans hR.fr.output, Nat.le_trans hR.fr.size hf1.size, fun b hb ho => ?_, hR.fr.late.trans hL, fun b hF => ?_, fun c b e => ?_⟩
  ·have h1 : ¬ ∃ j, e0.β j = .loc b := fun h => by
    rcases hO b h with h2 | h2
    ·exact ho h2
    ·omega
   exact (hf1.same b (Nat.lt_of_lt_of_le hb hR.fr.size) h1).trans (hR.fr.same b hb ho)
  ·rcases hf1.newF b hF with h | h | h
   ·exact hR.fr.newF b h
   ·exact .inr (hO b h)
   ·exact .inr (.inr (Nat.le_trans hR.fr.size h))
  ·cases hc : inO θ c with
   | false => rw [hE1n c hc] at e; exact hR.fr.newO c b e
   | true =>
    have hp := posO_spec θ c hc
    rw [← hE1 _ c hp] at e
    rcases hf1.newO _ b e with h | h
    ·exact hO b h
    ·exact .inr (Nat.le_trans hR.fr.size h)
 exact ⟨v, E1, rfl, (ren_den (D := D) (w := w') (E := E1) (E' := e1) rfl hE1 ret0 ret v hret).2 hv, hR.later hL hsatE hfrE⟩

theorem callAt_of_meets {f : FuncId} {args0 args : List (SV C)} {H0 H0' H1 H1' : List (HS C)} {ret0 ret : SV C} {Hp : List (HS C)} (hM : Meets P D f args0 H0 ret0 H1) (ρ : List (Option Nat))
  (hargs : renL ρ args0 = some args) (hH0 : renHs ρ H0 = some H0') (hat : heapAt (getC Hp) ρ H0') (θ : List (Option Nat)) (hθ : θ = ρ ++ newIds (H1.length - H0.length) (hlen Hp)) (hnd : ndO θ = true) (hle : H0.length ≤ H1.length)
  (hH1 : renHs θ H1 = some H1') (hret : renS θ ret0 = some ret) : CallAt P D f args (getC Hp) ret (zipW θ H1') :=
 callAt_of_meets' hM ρ hargs hH0 hat θ hθ (fun k _ => getC_ge Hp _ (by rw [← hlen_eq]; omega)) hnd hle hH1 hret

/-- the numbers behind ρ and θ -/
def foot (θ : List (Option Nat)) : List Nat := θ.filterMap id
theorem heapAt_congr {H H' : Nat → HS C} : ∀ (ρ : List (Option Nat)) (l : List (HS C)), (∀ c ∈ foot ρ, H' c = H c) → heapAt H ρ l → heapAt H' ρ l
 | [], [], _, h => h
 | [], _ :: _, _, h => h.elim
 | none :: _, _, _, h => by simp [heapAt] at h
 | some d :: l, [], _, h => by simp [heapAt] at h
 | some d :: l, y :: m, hc, h => by
  simp only [heapAt] at h ⊢
  exact ⟨(hc d (by simp [foot])).trans h.1, heapAt_congr l m (fun c hcc => hc c (by simp only [foot, List.filterMap_cons, id]; exact List.mem_cons_of_mem _ hcc)) h.2⟩
theorem foot_append (l m : List (Option Nat)) : foot (l ++ m) = foot l ++ foot m := List.filterMap_append
theorem foot_new : ∀ (n m k : Nat), k < n → m + k ∈ foot (newIds n m)
 | 0, m, k, h => by omega
 | n + 1, m, 0, _ => by simp [foot, newIds]
 | n + 1, m, k + 1, h => by
  have := foot_new n (m + 1) k (by omega)
  simp only [foot, newIds, List.filterMap_cons, id]
  rw [show m + (k + 1) = m + 1 + k by omega]
  exact List.mem_cons_of_mem _ this
theorem callF_of_meets {f : FuncId} {args0 args : List (SV C)} {H0 H0' H1 H1' : List (HS C)} {ret0 ret : SV C} {Hp : List (HS C)} (hM : Meets P D f args0 H0 ret0 H1) (ρ : List (Option Nat))
  (hargs : renL ρ args0 = some args) (hH0 : renHs ρ H0 = some H0') (hat : heapAt (getC Hp) ρ H0') (θ : List (Option Nat)) (hθ : θ = ρ ++ newIds (H1.length - H0.length) (hlen Hp)) (hnd : ndO θ = true) (hle : H0.length ≤ H1.length)
  (hH1 : renHs θ H1 = some H1') (hret : renS θ ret0 = some ret) : CallF P D f args (getC Hp) (foot θ) ret (zipW θ H1') :=
 ⟨fun H hH => callAt_of_meets' hM ρ hargs hH0 (heapAt_congr ρ H0' (fun c hc => hH c (by rw [hθ, foot_append]; simp [hc])) hat) θ hθ (fun k hk => (hH _ (by rw [hθ, foot_append]; exact List.mem_append_right _ (foot_new _ _ _ hk))).trans (getC_ge Hp _ (by rw [← hlen_eq]; omega))) hnd hle hH1 hret⟩

/-- a call of a function that only computes -/
theorem callAt_pure {f : FuncId} {args : List (SV C)} {ret : SV C} (hM : Meets P D f args [] ret []) (hargs : renL [] args = some args) (hret : renS [] ret = some ret) (H : List (HS C)) : CallAt P D f args (getC H) ret [] := by
 have := callAt_of_meets (Hp := H) hM [] hargs rfl trivial [] rfl rfl (Nat.le_refl _) rfl hret
 simpa [zipW] using this

theorem dcall_pure {next : DK C} {f : FuncId} {args : List (SV C)} {ret : SV C} {dst : Option Nat} {fs fc : List Nat} {tr : List Ent} {T : List (SV C)} {Hp : List (HS C)} (hM : Meets P D f args [] ret [])
  (hargs : renL [] args = some args) (hret : renS [] ret = some ret) (h : next (⟨dst, fs, fc ++ [], []⟩ :: tr) (setO T dst ret) Hp) : DCallVC P D next f args dst fs fc tr T Hp :=
 ⟨ret, [], [], ⟨fun H _ => by
  have := callAt_of_meets' (Hf := H) (nw := 0) hM [] hargs rfl trivial [] rfl (fun k hk => by simp at hk) rfl (Nat.le_refl _) rfl hret
  simpa [zipW] using this⟩, h⟩

theorem dcall_heap {next : DK C} {f : FuncId} {args0 args : List (SV C)} {H0 H0' H1 H1' : List (HS C)} {ret0 ret : SV C} {dst : Option Nat} {fs fc : List Nat} {tr : List Ent} {T : List (SV C)} {Hp : List (HS C)}
  (ρ : List (Option Nat)) (hM : Meets P D f args0 H0 ret0 H1) (hargs : renL ρ args0 = some args) (hH0 : renHs ρ H0 = some H0') (hat : heapAt (getC Hp) ρ H0') (θ : List (Option Nat)) (hθ : θ = ρ ++ newIds (H1.length - H0.length) (hlen Hp)) (hnd : ndO θ = true)
  (hle : H0.length ≤ H1.length) (hH1 : renHs θ H1 = some H1') (hret : renS θ ret0 = some ret) (h : next (⟨dst, fs, fc ++ foot θ, idsOf (zipW θ H1')⟩ :: tr) (setO T dst ret) (setCs Hp (zipW θ H1'))) : DCallVC P D next f args dst fs fc tr T Hp :=
 ⟨ret, _, _, callF_of_meets hM ρ hargs hH0 hat θ hθ hnd hle hH1 hret, h⟩

end
end Go.SX

/-
 SX, part V1: a function that has ranged over functions leaves: its marks are taken, their blocks shed.
-/
namespace Go.SX
open Go.RowKit
variable {C : Cod}

/-- What was known of E in w is known of E' in w', but for blocks that hold no cells. -/
structure Shed (w : World) (E : Env) (w' : World) (E' : Env) : Prop where
 F : ∀ b cs T z, w.heap[b]? = some (.cells cs T z) → w'.heap[b]? = some (.cells cs T z) ∧ (E.F b → E'.F b)
 β : E'.β = E.β

theorem Shed.cell {w w' : World} {E E' : Env} (h : Shed w E w' E') {b o : Nat} {v : Value} (hc : w.cell? ⟨b, o, none⟩ = some v) : w'.cell? ⟨b, o, none⟩ = some v ∧ (E.F b → E'.F b) := by
 obtain ⟨ob, h1, h2⟩ := cells_of_cell hc
 cases ob with
 | cells cs T z =>
  obtain ⟨h3, h4⟩ := h.F b cs T z h1
  exact ⟨(cell_of_block (h3.trans h1.symm)).trans hc, h4⟩
 | _ => simp [Obj.isCells] at h2

theorem Shed.row {w w' : World} {E E' : Env} (h : Shed w E w' E') {b : Nat} {cs : Array Value} {T : TypeId} (hr : Row w b cs T) : Row w' b cs T := by
 obtain ⟨z, h1, h2⟩ := hr
 exact ⟨z, (h.F b cs T z h1).1, h2⟩
theorem Shed.glob {w w' : World} {E E' : Env} (h : Shed w E w' E') (hG : GlobOK C w E) : GlobOK C w' E' := fun g hg => by
 obtain ⟨h1, ⟨cs, T, z, h2, h3⟩, h4⟩ := hG g hg
 obtain ⟨h5, h6⟩ := h.F g cs T z h2
 exact ⟨h6 h1, ⟨cs, T, z, h5, h3⟩, h4⟩

theorem PDen.shed {D : Codec C} {w w' : World} {E E' : Env} (hS : Shed w E w' E') {x : PV C} {v : Value} (h : PDen D w E.F x v) : PDen D w' E'.F x v := by
 induction h with
 | int k n => exact .int k n
 | bool b => exact .bool b
 | str l => exact .str l
 | lit v h => exact .lit v h
 | dslNil u a cap => exact .dslNil u a cap
 | dsl u xs b o cap cv hb hc hcell hden ih =>
  refine .dsl u xs b o cap cv (fun hx => ?_) hc (fun i x hx j pv hp => (hS.cell (hcell i x hx j pv hp)).1) ih
  cases xs with
  | nil => exact absurd rfl hx
  | cons x r =>
   have hn : 0 < (D.enc u x).length := by rw [D.enc_len]; exact D.n_pos u
   exact (hS.cell (hcell 0 x rfl 0 _ (List.getElem?_eq_getElem hn))).2 (hb hx)
 | fds u xs a h ih => exact .fds u xs a ih
theorem PDenL.shed {D : Codec C} {w w' : World} {E E' : Env} (hS : Shed w E w' E') {l : List (PV C)} {vs : List Value} (h : PDenL D w E.F l vs) : PDenL D w' E'.F l vs :=
 ⟨h.1, fun j pv v hp hv => (h.2 j pv v hp hv).shed hS⟩

mutual
theorem Den.shed {D : Codec C} {w w' : World} {E E' : Env} (hS : Shed w E w' E') : ∀ (x : SV C) (v : Value), Den D w E x v → Den D w' E' x v
 | .p x, v, h => by simp only [Den] at *; exact h.shed hS
 | .any, _, _ => by simp only [Den]
 | .ptr c o, v, h => by simp only [Den, hS.β] at *; exact h
 | .eptr c o n i f, v, h => by simp only [Den, hS.β] at *; exact h
 | .yieldv c, v, h => by simp only [Den, hS.β] at *; exact h
 | .mapp c, v, h => by simp only [Den, hS.β] at *; exact h
 | .dptr cells f, v, h => by
  simp only [Den] at *
  obtain ⟨b, o, rfl, hc⟩ := h
  refine ⟨b, o, rfl, fun j pv hp => ?_⟩
  obtain ⟨hb, cv, h1, h2⟩ := hc j pv hp
  exact ⟨(hS.cell h1).2 hb, cv, (hS.cell h1).1, h2.shed hS⟩
 | .slice c o n off len, v, h => by
  simp only [Den, hS.β] at *
  cases hb : E.β c with
  | loc b =>
   rw [hb] at h
   rcases h with h | ⟨cap, cs, T, h1, h2, h3, h4⟩
   ·exact .inl h
   ·exact .inr ⟨cap, cs, T, h1, h2, hS.row h3, h4⟩
  | _ => rw [hb] at h; exact h
 | .arr _ _ _, _, h => by simp only [Den] at h
 | .agg vs, v, h => by
  simp only [Den] at *
  obtain ⟨cs, h1, h2⟩ := h
  exact ⟨cs, h1, DenC.shed hS vs _ h2⟩
 | .fn f first captured, v, h => by
  simp only [Den] at *
  obtain ⟨xs, ys, h1, h2, h3⟩ := h
  exact ⟨xs, ys, h1, DenA.shed hS first _ h2, DenA.shed hS captured _ h3⟩
 | .iface t x, v, h => by
  simp only [Den] at *
  obtain ⟨u, h1, h2⟩ := h
  exact ⟨u, h1, Den.shed hS x _ h2⟩
 | .tuple vs, v, h => by
  simp only [Den] at *
  obtain ⟨xs, h1, h2⟩ := h
  exact ⟨xs, h1, DenA.shed hS vs _ h2⟩
theorem DenC.shed {D : Codec C} {w w' : World} {E E' : Env} (hS : Shed w E w' E') : ∀ (l : List (SV C)) (vs : List Value), DenC D w E l vs → DenC D w' E' l vs
 | [], vs, h => by simp only [DenC] at *; exact h
 | x :: rest, vs, h => by
  have ih := DenC.shed (D := D) hS rest
  cases x with
  | arr u N xs =>
   simp only [DenC] at *
   obtain ⟨h0, v1, v2, h1, h2, h3⟩ := h
   exact ⟨h0, v1, v2, h1, h2.shed hS, ih _ h3⟩
  | p y => simp only [DenC] at *; obtain ⟨v, v2, h1, h2, h3, h4⟩ := h; exact ⟨v, v2, h1, h2, Den.shed hS _ _ h3, ih _ h4⟩
  | any => simp only [DenC] at *; obtain ⟨v, v2, h1, h2, h3, h4⟩ := h; exact ⟨v, v2, h1, h2, Den.shed hS _ _ h3, ih _ h4⟩
  | ptr c o => simp only [DenC] at *; obtain ⟨v, v2, h1, h2, h3, h4⟩ := h; exact ⟨v, v2, h1, h2, Den.shed hS _ _ h3, ih _ h4⟩
  | eptr c o n i f => simp only [DenC] at *; obtain ⟨v, v2, h1, h2, h3, h4⟩ := h; exact ⟨v, v2, h1, h2, Den.shed hS _ _ h3, ih _ h4⟩
  | dptr c f => simp only [DenC] at *; obtain ⟨v, v2, h1, h2, h3, h4⟩ := h; exact ⟨v, v2, h1, h2, Den.shed hS _ _ h3, ih _ h4⟩
  | slice c o n off len => simp only [DenC] at *; obtain ⟨v, v2, h1, h2, h3, h4⟩ := h; exact ⟨v, v2, h1, h2, Den.shed hS _ _ h3, ih _ h4⟩
  | agg l => simp only [DenC] at *; obtain ⟨v, v2, h1, h2, h3, h4⟩ := h; exact ⟨v, v2, h1, h2, Den.shed hS (.agg l) _ h3, ih _ h4⟩
  | fn f a b => simp only [DenC] at *; obtain ⟨v, v2, h1, h2, h3, h4⟩ := h; exact ⟨v, v2, h1, h2, Den.shed hS (.fn f a b) _ h3, ih _ h4⟩
  | iface t y => simp only [DenC] at *; obtain ⟨v, v2, h1, h2, h3, h4⟩ := h; exact ⟨v, v2, h1, h2, Den.shed hS (.iface t y) _ h3, ih _ h4⟩
  | tuple l => simp only [DenC] at *; obtain ⟨v, v2, h1, h2, h3, h4⟩ := h; exact ⟨v, v2, h1, h2, Den.shed hS (.tuple l) _ h3, ih _ h4⟩
  | yieldv c => simp only [DenC] at *; obtain ⟨v, v2, h1, h2, h3, h4⟩ := h; exact ⟨v, v2, h1, h2, Den.shed hS _ _ h3, ih _ h4⟩
  | mapp c => simp only [DenC] at *; obtain ⟨v, v2, h1, h2, h3, h4⟩ := h; exact ⟨v, v2, h1, h2, Den.shed hS _ _ h3, ih _ h4⟩
theorem DenA.shed {D : Codec C} {w w' : World} {E E' : Env} (hS : Shed w E w' E') : ∀ (l : List (SV C)) (vs : List Value), DenA D w E l vs → DenA D w' E' l vs
 | [], vs, h => by simp only [DenA] at *; exact h
 | x :: rest, vs, h => by
  simp only [DenA] at *
  obtain ⟨v, v2, h1, h2, h3⟩ := h
  exact ⟨v, v2, h1, Den.shed hS x _ h2, DenA.shed hS rest _ h3⟩
end

section
variable {P : Program} {D : Codec C} {tab : Tab C} {B : Base} {E : Env} {σ : Nat → SV C} {H : Nat → HS C} {df : List Deferred} {a : Act} {w : World}

/-- one mark is taken -/
theorem Rel.takeMark {b : Nat} {bs : List Nat} (h : Rel D B E σ H ((b :: bs).map fun b => ⟨.collected b, #[]⟩) a w) :
  (Instr.takeDeferred b).run P w = .ok [] (w.putObj b (.deferred none)) ∧
  Rel D B { E with F := fun k => E.F k ∧ k ≠ b } σ H (bs.map fun b => ⟨.collected b, #[]⟩) { a with defers := bs.map fun b => ⟨.collected b, #[]⟩ } (w.putObj b (.deferred none)) := by
 obtain ⟨bs', e, hnd, hm⟩ := h.marks
 have hbs : bs' = b :: bs := by
  have inj : ∀ l m : List Nat, l.map (fun b => (⟨.collected b, #[]⟩ : Deferred)) = m.map (fun b => ⟨.collected b, #[]⟩) → l = m := by
   intro l
   induction l with
   | nil => intro m h; cases m with
    | nil => rfl
    | cons x m => simp at h
   | cons x l ih => intro m h; cases m with
    | nil => simp at h
    | cons y m => simp at h; rw [h.1, ih m (by simpa using h.2)]
  exact (inj _ _ e).symm
 subst hbs
 obtain ⟨hF, hob, hge, hn0⟩ := hm b (by simp)
 have hlt : b < w.heap.size := h.sat.F b hF
 have hoth : ∀ k, k ≠ b → (w.putObj b (.deferred none)).heap[k]? = w.heap[k]? := fun k hk => World.putObj_heap_other hk
 have hS : Shed w E (w.putObj b (.deferred none)) { E with F := fun k => E.F k ∧ k ≠ b } := by
  refine ⟨fun k cs T z hk => ?_, rfl⟩
  have hkb : k ≠ b := fun e => by rw [e, hob] at hk; cases hk
  exact ⟨(hoth k hkb).trans hk, fun hf => ⟨hf, hkb⟩⟩
 have hown : ∀ c k, E.β c = .loc k → k ≠ b := fun c k e ek => (h.sat.own c k e).2 (ek ▸ hF)
 refine ⟨run_takeDeferred hob, ⟨fun i => Den.shed hS _ _ (h.den i), ⟨fun c => ?_, fun c k e => ?_, h.sat.inj, fun k hk => ?_, hS.glob h.sat.glob⟩, ?_, rfl, bs, rfl, (List.nodup_cons.1 hnd).2, fun k hk => ?_⟩⟩
 ·have hok := h.sat.ok c
  show HS.ok D _ _ (E.β c) _
  cases hb : E.β c with
  | fresh => rw [hb] at hok; exact hok
  | dead => rw [hb] at hok; exact hok
  | virt => rw [hb] at hok; exact hok
  | loc k =>
   rw [hb] at hok
   have hk := hown c k hb
   simp only [HS.ok] at hok ⊢
   cases hH : H c with
   | fresh => rw [hH] at hok; exact hok
   | dead => rw [hH] at hok; exact hok
   | vart _ vs => rw [hH] at hok; obtain ⟨cs, T, h1, h2⟩ := hok; exact ⟨cs, T, RowT.of (hoth k hk) h1, DenC.shed hS _ _ h2⟩
   | rows u xs => rw [hH] at hok; obtain ⟨cs, T, h1, h2, h3⟩ := hok; exact ⟨cs, T, RowT.of (hoth k hk) h1, h2, h3.shed hS⟩
   | obj o => rw [hH] at hok; obtain ⟨h1, h2⟩ := hok; exact ⟨(hoth k hk).trans h1, h2⟩
 ·have := h.sat.own c k e
  exact ⟨by simpa using this.1, fun hf => this.2 hf.1⟩
 ·have := h.sat.F k hk.1; simpa using this
 ·refine ⟨h.fr.os, h.fr.tape, h.fr.output, by simpa using h.fr.size, fun k hk ho => (hoth k (by omega)).trans (h.fr.same k hk ho), ⟨fun k hk => ?_, h.fr.late.β, fun c k e1 e2 cs T hcs => ?_⟩, fun k hk => h.fr.newF k hk.1, h.fr.newO⟩
  ·have := h.fr.late.F k hk
   have hkb : k ≠ b := fun e => hn0 (e ▸ hk)
   exact ⟨⟨this.1, hkb⟩, (hoth k hkb).trans this.2⟩
  ·obtain ⟨cs', T', h1, h2⟩ := h.fr.late.size c k e1 e2 cs T hcs
   exact ⟨cs', T', Row.of (hoth k (hown c k e2)) h1, h2⟩
 ·have hk' := hm k (List.mem_cons_of_mem _ hk)
  have hkb : k ≠ b := fun e => (List.nodup_cons.1 hnd).1 (e ▸ hk)
  exact ⟨⟨hk'.1, hkb⟩, (hoth k hkb).trans hk'.2.1, hk'.2.2⟩

/-- all marks are taken -/
theorem leaves_marks {F : Fence} {n : Nat} {fn : Func} {R : Ending → World → Prop} : ∀ (bs : List Nat) (a : Act) (w : World) (E : Env), Rel D B E σ H (bs.map fun b => ⟨.collected b, #[]⟩) a w →
  (∀ w' E', Rel D B E' σ H [] { a with defers := [] } w' → ∃ v, (results fn a.tmps).run P w' = .ok v w' ∧ R (.returned v) w') →
  LeavesInM F n P fn a.tmps R (bs.map fun b => ⟨.collected b, #[]⟩) .returning w
 | [], a, w, E, h, hK => by
  have hd := h.defers
  refine hK w E ⟨h.den, h.sat, h.fr, rfl, Marks.nil⟩
 | b :: bs, a, w, E, h, hK => by
  obtain ⟨h1, h2⟩ := h.takeMark (P := P)
  refine ⟨by simp, .inl ⟨b, _, rfl, h1, ?_⟩⟩
  exact leaves_marks bs { a with defers := bs.map fun b => ⟨.collected b, #[]⟩ } _ _ h2 hK

theorem leaves_rel {F : Fence} {n : Nat} {fn : Func} {R : Ending → World → Prop} (h : Rel D B E σ H df a w)
  (hK : ∀ w' E', Rel D B E' σ H [] { a with defers := [] } w' → ∃ v, (results fn a.tmps).run P w' = .ok v w' ∧ R (.returned v) w') :
  LeavesInM F n P fn a.tmps R a.defers .returning w := by
 obtain ⟨bs, e, _, _⟩ := h.marks
 rw [h.defers, e]
 subst e
 exact leaves_marks bs a w E h hK
end
end Go.SX

/-
 SX, part V2: the strict generator: states are reckoned out at each step, so that 'whnf' goes from stop to stop. Calls in place; ranges over functions.
-/
namespace Go.SX
open Go.RowKit
variable {C : Cod}

/-! ### Strict lists -/
section
variable {β : Type} {γ : Type}
def setTK {δ : Sort _} : List (SV C) → Nat → SV C → (List (SV C) → δ) → δ
 | [], _, _, K => K []
 | _ :: l, 0, v, K => K (v :: l)
 | x :: l, n + 1, v, K => setTK l n v (fun m => K (x :: m))
theorem setTK_eq : ∀ (T : List (SV C)) (d : Nat) (v : SV C) (K : List (SV C) → Prop), setTK T d v K = K (setT T d v)
 | [], _, _, _ => rfl
 | _ :: _, 0, _, _ => rfl
 | x :: l, n + 1, v, K => by simp only [setTK, setT, setTK_eq l n v]
def forceL {α : Type} : List α → (List α → Prop) → Prop
 | [], K => K []
 | x :: l, K => forceL l (fun m => K (x :: m))
theorem forceL_eq {α : Type} : ∀ (l : List α) (K : List α → Prop), forceL l K = K l
 | [], _ => rfl
 | x :: l, K => by simp only [forceL, forceL_eq l]
def natK (n : Nat) (K : Nat → Prop) : Prop :=
 match n with
 | 0 => K 0
 | n + 1 => K (n + 1)
theorem natK_eq (n : Nat) (K : Nat → Prop) : natK n K = K n := by cases n <;> rfl
/-- how many chunks, as a number -/
def hlenK : List (HS C) → Nat → (Nat → Prop) → Prop
 | [], n, K => natK n K
 | _ :: l, n, K => hlenK l (n + 1) K
theorem hlenK_eq : ∀ (l : List (HS C)) (n : Nat) (K : Nat → Prop), hlenK l n K = K (hlen l + n)
 | [], n, K => by simp only [hlenK, natK_eq, hlen, Nat.zero_add]
 | _ :: l, n, K => by simp only [hlenK, hlenK_eq l, hlen]; congr 1; omega
/-- a value's head forced -/
def forceS (x : SV C) (K : SV C → Prop) : Prop :=
 match x with
 | .p y => match y with
  | .int k n => K (.p (.int k n))
  | .bool b => K (.p (.bool b))
  | .str l => K (.p (.str l))
  | .lit v => K (.p (.lit v))
  | .dsl u xs => K (.p (.dsl u xs))
  | .fds u xs => K (.p (.fds u xs))
 | .any => K .any
 | .ptr c o => natK c fun c => natK o fun o => K (.ptr c o)
 | .eptr c o n i f => K (.eptr c o n i f)
 | .dptr l f => K (.dptr l f)
 | .slice c o n off len => natK c fun c => natK o fun o => natK n fun n => K (.slice c o n off len)
 | .arr u N xs => K (.arr u N xs)
 | .agg vs => forceL vs fun vs => K (.agg vs)
 | .fn f a b => forceL a fun a => forceL b fun b => K (.fn f a b)
 | .iface t v => K (.iface t v)
 | .tuple vs => forceL vs fun vs => K (.tuple vs)
 | .yieldv c => K (.yieldv c)
 | .mapp c => natK c fun c => K (.mapp c)
theorem forceS_eq (x : SV C) (K : SV C → Prop) : forceS x K = K x := by
 cases x with
 | p y => cases y <;> rfl
 | ptr c o => exact (natK_eq c (fun c => natK o fun o => K (.ptr c o))).trans (natK_eq o (fun o => K (.ptr c o)))
 | slice c o n off len => exact ((natK_eq c (fun c => natK o fun o => natK n fun n => K (.slice c o n off len))).trans (natK_eq o (fun o => natK n fun n => K (.slice c o n off len)))).trans (natK_eq n (fun n => K (.slice c o n off len)))
 | agg vs => exact forceL_eq vs (fun vs => K (.agg vs))
 | fn f a b => exact (forceL_eq a (fun a => forceL b fun b => K (.fn f a b))).trans (forceL_eq b (fun b => K (.fn f a b)))
 | tuple vs => exact forceL_eq vs (fun vs => K (.tuple vs))
 | mapp c => exact natK_eq c (fun c => K (.mapp c))
 | _ => rfl
/-- a list of values, each head forced -/
def forceV : List (SV C) → (List (SV C) → Prop) → Prop
 | [], K => K []
 | x :: l, K => forceS x fun y => forceV l fun m => K (y :: m)
theorem forceV_eq : ∀ (l : List (SV C)) (K : List (SV C) → Prop), forceV l K = K l
 | [], _ => rfl
 | x :: l, K => by simp only [forceV, forceS_eq, forceV_eq l]
def setOK (T : List (SV C)) (d : Option Nat) (v : SV C) (K : List (SV C) → Prop) : Prop :=
 match d with
 | none => K T
 | some d => forceS v fun v => setTK T d v K
theorem setOK_eq (T : List (SV C)) (d : Option Nat) (v : SV C) (K : List (SV C) → Prop) : setOK T d v K = K (setO T d v) := by
 cases d with
 | none => rfl
 | some d => exact (forceS_eq v (fun v => setTK T d v K)).trans (setTK_eq T d v K)
def forceH (h : HS C) (K : HS C → Prop) : Prop :=
 match h with
 | .vart t vs => forceL vs (fun l => K (.vart t l))
 | .fresh => K .fresh
 | .dead => K .dead
 | .rows u xs => K (.rows u xs)
 | .obj o => K (.obj o)
theorem forceH_eq (h : HS C) (K : HS C → Prop) : forceH h K = K h := by
 cases h <;> first | rfl | exact forceL_eq _ _
def setCK : List (HS C) → Nat → HS C → (List (HS C) → Prop) → Prop
 | [], 0, h, K => K [h]
 | [], n + 1, h, K => setCK [] n h (fun m => K (.fresh :: m))
 | _ :: l, 0, h, K => K (h :: l)
 | x :: l, n + 1, h, K => setCK l n h (fun m => K (x :: m))
theorem setCK_eq : ∀ (Hp : List (HS C)) (c : Nat) (h : HS C) (K : List (HS C) → Prop), setCK Hp c h K = K (setC Hp c h)
 | [], 0, _, _ => rfl
 | [], n + 1, h, K => by simp only [setCK, setC, setCK_eq [] n h]
 | _ :: _, 0, _, _ => rfl
 | x :: l, n + 1, h, K => by simp only [setCK, setC, setCK_eq l n h]
def setCsK : List (HS C) → List (Nat × HS C) → (List (HS C) → Prop) → Prop
 | Hp, [], K => K Hp
 | Hp, (c, h) :: l, K => forceH h (fun h' => setCK Hp c h' (fun Hp' => setCsK Hp' l K))
theorem setCsK_eq : ∀ (ws : List (Nat × HS C)) (Hp : List (HS C)) (K : List (HS C) → Prop), setCsK Hp ws K = K (setCs Hp ws)
 | [], _, _ => rfl
 | (c, h) :: l, Hp, K => by simp only [setCsK, setCs, forceH_eq, setCK_eq, setCsK_eq l]
end

/-! ### What stands around a walk -/
/-- the record of a range over a function, as it was laid -/
structure RI (C : Cod) where
 fn : FuncId
 tmps : Array Value
 bd : Nat
 ps : Array Tmp
 assign : Code
 body : Code
 T : List (SV C)
def mkLoop (i : RI C) (st : LoopState) (pd : Option Code) : Loop :=
 { state := st, pending := pd, fn := i.fn, tmps := i.tmps, params := i.ps, assign := i.assign, body := i.body, defers := i.bd }
abbrev Recs (C : Cod) := List (Nat × RI C)
def lkR : Recs C → Nat → Option (RI C)
 | [], _ => none
 | (c, r) :: l, d => if c = d then some r else lkR l d
structure Ctx (C : Cod) where
 ar : Option Nat
 L : Recs C
 m0 : Nat
def RecsOK (D : Codec C) (L : Recs C) (w : World) (E : Env) : Prop :=
 ∀ c ri, lkR L c = some ri → ri.tmps.size = ri.T.length ∧ ∀ i, Den D w E (getT ri.T i) (ri.tmps.getD i undef)
def ArOK (ar r : Option Nat) (E : Env) : Prop := match ar, r with
 | none, none => True
 | some c, some l => E.β c = .loc l
 | _, _ => False
structure CtxOK (D : Codec C) (X : Ctx C) (B : Base) (r : Option Nat) : Prop where
 m0 : B.m0 = X.m0
 L : RecsOK D X.L B.w0 B.E0
 ar : ArOK X.ar r B.E0
theorem RecsOK.mono {D : Codec C} {L : Recs C} {w w' : World} {E E' : Env} (h : RecsOK D L w E) (hL : Later w E w' E') : RecsOK D L w' E' :=
 fun c ri hc => ⟨(h c ri hc).1, fun i => Den.mono hL _ _ ((h c ri hc).2 i)⟩

/-- the meaning of a state -/
def RelX (D : Codec C) (B : Base) (T : List (SV C)) (Hp : List (HS C)) (a : Act) (w : World) : Prop := ∃ df, RelL D B df T Hp a w

/-! ### The stops -/
/-- A call from this state comes to one of the outcomes S. -/
structure CallS (P : Program) (D : Codec C) (L : Recs C) (f : FuncId) (args : List (SV C)) (Hp : List (HS C)) (S : SV C → List (HS C) → Prop) : Prop where
 run : ((∀ args w, (callFunc f args).run P w = .ok (.enter f args) w) ∧ ∀ B σ df a w E, RecsOK D L B.w0 B.E0 → Rel D B E σ (getC Hp) df a w → ∀ vs, DenA D w E args vs →
  CallsIn (Fc none) 0 P f vs.toArray w fun e w' => ∃ v E' ret Hp', e = .returned v ∧ Den D w' E' ret v ∧ Rel D B E' σ (getC Hp') df a w' ∧ S ret Hp') ∨
  ∀ B σ df a w E, Rel D B E σ (getC Hp) df a w → ∀ vs, DenA D w E args vs → ∃ v w' E' ret Hp', (callFunc f vs.toArray).run P w = .ok (.value v) w' ∧ Den D w' E' ret v ∧ Rel D B E' σ (getC Hp') df a w' ∧ S ret Hp'
/-- one state with arguments says no more than another -/
def SubA (D : Codec C) (m0 : Nat) (T : List (SV C)) (Hp : List (HS C)) (args : List (SV C)) (T' : List (SV C)) (Hp' : List (HS C)) (args' : List (SV C)) : Prop :=
 ∀ B E df a w, B.m0 = m0 → Rel D B E (getT T) (getC Hp) df a w → a.tmps.size = T.length → ∃ E', Rel D B E' (getT T') (getC Hp') df a w ∧ a.tmps.size = T'.length ∧ ∀ vs, DenA D w E args vs → DenA D w E' args' vs
theorem SubA.refl {D : Codec C} {m0 : Nat} {T : List (SV C)} {Hp : List (HS C)} {args : List (SV C)} : SubA D m0 T Hp args T Hp args := fun B E df a w _ hR hsz => ⟨E, hR, hsz, fun _ h => h⟩
structure CallX (P : Program) (D : Codec C) (X : Ctx C) (R : Kont C) (f : FuncId) (args : List (SV C)) (dst : Option Nat) (all rest : List Oper) (k : List (It C)) (T : List (SV C)) (Hp : List (HS C)) : Prop where
 h : ∃ T1 Hp1 args1, SubA D X.m0 T Hp args T1 Hp1 args1 ∧ ∃ S, CallS P D X.L f args1 Hp1 S ∧ ∀ ret Hp', S ret Hp' → R (.ops all rest :: k) (setO T1 dst ret) Hp'
theorem CallX.of {P : Program} {D : Codec C} {X : Ctx C} {R : Kont C} {f : FuncId} {args : List (SV C)} {dst : Option Nat} {all rest : List Oper} {k : List (It C)} {T : List (SV C)} {Hp : List (HS C)} (S : SV C → List (HS C) → Prop)
  (h1 : CallS P D X.L f args Hp S) (h2 : ∀ ret Hp', S ret Hp' → R (.ops all rest :: k) (setO T dst ret) Hp') : CallX P D X R f args dst all rest k T Hp := ⟨_, _, _, SubA.refl, S, h1, h2⟩
/-- A call of yield comes to one of the outcomes S. -/
def YieldS (P : Program) (D : Codec C) (L : Recs C) (c : Nat) (args : List (SV C)) (Hp : List (HS C)) (S : Bool → List (HS C) → Prop) : Prop :=
 ∀ (r : Option Nat) B σ df a w E, RecsOK D L B.w0 B.E0 → Rel D B E σ (getC Hp) df a w → ∃ b, E.β c = .loc b ∧ ∀ vs, DenA D w E args vs →
  ∃ f tmps assign body, (Instr.yield b vs.toArray).run P w = .ok (.round b f tmps assign body) w ∧
   RoundIn (Fc r) 0 P b f tmps assign body w fun e w' => ∃ q E' Hp', e = .returned (.bool q) ∧ Rel D B E' σ (getC Hp') df a w' ∧ S q Hp'
structure YieldX (P : Program) (D : Codec C) (X : Ctx C) (R : Kont C) (c : Nat) (args : List (SV C)) (dst : Option Nat) (all rest : List Oper) (k : List (It C)) (T : List (SV C)) (Hp : List (HS C)) : Prop where
 h : ∃ S, YieldS P D X.L c args Hp S ∧ ∀ q Hp', S q Hp' → R (.ops all rest :: k) (setO T dst (.p (.bool q))) Hp'
/-- A range over a function comes to one of the outcomes S: a pending jump, or none. -/
def RangeS (P : Program) (D : Codec C) (X : Ctx C) (g : Operand) (ps : Array Tmp) (assign body : Code) (T : List (SV C)) (Hp : List (HS C)) (S : Option Code → List (HS C) → Prop) : Prop :=
 ∀ r B a w Q, CtxOK D X B r → RelX D B T Hp a w →
  (∀ j Hp' a' w', S j Hp' → RelX D B T Hp' a' w' → match j with
   | none => Q .normal a' w'
   | some c => c.wpIn (Fc r) 0 P Q a' w') →
  (Code.rangeFunc g ps assign body).wpIn (Fc r) 0 P Q a w
def afterRange (R : Kont C) (k : List (It C)) (T : List (SV C)) (Hp : List (HS C)) : Option Code → Prop
 | none => R k T Hp
 | some c => R (.code c :: k) T Hp
structure RangeX (P : Program) (D : Codec C) (X : Ctx C) (R : Kont C) (g : Operand) (gv : SV C) (ps : Array Tmp) (assign body : Code) (k : List (It C)) (T : List (SV C)) (Hp : List (HS C)) : Prop where
 h : ∃ S, RangeS P D X g ps assign body T Hp S ∧ ∀ j Hp', S j Hp' → afterRange R k T Hp' j
structure LoopX (D : Codec C) (m0 : Nat) (R : Kont C) (body : Code) (k : List (It C)) (T : List (SV C)) (Hp : List (HS C)) : Prop where
 h : LoopVC D m0 R body k T Hp
/-- nothing is known of this operation, but where the state is seen otherwise -/
structure StuckX (o : Op) (vals : List (SV C)) (hs : List (Nat × HS C)) (Y : Prop) : Prop where
 h : Y
/-- a slice that may be nil -/
structure NilX (p X Y : Prop) : Prop where
 t : p → X
 f : Y
/-- what a map holds of a key -/
structure AskX (q : Option (Option (Nat × Value))) (Y : Option (Nat × Value) → Prop) : Prop where
 h : ∃ r, q = some r ∧ Y r
inductive StuckC (o : Operand) (v : SV C) : Prop
inductive StuckI (i : It C) : Prop

def condX (b : Bool) (X Y : Prop) : Prop := match b with
 | true => X
 | false => Y

def after0 (P : Program) (D : Codec C) (X : Ctx C) (R : Kont C) (Y : Prop) (dst : Option Nat) (all rest : List Oper) (k : List (It C)) (T : List (SV C)) (Hp : List (HS C)) : Out C → Prop
 | .stuck => Y
 | .ask q K => AskX q fun r => setOK T dst (K r) fun T' => R (.ops all rest :: k) T' Hp
 | .may p v => NilX p (setOK T dst (v true) fun T' => R (.ops all rest :: k) T' Hp) (setOK T dst (v false) fun T' => R (.ops all rest :: k) T' Hp)
 | .val v => setOK T dst v fun T' => R (.ops all rest :: k) T' Hp
 | .side p v => p ∧ setOK T dst v fun T' => R (.ops all rest :: k) T' Hp
 | .mem v ws => setOK T dst v fun T' => setCsK Hp ws fun Hp' => R (.ops all rest :: k) T' Hp'
 | .smem p v ws => p ∧ setOK T dst v fun T' => setCsK Hp ws fun Hp' => R (.ops all rest :: k) T' Hp'
 | .call f args => forceV args fun args => CallX P D X R f args dst all rest k T Hp
 | .yieldc c args => YieldX P D X R c args dst all rest k T Hp

/-- the operation, where the state is seen otherwise -/
def FrzY (P : Program) {D : Codec C} (A : Aux C D) (tab : Tab C) (X : Ctx C) (R : Kont C) (op : Op) (dst : Option Nat) (all rest : List Oper) (k : List (It C)) (T : List (SV C)) (Hp : List (HS C)) : Prop :=
 ∃ T1 Hp1, SubA D X.m0 T Hp [] T1 Hp1 [] ∧ after0 P D X R False dst all rest k T1 Hp1 (exec A tab op (valsOf T1 (opnds op)) (hsOf Hp1 (valsOf T1 (opnds op))) (hlen Hp1))
def guardX (R : Kont C) (d : Nat) (want : Bool) (all : List Oper) (o : Oper) (rest : List Oper) (k : List (It C)) (T : List (SV C)) (Hp : List (HS C)) : SV C → Prop
 | .p (.bool b) => match want with
  | true => condX b (setTK T d (.p (.bool true)) fun T' => R (.op1 all o rest :: k) T' Hp) (setTK T d (.p (.bool false)) fun T' => setOK T' o.dst (.tuple []) fun T'' => R (.ops all rest :: k) T'' Hp)
  | false => condX b (setTK T d (.p (.bool true)) fun T' => setOK T' o.dst (.tuple []) fun T'' => R (.ops all rest :: k) T'' Hp) (setTK T d (.p (.bool false)) fun T' => R (.op1 all o rest :: k) T' Hp)
 | .tuple [] => setOK T o.dst (.tuple []) fun T' => R (.ops all rest :: k) T' Hp
 | v => StuckC (.tmp d) v
def condC (R : Kont C) (c : Operand) (x y : Code) (k : List (It C)) (T : List (SV C)) (Hp : List (HS C)) : SV C → Prop
 | .p (.bool b) => condX b (R (.code x :: k) T Hp) (R (.code y :: k) T Hp)
 | v => StuckC c v
def guardO (R : Kont C) (want : Bool) (all : List Oper) (o : Oper) (rest : List Oper) (k : List (It C)) (T : List (SV C)) (Hp : List (HS C)) : Option Nat → Prop
 | none => False
 | some d => guardX R d want all o rest k T Hp (getT T d)
def execX (P : Program) {D : Codec C} (A : Aux C D) (tab : Tab C) (X : Ctx C) (R : Kont C) (op : Op) (dst : Option Nat) (all rest : List Oper) (k : List (It C)) (T : List (SV C)) (Hp : List (HS C)) (vals : List (SV C)) (m : Nat) : Prop :=
 after0 P D X R (StuckX op vals (hsOf Hp vals) (FrzY P A tab X R op dst all rest k T Hp)) dst all rest k T Hp (exec A tab op vals (hsOf Hp vals) m)
/-- a region that draws its order -/
structure DrawX (P : Program) {D : Codec C} (A : Aux C D) (tab : Tab C) (m0 : Nat) (R : Kont C) (ops : List Oper) (k : List (It C)) (T : List (SV C)) (Hp : List (HS C)) : Prop where
 h : ∃ T1 Hp1, SubS D m0 T Hp T1 Hp1 ∧ DrawVC P A tab R ops k T1 Hp1

def gxStep (P : Program) {D : Codec C} (A : Aux C D) (tab : Tab C) (X : Ctx C) (Φ : Post C) (R : Kont C) : Kont C
 | [], T, Hp => Φ .normal T Hp
 | .code .skip :: k, T, Hp => R k T Hp
 | .code (.label _) :: k, T, Hp => R k T Hp
 | .code (.seq x y) :: k, T, Hp => R (.code x :: .code y :: k) T Hp
 | .code (.region _ ops false) :: k, T, Hp => R (.ops ops.toList ops.toList :: k) T Hp
 | .code (.region _ ops true) :: k, T, Hp => DrawX P A tab X.m0 R ops.toList k T Hp
 | .code (.cond c x y) :: k, T, Hp => condC R c x y k T Hp (evT T c)
 | .code (.block id body) :: k, T, Hp => R (.code body :: .blk id :: k) T Hp
 | .code (.loop body) :: k, T, Hp => LoopX D X.m0 R body k T Hp
 | .code (.exit id) :: k, T, Hp => atExit Φ R id T Hp (unwind id k)
 | .code .ret :: _, T, Hp => Φ .ret T Hp
 | .code (.scope c) :: k, T, Hp => R (.code c :: .scp :: k) T Hp
 | .scp :: k, T, Hp => R k T Hp
 | .code (.rangeFunc g ps assign body) :: k, T, Hp => RangeX P D X R g (evT T g) ps assign body k T Hp
 | .blk _ :: k, T, Hp => R k T Hp
 | .endLoop J :: _, T, Hp => J T Hp
 | .ops _ [] :: k, T, Hp => R k T Hp
 | .ops all (⟨dst, op, ty, pos, after, none⟩ :: rest) :: k, T, Hp => R (.op1 all ⟨dst, op, ty, pos, after, none⟩ rest :: k) T Hp
 | .ops all (⟨dst, op, ty, pos, after, some (j, want)⟩ :: rest) :: k, T, Hp => guardO R want all ⟨dst, op, ty, pos, after, some (j, want)⟩ rest k T Hp (gslot all j)
 | .op1 all o rest :: k, T, Hp => forceV (valsOf T (opnds o.op)) fun vals => hlenK Hp 0 fun m => execX P A tab X R o.op o.dst all rest k T Hp vals m
 | i :: _, _, _ => StuckI i

def gx (P : Program) {D : Codec C} (A : Aux C D) (tab : Tab C) (X : Ctx C) (Φ : Post C) : Nat → Kont C
 | 0 => fun _ _ _ => False
 | n + 1 => gxStep P A tab X Φ (gx P A tab X Φ n)

/-! ### Soundness -/
section
variable {P : Program} {D : Codec C} {tab : Tab C} {B : Base} {E : Env} {σ : Nat → SV C} {H : Nat → HS C} {df : List Deferred} {a : Act} {w : World} {o : Oper} {r : Option Nat}

variable (r) in
def postX (P : Program) (D : Codec C) (B : Base) (Q : Exit → Act → World → Prop) : List (It C) → Exit → Act → World → Prop
 | [] => Q
 | .code c :: k => Exit.then (c.wpIn (Fc r) 0 P (postX P D B Q k)) (postX P D B Q k)
 | .ops all rest :: k => Exit.then (wpListIn (Fc r) 0 P all.toArray (postX P D B Q k) rest) (postX P D B Q k)
 | .op1 all o rest :: k => Exit.then (fun a w => o.wpIn (Fc r) 0 P a w (wpListIn (Fc r) 0 P all.toArray (postX P D B Q k) rest) (postX P D B Q k)) (postX P D B Q k)
 | .blk id :: k => Exit.inBlock id (postX P D B Q k)
 | .endLoop J :: k => fun e a w => match e with
  | .normal => ∃ T Hp, J T Hp ∧ RelX D B T Hp a w
  | e => postX P D B Q k e a w
 | .beginR :: k => postX P D B Q k
 | .scp :: k => Exit.noGoto (postX P D B Q k)

variable {Q : Exit → Act → World → Prop}
theorem postX_ret : ∀ k : List (It C), Q .ret a w → postX r P D B Q k .ret a w
 | [], h => h
 | .code _ :: k, h => postX_ret k h
 | .ops _ _ :: k, h => postX_ret k h
 | .op1 _ _ _ :: k, h => postX_ret k h
 | .blk _ :: k, h => postX_ret k h
 | .endLoop _ :: k, h => postX_ret k h
 | .beginR :: k, h => postX_ret k h
 | .scp :: k, h => postX_ret k h
theorem postX_exit (id : Nat) : ∀ k : List (It C), (match unwind id k with | some k' => postX r P D B Q k' .normal a w | none => Q (.exit id) a w) → postX r P D B Q k (.exit id) a w
 | [], h => h
 | .code _ :: k, h => postX_exit id k h
 | .ops _ _ :: k, h => postX_exit id k h
 | .op1 _ _ _ :: k, h => postX_exit id k h
 | .blk i :: k, h => by
  simp only [postX, Exit.inBlock]
  simp only [unwind] at h
  by_cases hi : i = id
  ·rw [if_pos hi] at h; rw [if_pos hi.symm]; exact h
  ·rw [if_neg hi] at h; rw [if_neg (Ne.symm hi)]; exact postX_exit id k h
 | .endLoop _ :: k, h => postX_exit id k h
 | .beginR :: k, h => postX_exit id k h
 | .scp :: k, h => postX_exit id k h

theorem wpIn_of_callS {next : Act → World → Prop} {Q : Exit → Act → World → Prop} (hnd : ∀ c, o.op ≠ .defer c) {f : FuncId} {args0 args : List (SV C)} {L : Recs C} {S : SV C → List (HS C) → Prop} {T0 T : List (SV C)} {Hp0 Hp : List (HS C)} {m0 : Nat} (hm0 : B.m0 = m0)
  (hBL : RecsOK D L B.w0 B.E0) (hR : RelX D B T0 Hp0 a w) (h : ∀ df, OutOK P D B (getT T0) (getC Hp0) df a w o (.call f args0)) (hsub : SubA D m0 T0 Hp0 args0 T Hp args) (hc : CallS P D L f args Hp S)
  (hn : ∀ ret Hp', S ret Hp' → ∀ a' w', RelX D B (setO T o.dst ret) Hp' a' w' → next a' w') : o.wpIn (Fc r) 0 P a w next Q := by
 refine ⟨fun _ _ => trivial, ?_⟩
 obtain ⟨df, E, hR, hsz⟩ := hR
 obtain ⟨vs, hd, hrun⟩ := h df E hR
 obtain ⟨E1, hR1, hsz1, hd1⟩ := hsub B E df a w hm0 hR hsz
 have hd := hd1 vs hd
 clear hR hd1 hsz
 have hR := hR1
 have hsz := hsz1
 clear hR1 hsz1
 generalize E1 = E at *
 rcases hc.run with ⟨hc1, hc2⟩ | hx
 rotate_left
 ·obtain ⟨v, w', E', ret, Hp', h1, hv, hR', hS⟩ := hx B _ df a w E hR vs hd
  rw [show (Fc r).round = r from rfl, Oper.semAt_eq r _ _ hnd, hrun, h1]
  have hput := hR'.put hsz o.dst (.inr hv)
  refine hn _ _ hS _ _ ⟨df, E', ?_, by rw [size_put, hsz, length_setO]⟩
  rw [getT_setO]
  exact hput
 rw [show (Fc r).round = r from rfl, Oper.semAt_eq r _ _ hnd, hrun, hc1]
 refine ⟨fun h => by simp [Fc] at h, ?_⟩
 have hcalls := hc2 B _ df a w E hBL hR vs hd
 have hcalls' : CallsIn (Fc r) (0 - 1) P f vs.toArray w fun e w' => ∃ v E' ret Hp', e = .returned v ∧ Den D w' E' ret v ∧ Rel D B E' (getT T) (getC Hp') df a w' ∧ S ret Hp' := hcalls
 refine hcalls'.mono ?_
 rintro e w' ⟨v, E', ret, Hp', rfl, hv, hR', hS⟩
 have hput := hR'.put hsz o.dst (.inr hv)
 refine hn _ _ hS _ _ ⟨df, E', ?_, by rw [size_put, hsz, length_setO]⟩
 rw [getT_setO]
 exact hput

theorem wpIn_of_yieldS {next : Act → World → Prop} {Q : Exit → Act → World → Prop} (hnd : ∀ c, o.op ≠ .defer c) {c : Nat} {args : List (SV C)} {L : Recs C} {S : Bool → List (HS C) → Prop} {T : List (SV C)} {Hp : List (HS C)}
  (hBL : RecsOK D L B.w0 B.E0) (hR : RelX D B T Hp a w) (h : ∀ df, OutOK P D B (getT T) (getC Hp) df a w o (.yieldc c args)) (hc : YieldS P D L c args Hp S)
  (hn : ∀ q Hp', S q Hp' → ∀ a' w', RelX D B (setO T o.dst (.p (.bool q))) Hp' a' w' → next a' w') : o.wpIn (Fc r) 0 P a w next Q := by
 refine ⟨fun _ _ => trivial, ?_⟩
 obtain ⟨df, E, hR, hsz⟩ := hR
 obtain ⟨b, hb, hy⟩ := hc r B _ df a w E hBL hR
 obtain ⟨vs, hd, hrun⟩ := h df E hR b hb
 obtain ⟨f, tmps, assign, body, hy1, hy2⟩ := hy vs hd
 rw [show (Fc r).round = r from rfl, Oper.semAt_eq r _ _ hnd, hrun, hy1, Oper.uponIn_round]
 refine ⟨fun h => by simp [Fc] at h, ?_⟩
 refine RoundIn.mono hy2 ?_
 rintro e w' ⟨q, E', Hp', rfl, hR', hS⟩
 have hput := hR'.put hsz o.dst (x := .p (.bool q)) (.inr (by simp only [Den]; exact .bool q))
 refine hn _ _ hS _ _ ⟨df, E', ?_, by rw [size_put, hsz, length_setO]⟩
 rw [getT_setO]
 exact hput

theorem relX_bool {T : List (SV C)} {Hp : List (HS C)} {d : Nat} {b : Bool} (h : RelX D B T Hp a w) (hd : getT T d = .p (.bool b)) : a.tmps.getD d undef = .bool b ∧ RelX D B (setT T d (.p (.bool b))) Hp a w := by
 obtain ⟨df, h⟩ := h
 exact ⟨(relL_bool h hd).1, df, (relL_bool h hd).2⟩
theorem relX_skip {T : List (SV C)} {Hp : List (HS C)} (h : RelX D B T Hp a w) (d : Option Nat) : RelX D B (setO T d (.tuple [])) Hp (a.put d undef) w := by
 obtain ⟨df, h⟩ := h
 exact ⟨df, relL_skip h d⟩

theorem stepR_scope {b : Frame} {k : List Item} {cs : List Frame} {c : Code} : step P (lone (b.atR a (.code (.scope c) :: k)) cs w) = .next (lone (b.atR a (.code c :: .inScope c :: k)) cs w) :=
 step_lone_go (by simp [stepG, stepG.exec, Frame.atR])
theorem stepR_inScope {b : Frame} {k : List Item} {cs : List Frame} {c : Code} : step P (lone (b.atR a (.inScope c :: k)) cs w) = .next (lone (b.atR a k) cs w) :=
 step_lone_go (by simp [stepG, stepG.exec, Frame.atR])
/-- a scope through which the run goes without a goto -/
theorem wpIn_scope_straight {F : Fence} {n : Nat} {c : Code} (h : c.wpIn F n P (Exit.noGoto Q) a w) : (Code.scope c).wpIn F n P Q a w := by
  intro b k cs hro hb hr
  have h0 : (lone (b.atR a (.code (.scope c) :: k)) cs w).fenced P F := fenced_calm hb hr rfl
  obtain ⟨e, a₁, w₁, hq, harr⟩ := h b (.inScope c :: k) cs hro hb hr
  cases e with
  | normal => exact ⟨.normal, a₁, w₁, hq, .head h0 stepR_scope (StepsIn.trans harr (.one (fenced_calm hb hr rfl) stepR_inScope))⟩
  | exit id =>
    have hx : exitTo id (.inScope c :: k) = exitTo id k := by simp [exitTo]
    exact ⟨.exit id, a₁, w₁, hq, fun k' hk => .head h0 stepR_scope (harr.1 k' (by rw [hx]; exact hk)),
      fun hr' hk => let ⟨k₁, h1, h2⟩ := harr.2 hr' (by rw [hx]; exact hk); ⟨k₁, h1, .head h0 stepR_scope h2⟩⟩
  | goto l => exact hq.elim
  | ret => exact ⟨_, a₁, w₁, hq, .of_steps (.one h0 stepR_scope) harr⟩
  | panic ch => exact ⟨_, a₁, w₁, hq, .of_steps (.one h0 stepR_scope) harr⟩
  | outgrown => exact ⟨_, a₁, w₁, hq, .of_steps (.one h0 stepR_scope) harr⟩

theorem after_ok (A : Aux C D) (hT : TabOK P D tab) {X : Ctx C} (hX : CtxOK D X B r) {R : Kont C} {all rest : List Oper} {k : List (It C)} {T : List (SV C)} {Hp : List (HS C)} {Y : Prop}
  (ih : ∀ (k : List (It C)) (T : List (SV C)) (Hp : List (HS C)), R k T Hp → ∀ a w, RelX D B T Hp a w → postX r P D B Q k .normal a w) (hR : RelX D B T Hp a w)
  (h : after0 P D X R Y o.dst all rest k T Hp (exec A tab o.op (valsOf T (opnds o.op)) (hsOf Hp (valsOf T (opnds o.op))) (hlen Hp))) : postX r P D B Q (.op1 all o rest :: k) .normal a w ∨ Y := by
 have hR0 := hR
 obtain ⟨df, E, hR', hsz⟩ := hR
 have hok : ∀ df E, Rel D B E (getT T) (getC Hp) df a w → OutOK P D B (getT T) (getC Hp) df a w o (execV A tab o.op (valsOf T (opnds o.op)) Hp) := fun df E hR' => execV_ok (o := o) A hT hR'
 have hok0 := hok df E hR'
 have hnd : exec A tab o.op (valsOf T (opnds o.op)) (hsOf Hp (valsOf T (opnds o.op))) (hlen Hp) ≠ .stuck → ∀ c, o.op ≠ .defer c := by
  intro hne c hc
  exact hne (by rw [hc]; rfl)
 unfold execV at hok hok0
 generalize exec A tab o.op (valsOf T (opnds o.op)) (hsOf Hp (valsOf T (opnds o.op))) (hlen Hp) = out at hok hok0 h hnd
 simp only [postX, Exit.then]
 cases out with
 | stuck => exact .inr h
 | ask q K =>
  obtain ⟨q', hq, h2⟩ := h.h
  rw [setOK_eq] at h2
  exact .inl (wpIn_of_run (hnd (by simp)) ⟨E, hR', hsz⟩ (hok0 q' hq) fun a' w' hr => ih _ _ _ h2 a' w' ⟨df, hr⟩)
 | may p v =>
  obtain ⟨ht, hf⟩ := h
  rw [setOK_eq] at ht hf
  obtain ⟨b, hb, hrun⟩ := hok0
  cases b with
  | true => exact .inl (wpIn_of_run (hnd (by simp)) ⟨E, hR', hsz⟩ hrun fun a' w' hr => ih _ _ _ (ht (hb rfl)) a' w' ⟨df, hr⟩)
  | false => exact .inl (wpIn_of_run (hnd (by simp)) ⟨E, hR', hsz⟩ hrun fun a' w' hr => ih _ _ _ hf a' w' ⟨df, hr⟩)
 | val v => simp only [after0, setOK_eq] at h; exact .inl (wpIn_of_run (hnd (by simp)) ⟨E, hR', hsz⟩ hok0 fun a' w' hr => ih _ _ _ h a' w' ⟨df, hr⟩)
 | side p v => simp only [after0, setOK_eq] at h; exact .inl (wpIn_of_run (hnd (by simp)) ⟨E, hR', hsz⟩ (hok0 h.1) fun a' w' hr => ih _ _ _ h.2 a' w' ⟨df, hr⟩)
 | mem v ws => simp only [after0, setOK_eq, setCsK_eq] at h; exact .inl (wpIn_of_run (hnd (by simp)) ⟨E, hR', hsz⟩ hok0 fun a' w' hr => ih _ _ _ h a' w' ⟨df, hr⟩)
 | smem p v ws => simp only [after0, setOK_eq, setCsK_eq] at h; exact .inl (wpIn_of_run (hnd (by simp)) ⟨E, hR', hsz⟩ (hok0 h.1) fun a' w' hr => ih _ _ _ h.2 a' w' ⟨df, hr⟩)
 | call f args =>
  simp only [after0, forceV_eq] at h
  obtain ⟨T1, Hp1, args1, hsub, S, hc, h2⟩ := h.h
  have hokc : ∀ df, OutOK P D B (getT T) (getC Hp) df a w o (.call f args) := fun df E' hR'' => (hok df E' hR'') E' hR''
  exact .inl (wpIn_of_callS (hnd (by simp)) hX.m0 hX.L hR0 hokc hsub hc fun ret Hp' hS a' w' hr => ih _ _ _ (h2 ret Hp' hS) a' w' hr)
 | yieldc c args =>
  simp only [after0] at h
  obtain ⟨S, hc, h2⟩ := h.h
  have hokc : ∀ df, OutOK P D B (getT T) (getC Hp) df a w o (.yieldc c args) := fun df E' hR'' => (hok df E' hR'') E' hR''
  exact .inl (wpIn_of_yieldS (hnd (by simp)) hX.L hR0 hokc hc fun q Hp' hS a' w' hr => ih _ _ _ (h2 q Hp' hS) a' w' hr)
theorem gx_sound (A : Aux C D) (hT : TabOK P D tab) {X : Ctx C} (hX : CtxOK D X B r) {Φ : Post C} (hQ : ∀ e a w T Hp, Φ e T Hp → RelX D B T Hp a w → Q e a w) : ∀ (n : Nat) (k : List (It C)) (T : List (SV C)) (Hp : List (HS C)), gx P A tab X Φ n k T Hp →
  ∀ a w, RelX D B T Hp a w → postX r P D B Q k .normal a w := by
 intro n
 induction n with
 | zero => intro k T Hp h; exact h.elim
 | succ n ih =>
  intro k T Hp h a w hR
  simp only [gx] at h
  generalize gx P A tab X Φ n = R at ih h
  unfold gxStep at h
  split at h
  ·exact hQ _ _ _ _ _ h hR
  ·exact wpIn_skip (ih _ _ _ h a w hR)
  ·exact wpIn_label (ih _ _ _ h a w hR)
  ·exact wpIn_seq (ih _ _ _ h a w hR)
  ·refine wpIn_region_list ?_
   have := ih _ _ _ h a w hR
   simpa [postX, Exit.then] using this
  ·rename_i id ops k
   obtain ⟨df, hR⟩ := hR
   obtain ⟨T1, Hp1, hsub, h1⟩ := h.h
   have hR := hsub B df _ _ hX.m0 hR
   have := drawVC_sound (r := r) (id := id) (Q := postX r P D B Q k) A hT h1 hR fun T' Hp' a' w' hk hr => ih _ _ _ hk a' w' ⟨df, hr⟩
   simpa [postX, Exit.then] using this
  ·rename_i c x y k
   unfold condC at h
   split at h
   ·rename_i b hb
    obtain ⟨df, E, hR', hsz⟩ := hR
    have hd := ev_den hR' c
    rw [← evT_eq, hb] at hd
    have hc := den_bool hd
    cases b with
    | true => exact wpIn_cond_true hc (ih _ _ _ h a w ⟨df, E, hR', hsz⟩)
    | false => exact wpIn_cond_false hc (ih _ _ _ h a w ⟨df, E, hR', hsz⟩)
   ·cases h
  ·exact wpIn_block (ih _ _ _ h a w hR)
  ·rename_i body k
   obtain ⟨γ, I, good, μ, g0, h0, hs0, hround⟩ := h.h
   have hsub : ∀ {T Hp T' Hp' a w}, SubS D X.m0 T Hp T' Hp' → RelX D B T Hp a w → RelX D B T' Hp' a w := fun hs ⟨df, hr⟩ => ⟨df, hs B df _ _ hX.m0 hr⟩
   refine wpIn_loop_ghost (fun n a w => ∃ g, good g ∧ μ g = n ∧ RelX D B (I g).1 (I g).2 a w) (μ g0) ⟨g0, h0, rfl, hsub hs0 hR⟩ ?_
   rintro _ a w ⟨g, hg, rfl, hRg⟩
   have := ih _ _ _ (hround g hg (fun T' Hp' => ∃ g', good g' ∧ μ g' < μ g ∧ SubS D X.m0 T' Hp' (I g').1 (I g').2) fun T' Hp' g' h1 h2 h3 => ⟨g', h1, h2, h3⟩) a w hRg
   refine wpIn_mono this ?_
   intro e a' w' he
   cases e with
   | normal =>
    obtain ⟨T', Hp', ⟨g', h1, h2, h3⟩, hR'⟩ := he
    exact ⟨μ g', h2, g', h1, rfl, hsub h3 hR'⟩
   | exit id => exact he
   | goto l => exact he
   | ret => exact he
   | panic c => exact he
   | outgrown => exact he
  ·rename_i id k
   refine wpIn_exit (postX_exit id k ?_)
   unfold atExit at h
   cases hu : unwind id k with
   | none => rw [hu] at h; exact hQ _ _ _ _ _ h hR
   | some k' => rw [hu] at h; exact ih _ _ _ h a w hR
  ·exact wpIn_ret (postX_ret _ (hQ _ _ _ _ _ h hR))
  ·exact wpIn_scope_straight (ih _ _ _ h a w hR)
  ·exact ih _ _ _ h a w hR
  ·rename_i g ps assign body k
   obtain ⟨S, hS, hn⟩ := h.h
   refine hS r B a w _ hX hR ?_
   intro j Hp' a' w' hj hR'
   have := hn j Hp' hj
   cases j with
   | none => exact ih _ _ _ this a' w' hR'
   | some c => exact ih _ _ _ this a' w' hR'
  ·exact ih _ _ _ h a w hR
  ·exact ⟨_, _, h, hR⟩
  ·have := ih _ _ _ h a w hR
   simp only [postX, Exit.then, wpListIn]
   exact this
  ·rename_i all dst op ty pos after rest k
   have := ih _ _ _ h a w hR
   simp only [postX, Exit.then] at this ⊢
   simp only [wpListIn, Region.wanted, if_true]
   exact this
  ·rename_i all dst op ty pos after j want rest k
   cases hg : gslot all j with
   | none => rw [hg] at h; exact h.elim
   | some d =>
    rw [hg] at h
    simp only [guardO] at h
    unfold guardX at h
    split at h
    ·rename_i b hb
     obtain ⟨hv, hR2⟩ := relX_bool hR hb
     have hy := yielded_slot hg b hv
     simp only [postX, Exit.then, wpListIn, Region.wanted, hy]
     cases want <;> cases b <;> simp only [condX, setTK_eq, setOK_eq] at h
     ·have := ih _ _ _ h a w hR2
      simp only [postX, Exit.then] at this
      simp only [beq_self_eq_true, if_true]
      exact this
     ·have := ih _ _ _ h (a.put dst undef) w (relX_skip hR2 dst)
      simp only [postX, Exit.then] at this
      exact ⟨fun _ _ => trivial, this⟩
     ·have := ih _ _ _ h (a.put dst undef) w (relX_skip hR2 dst)
      simp only [postX, Exit.then] at this
      exact ⟨fun _ _ => trivial, this⟩
     ·have := ih _ _ _ h a w hR2
      simp only [postX, Exit.then] at this
      simp only [beq_self_eq_true, if_true]
      exact this
    ·rename_i hb
     have hv : a.tmps.getD d undef = .tuple #[] := by
      obtain ⟨df, E, hR', hsz⟩ := hR
      have hden := hR'.den d
      rw [hb] at hden
      simp only [Den, DenA] at hden
      obtain ⟨xs, e, hx⟩ := hden
      have : xs = #[] := by simpa using hx
      rw [e, this]
     have hy := yielded_undef hg hv
     rw [setOK_eq] at h
     have := ih _ _ _ h (a.put dst undef) w (relX_skip hR dst)
     simp only [postX, Exit.then] at this
     simp only [postX, Exit.then, wpListIn, Region.wanted, hy]
     exact ⟨fun _ _ => trivial, this⟩
    ·cases h
  ·rename_i all o rest k
   rw [forceV_eq, hlenK_eq, Nat.add_zero] at h
   unfold execX at h
   rcases after_ok A hT hX ih hR h with h | h
   ·exact h
   ·obtain ⟨T1, Hp1, hsub, h1⟩ := h.h
    obtain ⟨df, E, hR', hsz⟩ := hR
    obtain ⟨E1, hR1, hsz1, _⟩ := hsub B E df a w hX.m0 hR' hsz
    rcases after_ok A hT hX ih ⟨df, E1, hR1, hsz1⟩ h1 with h | h
    ·exact h
    ·exact h.elim
  ·cases h
end
end Go.SX
