/-
  SX, part R: a call by its contract.
-/
import Derived.Test.YtdaghncicimipaaGreatDoorSxQ
set_option linter.unusedVariables false
set_option linter.unusedSimpArgs false
namespace Go.SX
open Go.RowKit
variable {C : Cod}

/-- ρ: which of the caller's numbers the callee's first ones are; then come new ones, from m on -/
def newIds : Nat → Nat → List (Option Nat)
  | 0, _ => []
  | n + 1, m => some m :: newIds n (m + 1)
def renHs (θ : List (Option Nat)) : List (HS C) → Option (List (HS C))
  | [] => some []
  | x :: l => match renH θ x with
    | some y => match renHs θ l with
      | some r => some (y :: r)
      | none => none
    | none => none
/-- the caller's heap holds, at ρ, what the contract asks -/
def heapAt (H : Nat → HS C) : List (Option Nat) → List (HS C) → Prop
  | [], [] => True
  | some d :: l, h :: m => H d = h ∧ heapAt H l m
  | _, _ => False
def zipW : List (Option Nat) → List (HS C) → List (Nat × HS C)
  | some d :: l, h :: m => (d, h) :: zipW l m
  | _, _ => []

section
variable {P : Program} {D : Codec C} {tab : Tab C} {B : Base} {E : Env} {σ : Nat → SV C} {H : Nat → HS C} {df : List Deferred} {a : Act} {w : World}

theorem zipW_spec : ∀ (θ : List (Option Nat)) (m : List (HS C)) (H : Nat → HS C), ndO θ = true → θ.length = m.length → (∀ j, j < θ.length → ∃ d, ixL θ j = some (some d)) →
    (∀ j d, ixO θ j = some d → upHs H (zipW θ m) d = getC m j) ∧ (∀ c, inO θ c = false → upHs H (zipW θ m) c = H c) := by
  intro θ
  induction θ with
  | nil => intro m H _ hl _; exact ⟨fun j d h => by simp [ixO] at h, fun c _ => rfl⟩
  | cons x l ih =>
    intro m H hn hl hall
    cases m with
    | nil => simp at hl
    | cons y m =>
      cases x with
      | none => obtain ⟨d, hd⟩ := hall 0 (by simp); simp [ixL] at hd
      | some d =>
        simp only [ndO] at hn
        cases hi : inO l d with
        | true => rw [hi] at hn; simp at hn
        | false =>
          rw [hi] at hn
          obtain ⟨h1, h2⟩ := ih m (upH H d y) hn (by simpa using hl) (fun j hj => by
            obtain ⟨e, he⟩ := hall (j + 1) (by simpa using hj)
            exact ⟨e, by simpa [ixL] using he⟩)
          simp only [zipW, upHs]
          refine ⟨fun j e hj => ?_, fun c hc => ?_⟩
          · cases j with
            | zero =>
              simp [ixO] at hj; subst hj
              rw [h2 d hi]; simp [upH, getC]
            | succ j => exact h1 j e (by simpa [ixO] using hj)
          · simp only [inO] at hc
            split at hc
            · cases hc
            · rename_i hdc
              rw [h2 c hc]
              simp [upH, Ne.symm hdc]

theorem renHs_get : ∀ (θ : List (Option Nat)) (l m : List (HS C)), renHs θ l = some m → l.length = m.length ∧ ∀ j, renH θ (getC l j) = some (getC m j)
  | θ, [], m, h => by simp only [renHs, Option.some.injEq] at h; subst h; exact ⟨rfl, fun j => rfl⟩
  | θ, x :: l, m, h => by
    simp only [renHs] at h
    cases hx : renH θ x with
    | none => simp [hx] at h
    | some y =>
      cases hl : renHs θ l with
      | none => simp [hx, hl] at h
      | some r =>
        simp [hx, hl] at h; subst h
        obtain ⟨h1, h2⟩ := renHs_get θ l r hl
        refine ⟨by simp [h1], fun j => ?_⟩
        cases j with
        | zero => exact hx
        | succ j => exact h2 j

theorem heapAt_get : ∀ (Hp : Nat → HS C) (ρ : List (Option Nat)) (l : List (HS C)), heapAt Hp ρ l → ρ.length = l.length ∧ (∀ j, j < ρ.length → ∃ d, ixL ρ j = some (some d)) ∧ ∀ j d, ixO ρ j = some d → Hp d = getC l j
  | Hp, [], [], _ => ⟨rfl, fun j h => by simp at h, fun j d h => by simp [ixO] at h⟩
  | Hp, [], _ :: _, h => by simp [heapAt] at h
  | Hp, none :: _, _, h => by simp [heapAt] at h
  | Hp, some d :: l, [], h => by simp [heapAt] at h
  | Hp, some d :: l, y :: m, h => by
    simp only [heapAt] at h
    obtain ⟨h1, h2, h3⟩ := heapAt_get Hp l m h.2
    refine ⟨by simp [h1], fun j hj => ?_, fun j e hj => ?_⟩
    · cases j with
      | zero => exact ⟨d, rfl⟩
      | succ j => exact h2 j (by simpa using hj)
    · cases j with
      | zero => simp [ixO] at hj; subst hj; exact h.1
      | succ j => exact h3 j e (by simpa [ixO] using hj)

theorem ixL_len {α : Type} : ∀ (l : List α) (j : Nat), ixL l j = none ↔ l.length ≤ j := by
  intro l j; rw [ixL_eq]; exact List.getElem?_eq_none_iff
theorem newIds_spec : ∀ (n m j : Nat), ixO (newIds n m) j = if j < n then some (m + j) else none
  | 0, m, j => by simp [newIds, ixO]
  | n + 1, m, 0 => by simp [newIds, ixO]
  | n + 1, m, j + 1 => by
    simp only [newIds, ixO, newIds_spec n (m + 1) j, Nat.add_lt_add_iff_right]
    split <;> simp; omega
theorem newIds_length : ∀ (n m : Nat), (newIds n m).length = n
  | 0, m => rfl
  | n + 1, m => by simp [newIds, newIds_length n]
theorem ixO_append : ∀ (l m : List (Option Nat)) (j : Nat), ixO (l ++ m) j = if j < l.length then ixO l j else ixO m (j - l.length)
  | [], m, j => by simp
  | x :: l, m, 0 => by simp [ixO]
  | x :: l, m, j + 1 => by simp [ixO, ixO_append l m j]

theorem getC_ge : ∀ (l : List (HS C)) (c : Nat), l.length ≤ c → getC l c = .fresh
  | [], c, _ => rfl
  | x :: l, 0, h => by simp at h
  | x :: l, c + 1, h => getC_ge l c (by simpa using h)

def posO : List (Option Nat) → Nat → Nat
  | [], _ => 0
  | x :: l, c => if x = some c then 0 else posO l c + 1
theorem posO_spec : ∀ (θ : List (Option Nat)) (c : Nat), inO θ c = true → ixO θ (posO θ c) = some c
  | [], c, h => by simp [inO] at h
  | none :: l, c, h => by
    simp only [posO]
    rw [if_neg (by simp)]
    exact posO_spec l c (by simpa [inO] using h)
  | some d :: l, c, h => by
    simp only [posO, Option.some.injEq]
    by_cases hd : d = c
    · rw [if_pos hd]; simp [ixO, hd]
    · rw [if_neg hd]; simp only [inO, if_neg hd] at h; exact posO_spec l c h

/-- **A call by its contract.** -/
theorem callAt_of_meets' {f : FuncId} {args0 args : List (SV C)} {H0 H0' H1 H1' : List (HS C)} {ret0 ret : SV C} {Hf : Nat → HS C} {nw : Nat} (hM : Meets P D f args0 H0 ret0 H1) (ρ : List (Option Nat))
    (hargs : renL ρ args0 = some args) (hH0 : renHs ρ H0 = some H0') (hat : heapAt Hf ρ H0') (θ : List (Option Nat)) (hθ : θ = ρ ++ newIds (H1.length - H0.length) nw) (hfr : ∀ k, k < H1.length - H0.length → Hf (nw + k) = .fresh) (hnd : ndO θ = true) (hle : H0.length ≤ H1.length)
    (hH1 : renHs θ H1 = some H1') (hret : renS θ ret0 = some ret) : CallAt P D f args (Hf) ret (zipW θ H1') := by
  refine ⟨.inl ⟨hM.enter, fun B σ df a w E hR vs hd => ?_⟩⟩
  obtain ⟨hρl, hρs, hρh⟩ := heapAt_get Hf ρ H0' hat
  obtain ⟨hl0, hren0⟩ := renHs_get ρ H0 H0' hH0
  obtain ⟨hl1, hren1⟩ := renHs_get θ H1 H1' hH1
  have hρlen : ρ.length = H0.length := hρl.trans hl0.symm
  have hθlen : θ.length = H1.length := by rw [hθ, List.length_append, newIds_length, hρlen]; omega
  have hθρ : ∀ j, j < H0.length → ixO θ j = ixO ρ j := fun j hj => by rw [hθ, ixO_append, if_pos (by omega)]
  have hθn : ∀ j, H0.length ≤ j → j < H1.length → ixO θ j = some (nw + (j - H0.length)) := fun j h1 h2 => by
    rw [hθ, ixO_append, if_neg (by omega), newIds_spec, hρlen, if_pos (by omega)]
  have hfreshC : ∀ c j, H0.length ≤ j → j < H1.length → some (nw + (j - H0.length)) = some c → Hf c = .fresh := fun c j h1 h2 h3 => by injection h3 with h3; rw [← h3]; exact hfr _ (by omega)
  -- the callee's environment
  let e0 : Env := E.sub ρ
  have he0 : ∀ j d, ixO ρ j = some d → e0.β j = E.β d := fun j d hj => by simp [e0, Env.sub, hj]
  have hρlt : ∀ j d, ixO ρ j = some d → j < H0.length := fun j d h => by
    have h1 := (ixO_of_ixL ρ j d).2 h
    by_cases hj : j < H0.length
    · exact hj
    · have h2 : ixL ρ j = none := (ixL_len ρ j).2 (by omega)
      rw [h2] at h1; cases h1
  have hθlt : ∀ j d, ixO θ j = some d → j < H1.length := fun j d h => by
    have h1 := (ixO_of_ixL θ j d).2 h
    by_cases hj : j < H1.length
    · exact hj
    · have h2 : ixL θ j = none := (ixL_len θ j).2 (by omega)
      rw [h2] at h1; cases h1
  have he0n : ∀ c, H0.length ≤ c → e0.β c = .fresh := fun c hc => by
    have : ixO ρ c = none := by
      cases h : ixO ρ c with
      | none => rfl
      | some d => exact absurd (hρlt c d h) (by omega)
    simp [e0, Env.sub, this]
  have he0at : ∀ j b, e0.β j = .loc b → ∃ d, ixO ρ j = some d ∧ E.β d = .loc b := fun j b e => by
    cases h : ixO ρ j with
    | none => simp [e0, Env.sub, h] at e
    | some d => exact ⟨d, rfl, by rw [← he0 j d h]; exact e⟩
  have hndρ : ∀ j j' d, ixO ρ j = some d → ixO ρ j' = some d → j = j' := fun j j' d h h' =>
    ndO_inj θ hnd j j' d (by rw [hθρ j (hρlt j d h)]; exact h) (by rw [hθρ j' (hρlt j' d h')]; exact h')
  have hsat0 : Sat D w e0 (getC H0) := by
    refine ⟨fun j => ?_, fun j b e => ?_, fun j j' b e e' => ?_, hR.sat.F, hR.sat.glob.mono fun b hb => ⟨hb, rfl⟩⟩
    · by_cases hj : j < H0.length
      · obtain ⟨d, hd⟩ := hρs j (by omega)
        have hd' := (ixO_of_ixL ρ j d).1 hd
        rw [he0 j d hd']
        have hok := hR.sat.ok d
        rw [hρh j d hd'] at hok
        exact (ren_ok (D := D) (w := w) (E := E) (E' := e0) rfl he0 (hren0 j) _).1 hok
      · rw [he0n j (by omega), getC_ge H0 j (by omega)]; rfl
    · obtain ⟨d, _, hd⟩ := he0at j b e
      exact hR.sat.own d b hd
    · obtain ⟨d, h1, hd⟩ := he0at j b e
      obtain ⟨d', h1', hd'⟩ := he0at j' b e'
      have := hR.sat.inj d d' b hd hd'
      subst this
      exact hndρ j j' d h1 h1'
  have hd0 : DenA D w e0 args0 vs := (ren_denA (D := D) (w := w) (E := E) (E' := e0) rfl he0 args0 args vs hargs).1 hd
  refine (hM.calls w e0 he0n vs hsat0 hd0).mono ?_
  rintro e w' ⟨v, e1, rfl, hv, hs1, hf1⟩
  -- the caller's environment behind the call
  let E1 : Env := { F := e1.F, β := fun c => if inO θ c = true then e1.β (posO θ c) else E.β c }
  have hE1 : ∀ j d, ixO θ j = some d → e1.β j = E1.β d := fun j d hj => by
    have hin := ixO_in θ j d hj
    have := ndO_inj θ hnd _ _ d (posO_spec θ d hin) hj
    simp [E1, hin, this]
  have hE1n : ∀ c, inO θ c = false → E1.β c = E.β c := fun c hc => by simp [E1, hc]
  have hin_of : ∀ j d, ixO ρ j = some d → inO θ d = true := fun j d h => ixO_in θ j d (by rw [hθρ j (hρlt j d h)]; exact h)
  -- a block of a number that the callee doesn't know
  have hforeign : ∀ c b, inO θ c = false → E.β c = .loc b → ¬ ∃ j, e0.β j = .loc b := fun c b hc hb ⟨j, hj⟩ => by
    obtain ⟨d, h1, h2⟩ := he0at j b hj
    have := hR.sat.inj d c b h2 hb
    subst this
    rw [hin_of j d h1] at hc; cases hc
  have hL : Later w E w' E1 := by
    refine ⟨fun b hb => hf1.late.F b hb, fun c => ?_, fun c b e1' e2 cs T hcs => ?_⟩
    · cases hc : inO θ c with
      | false => exact .inl (hE1n c hc)
      | true =>
        have hp := posO_spec θ c hc
        rw [← hE1 _ c hp]
        by_cases hj : posO θ c < H0.length
        · have hp' := hp
          rw [hθρ _ hj] at hp'
          rcases hf1.late.β (posO θ c) with h | h | h
          · exact .inl (by rw [h]; exact he0 _ c hp')
          · exact .inr (.inl h)
          · exact .inr (.inr (by rw [← he0 _ c hp']; exact h))
        · have hp' := hp
          rw [hθn _ (by omega) (hθlt _ _ hp)] at hp'
          have hge : Hf c = .fresh := hfreshC c _ (by omega) (hθlt _ _ hp) hp'
          have hok := hR.sat.ok c
          rw [hge] at hok
          exact .inr (.inr (fresh_β hR.sat hge))
    · cases hc : inO θ c with
      | false =>
        have hlt := (hR.sat.own c b e1').1
        exact ⟨cs, T, Row.of (hf1.same b hlt (hforeign c b hc e1')) hcs, rfl⟩
      | true =>
        have hp := posO_spec θ c hc
        rw [← hE1 _ c hp] at e2
        by_cases hj : posO θ c < H0.length
        · have hp' := hp
          rw [hθρ _ hj] at hp'
          exact hf1.late.size (posO θ c) b (by rw [← e1']; exact he0 _ c hp') e2 cs T hcs
        · have hp' := hp
          rw [hθn _ (by omega) (hθlt _ _ hp)] at hp'
          have hge : Hf c = .fresh := hfreshC c _ (by omega) (hθlt _ _ hp) hp'
          rw [fresh_β hR.sat hge] at e1'; cases e1'
  have hθall : ∀ j, j < θ.length → ∃ d, ixL θ j = some (some d) := fun j hj => by
    by_cases h : j < H0.length
    · obtain ⟨d, hd⟩ := hρs j (by omega)
      exact ⟨d, (ixO_of_ixL θ j d).2 (by rw [hθρ j h]; exact (ixO_of_ixL ρ j d).1 hd)⟩
    · exact ⟨_, (ixO_of_ixL θ j _).2 (hθn j (by omega) (by omega))⟩
  obtain ⟨hz1, hz2⟩ := zipW_spec θ H1' (Hf) hnd (by omega) hθall
  have hsatE : Sat D w' E1 (upHs (Hf) (zipW θ H1')) := by
    refine ⟨fun c => ?_, fun c b e => ?_, fun c c' b e e' => ?_, hs1.F, hs1.glob.mono fun b hb => ⟨hb, rfl⟩⟩
    · cases hc : inO θ c with
      | false =>
        rw [hz2 c hc, hE1n c hc]
        exact HS.ok_mono hL (hR.sat.ok c) fun b hb => hf1.same b (hR.sat.own c b hb).1 (hforeign c b hc hb)
      | true =>
        have hp := posO_spec θ c hc
        rw [hz1 _ c hp, ← hE1 _ c hp]
        exact (ren_ok (D := D) (w := w') (E := E1) (E' := e1) rfl hE1 (hren1 _) _).2 (hs1.ok _)
    · cases hc : inO θ c with
      | false =>
        rw [hE1n c hc] at e
        have hlt := (hR.sat.own c b e).1
        refine ⟨Nat.lt_of_lt_of_le hlt hf1.size, fun hF => ?_⟩
        rcases hf1.newF b hF with h | h | h
        · exact (hR.sat.own c b e).2 h
        · exact hforeign c b hc e h
        · exact absurd hlt (Nat.not_lt.2 h)
      | true =>
        have hp := posO_spec θ c hc
        rw [← hE1 _ c hp] at e
        exact hs1.own _ b e
    · have mixed : ∀ c c' b, inO θ c = true → inO θ c' = false → E1.β c = .loc b → E1.β c' = .loc b → False := fun c c' b hc hc' e e' => by
        have hp := posO_spec θ c hc
        rw [← hE1 _ c hp] at e
        rw [hE1n c' hc'] at e'
        rcases hf1.newO _ b e with h | h
        · exact hforeign c' b hc' e' h
        · exact absurd (hR.sat.own c' b e').1 (Nat.not_lt.2 h)
      cases hc : inO θ c with
      | false =>
        cases hc' : inO θ c' with
        | false => rw [hE1n c hc] at e; rw [hE1n c' hc'] at e'; exact hR.sat.inj c c' b e e'
        | true => exact (mixed c' c b hc' hc e' e).elim
      | true =>
        cases hc' : inO θ c' with
        | false => exact (mixed c c' b hc hc' e e').elim
        | true =>
          have hp := posO_spec θ c hc
          have hp' := posO_spec θ c' hc'
          rw [← hE1 _ c hp] at e
          rw [← hE1 _ c' hp'] at e'
          have := hs1.inj _ _ b e e'
          rw [this, hp'] at hp
          simpa using hp.symm
  have hO : ∀ b, (∃ j, e0.β j = .loc b) → B.O b ∨ B.w0.heap.size ≤ b := fun b ⟨j, hj⟩ => by
    obtain ⟨d, _, h2⟩ := he0at j b hj
    exact hR.fr.newO d b h2
  have hfrE : Fr B E1 w' := by
    refine ⟨hf1.os.trans hR.fr.os, hf1.tape.trans hR.fr.tape, hf1.output.trans hR.fr.output, Nat.le_trans hR.fr.size hf1.size, fun b hb ho => ?_, hR.fr.late.trans hL, fun b hF => ?_, fun c b e => ?_⟩
    · have h1 : ¬ ∃ j, e0.β j = .loc b := fun h => by
        rcases hO b h with h2 | h2
        · exact ho h2
        · omega
      exact (hf1.same b (Nat.lt_of_lt_of_le hb hR.fr.size) h1).trans (hR.fr.same b hb ho)
    · rcases hf1.newF b hF with h | h | h
      · exact hR.fr.newF b h
      · exact .inr (hO b h)
      · exact .inr (.inr (Nat.le_trans hR.fr.size h))
    · cases hc : inO θ c with
      | false => rw [hE1n c hc] at e; exact hR.fr.newO c b e
      | true =>
        have hp := posO_spec θ c hc
        rw [← hE1 _ c hp] at e
        rcases hf1.newO _ b e with h | h
        · exact hO b h
        · exact .inr (Nat.le_trans hR.fr.size h)
  exact ⟨v, E1, rfl, (ren_den (D := D) (w := w') (E := E1) (E' := e1) rfl hE1 ret0 ret v hret).2 hv, hR.later hL hsatE hfrE⟩

theorem callAt_of_meets {f : FuncId} {args0 args : List (SV C)} {H0 H0' H1 H1' : List (HS C)} {ret0 ret : SV C} {Hp : List (HS C)} (hM : Meets P D f args0 H0 ret0 H1) (ρ : List (Option Nat))
    (hargs : renL ρ args0 = some args) (hH0 : renHs ρ H0 = some H0') (hat : heapAt (getC Hp) ρ H0') (θ : List (Option Nat)) (hθ : θ = ρ ++ newIds (H1.length - H0.length) (hlen Hp)) (hnd : ndO θ = true) (hle : H0.length ≤ H1.length)
    (hH1 : renHs θ H1 = some H1') (hret : renS θ ret0 = some ret) : CallAt P D f args (getC Hp) ret (zipW θ H1') :=
  callAt_of_meets' hM ρ hargs hH0 hat θ hθ (fun k _ => getC_ge Hp _ (by rw [← hlen_eq]; omega)) hnd hle hH1 hret

/-- the numbers behind ρ and θ -/
def foot (θ : List (Option Nat)) : List Nat := θ.filterMap id
theorem heapAt_congr {H H' : Nat → HS C} : ∀ (ρ : List (Option Nat)) (l : List (HS C)), (∀ c ∈ foot ρ, H' c = H c) → heapAt H ρ l → heapAt H' ρ l
  | [], [], _, h => h
  | [], _ :: _, _, h => h.elim
  | none :: _, _, _, h => by simp [heapAt] at h
  | some d :: l, [], _, h => by simp [heapAt] at h
  | some d :: l, y :: m, hc, h => by
    simp only [heapAt] at h ⊢
    exact ⟨(hc d (by simp [foot])).trans h.1, heapAt_congr l m (fun c hcc => hc c (by simp only [foot, List.filterMap_cons, id]; exact List.mem_cons_of_mem _ hcc)) h.2⟩
theorem foot_append (l m : List (Option Nat)) : foot (l ++ m) = foot l ++ foot m := List.filterMap_append
theorem foot_new : ∀ (n m k : Nat), k < n → m + k ∈ foot (newIds n m)
  | 0, m, k, h => by omega
  | n + 1, m, 0, _ => by simp [foot, newIds]
  | n + 1, m, k + 1, h => by
    have := foot_new n (m + 1) k (by omega)
    simp only [foot, newIds, List.filterMap_cons, id]
    rw [show m + (k + 1) = m + 1 + k by omega]
    exact List.mem_cons_of_mem _ this
theorem callF_of_meets {f : FuncId} {args0 args : List (SV C)} {H0 H0' H1 H1' : List (HS C)} {ret0 ret : SV C} {Hp : List (HS C)} (hM : Meets P D f args0 H0 ret0 H1) (ρ : List (Option Nat))
    (hargs : renL ρ args0 = some args) (hH0 : renHs ρ H0 = some H0') (hat : heapAt (getC Hp) ρ H0') (θ : List (Option Nat)) (hθ : θ = ρ ++ newIds (H1.length - H0.length) (hlen Hp)) (hnd : ndO θ = true) (hle : H0.length ≤ H1.length)
    (hH1 : renHs θ H1 = some H1') (hret : renS θ ret0 = some ret) : CallF P D f args (getC Hp) (foot θ) ret (zipW θ H1') :=
  ⟨fun H hH => callAt_of_meets' hM ρ hargs hH0 (heapAt_congr ρ H0' (fun c hc => hH c (by rw [hθ, foot_append]; simp [hc])) hat) θ hθ (fun k hk => (hH _ (by rw [hθ, foot_append]; exact List.mem_append_right _ (foot_new _ _ _ hk))).trans (getC_ge Hp _ (by rw [← hlen_eq]; omega))) hnd hle hH1 hret⟩

/-- a call of a function that only computes -/
theorem callAt_pure {f : FuncId} {args : List (SV C)} {ret : SV C} (hM : Meets P D f args [] ret []) (hargs : renL [] args = some args) (hret : renS [] ret = some ret) (H : List (HS C)) : CallAt P D f args (getC H) ret [] := by
  have := callAt_of_meets (Hp := H) hM [] hargs rfl trivial [] rfl rfl (Nat.le_refl _) rfl hret
  simpa [zipW] using this

theorem dcall_pure {next : DK C} {f : FuncId} {args : List (SV C)} {ret : SV C} {dst : Option Nat} {fs fc : List Nat} {tr : List Ent} {T : List (SV C)} {Hp : List (HS C)} (hM : Meets P D f args [] ret [])
    (hargs : renL [] args = some args) (hret : renS [] ret = some ret) (h : next (⟨dst, fs, fc ++ [], []⟩ :: tr) (setO T dst ret) Hp) : DCallVC P D next f args dst fs fc tr T Hp :=
  ⟨ret, [], [], ⟨fun H _ => by
    have := callAt_of_meets' (Hf := H) (nw := 0) hM [] hargs rfl trivial [] rfl (fun k hk => by simp at hk) rfl (Nat.le_refl _) rfl hret
    simpa [zipW] using this⟩, h⟩

theorem dcall_heap {next : DK C} {f : FuncId} {args0 args : List (SV C)} {H0 H0' H1 H1' : List (HS C)} {ret0 ret : SV C} {dst : Option Nat} {fs fc : List Nat} {tr : List Ent} {T : List (SV C)} {Hp : List (HS C)}
    (ρ : List (Option Nat)) (hM : Meets P D f args0 H0 ret0 H1) (hargs : renL ρ args0 = some args) (hH0 : renHs ρ H0 = some H0') (hat : heapAt (getC Hp) ρ H0') (θ : List (Option Nat)) (hθ : θ = ρ ++ newIds (H1.length - H0.length) (hlen Hp)) (hnd : ndO θ = true)
    (hle : H0.length ≤ H1.length) (hH1 : renHs θ H1 = some H1') (hret : renS θ ret0 = some ret) (h : next (⟨dst, fs, fc ++ foot θ, idsOf (zipW θ H1')⟩ :: tr) (setO T dst ret) (setCs Hp (zipW θ H1'))) : DCallVC P D next f args dst fs fc tr T Hp :=
  ⟨ret, _, _, callF_of_meets hM ρ hargs hH0 hat θ hθ hnd hle hH1 hret, h⟩

end
end Go.SX
