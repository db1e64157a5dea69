/-
  Walks: Eq2: what single functions of the program compute.
-/
import Derived.Test.YtdaghncicimipaaGreatDoorSxD
set_option linter.unusedVariables false
set_option linter.unusedSimpArgs false
namespace Go.SX
variable {C : Cod} {D : Codec C} {w : World} {E : Env}
theorem pvEq_ok {c : CK} {x y : PV C} {b : Bool} {F : Nat → Prop} {v u : Value} (h : pvEq c x y = some b) (hx : PDen D w F x v) (hy : PDen D w F y u) : c.is v = true ∧ c.is u = true ∧ (b = true ↔ v = u) := by
  unfold pvEq at h
  split at h
  · split at h
    · split at h
      · rename_i h1 h2
        subst h1; subst h2
        cases hx; cases hy
        injection h with h; subst h
        simp [CK.is]
      · cases h
    · cases h
  · cases hx; cases hy
    injection h with h; subst h
    simp [CK.is]
  · cases hx; cases hy
    injection h with h; subst h
    simp [CK.is]
  · cases h
theorem eat1_ok : ∀ {cs l r : List CK}, eat1 cs l = some r → l = cs ++ r
  | [], l, r, h => by simp [eat1] at h; simp [h]
  | _ :: _, [], r, h => by simp [eat1] at h
  | c :: cs, d :: l, r, h => by
    simp only [eat1] at h
    split at h
    · rename_i e; subst e; simp [eat1_ok h]
    · cases h
theorem Kd.append : ∀ {l m : List CK} {vs ws : List Value}, Kd l vs → Kd m ws → Kd (l ++ m) (vs ++ ws)
  | [], _, [], _, _, h => h
  | [], _, _ :: _, _, h, _ => h.elim
  | _ :: _, _, [], _, h, _ => h.elim
  | _ :: l, _, _ :: vs, _, h, h' => ⟨h.1, Kd.append h.2 h'⟩

theorem pd_kd {F : Nat → Prop} {x : PV C} {v : Value} {c : CK} (h : PDen D w F x v) (hc : pvCk x = some c) : c.is v = true := by
  cases h <;> simp [pvCk] at hc <;> subst hc <;> simp [CK.is]
theorem pd_inj {F F' : Nat → Prop} {x y : PV C} {v u : Value} (h : PDen D w F x v) (h' : PDen D w F' y u) {c d : CK} (hc : pvCk x = some c) (hd : pvCk y = some d) : v = u ↔ x = y := by
  cases h <;> simp [pvCk] at hc <;> cases h' <;> simp [pvCk] at hd <;> simp
theorem pdl_cons {F : Nat → Prop} {x : PV C} {l : List (PV C)} {vs : List Value} (h : PDenL D w F (x :: l) vs) : ∃ v r, vs = v :: r ∧ PDen D w F x v ∧ PDenL D w F l r := by
  obtain ⟨h1, h2⟩ := h
  cases vs with
  | nil => simp at h1
  | cons v r => exact ⟨v, r, rfl, h2 0 x v rfl rfl, by simpa using h1, fun j pv u hp hu => h2 (j + 1) pv u (by simpa using hp) (by simpa using hu)⟩
theorem pdl_nil {F : Nat → Prop} {vs : List Value} (h : PDenL D w F [] vs) : vs = [] := by
  have := h.1; cases vs with
  | nil => rfl
  | cons v r => simp at this
theorem pdl_kd {F : Nat → Prop} : ∀ {l : List (PV C)} {cks : List CK} {vs : List Value}, l.map pvCk = cks.map some → PDenL D w F l vs → Kd cks vs
  | [], [], vs, _, h => by rw [pdl_nil h]; trivial
  | [], _ :: _, _, hm, _ => by simp at hm
  | _ :: _, [], _, hm, _ => by simp at hm
  | x :: l, c :: cks, vs, hm, h => by
    obtain ⟨v, r, rfl, h1, h2⟩ := pdl_cons h
    simp only [List.map_cons, List.cons.injEq] at hm
    exact ⟨pd_kd h1 hm.1, pdl_kd hm.2 h2⟩
theorem pdl_inj {F : Nat → Prop} : ∀ {l m : List (PV C)} {cks dks : List CK} {vs us : List Value}, l.map pvCk = cks.map some → m.map pvCk = dks.map some → PDenL D w F l vs → PDenL D w F m us → (vs = us ↔ l = m)
  | [], [], _, _, vs, us, _, _, h, h' => by rw [pdl_nil h, pdl_nil h']; simp
  | [], y :: m, _, _, vs, us, _, _, h, h' => by
    obtain ⟨u, r, rfl, _, _⟩ := pdl_cons h'
    rw [pdl_nil h]; simp
  | x :: l, [], _, _, vs, us, _, _, h, h' => by
    obtain ⟨u, r, rfl, _, _⟩ := pdl_cons h
    rw [pdl_nil h']; simp
  | x :: l, y :: m, cks, dks, vs, us, hm, hm', h, h' => by
    obtain ⟨v, r, rfl, h1, h2⟩ := pdl_cons h
    obtain ⟨u, q, rfl, h3, h4⟩ := pdl_cons h'
    cases cks with
    | nil => simp at hm
    | cons c cks =>
      cases dks with
      | nil => simp at hm'
      | cons d dks =>
        simp only [List.map_cons, List.cons.injEq] at hm hm'
        simp only [List.cons.injEq, pd_inj h1 h3 hm.1 hm'.1, pdl_inj hm.2 hm'.2 h2 h4]
theorem flat_cks (A : Aux C D) {u : C.U} (hu : A.ckA u ≠ []) : ∀ (xs : List (C.El u)), (xs.flatMap (D.enc u)).map pvCk = ((List.replicate xs.length (A.ckA u)).flatten).map some
  | [] => rfl
  | x :: xs => by
    simp only [List.flatMap_cons, List.map_append, A.ckA_ok u hu x, List.length_cons, List.replicate_succ, List.flatten_cons]
    rw [flat_cks A hu xs]
theorem eatK_ok : ∀ {n : Nat} {cs l r : List CK}, eatK n cs l = some r → l = (List.replicate n cs).flatten ++ r
  | 0, cs, l, r, h => by simp [eatK] at h; simp [h]
  | n + 1, cs, l, r, h => by
    simp only [eatK] at h
    cases h1 : eat1 cs l with
    | none => simp [h1] at h
    | some q =>
      simp only [h1] at h
      rw [eat1_ok h1, eatK_ok h, List.replicate_succ, List.flatten_cons, List.append_assoc]

theorem andO_some {b : Bool} {x : Option Bool} {r : Bool} (h : andO b x = some r) : ∃ c, x = some c ∧ r = (b && c) := by
  cases x with
  | none => simp [andO] at h
  | some c => simp [andO] at h; exact ⟨c, rfl, h.symm⟩
theorem eqCells_ok (A : Aux C D) (l : List CK) (vs ws : List (SV C)) : ∀ (b : Bool) (cs ds : List Value), eqCells A l vs ws = some b → DenC D w E vs cs → DenC D w E ws ds → Kd l cs ∧ Kd l ds ∧ (b = true ↔ cs = ds) := by
  fun_induction eqCells A l vs ws with
  | case1 => intro b cs ds h h1 h2; simp only [DenC] at h1 h2; subst h1; subst h2; simp at h; subst h; exact ⟨trivial, trivial, by simp⟩
  | case2 c l x vs y ws b0 hb ih =>
    intro b cs ds h h1 h2
    simp only [DenC, Den] at h1 h2
    obtain ⟨v, r, rfl, _, hv, hr⟩ := h1
    obtain ⟨u, q, rfl, _, hu, hq⟩ := h2
    obtain ⟨b1, e1, rfl⟩ := andO_some h
    obtain ⟨g1, g2, g3⟩ := pvEq_ok hb hv hu
    obtain ⟨k1, k2, k3⟩ := ih b1 r q e1 hr hq
    exact ⟨⟨g1, k1⟩, ⟨g2, k2⟩, by simp [g3, k3]⟩
  | case4 l u N xs vs u' N' ys ws b0 hb r he r' he' ih =>
    intro b cs ds h h1 h2
    simp only [DenC] at h1 h2
    obtain ⟨hN, v1, v2, rfl, hv, hr⟩ := h1
    obtain ⟨hN', u1, u2, rfl, hu, hq⟩ := h2
    obtain ⟨b1, e1, rfl⟩ := andO_some h
    unfold eqCells.eqA' at hb
    split at hb
    · split at hb
      · rename_i hNN hll
        obtain ⟨g1, g2, g3⟩ := A.eqA_ok _ _ _ _ _ hb
        have m1 := flat_cks A g1 xs
        have m2 := flat_cks A g2 ys
        have l1 := eatK_ok he
        have l2 := eatK_ok he'
        obtain ⟨k1, k2, k3⟩ := ih b1 v2 u2 e1 hr hq
        have hlen : ∀ (n : Nat) (c : List CK), (List.replicate n c).flatten.length = n * c.length := fun n c => by simp
        have hAB := List.append_inj (l1.symm.trans l2) (by rw [hlen, hlen, hNN, hll])
        subst hN; subst hN'
        have p1 : Kd ((List.replicate xs.length (A.ckA u)).flatten) v1 := pdl_kd m1 hv
        have p2 : Kd ((List.replicate ys.length (A.ckA u')).flatten) u1 := pdl_kd m2 hu
        have hvl := p1.length
        have hul := p2.length
        refine ⟨by rw [l1]; exact p1.append k1, by rw [l2, ← hAB.2]; exact p2.append k2, ?_⟩
        rw [Bool.and_eq_true, g3, k3, ← pdl_inj m1 m2 hv hu]
        refine ⟨fun ⟨a, b⟩ => by rw [a, b], fun hcd => ?_⟩
        exact List.append_inj hcd (by rw [← hvl, ← hul, hAB.1])
      · cases hb
    · cases hb
  | _ => intro b cs ds h; simp at h
end Go.SX
