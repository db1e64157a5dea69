/-
  SX, part D: cells of aggregates: cutting, looking up, replacing.
-/
import Derived.Test.YtdaghncicimipaaGreatDoorSxC
set_option linter.unusedVariables false
set_option linter.unusedSimpArgs false
namespace Go.SX
variable {C : Cod}

def SV.isArr : SV C → Bool
  | .arr _ _ _ => true
  | _ => false

section
variable {D : Codec C} {w : World} {E : Env}

theorem DenC_cons {x : SV C} (hx : x.isArr = false) (r : List (SV C)) (vs : List Value) :
    DenC D w E (x :: r) vs ↔ ∃ v v2, vs = v :: v2 ∧ v.oneCell' = true ∧ Den D w E x v ∧ DenC D w E r v2 := by
  cases x <;> first | (simp [SV.isArr] at hx; done) | simp only [DenC]

theorem takeW_cons {x : SV C} (hx : x.isArr = false) (r : List (SV C)) (n : Nat) : takeW (x :: r) (n + 1) = (match takeW r n with | some l => some (x :: l) | none => none) := by
  cases x <;> first | (simp [SV.isArr] at hx; done) | rfl
theorem takeW_zero (vs : List (SV C)) : takeW vs 0 = some [] := by
  cases vs with
  | nil => rfl
  | cons x r => cases x <;> rfl
theorem dropW_cons {x : SV C} (hx : x.isArr = false) (r : List (SV C)) (n : Nat) : dropW (x :: r) (n + 1) = dropW r n := by
  cases x <;> first | (simp [SV.isArr] at hx; done) | rfl
theorem dropW_zero (vs : List (SV C)) : dropW vs 0 = some vs := by
  cases vs with
  | nil => rfl
  | cons x r => cases x <;> rfl
theorem hitW_cons {x : SV C} (hx : x.isArr = false) (r : List (SV C)) (o : Nat) : hitW (x :: r) (o + 1) = hitW r o := by
  cases x <;> first | (simp [SV.isArr] at hx; done) | rfl
theorem hitW_zero {x : SV C} (hx : x.isArr = false) (r : List (SV C)) : hitW (x :: r) 0 = .cell x := by
  cases x <;> first | (simp [SV.isArr] at hx; done) | rfl
theorem setArr_cons {x : SV C} (hx : x.isArr = false) (r : List (SV C)) (o : Nat) (u : C.U) (ys : List (C.El u)) :
    setArr (x :: r) (o + 1) u ys = (match setArr r o u ys with | some l => some (x :: l) | none => none) := by
  cases x <;> first | (simp [SV.isArr] at hx; done) | rfl
theorem SV.arr_of {x : SV C} (h : x.isArr = true) : ∃ u N xs, x = .arr u N xs := by
  cases x <;> simp [SV.isArr] at h
  exact ⟨_, _, _, rfl⟩

theorem subO_some {a b m : Nat} (h : subO a b = some m) : a = m + b := by
  induction a generalizing b with
  | zero => cases b <;> simp [subO] at h; omega
  | succ a ih => cases b with
    | zero => simp [subO] at h; omega
    | succ b => simp only [subO] at h; have := ih h; omega
theorem subO_none {a b : Nat} (h : subO a b = none) : a < b := by
  induction a generalizing b with
  | zero => cases b <;> simp [subO] at h; omega
  | succ a ih => cases b with
    | zero => simp [subO] at h
    | succ b => simp only [subO] at h; have := ih h; omega

theorem flatMap_length (u : C.U) (xs : List (C.El u)) : (xs.flatMap (D.enc u)).length = xs.length * C.n u := by
  induction xs with
  | nil => simp
  | cons x xs ih => simp only [List.flatMap_cons, List.length_append, D.enc_len, ih, List.length_cons, Nat.add_mul, Nat.one_mul]; omega

theorem flatMap_get (u : C.U) (xs : List (C.El u)) (i j : Nat) (x : C.El u) (hx : xs[i]? = some x) (hj : j < C.n u) :
    (xs.flatMap (D.enc u))[i * C.n u + j]? = (D.enc u x)[j]? := by
  induction xs generalizing i with
  | nil => simp at hx
  | cons y ys ih =>
    cases i with
    | zero =>
      simp at hx; subst hx
      simp only [List.flatMap_cons, Nat.zero_mul, Nat.zero_add]
      rw [List.getElem?_append_left (by rw [D.enc_len]; exact hj)]
    | succ i =>
      simp only [List.getElem?_cons_succ] at hx
      simp only [List.flatMap_cons]
      rw [List.getElem?_append_right (by rw [D.enc_len, Nat.add_mul]; omega), D.enc_len]
      rw [show (i + 1) * C.n u + j - C.n u = i * C.n u + j by rw [Nat.add_mul]; omega]
      exact ih i hx

theorem flatMap_set (u : C.U) (xs : List (C.El u)) (i : Nat) (x : C.El u) (hi : i < xs.length) :
    (xs.set i x).flatMap (D.enc u) = (xs.flatMap (D.enc u)).take (i * C.n u) ++ D.enc u x ++ (xs.flatMap (D.enc u)).drop (i * C.n u + C.n u) := by
  induction xs generalizing i with
  | nil => simp at hi
  | cons y ys ih =>
    cases i with
    | zero =>
      simp only [List.set_cons_zero, List.flatMap_cons, Nat.zero_mul, List.take_zero, List.nil_append, Nat.zero_add]
      rw [List.drop_left' (D.enc_len u y)]
    | succ i =>
      simp only [List.set_cons_succ, List.flatMap_cons]
      rw [ih i (by simpa using hi)]
      have e1 : (i + 1) * C.n u = (D.enc u y).length + i * C.n u := by rw [D.enc_len, Nat.add_mul]; omega
      rw [e1, List.take_append, List.take_of_length_le (show (D.enc u y).length ≤ (D.enc u y).length + i * C.n u by omega),
        show (D.enc u y).length + i * C.n u - (D.enc u y).length = i * C.n u by omega]
      rw [show (D.enc u y).length + i * C.n u + C.n u = (D.enc u y).length + (i * C.n u + C.n u) by omega, List.drop_append,
        List.drop_of_length_le (show (D.enc u y).length ≤ (D.enc u y).length + (i * C.n u + C.n u) by omega)]
      simp only [List.nil_append, List.append_assoc]
      rw [show (D.enc u y).length + (i * C.n u + C.n u) - (D.enc u y).length = i * C.n u + C.n u by omega]

theorem PDenL.len {F : Nat → Prop} {u : C.U} {xs : List (C.El u)} {v1 : List Value} (h : PDenL D w F (xs.flatMap (D.enc u)) v1) : v1.length = xs.length * C.n u := by
  rw [← h.1, flatMap_length]

theorem takeW_spec : ∀ (vs : List (SV C)) (n : Nat) (l : List (SV C)) (cs : List Value), takeW vs n = some l → DenC D w E vs cs → DenC D w E l (cs.take n) ∧ n ≤ cs.length
  | [], 0, l, cs, h, hd => by simp [takeW] at h; subst h; simp [DenC]
  | [], n + 1, l, cs, h, hd => by simp [takeW] at h
  | x :: r, 0, l, cs, h, hd => by rw [takeW_zero] at h; cases h; simp [DenC]
  | x :: r, n + 1, l, cs, h, hd => by
    cases hx : x.isArr with
    | false =>
      rw [takeW_cons hx] at h
      rw [DenC_cons hx] at hd
      obtain ⟨v, v2, rfl, h1, h2, h3⟩ := hd
      cases ht : takeW r n with
      | none => rw [ht] at h; cases h
      | some l' =>
        rw [ht] at h; cases h
        obtain ⟨h4, h5⟩ := takeW_spec r n l' v2 ht h3
        refine ⟨?_, by simpa using h5⟩
        rw [DenC_cons hx]
        exact ⟨v, v2.take n, by simp, h1, h2, h4⟩
    | true =>
      obtain ⟨u, N, xs, rfl⟩ := SV.arr_of hx
      simp only [takeW] at h
      simp only [DenC] at hd
      obtain ⟨h0, v1, v2, rfl, h1, h3⟩ := hd
      have hl := h1.len
      cases hs : subO (n + 1) (N * C.n u) with
      | none => rw [hs] at h; cases h
      | some m =>
        rw [hs] at h
        have e := subO_some hs
        cases ht : takeW r m with
        | none => simp [ht] at h
        | some l' =>
          simp [ht] at h; subst h
          obtain ⟨h4, h5⟩ := takeW_spec r m l' v2 ht h3
          rw [h0] at hl
          have hcut : (v1 ++ v2).take (n + 1) = v1 ++ v2.take m := by
            rw [List.take_append, List.take_of_length_le (by omega)]
            congr 2
            omega
          refine ⟨?_, by simp; omega⟩
          simp only [DenC]
          exact ⟨h0, v1, v2.take m, hcut, h1, h4⟩

theorem dropW_spec : ∀ (vs : List (SV C)) (n : Nat) (l : List (SV C)) (cs : List Value), dropW vs n = some l → DenC D w E vs cs → DenC D w E l (cs.drop n) ∧ n ≤ cs.length
  | [], 0, l, cs, h, hd => by simp [dropW] at h; subst h; simpa using hd
  | [], n + 1, l, cs, h, hd => by simp [dropW] at h
  | x :: r, 0, l, cs, h, hd => by rw [dropW_zero] at h; cases h; simpa using hd
  | x :: r, n + 1, l, cs, h, hd => by
    cases hx : x.isArr with
    | false =>
      rw [dropW_cons hx] at h
      rw [DenC_cons hx] at hd
      obtain ⟨v, v2, rfl, h1, h2, h3⟩ := hd
      obtain ⟨h4, h5⟩ := dropW_spec r n l v2 h h3
      exact ⟨by simpa using h4, by simpa using h5⟩
    | true =>
      obtain ⟨u, N, xs, rfl⟩ := SV.arr_of hx
      simp only [dropW] at h
      simp only [DenC] at hd
      obtain ⟨h0, v1, v2, rfl, h1, h3⟩ := hd
      have hl := h1.len
      rw [h0] at hl
      cases hs : subO (n + 1) (N * C.n u) with
      | none => simp [hs] at h
      | some m =>
        simp [hs] at h
        have e := subO_some hs
        obtain ⟨h4, h5⟩ := dropW_spec r m l v2 h h3
        have hcut : (v1 ++ v2).drop (n + 1) = v2.drop m := by
          rw [List.drop_append, List.drop_of_length_le (by omega), List.nil_append]
          congr 1
          omega
        exact ⟨hcut ▸ h4, by simp; omega⟩

theorem DenC_append : ∀ (vs ws : List (SV C)) (a b : List Value), DenC D w E vs a → DenC D w E ws b → DenC D w E (vs ++ ws) (a ++ b)
  | [], ws, a, b, ha, hb => by simp only [DenC] at ha; subst ha; simpa using hb
  | x :: r, ws, a, b, ha, hb => by
    cases hx : x.isArr with
    | false =>
      rw [DenC_cons hx] at ha
      obtain ⟨v, v2, rfl, h1, h2, h3⟩ := ha
      rw [List.cons_append, DenC_cons hx]
      exact ⟨v, v2 ++ b, by simp, h1, h2, DenC_append r ws _ _ h3 hb⟩
    | true =>
      obtain ⟨u, N, xs, rfl⟩ := SV.arr_of hx
      simp only [DenC] at ha
      obtain ⟨h0, v1, v2, rfl, h1, h3⟩ := ha
      simp only [List.cons_append, DenC]
      exact ⟨h0, v1, v2 ++ b, by simp, h1, DenC_append r ws _ _ h3 hb⟩

theorem DenC_one : ∀ (vs : List (SV C)) (a : List Value), DenC D w E vs a → ∀ v ∈ a, v.oneCell' = true
  | [], a, ha => by simp only [DenC] at ha; subst ha; simp
  | x :: r, a, ha => by
    cases hx : x.isArr with
    | false =>
      rw [DenC_cons hx] at ha
      obtain ⟨v, v2, rfl, h1, h2, h3⟩ := ha
      intro u hu
      rcases List.mem_cons.1 hu with rfl | hu
      · exact h1
      · exact DenC_one r _ h3 u hu
    | true =>
      obtain ⟨u, N, xs, rfl⟩ := SV.arr_of hx
      simp only [DenC] at ha
      obtain ⟨h0, v1, v2, rfl, h1, h3⟩ := ha
      intro u hu
      rcases List.mem_append.1 hu with hu | hu
      · exact h1.oneCell u hu
      · exact DenC_one r _ h3 u hu

/-- what a look-up at cell o finds -/
def HitOK (D : Codec C) (w : World) (E : Env) (cs : List Value) (o : Nat) : Hit C → Prop
  | .miss => True
  | .cell x => ∃ v, cs[o]? = some v ∧ v.oneCell' = true ∧ Den D w E x v
  | .elem u N xs k => xs.length = N ∧ k < N * C.n u ∧ k ≤ o ∧ (o - k) + N * C.n u ≤ cs.length ∧ PDenL D w E.F (xs.flatMap (D.enc u)) ((cs.drop (o - k)).take (N * C.n u))

theorem hitW_spec : ∀ (vs : List (SV C)) (o : Nat) (cs : List Value), DenC D w E vs cs → HitOK D w E cs o (hitW vs o)
  | [], o, cs, hd => trivial
  | x :: r, o, cs, hd => by
    cases hx : x.isArr with
    | false =>
      rw [DenC_cons hx] at hd
      obtain ⟨v, v2, rfl, h1, h2, h3⟩ := hd
      cases o with
      | zero => rw [hitW_zero hx]; exact ⟨v, by simp, h1, h2⟩
      | succ o =>
        rw [hitW_cons hx]
        have ih := hitW_spec r o v2 h3
        cases hh : hitW r o with
        | miss => trivial
        | cell y => rw [hh] at ih; obtain ⟨u, h4, h5⟩ := ih; exact ⟨u, by simpa using h4, h5⟩
        | elem u N xs k =>
          rw [hh] at ih
          obtain ⟨a1, a2, a3, a4, a5⟩ := ih
          refine ⟨a1, a2, by omega, by simp; omega, ?_⟩
          rw [show o + 1 - k = (o - k) + 1 by omega, List.drop_succ_cons]
          exact a5
    | true =>
      obtain ⟨u, N, xs, rfl⟩ := SV.arr_of hx
      simp only [DenC] at hd
      obtain ⟨h0, v1, v2, rfl, h1, h3⟩ := hd
      have hl := h1.len
      rw [h0] at hl
      simp only [hitW]
      cases hs : subO o (N * C.n u) with
      | none =>
        have hlt := subO_none hs
        refine ⟨h0, hlt, Nat.le_refl _, by simp; omega, ?_⟩
        rw [Nat.sub_self, List.drop_zero, ← hl, List.take_left]
        exact h1
      | some o' =>
        have e := subO_some hs
        have ih := hitW_spec r o' v2 h3
        cases hh : hitW r o' with
        | miss => simp [HitOK, hh]
        | cell y =>
          rw [hh] at ih
          obtain ⟨v, h4, h5⟩ := ih
          simp only [hh]
          refine ⟨v, ?_, h5⟩
          rw [List.getElem?_append_right (by omega), hl, show o - N * C.n u = o' by omega]
          exact h4
        | elem u' N' xs' k =>
          rw [hh] at ih
          obtain ⟨a1, a2, a3, a4, a5⟩ := ih
          simp only [hh]
          refine ⟨a1, a2, by omega, by simp; omega, ?_⟩
          rw [show o - k = v1.length + (o' - k) by omega, List.drop_append, List.drop_of_length_le (by omega), List.nil_append,
            show v1.length + (o' - k) - v1.length = o' - k by omega]
          exact a5

theorem spliceW_spec {vs new vs' : List (SV C)} {o n : Nat} {cs nc : List Value} (h : spliceW vs o n new = some vs') (hd : DenC D w E vs cs) (hn : DenC D w E new nc) :
    DenC D w E vs' (cs.take o ++ nc ++ cs.drop (o + n)) ∧ o + n ≤ cs.length := by
  unfold spliceW at h
  cases ha : takeW vs o with
  | none => simp [ha] at h
  | some a =>
    cases hb : dropW vs o with
    | none => simp [ha, hb] at h
    | some b =>
      cases hc : dropW b n with
      | none => simp [ha, hb, hc] at h
      | some c =>
        simp [ha, hb, hc] at h
        subst h
        obtain ⟨h1, h2⟩ := takeW_spec _ _ _ _ ha hd
        obtain ⟨h3, h4⟩ := dropW_spec _ _ _ _ hb hd
        obtain ⟨h5, h6⟩ := dropW_spec _ _ _ _ hc h3
        rw [List.drop_drop] at h5
        refine ⟨?_, by simp at h6; omega⟩
        rw [List.append_assoc]
        exact DenC_append _ _ _ _ h1 (DenC_append _ _ _ _ hn h5)

theorem hitW_start : ∀ (vs : List (SV C)) (o : Nat) (u : C.U) (N : Nat) (xs : List (C.El u)) (k : Nat), hitW vs o = .elem u N xs k → k ≤ o ∧ hitW vs (o - k) = .elem u N xs 0 := by
  intro vs
  induction vs with
  | nil => intro o u N xs k h; simp [hitW] at h
  | cons x r ih =>
    intro o u N xs k h
    cases hx : x.isArr with
    | false =>
      cases o with
      | zero => rw [hitW_zero hx] at h; cases h
      | succ o =>
        rw [hitW_cons hx] at h
        obtain ⟨h1, h2⟩ := ih o u N xs k h
        refine ⟨by omega, ?_⟩
        rw [show o + 1 - k = (o - k) + 1 by omega, hitW_cons hx]
        exact h2
    | true =>
      obtain ⟨u', N', xs', rfl⟩ := SV.arr_of hx
      simp only [hitW] at h ⊢
      cases hs : subO o (N' * C.n u') with
      | none =>
        rw [hs] at h
        simp only [Hit.elem.injEq] at h
        obtain ⟨rfl, rfl, h3, rfl⟩ := h
        cases h3
        have hlt := subO_none hs
        refine ⟨Nat.le_refl _, ?_⟩
        rw [Nat.sub_self]
        have : subO 0 (N' * C.n u') = none := by
          cases hz : N' * C.n u' with
          | zero => omega
          | succ z => rfl
        rw [this]
      | some o' =>
        simp only [hs] at h
        have e := subO_some hs
        obtain ⟨h1, h2⟩ := ih o' u N xs k h
        refine ⟨by omega, ?_⟩
        have hsub : subO (o - k) (N' * C.n u') = some (o' - k) := by
          cases hq : subO (o - k) (N' * C.n u') with
          | none => have := subO_none hq; omega
          | some z => have := subO_some hq; congr 1; omega
        simp only [hsub]
        exact h2

theorem setArr_spec : ∀ (vs : List (SV C)) (o : Nat) (u : C.U) (N : Nat) (xs ys : List (C.El u)) (vs' : List (SV C)) (cs v1 : List Value),
    hitW vs o = .elem u N xs 0 → setArr vs o u ys = some vs' → ys.length = xs.length → DenC D w E vs cs → PDenL D w E.F (ys.flatMap (D.enc u)) v1 →
    DenC D w E vs' (cs.take o ++ v1 ++ cs.drop (o + v1.length)) := by
  intro vs
  induction vs with
  | nil => intro o u N xs ys vs' cs v1 h; simp [hitW] at h
  | cons x r ih =>
    intro o u N xs ys vs' cs v1 h hs hl hd hp
    cases hx : x.isArr with
    | false =>
      cases o with
      | zero => rw [hitW_zero hx] at h; cases h
      | succ o =>
        rw [hitW_cons hx] at h
        rw [setArr_cons hx] at hs
        rw [DenC_cons hx] at hd
        obtain ⟨v, v2, rfl, h1, h2, h3⟩ := hd
        cases hq : setArr r o u ys with
        | none => simp [hq] at hs
        | some l =>
          simp [hq] at hs; subst hs
          have := ih o u N xs ys l v2 v1 h hq hl h3 hp
          rw [DenC_cons hx]
          exact ⟨v, _, by rw [show o + 1 + v1.length = (o + v1.length) + 1 by omega]; simp, h1, h2, this⟩
    | true =>
      obtain ⟨u', N', xs', rfl⟩ := SV.arr_of hx
      simp only [hitW] at h
      simp only [DenC] at hd
      obtain ⟨h0, w1, w2, rfl, h1, h3⟩ := hd
      have hl1 := h1.len
      rw [h0] at hl1
      have hlv := hp.len
      cases hsb : subO o (N' * C.n u') with
      | none =>
        rw [hsb] at h
        simp only [Hit.elem.injEq] at h
        obtain ⟨rfl, rfl, h4, rfl⟩ := h
        cases h4
        simp only [setArr, hsb, Option.some.injEq] at hs
        subst hs
        simp only [DenC]
        refine ⟨hl.trans h0, v1, w2, ?_, hp, h3⟩
        have e : v1.length = w1.length := by rw [hlv, hl, h0, hl1]
        simp only [List.take_zero, List.nil_append, Nat.zero_add, e, List.drop_left]
      | some o' =>
        have e := subO_some hsb
        simp only [hsb] at h
        simp only [setArr, hsb] at hs
        cases hq : setArr r o' u ys with
        | none => simp [hq] at hs
        | some l =>
          simp [hq] at hs; subst hs
          have := ih o' u N xs ys l w2 v1 h hq hl h3 hp
          simp only [DenC]
          refine ⟨h0, w1, _, ?_, h1, this⟩
          rw [List.take_append, List.take_of_length_le (show w1.length ≤ o by omega), show o - w1.length = o' by omega,
            List.drop_append, List.drop_of_length_le (show w1.length ≤ o + v1.length by omega), show o + v1.length - w1.length = o' + v1.length by omega]
          simp
end

end Go.SX
