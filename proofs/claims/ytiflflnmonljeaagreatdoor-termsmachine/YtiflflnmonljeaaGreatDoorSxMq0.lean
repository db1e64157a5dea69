/-
  Plain law: decision diagrams, each node after what follows it, each once.
-/
import Derived.Test.YtiflflnmonljeaaGreatDoorSxP
import Derived.RangeFuncNested
set_option linter.unusedVariables false
set_option linter.unusedSimpArgs false
namespace Go.SX
def St (m : Nat) (s : Int) : Prop := -2 ≤ s ∧ s < m
def ndz : Nd := ⟨0, 0, 0⟩
def cD (n : Int) (B : List Nd) (s : Int) : Int := if s < 0 then n else (B.getD s.toNat ndz).ev
def atV (vs : List Bool) (s : Int) : Bool := if s < 0 then decide (s = -2) else vs.getD s.toNat false
def U1 (σ : Int → Bool) (vs : List Bool) (d : Nd) : List Bool := vs ++ [if σ d.ev then atV vs d.yes else atV vs d.no]
def oH (σ : Int → Bool) (B : List Nd) : List Bool := B.foldl (U1 σ) []
def cM (σ : Int → Bool) (B : List Nd) (s : Int) : Bool := atV (oH σ B) s
theorem X2 {α : Type} {a b : List α} {i : Nat} {z : α} (h : i < a.length) : (a ++ b).getD i z = a.getD i z := by
 rw [List.getD_eq_getElem?_getD, List.getD_eq_getElem?_getD, List.getElem?_append_left h]
theorem Fy {α : Type} {a : List α} {x z : α} : (a ++ [x]).getD a.length z = x := by
 rw [List.getD_eq_getElem?_getD]; simp
theorem Hh (σ : Int → Bool) (B : List Nd) (d : Nd) : oH σ (B ++ [d]) = oH σ B ++ [if σ d.ev then cM σ B d.yes else cM σ B d.no] := by
 simp [oH, List.foldl_append, U1, cM]
theorem Z5 (σ : Int → Bool) : ∀ (C B : List Nd), (oH σ (B ++ C)).length = B.length + C.length ∧ ∃ r, oH σ (B ++ C) = oH σ B ++ r := by
 intro C
 have h0 : ∀ B : List Nd, (oH σ B).length = B.length := by
  intro B
  have : ∀ (l : List Nd) (vs : List Bool), (l.foldl (U1 σ) vs).length = vs.length + l.length := by
   intro l
   induction l with
   | nil => simp
   | cons d l ih => intro vs; simp only [List.foldl_cons, ih, U1, List.length_append, List.length_cons, List.length_nil]; omega
  simpa [oH] using this B []
 intro B
 refine ⟨by rw [h0, List.length_append], ?_⟩
 have : ∀ (l : List Nd) (vs : List Bool), ∃ r, l.foldl (U1 σ) vs = vs ++ r := by
  intro l
  induction l with
  | nil => intro vs; exact ⟨[], by simp⟩
  | cons d l ih =>
   intro vs
   obtain ⟨r, hr⟩ := ih (U1 σ vs d)
   exact ⟨[if σ d.ev then atV vs d.yes else atV vs d.no] ++ r, by rw [List.foldl_cons, hr, U1, List.append_assoc]⟩
 obtain ⟨r, hr⟩ := this C (oH σ B)
 exact ⟨r, by rw [← hr]; simp [oH, List.foldl_append]⟩
theorem vU (σ : Int → Bool) (B : List Nd) : (oH σ B).length = B.length := by
 have := (Z5 σ [] B).1
 simpa using this
theorem bY {σ : Int → Bool} {B B' : List Nd} (h : B <+: B') {s : Int} (hs : s < B.length) : cM σ B' s = cM σ B s := by
 obtain ⟨C, rfl⟩ := h
 obtain ⟨r, hr⟩ := (Z5 σ C B).2
 unfold cM atV
 split
 ·rfl
 ·rw [hr, X2]
  rw [vU]; omega
theorem cY {n : Int} {B B' : List Nd} (h : B <+: B') {s : Int} (hs : s < B.length) : cD n B' s = cD n B s := by
 obtain ⟨C, rfl⟩ := h
 unfold cD
 split
 ·rfl
 ·rw [X2]; omega
theorem lP {σ : Int → Bool} {B : List Nd} (hk : ∀ k d, B[k]? = some d → St k d.no ∧ St k d.yes) {k : Nat} {d : Nd} (h : B[k]? = some d) : cM σ B k = if σ d.ev then cM σ B d.yes else cM σ B d.no := by
 obtain ⟨hlt, hd⟩ := List.getElem?_eq_some_iff.1 h
 obtain ⟨h1, h2⟩ := hk k d h
 have hp : B.take k ++ [d] <+: B := by
  rw [← hd, List.take_append_getElem]
  exact List.take_prefix _ _
 have hp0 : B.take k <+: B := List.take_prefix _ _
 have hl : (B.take k).length = k := by simp; omega
 have hl1 : (B.take k ++ [d]).length = k + 1 := by simp [hl]
 rw [bY hp (s := k) (by rw [hl1]; omega), bY hp0 (s := d.yes) (by rw [hl]; exact h2.2), bY hp0 (s := d.no) (by rw [hl]; exact h1.2)]
 have e : (k : Int).toNat = (oH σ (B.take k)).length := by rw [vU, hl]; omega
 rw [show cM σ (B.take k ++ [d]) k = (oH σ (B.take k ++ [d])).getD (k : Int).toNat false by unfold cM atV; rw [if_neg (by omega)], Hh, e, Fy]
structure WFN (n : Int) (B : List Nd) : Prop where
 ok : ∀ k d, B[k]? = some d → 0 ≤ d.ev ∧ d.ev < n ∧ d.no ≠ d.yes ∧ St k d.no ∧ St k d.yes ∧ d.ev < cD n B d.no ∧ d.ev < cD n B d.yes
 nd : B.Nodup
theorem Qz (n : Int) : WFN n [] := ⟨fun k d h => by simp at h, List.nodup_nil⟩
theorem WFN.st {n : Int} {B : List Nd} (h : WFN n B) : ∀ k d, B[k]? = some d → St k d.no ∧ St k d.yes := fun k d e => ⟨(h.ok k d e).2.2.2.1, (h.ok k d e).2.2.2.2.1⟩
theorem St.mono {m m' : Nat} {s : Int} (h : St m s) (hm : m ≤ m') : St m' s := ⟨h.1, by have := h.2; omega⟩
theorem cP {B B' : List Nd} (h : B <+: B') : B.length ≤ B'.length := h.length_le
theorem Ac {n : Int} {B : List Nd} (h : WFN n B) {s : Int} (hs : St B.length s) : cD n B s ≤ n := by
 unfold cD
 split
 ·exact Int.le_refl _
 ·have hlt : s.toNat < B.length := by have := hs.2; omega
  have := h.ok s.toNat _ (List.getElem?_eq_getElem hlt)
  rw [List.getD_eq_getElem?_getD, List.getElem?_eq_getElem hlt]
  simp; omega
theorem Ay {n : Nat} {B : List Nd} (h : WFN n B) (s : Int) : 0 ≤ cD n B s := by
 unfold cD
 split
 ·omega
 ·rw [List.getD_eq_getElem?_getD]
  cases hg : B[s.toNat]? with
  | none => exact Int.le_refl _
  | some d => exact (h.ok _ _ hg).1
theorem kZ {n : Int} {B : List Nd} {s : Int} (h : s < 0) : cD n B s = n := by unfold cD; rw [if_pos h]
theorem pL {n : Int} {B : List Nd} {k : Nat} {d : Nd} (h : B[k]? = some d) : cD n B k = d.ev := by
 unfold cD; rw [if_neg (by omega)]; simp [List.getD_eq_getElem?_getD, h]
theorem cN {σ : Int → Bool} {B : List Nd} {s : Int} (h : s < 0) : cM σ B s = decide (s = -2) := by unfold cM atV; rw [if_pos h]
structure yY (n : Int) (B : List Nd) (m : Int) (f : (Int → Bool) → Bool) (B' : List Nd) (s : Int) : Prop where
 wf : WFN n B'
 pre : B <+: B'
 st : St B'.length s
 top : m ≤ cD n B' s
 sem : ∀ σ, cM σ B' s = f σ
theorem Ey {n : Int} {B : List Nd} (hB : WFN n B) {d : Nd} (h1 : 0 ≤ d.ev ∧ d.ev < n) (h2 : d.no ≠ d.yes) (h3 : St B.length d.no) (h4 : St B.length d.yes) (h5 : d.ev < cD n B d.no) (h6 : d.ev < cD n B d.yes) (h7 : d ∉ B) : WFN n (B ++ [d]) := by
 have hp : B <+: B ++ [d] := List.prefix_append _ _
 refine ⟨fun k x hx => ?_, ?_⟩
 ·rw [List.getElem?_append] at hx
  split at hx
  ·rename_i hlt
   obtain ⟨g1, g2, g3, g4, g5, g6, g7⟩ := hB.ok k x hx
   have a1 := g4.2
   have a2 := g5.2
   rw [cY hp (by omega), cY hp (by omega)]
   exact ⟨g1, g2, g3, g4, g5, g6, g7⟩
  ·rename_i hge
   have hk : k = B.length := by
    have := (List.getElem?_eq_some_iff.1 hx).1
    simp at this; omega
   subst hk
   simp at hx; subst hx
   rw [cY hp h3.2, cY hp h4.2]
   exact ⟨h1.1, h1.2, h2, h3, h4, h5, h6⟩
 ·rw [List.nodup_append]
  refine ⟨hB.nd, by simp, fun a ha b hb => ?_⟩
  simp at hb; subst hb
  intro e; subst e; exact h7 ha
theorem Tc {n : Int} {B : List Nd} (hB : WFN n B) {k : Nat} {d : Nd} (h : B[k]? = some d) : yY n B d.ev (fun σ => if σ d.ev then cM σ B d.yes else cM σ B d.no) B k :=
 ⟨hB, List.prefix_refl _, ⟨by omega, by have := (List.getElem?_eq_some_iff.1 h).1; omega⟩, by rw [pL h]; exact Int.le_refl _, fun σ => lP hB.st h⟩
theorem Rk {n : Int} {B : List Nd} (hB : WFN n B) {d : Nd} (h1 : 0 ≤ d.ev ∧ d.ev < n) (h2 : d.no ≠ d.yes) (h3 : St B.length d.no) (h4 : St B.length d.yes) (h5 : d.ev < cD n B d.no) (h6 : d.ev < cD n B d.yes) (h7 : d ∉ B) :
  yY n B d.ev (fun σ => if σ d.ev then cM σ B d.yes else cM σ B d.no) (B ++ [d]) B.length := by
 have hw := Ey hB h1 h2 h3 h4 h5 h6 h7
 have hp : B <+: B ++ [d] := List.prefix_append _ _
 have hg : (B ++ [d])[B.length]? = some d := by simp
 refine ⟨hw, hp, ⟨by omega, by simp; omega⟩, by rw [pL hg]; exact Int.le_refl _, fun σ => ?_⟩
 rw [lP hw.st hg, bY hp h4.2, bY hp h3.2]
theorem Xg {n : Int} {B : List Nd} (hB : WFN n B) {e s : Int} (hs : St B.length s) (ht : e ≤ cD n B s) : yY n B e (fun σ => if σ e then cM σ B s else cM σ B s) B s := ⟨hB, List.prefix_refl _, hs, ht, fun σ => by simp⟩
theorem yY.weaken {n : Int} {B B' : List Nd} {m m' : Int} {f g : (Int → Bool) → Bool} {s : Int} (h : yY n B m f B' s) (hm : m' ≤ m) (hf : ∀ σ, f σ = g σ) : yY n B m' g B' s := ⟨h.wf, h.pre, h.st, Int.le_trans hm h.top, fun σ => (h.sem σ).trans (hf σ)⟩
theorem yY.after {n : Int} {B B1 B' : List Nd} {m : Int} {f : (Int → Bool) → Bool} {s : Int} (h : yY n B1 m f B' s) (hp : B <+: B1) : yY n B m f B' s := ⟨h.wf, hp.trans h.pre, h.st, h.top, h.sem⟩
def opS (strong : Int) (a b : Bool) : Bool := if strong = -1 then a && b else a || b
def noS (n : Int) (B : List Nd) (e s : Int) : Int := if cD n B s > e ∨ s < 0 then s else (B.getD s.toNat ndz).no
def Cj (n : Int) (B : List Nd) (e s : Int) : Int := if cD n B s > e ∨ s < 0 then s else (B.getD s.toNat ndz).yes
theorem zD {n : Int} {B : List Nd} (hB : WFN n B) {s e : Int} (hs : St B.length s) (he : e ≤ cD n B s) (hn : e < n) :
  St B.length (noS n B e s) ∧ St B.length (Cj n B e s) ∧ e < cD n B (noS n B e s) ∧ e < cD n B (Cj n B e s) ∧ ∀ σ, cM σ B s = if σ e then cM σ B (Cj n B e s) else cM σ B (noS n B e s) := by
 by_cases h : cD n B s > e ∨ s < 0
 ·have h1 : noS n B e s = s := by unfold noS; rw [if_pos h]
  have h2 : Cj n B e s = s := by unfold Cj; rw [if_pos h]
  have h3 : e < cD n B s := by
   rcases h with h | h
   ·exact h
   ·rw [kZ h]; exact hn
  rw [h1, h2]
  exact ⟨hs, hs, h3, h3, fun σ => by simp⟩
 ·have hlt : s.toNat < B.length := by have := hs.2; omega
  have hg := List.getElem?_eq_getElem hlt
  have hgd : B.getD s.toNat ndz = B[s.toNat] := by rw [List.getD_eq_getElem?_getD, hg]; rfl
  have h1 : noS n B e s = B[s.toNat].no := by unfold noS; rw [if_neg h, hgd]
  have h2 : Cj n B e s = B[s.toNat].yes := by unfold Cj; rw [if_neg h, hgd]
  obtain ⟨g1, g2, g3, g4, g5, g6, g7⟩ := hB.ok _ _ hg
  have hss : ((s.toNat : Nat) : Int) = s := by omega
  have het : e = B[s.toNat].ev := by
   have := pL (n := n) hg
   rw [hss] at this; omega
  rw [h1, h2, het]
  refine ⟨g4.mono (by omega), g5.mono (by omega), g6, g7, fun σ => ?_⟩
  have := lP (σ := σ) hB.st hg
  rwa [hss] at this
theorem Ys (st : Int) (b x y z w : Bool) : opS st (if b then x else y) (if b then z else w) = if b then opS st x z else opS st y w := by cases b <;> rfl
theorem Ja {n : Int} {B B1 B2 B3 : List Nd} (hB : WFN n B) {st p q e s0 s1 s : Int} (hp : St B.length p) (hq : St B.length q) (hep : e ≤ cD n B p) (heq : e ≤ cD n B q) (hen : e < n)
  (h0 : yY n B (e + 1) (fun σ => opS st (cM σ B (noS n B e p)) (cM σ B (noS n B e q))) B1 s0) (h1 : yY n B1 (e + 1) (fun σ => opS st (cM σ B1 (Cj n B e p)) (cM σ B1 (Cj n B e q))) B2 s1)
  (h : yY n B2 e (fun σ => if σ e then cM σ B2 s1 else cM σ B2 s0) B3 s) : yY n B e (fun σ => opS st (cM σ B p) (cM σ B q)) B3 s := by
 obtain ⟨_, a2, _, _, a5⟩ := zD hB hp hep hen
 obtain ⟨_, b2, _, _, b5⟩ := zD hB hq heq hen
 refine ⟨h.wf, h0.pre.trans (h1.pre.trans h.pre), h.st, h.top, fun σ => ?_⟩
 rw [h.sem σ, h1.sem σ, bY h1.pre h0.st.2, h0.sem σ, bY h0.pre a2.2, bY h0.pre b2.2, a5 σ, b5 σ, Ys]
end Go.SX
namespace Go.SX
inductive gN (B : List Nd) : Int → Nat → Prop
 | here {i : Nat} {d : Nd} (h : B[i]? = some d) : gN B i i
 | no {k i : Nat} {d : Nd} (h : B[k]? = some d) (hr : gN B d.no i) : gN B k i
 | yes {k i : Nat} {d : Nd} (h : B[k]? = some d) (hr : gN B d.yes i) : gN B k i
theorem gN.lt {B : List Nd} {s : Int} {i : Nat} (h : gN B s i) : i < B.length := by
 induction h with
 | here h => exact (List.getElem?_eq_some_iff.1 h).1
 | no h hr ih => exact ih
 | yes h hr ih => exact ih
theorem zO {α : Type} {B B' : List α} (h : B <+: B') {i : Nat} {d : α} (e : B[i]? = some d) : B'[i]? = some d := by
 obtain ⟨C, rfl⟩ := h
 rw [List.getElem?_append_left (List.getElem?_eq_some_iff.1 e).1]; exact e
theorem gN.pre {B B' : List Nd} (hp : B <+: B') {s : Int} {i : Nat} (h : gN B s i) : gN B' s i := by
 induction h with
 | here h => exact .here (zO hp h)
 | no h hr ih => exact .no (zO hp h) ih
 | yes h hr ih => exact .yes (zO hp h) ih
def gX (B : List Nd) (σ : Int → Bool) (e : Int) : Nat → Int → Int
 | 0, s => s
 | f + 1, s => if s < 0 then s else if (B.getD s.toNat ndz).ev < e then gX B σ e f (if σ (B.getD s.toNat ndz).ev then (B.getD s.toNat ndz).yes else (B.getD s.toNat ndz).no) else s
theorem eE {B : List Nd} {σ : Int → Bool} {e : Int} : ∀ (f : Nat) {s : Int}, (s < 0 ∨ e ≤ cD e B s) → gX B σ e f s = s
 | 0, s, _ => rfl
 | f + 1, s, h => by
  unfold gX
  by_cases hs : s < 0
  ·rw [if_pos hs]
  ·rw [if_neg hs, if_neg]
   rcases h with h | h
   ·exact absurd h hs
   ·unfold cD at h; rw [if_neg hs] at h; omega
theorem kY {B : List Nd} {σ : Int → Bool} {e : Int} {f k : Nat} {d : Nd} (h : B[k]? = some d) (he : d.ev < e) : gX B σ e (f + 1) k = gX B σ e f (if σ d.ev then d.yes else d.no) := by
 have hg : B.getD (k : Int).toNat ndz = d := by rw [Int.toNat_natCast, List.getD_eq_getElem?_getD, h]; rfl
 conv => lhs; unfold gX
 rw [if_neg (by omega), hg, if_pos he]
theorem vG {n : Int} {B : List Nd} (hB : WFN n B) {σ τ : Int → Bool} {e m : Int} (hst : ∀ j, m ≤ j → σ j = τ j) : ∀ (f : Nat) (s : Int), St B.length s → m ≤ cD n B s → gX B σ e f s = gX B τ e f s
 | 0, s, _, _ => rfl
 | f + 1, s, hs, ht => by
  unfold gX
  by_cases hs0 : s < 0
  ·rw [if_pos hs0, if_pos hs0]
  ·have hlt : s.toNat < B.length := by have := hs.2; omega
   have hg := List.getElem?_eq_getElem hlt
   have hgd : B.getD s.toNat ndz = B[s.toNat] := by rw [List.getD_eq_getElem?_getD, hg]; rfl
   obtain ⟨g1, g2, g3, g4, g5, g6, g7⟩ := hB.ok _ _ hg
   have hte : m ≤ (B.getD s.toNat ndz).ev := by unfold cD at ht; rwa [if_neg hs0] at ht
   rw [if_neg hs0, if_neg hs0, hst _ hte]
   rw [hgd] at hte ⊢
   split
   ·split
    ·exact vG hB hst f _ (g5.mono (by omega)) (by omega)
    ·exact vG hB hst f _ (g4.mono (by omega)) (by omega)
   ·rfl
theorem pG {n : Int} {B : List Nd} (hB : WFN n B) {σ : Int → Bool} {e : Int} : ∀ (f g : Nat) (s : Int), St B.length s → s < f → s < g → gX B σ e f s = gX B σ e g s
 | 0, g, s, hs, hf, hg => by rw [eE g (.inl (by omega))]; rfl
 | f + 1, 0, s, hs, hf, hg => by rw [eE (f + 1) (.inl (by omega))]; rfl
 | f + 1, g + 1, s, hs, hf, hg => by
  by_cases hs0 : s < 0
  ·rw [eE _ (.inl hs0), eE _ (.inl hs0)]
  ·have hlt : s.toNat < B.length := by have := hs.2; omega
   have hgg := List.getElem?_eq_getElem hlt
   obtain ⟨g1, g2, g3, g4, g5, g6, g7⟩ := hB.ok _ _ hgg
   have hss : ((s.toNat : Nat) : Int) = s := by omega
   by_cases he : B[s.toNat].ev < e
   ·rw [← hss, kY hgg he, kY hgg he]
    have a1 := g4.2
    have a2 := g5.2
    split
    ·exact pG hB f g _ (g5.mono (by omega)) (by omega) (by omega)
    ·exact pG hB f g _ (g4.mono (by omega)) (by omega) (by omega)
   ·have := pL (n := e) hgg
    rw [hss] at this
    rw [eE _ (.inr (by omega)), eE _ (.inr (by omega))]
def Pu : Nat → List (List Bool)
 | 0 => [[]]
 | n + 1 => (Pu n).map (false :: ·) ++ (Pu n).map (true :: ·)
theorem X4 : ∀ n, (Pu n).length = 2 ^ n
 | 0 => rfl
 | n + 1 => by simp [Pu, X4 n, Nat.pow_succ]; omega
theorem Ae : ∀ {n : Nat} {l : List Bool}, l.length = n → l ∈ Pu n
 | 0, [], _ => by simp [Pu]
 | n + 1, b :: l, h => by
  have ih := Ae (n := n) (l := l) (by simpa using h)
  cases b <;> simp [Pu, ih]
def Ol (l : List Bool) (e : Int) : Bool := l.getD e.toNat false
theorem Cv {n : Int} {B : List Nd} (hB : WFN n B) {s : Int} {i : Nat} (h : gN B s i) : ∀ d, B[i]? = some d → cD n B s ≤ d.ev ∧ St B.length s ∧ ∃ l : List Bool, l.length = d.ev.toNat ∧ gX B (Ol l) d.ev (B.length + 1) s = i := by
 have hlt : ∀ {k : Nat} {x : Nd}, B[k]? = some x → k < B.length := fun h => (List.getElem?_eq_some_iff.1 h).1
 have step : ∀ {k : Nat} {x : Nd} (c : Bool), B[k]? = some x → ∀ d, B[i]? = some d → cD n B (if c then x.yes else x.no) ≤ d.ev ∧ St B.length (if c then x.yes else x.no) ∧ (∃ l : List Bool, l.length = d.ev.toNat ∧ gX B (Ol l) d.ev (B.length + 1) (if c then x.yes else x.no) = i) →
   cD n B k ≤ d.ev ∧ St B.length k ∧ ∃ l : List Bool, l.length = d.ev.toNat ∧ gX B (Ol l) d.ev (B.length + 1) k = i := by
  intro k x c hk d hd ⟨h1, h2, l, h3, h4⟩
  obtain ⟨g1, g2, g3, g4, g5, g6, g7⟩ := hB.ok _ _ hk
  have hkl := hlt hk
  have htop : x.ev < cD n B (if c then x.yes else x.no) := by cases c <;> assumption
  have hxe : x.ev < d.ev := by omega
  rw [pL hk]
  refine ⟨by omega, ⟨by omega, by omega⟩, l.set x.ev.toNat c, by simpa using h3, ?_⟩
  have hb : Ol (l.set x.ev.toNat c) x.ev = c := by
   unfold Ol
   rw [List.getD_eq_getElem?_getD, List.getElem?_set_self (by omega)]; rfl
  rw [kY hk hxe, hb]
  have hs2 : (if c then x.yes else x.no) < (k : Int) := by
   cases c
   ·exact g4.2
   ·exact g5.2
  rw [pG hB B.length (B.length + 1) _ h2 (by have := h2.2; omega) (by have := h2.2; omega)]
  rw [vG hB (m := x.ev + 1) (τ := Ol l) (fun j hj => ?_) _ _ h2 (by omega)]
  ·exact h4
  ·unfold Ol
   rw [List.getD_eq_getElem?_getD, List.getD_eq_getElem?_getD, List.getElem?_set_ne (by omega)]
 induction h with
 | here h =>
  intro d hd
  rw [h] at hd; injection hd with hd; subst hd
  obtain ⟨g1, _⟩ := hB.ok _ _ h
  refine ⟨by rw [pL h]; exact Int.le_refl _, ⟨by omega, by have := hlt h; omega⟩, List.replicate _ false, List.length_replicate .., ?_⟩
  exact eE _ (.inr (by rw [pL h]; exact Int.le_refl _))
 | no h hr ih => intro d hd; exact step false h d hd (ih (fun c => step c) d hd)
 | yes h hr ih => intro d hd; exact step true h d hd (ih (fun c => step c) d hd)
theorem C1 {α : Type} [DecidableEq α] : ∀ {l m : List α}, l.Nodup → (∀ x ∈ l, x ∈ m) → l.length ≤ m.length
 | [], _, _, _ => by simp
 | a :: l, m, hn, hs => by
  obtain ⟨h1, h2⟩ := List.nodup_cons.1 hn
  have ha := hs a (List.mem_cons_self ..)
  have := C1 (l := l) (m := m.erase a) h2 fun x hx => by
   have hxa : x ≠ a := fun e => h1 (e ▸ hx)
   exact (List.mem_erase_of_ne hxa).2 (hs x (List.mem_cons_of_mem _ hx))
  rw [List.length_erase_of_mem ha] at this
  have := List.length_pos_of_mem ha
  simp; omega
def yR (B : List Nd) (s : Int) : Nat → List Int
 | 0 => []
 | m + 1 => yR B s m ++ (Pu m).map fun l => gX B (Ol l) m (B.length + 1) s
theorem P7 (B : List Nd) (s : Int) : ∀ m, (yR B s m).length + 1 = 2 ^ m
 | 0 => rfl
 | m + 1 => by
  have := P7 B s m
  simp [yR, X4, Nat.pow_succ]; omega
theorem I0 {B : List Nd} {s x : Int} : ∀ {m k : Nat} {l : List Bool}, k < m → l.length = k → gX B (Ol l) k (B.length + 1) s = x → x ∈ yR B s m
 | m + 1, k, l, hk, hl, hx => by
  unfold yR
  rw [List.mem_append]
  by_cases h : k = m
  ·subst h
   exact .inr (List.mem_map.2 ⟨l, Ae hl, hx⟩)
  ·exact .inl (I0 (by omega) hl hx)
theorem Jg {n : Nat} {B : List Nd} (hB : WFN n B) {s : Int} {L : List Nat} (hn : L.Nodup) (h : ∀ i ∈ L, gN B s i) : L.length + 1 ≤ 2 ^ n := by
 have h1 : (L.map (fun i : Nat => (i : Int))).Nodup := hn.map _ fun a b hab e => hab (Int.ofNat.inj e)
 have := C1 (m := yR B s n) h1 fun x hx => by
  obtain ⟨i, hi, rfl⟩ := List.mem_map.1 hx
  have hr := h i hi
  have hg := List.getElem?_eq_getElem hr.lt
  obtain ⟨g1, g2, _⟩ := hB.ok _ _ hg
  obtain ⟨_, _, l, h3, h4⟩ := Cv hB hr _ hg
  have hlt := hr.lt
  have he : ((B[i].ev.toNat : Nat) : Int) = B[i].ev := by omega
  exact I0 (k := B[i].ev.toNat) (l := l) (by omega) h3 (by rw [he]; exact h4)
 have h2 := P7 B s n
 simp at this
 omega
def Kr (B B' : List Nd) (s : Int) : Prop := ∀ i, B.length ≤ i → i < B'.length → gN B' s i
theorem tL {n : Nat} {B B' : List Nd} (hB : WFN n B') (hp : B <+: B') {s : Int} (h : Kr B B' s) : B'.length + 1 ≤ B.length + 2 ^ n := by
 have := Jg hB (s := s) (L := List.range' B.length (B'.length - B.length)) (List.nodup_range' ..) fun i hi => by
  rw [List.mem_range'_1] at hi
  have := cP hp
  exact h i hi.1 (by omega)
 have := cP hp
 simp at *
 omega
end Go.SX
namespace Go.SX
def A9 (B : List Nd) (e s0 s1 : Int) (B' : List Nd) (s : Int) : Prop :=
 s0 = s1 ∧ B' = B ∧ s = s0 ∨ s0 ≠ s1 ∧ (∃ k : Nat, B[k]? = some ⟨e, s0, s1⟩ ∧ s = k) ∧ B' = B ∨ s0 ≠ s1 ∧ (⟨e, s0, s1⟩ : Nd) ∉ B ∧ B' = B ++ [⟨e, s0, s1⟩] ∧ s = B.length
theorem A9.res {n : Int} {B B' : List Nd} {e s0 s1 s : Int} (h : A9 B e s0 s1 B' s) (hB : WFN n B) (he : 0 ≤ e ∧ e < n) (h0 : St B.length s0) (h1 : St B.length s1) (t0 : e < cD n B s0) (t1 : e < cD n B s1) : yY n B e (fun σ => if σ e then cM σ B s1 else cM σ B s0) B' s := by
 rcases h with ⟨rfl, rfl, rfl⟩ | ⟨_, ⟨k, hk, rfl⟩, rfl⟩ | ⟨hne, hm, rfl, rfl⟩
 ·exact Xg hB h0 (by omega)
 ·exact Tc hB hk
 ·exact Rk hB (d := ⟨e, s0, s1⟩) he hne h0 h1 t0 t1 hm
theorem A9.len {B B' : List Nd} {e s0 s1 s : Int} (h : A9 B e s0 s1 B' s) : B'.length ≤ B.length + 1 := by
 rcases h with ⟨rfl, rfl, rfl⟩ | ⟨_, ⟨k, hk, rfl⟩, rfl⟩ | ⟨hne, hm, rfl, rfl⟩ <;> simp
theorem A9.new {B B1 B2 B3 : List Nd} {e s0 s1 s : Int} (h : A9 B2 e s0 s1 B3 s) (p1 : B1 <+: B2) (h0 : Kr B B1 s0) (h1 : Kr B1 B2 s1) : Kr B B3 s := by
 have key : ∀ i, B.length ≤ i → i < B2.length → gN B2 s0 i ∨ gN B2 s1 i := fun i hi hj => by
  by_cases hc : i < B1.length
  ·exact .inl ((h0 i hi hc).pre p1)
  ·exact .inr (h1 i (by omega) hj)
 rcases h with ⟨rfl, rfl, rfl⟩ | ⟨_, ⟨k, hk, rfl⟩, rfl⟩ | ⟨hne, hm, rfl, rfl⟩
 ·intro i hi hj
  rcases key i hi hj with h | h <;> exact h
 ·intro i hi hj
  rcases key i hi hj with h | h
  ·exact .no hk h
  ·exact .yes hk h
 ·intro i hi hj
  have hg : (B2 ++ [(⟨e, s0, s1⟩ : Nd)])[B2.length]? = some ⟨e, s0, s1⟩ := by simp
  have hp : B2 <+: B2 ++ [(⟨e, s0, s1⟩ : Nd)] := List.prefix_append _ _
  by_cases hc : i < B2.length
  ·rcases key i hi hc with h | h
   ·exact .no hg (h.pre hp)
   ·exact .yes hg (h.pre hp)
  ·have : i = B2.length := by simp at hj; omega
   subst this
   exact .here hg
theorem Z4 (B : List Nd) (s : Int) : Kr B B s := fun i h1 h2 => by omega
def eL (l : List Int) : List Value := l.map (.int .i64)
def Co (n : Nat) : List CK := List.replicate n (.int .i64)
theorem zI : ∀ (l : List Int), kdB (Co l.length) (eL l) = true
 | [] => rfl
 | a :: l => by
  have := zI l
  simp [Co, eL, List.replicate_succ, kdB, CK.is] at *
  exact this
theorem lB : ∀ {l m : List Int}, eL l = eL m → l = m
 | [], [], _ => rfl
 | [], _ :: _, h => by simp [eL] at h
 | _ :: _, [], h => by simp [eL] at h
 | a :: l, b :: m, h => by
  simp only [eL, List.map_cons, List.cons.injEq, Value.int.injEq, true_and] at h
  rw [h.1, lB h.2]
def Vp (n : Nat) (e : MapEntry) (k : List Int) (v : Int) : Prop := k.length = n ∧ e.key = .agg (eL k).toArray ∧ e.val = .int .i64 v
theorem tA (n : Nat) (k : List Int) (hk : k.length = n) : ∀ (es : List MapEntry) (i : Nat), (∀ e ∈ es, ∃ k' v, Vp n e k' v) →
  (kK (Co n) (eL k) es i = some none ∧ ∀ e ∈ es, ∀ v, ¬ Vp n e k v) ∨ ∃ j v, kK (Co n) (eL k) es i = some (some (i + j, .int .i64 v)) ∧ ∃ e, es[j]? = some e ∧ Vp n e k v
 | [], i, _ => .inl ⟨rfl, by simp⟩
 | e :: es, i, h => by
  obtain ⟨k', v, h1, h2, h3⟩ := h e (List.mem_cons_self ..)
  have hkd : kdB (Co n) (eL k').toArray.toList = true := by subst h1; simpa using zI k'
  have hkk : kdB (Co n) (eL k) = true := by subst hk; exact zI k
  have hs : yI (eL k) (eL k').toArray.toList = decide (k = k') := by
   have := lZ (tW hkk) (tW hkd)
   by_cases e : k = k'
   ·rw [decide_eq_true e]; exact this.2 (by rw [e])
   ·rw [decide_eq_false e, ← Bool.not_eq_true]
    intro hs
    exact e (lB (by simpa using this.1 hs))
  by_cases ek : k = k'
  ·subst ek
   refine .inr ⟨0, v, ?_, e, rfl, hk, h2, h3⟩
   unfold kK
   rw [h2]
   simp only [hkd, hs, decide_true, h3, Nat.add_zero]
  ·have hf : kK (Co n) (eL k) (e :: es) i = kK (Co n) (eL k) es (i + 1) := by
    conv => lhs; unfold kK
    rw [h2]
    simp only [hkd, hs, decide_eq_false ek]
   rw [hf]
   rcases tA n k hk es (i + 1) (fun x hx => h x (List.mem_cons_of_mem _ hx)) with ⟨g1, g2⟩ | ⟨j, u, g1, x, g2, g3⟩
   ·refine .inl ⟨g1, fun x hx u hu => ?_⟩
    rcases List.mem_cons.1 hx with rfl | hx
    ·have := hu.2.1
     rw [h2] at this
     injection this with this
     exact ek (lB (by simpa using congrArg Array.toList this)).symm
    ·exact g2 x hx u hu
   ·exact .inr ⟨j + 1, u, by rw [g1, show i + 1 + j = i + (j + 1) by omega], x, by simpa using g2, g3⟩
def Yn (e : MapEntry) (k v : Int) : Prop := e.key = .int .i64 k ∧ e.val = .int .i64 v
theorem P6 (k : Int) : ∀ (es : List MapEntry) (i : Nat), (∀ e ∈ es, ∃ k' v, Yn e k' v) →
  (Instr.findNow (.int .i64) (.int .i64 k) es i = some none ∧ ∀ e ∈ es, ∀ v, ¬ Yn e k v) ∨ ∃ j v, Instr.findNow (.int .i64) (.int .i64 k) es i = some (some (i + j, .int .i64 v)) ∧ ∃ e, es[j]? = some e ∧ Yn e k v
 | [], i, _ => .inl ⟨rfl, by simp⟩
 | e :: es, i, h => by
  obtain ⟨k', v, h2, h3⟩ := h e (List.mem_cons_self ..)
  by_cases ek : k = k'
  ·subst ek
   refine .inr ⟨0, v, ?_, e, rfl, h2, h3⟩
   unfold Instr.findNow
   simp [h2, Instr.sameNow, h3]
  ·have hf : Instr.findNow (.int .i64) (.int .i64 k) (e :: es) i = Instr.findNow (.int .i64) (.int .i64 k) es (i + 1) := by
    conv => lhs; unfold Instr.findNow
    have : (k == k') = false := by simp [ek]
    simp [h2, Instr.sameNow, this]
   rw [hf]
   rcases P6 k es (i + 1) (fun x hx => h x (List.mem_cons_of_mem _ hx)) with ⟨g1, g2⟩ | ⟨j, u, g1, x, g2, g3⟩
   ·refine .inl ⟨g1, fun x hx u hu => ?_⟩
    rcases List.mem_cons.1 hx with rfl | hx
    ·have := hu.1
     rw [h2] at this
     injection this with _ this
     exact ek this.symm
    ·exact g2 x hx u hu
   ·exact .inr ⟨j + 1, u, by rw [g1, show i + 1 + j = i + (j + 1) by omega], x, by simpa using g2, g3⟩
def ndK (d : Nd) : List Int := [d.ev, d.no, d.yes]
theorem Ub {a b : Nd} (h : ndK a = ndK b) : a = b := by
 cases a; cases b; simp [ndK] at h; simp [h]
structure M3 (es : List MapEntry) (B : List Nd) : Prop where
 kd : ∀ e ∈ es, ∃ (k : Nat) (d : Nd), B[k]? = some d ∧ Vp 3 e (ndK d) k
 all : ∀ d ∈ B, ∃ e ∈ es, ∃ v, Vp 3 e (ndK d) v
theorem J4 : M3 [] [] := ⟨by simp, by simp⟩
theorem Jx {es : List MapEntry} {B : List Nd} (h : M3 es B) (d : Nd) :
  (kK (Co 3) (eL (ndK d)) es 0 = some none ∧ d ∉ B) ∨ ∃ (i k : Nat), kK (Co 3) (eL (ndK d)) es 0 = some (some (i, .int .i64 k)) ∧ B[k]? = some d := by
 rcases tA 3 (ndK d) rfl es 0 (fun e he => by obtain ⟨k, d, _, h2⟩ := h.kd e he; exact ⟨_, _, h2⟩) with ⟨h1, h2⟩ | ⟨j, v, h1, e, h2, h3⟩
 ·refine .inl ⟨h1, fun hm => ?_⟩
  obtain ⟨e, he, v, hv⟩ := h.all d hm
  exact h2 e he v hv
 ·obtain ⟨k, d', h4, h5⟩ := h.kd e (List.mem_of_getElem? h2)
  have e1 := h3.2.1
  rw [h5.2.1] at e1
  injection e1 with e1
  have e2 : d' = d := Ub (lB (by simpa using congrArg Array.toList e1))
  subst e2
  have e3 := h3.2.2
  rw [h5.2.2] at e3
  injection e3 with _ e3
  exact .inr ⟨0 + j, k, by rw [h1, e3], h4⟩
theorem Hi {es : Array MapEntry} {B : List Nd} (h : M3 es.toList B) (d : Nd) (clk : Nat) : M3 (es.push ⟨.agg (eL (ndK d)).toArray, .int .i64 B.length, clk⟩).toList (B ++ [d]) := by
 refine ⟨fun e he => ?_, fun x hx => ?_⟩
 ·simp only [Array.toList_push, List.mem_append, List.mem_singleton] at he
  rcases he with he | rfl
  ·obtain ⟨k, d', h1, h2⟩ := h.kd e he
   exact ⟨k, d', by rw [List.getElem?_append_left (List.getElem?_eq_some_iff.1 h1).1]; exact h1, h2⟩
  ·exact ⟨B.length, d, by simp, rfl, rfl, rfl⟩
 ·simp only [Array.toList_push, List.mem_append, List.mem_singleton] at hx ⊢
  rcases hx with hx | rfl
  ·obtain ⟨e, he, v, hv⟩ := h.all x hx
   exact ⟨e, .inl he, v, hv⟩
  ·exact ⟨_, .inr rfl, _, rfl, rfl, rfl⟩
structure F3 (n : Int) (B : List Nd) (st : Int) (es : List MapEntry) : Prop where
 h : ∀ e ∈ es, ∃ p q s, Vp 2 e [p, q] s ∧ St B.length p ∧ St B.length q ∧ St B.length s ∧ min (cD n B p) (cD n B q) ≤ cD n B s ∧ ∀ σ, cM σ B s = opS st (cM σ B p) (cM σ B q)
theorem Bi {n : Int} {B : List Nd} {st : Int} : F3 n B st [] := ⟨by simp⟩
theorem F3.pre {n : Int} {B B' : List Nd} {st : Int} {es : List MapEntry} (h : F3 n B st es) (hp : B <+: B') : F3 n B' st es := ⟨fun e he => by
 obtain ⟨p, q, s, h1, h2, h3, h4, h5, h6⟩ := h.h e he
 have hl := cP hp
 refine ⟨p, q, s, h1, h2.mono hl, h3.mono hl, h4.mono hl, ?_, fun σ => ?_⟩
 ·rw [cY hp h2.2, cY hp h3.2, cY hp h4.2]; exact h5
 ·rw [bY hp h2.2, bY hp h3.2, bY hp h4.2]; exact h6 σ⟩
theorem Be {n : Int} {B : List Nd} {st : Int} {es : List MapEntry} (h : F3 n B st es) (p q : Int) :
  kK (Co 2) (eL [p, q]) es 0 = some none ∨ ∃ (i : Nat) (s : Int), kK (Co 2) (eL [p, q]) es 0 = some (some (i, .int .i64 s)) ∧ St B.length s ∧ min (cD n B p) (cD n B q) ≤ cD n B s ∧ ∀ σ, cM σ B s = opS st (cM σ B p) (cM σ B q) := by
 rcases tA 2 [p, q] rfl es 0 (fun e he => by obtain ⟨p, q, s, h1, _⟩ := h.h e he; exact ⟨_, _, h1⟩) with ⟨h1, h2⟩ | ⟨j, v, h1, e, h2, h3⟩
 ·exact .inl h1
 ·obtain ⟨p', q', s, h4, h5, h6, h7, h8, h9⟩ := h.h e (List.mem_of_getElem? h2)
  have e1 := h3.2.1
  rw [h4.2.1] at e1
  injection e1 with e1
  have e2 := lB (by simpa using congrArg Array.toList e1 : eL [p', q'] = eL [p, q])
  simp at e2
  obtain ⟨rfl, rfl⟩ := e2
  have e3 := h3.2.2
  rw [h4.2.2] at e3
  injection e3 with _ e3
  subst e3
  exact .inr ⟨0 + j, s, h1, h7, h8, h9⟩
theorem Il {es : Array MapEntry} {clk : Nat} {kv vv : Value} (r : Option (Nat × Value)) : ∃ es' clk', putO es clk kv vv r = .map es' clk' ∧ ∀ e ∈ es'.toList, e ∈ es.toList ∨ e.key = kv ∧ e.val = vv := by
 cases r with
 | none => exact ⟨_, _, rfl, fun e he => by
   simp only [Array.toList_push, List.mem_append, List.mem_singleton] at he
   rcases he with he | rfl
   ·exact .inl he
   ·exact .inr ⟨rfl, rfl⟩⟩
 | some p => exact ⟨_, _, rfl, fun e he => by
   obtain ⟨i, hi, rfl⟩ := List.getElem_of_mem he
   simp only [Array.getElem_toList, Array.getElem_modify]
   split
   ·exact .inr ⟨rfl, rfl⟩
   ·exact .inl (by simp)⟩
theorem Kz {n : Int} {B : List Nd} {st : Int} {es es' : List MapEntry} (h : F3 n B st es) {p q s : Int} (hes : ∀ e ∈ es', e ∈ es ∨ e.key = .agg (eL [p, q]).toArray ∧ e.val = .int .i64 s) (h1 : St B.length p) (h2 : St B.length q) (h3 : St B.length s) (h4 : min (cD n B p) (cD n B q) ≤ cD n B s) (h5 : ∀ σ, cM σ B s = opS st (cM σ B p) (cM σ B q)) : F3 n B st es' := ⟨fun e he => by
 rcases hes e he with h6 | ⟨h6, h7⟩
 ·exact h.h e h6
 ·exact ⟨p, q, s, ⟨rfl, h6, h7⟩, h1, h2, h3, h4, h5⟩⟩
theorem dP {α : Type} {n : Nat} {P : Nat → α → Prop} {R : Nat → α → α → Prop} (a : α) (h0 : P 0 a) (step : ∀ i a, i < n → P i a → ∃ b, P (i + 1) b ∧ R i a b) : ∃ f : Nat → α, f 0 = a ∧ (∀ i, i ≤ n → P i (f i)) ∧ ∀ i, i < n → R i (f i) (f (i + 1)) := by
 classical
 have key : ∀ i a, ∃ b, i < n → P i a → P (i + 1) b ∧ R i a b := fun i a => by
  by_cases h : i < n ∧ P i a
  ·obtain ⟨b, hb⟩ := step i a h.1 h.2
   exact ⟨b, fun _ _ => hb⟩
  ·exact ⟨a, fun h1 h2 => absurd ⟨h1, h2⟩ h⟩
 let g : Nat → α → α := fun i a => Classical.choose (key i a)
 have hg : ∀ i a, i < n → P i a → P (i + 1) (g i a) ∧ R i a (g i a) := fun i a => Classical.choose_spec (key i a)
 let f : Nat → α := fun i => Nat.rec a (fun i x => g i x) i
 have hP : ∀ i, i ≤ n → P i (f i) := by
  intro i
  induction i with
  | zero => intro _; exact h0
  | succ i ih => intro h; exact (hg i (f i) (by omega) (ih (by omega))).1
 exact ⟨f, rfl, hP, fun i h => (hg i (f i) h (hP i (by omega))).2⟩
end Go.SX
namespace Go.SX
abbrev PM := Int → Option Int
def upM (P : PM) (s k : Int) : PM := fun x => if x = s then some k else P x
inductive Q1 (B : List Nd) : PM → List Nd → Int → PM → List Nd → Int → Prop
 | hit {P : PM} {O : List Nd} {s k : Int} (h : P s = some k) : Q1 B P O s P O k
 | new {P P1 P2 : PM} {O O1 O2 : List Nd} {k : Nat} {d : Nd} {k1 k2 : Int} (h : P k = none) (hd : B[k]? = some d) (h1 : Q1 B P O d.no P1 O1 k1) (h2 : Q1 B P1 O1 d.yes P2 O2 k2) :
   Q1 B P O k (upM P2 k O2.length) (O2 ++ [⟨d.ev, k1, k2⟩]) O2.length
structure Cc (n : Int) (B : List Nd) (P : PM) (O : List Nd) : Prop where
 neg : P (-1) = some (-1) ∧ P (-2) = some (-2)
 img : ∀ s k, P s = some k → St B.length s ∧ St O.length k ∧ (∀ σ, cM σ O k = cM σ B s) ∧ cD n O k = cD n B s
 inj : ∀ s s' k, P s = some k → P s' = some k → s = s'
 nodes : ∀ (i : Nat) (x : Nd), O[i]? = some x → ∃ (s : Nat) (d : Nd), P s = some (i : Int) ∧ B[s]? = some d ∧ x.ev = d.ev ∧ P d.no = some x.no ∧ P d.yes = some x.yes
 wf : WFN n O
theorem pE {n : Int} {B : List Nd} (hB : WFN n B) {P P' : PM} {O O' : List Nd} {s k : Int} (h : Q1 B P O s P' O' k) : ∀ x, s < x → P' x = P x := by
 induction h with
 | hit h => intro x _; rfl
 | new h hd h1 h2 ih1 ih2 =>
  intro x hx
  obtain ⟨_, _, _, g4, g5, _, _⟩ := hB.ok _ _ hd
  have a1 := g4.2
  have a2 := g5.2
  unfold upM
  rw [if_neg (by omega), ih2 x (by omega), ih1 x (by omega)]
theorem vE {n : Int} {B : List Nd} (hB : WFN n B) {P P' : PM} {O O' : List Nd} {s k : Int} (h : Q1 B P O s P' O' k) : Cc n B P O → Cc n B P' O' ∧ (∀ x y, P x = some y → P' x = some y) ∧ O <+: O' ∧ P' s = some k ∧ Kr O O' k := by
 induction h with
 | hit h => intro hI; exact ⟨hI, fun _ _ h => h, List.prefix_refl _, h, Z4 _ _⟩
 | @new P P1 P2 O O1 O2 q d k1 k2 h hd h1 h2 ih1 ih2 =>
  intro hI
  obtain ⟨I1, m1, p1, e1, n1⟩ := ih1 hI
  obtain ⟨I2, m2, p2, e2, n2⟩ := ih2 I1
  obtain ⟨g1, g2, g3, g4, g5, g6, g7⟩ := hB.ok _ _ hd
  have e1' := m2 _ _ e1
  have a1 := g4.2
  have a2 := g5.2
  have hnone : P2 q = none := by rw [pE hB h2 q (by omega), pE hB h1 q (by omega), h]
  obtain ⟨_, b2, b3, b4⟩ := I2.img _ _ e1'
  obtain ⟨_, c2, c3, c4⟩ := I2.img _ _ e2
  have hne : k1 ≠ k2 := fun e => g3 (I2.inj _ _ _ e1' (e ▸ e2))
  have hm : (⟨d.ev, k1, k2⟩ : Nd) ∉ O2 := fun hx => by
   obtain ⟨i, hi, hx⟩ := List.getElem_of_mem hx
   obtain ⟨s', d', f1, f2, f3, f4, f5⟩ := I2.nodes i _ (List.getElem?_eq_getElem hi)
   rw [hx] at f3 f4 f5
   have q1 := I2.inj _ _ _ f4 e1'
   have q2 := I2.inj _ _ _ f5 e2
   have hdd : d' = d := by cases d; cases d'; simp at f3 q1 q2; simp [f3, q1, q2]
   subst hdd
   have : s' = q := (List.getElem?_inj (List.getElem?_eq_some_iff.1 f2).1 hB.nd).1 (by rw [f2, hd])
   subst this
   rw [hnone] at f1; cases f1
  have hw := Ey I2.wf (d := ⟨d.ev, k1, k2⟩) ⟨g1, g2⟩ hne b2 c2 (by rw [b4]; exact g6) (by rw [c4]; exact g7) hm
  have hp : O2 <+: O2 ++ [(⟨d.ev, k1, k2⟩ : Nd)] := List.prefix_append _ _
  have hg : (O2 ++ [(⟨d.ev, k1, k2⟩ : Nd)])[O2.length]? = some ⟨d.ev, k1, k2⟩ := by simp
  have hqlt := (List.getElem?_eq_some_iff.1 hd).1
  have hup : ∀ x y, P2 x = some y → upM P2 q O2.length x = some y := fun x y hxy => by
   unfold upM
   rw [if_neg (fun e => by rw [e, hnone] at hxy; cases hxy)]; exact hxy
  refine ⟨⟨⟨hup _ _ I2.neg.1, hup _ _ I2.neg.2⟩, fun s k hk => ?_, fun s s' k hk hk' => ?_, fun i x hx => ?_, hw⟩, fun x y hxy => hup _ _ (m2 _ _ (m1 _ _ hxy)), p1.trans (p2.trans hp), by unfold upM; rw [if_pos rfl], ?_⟩
  ·unfold upM at hk
   split at hk
   ·rename_i e
    injection hk with hk; subst hk; subst e
    refine ⟨⟨by omega, by omega⟩, ⟨by omega, by simp; omega⟩, fun σ => ?_, ?_⟩
    ·rw [lP hw.st hg, lP hB.st hd, bY hp b2.2, bY hp c2.2, b3, c3]
    ·rw [pL hg, pL hd]
   ·obtain ⟨f1, f2, f3, f4⟩ := I2.img _ _ hk
    refine ⟨f1, f2.mono (by simp), fun σ => ?_, ?_⟩
    ·rw [bY hp f2.2, f3]
    ·rw [cY hp f2.2, f4]
  ·unfold upM at hk hk'
   split at hk
   ·rename_i e
    split at hk'
    ·rename_i e'; rw [e, e']
    ·injection hk with hk; subst hk
     have := (I2.img _ _ hk').2.1.2
     omega
   ·split at hk'
    ·injection hk' with hk'; subst hk'
     have := (I2.img _ _ hk).2.1.2
     omega
    ·exact I2.inj _ _ _ hk hk'
  ·rw [List.getElem?_append] at hx
   split at hx
   ·obtain ⟨s, d', f1, f2, f3, f4, f5⟩ := I2.nodes i x hx
    exact ⟨s, d', hup _ _ f1, f2, f3, hup _ _ f4, hup _ _ f5⟩
   ·have hi : i = O2.length := by
     have := (List.getElem?_eq_some_iff.1 hx).1
     simp at this; omega
    subst hi
    simp at hx; subst hx
    exact ⟨q, d, by unfold upM; rw [if_pos rfl], hd, rfl, hup _ _ e1', hup _ _ e2⟩
  ·exact A9.new (B2 := O2) (s0 := k1) (s1 := k2) (e := d.ev) (.inr (.inr ⟨hne, hm, rfl, rfl⟩)) p2 n1 n2
theorem Nu {B : List Nd} {P P1 : PM} {O O1 : List Nd} {s k1 : Int} (h1 : Q1 B P O s P1 O1 k1) : ∀ {P2 : PM} {O2 : List Nd} {k2 : Int}, Q1 B P O s P2 O2 k2 → P1 = P2 ∧ O1 = O2 ∧ k1 = k2 := by
 induction h1 with
 | hit h =>
  intro P2 O2 k2 h2
  cases h2 with
  | hit h' => rw [h] at h'; injection h' with h'; exact ⟨rfl, rfl, h'⟩
  | new h' _ _ _ => rw [h] at h'; cases h'
 | @new P Pa Pb O Oa Ob q d ka kb h hd ha hb iha ihb =>
  intro P2 O2 k2 h2
  generalize hq : (q : Int) = s at h2
  cases h2 with
  | hit h' => rw [← hq, h] at h'; cases h'
  | @new _ Pc Pd _ Oc Od q' d' kc kd h' hd' hc hd2 =>
   have e : q = q' := by omega
   subst e
   rw [hd] at hd'; injection hd' with hd'; subst hd'
   obtain ⟨rfl, rfl, rfl⟩ := iha hc
   obtain ⟨rfl, rfl, rfl⟩ := ihb hd2
   exact ⟨rfl, rfl, rfl⟩
def idM (m : Nat) : PM := fun s => if -2 ≤ s ∧ s < (m : Int) then some s else none
theorem Tz {B : List Nd} {n : Int} (hB : WFN n B) {P P' : PM} {O O' : List Nd} {s k : Int} (h : Q1 B P O s P' O' k) : Cc n B P O → ∀ N, O' <+: N → Q1 N (idM O.length) O k (idM O'.length) O' k := by
 induction h with
 | hit h =>
  intro hI N hN
  have := (hI.img _ _ h).2.1
  exact .hit (by unfold idM; rw [if_pos ⟨this.1, this.2⟩])
 | @new P P1 P2 O O1 O2 q d k1 k2 h hd h1 h2 ih1 ih2 =>
  intro hI N hN
  obtain ⟨I1, _, p1, _, _⟩ := vE hB h1 hI
  obtain ⟨I2, _, p2, _, _⟩ := vE hB h2 I1
  have hp : O2 <+: O2 ++ [(⟨d.ev, k1, k2⟩ : Nd)] := List.prefix_append _ _
  have c1 := ih1 hI N (p2.trans (hp.trans hN))
  have c2 := ih2 I1 N (hp.trans hN)
  have hl1 := cP p1
  have hl2 := cP p2
  have hg : N[O2.length]? = some ⟨d.ev, k1, k2⟩ := zO hN (by simp)
  have := Q1.new (B := N) (P := idM O.length) (k := O2.length) (by unfold idM; rw [if_neg (by omega)]) hg c1 c2
  have e : upM (idM O2.length) (O2.length : Nat) (O2.length : Nat) = idM (O2 ++ [(⟨d.ev, k1, k2⟩ : Nd)]).length := by
   funext x
   unfold upM idM
   rw [List.length_append]
   simp only [List.length_cons, List.length_nil]
   split
   ·rename_i hx; subst hx; rw [if_pos (by omega)]
   ·split
    ·rw [if_pos (by omega)]
    ·rw [if_neg (by omega)]
  rw [e] at this
  exact this
theorem tS {n : Int} {B : List Nd} : Cc n B (idM 0) [] := by
 refine ⟨⟨rfl, rfl⟩, fun s k h => ?_, fun s s' k h h' => ?_, fun i x h => by simp at h, Qz n⟩
 ·unfold idM at h
  split at h
  ·rename_i hs
   injection h with h; subst h
   exact ⟨⟨hs.1, by omega⟩, ⟨hs.1, by simpa using hs.2⟩, fun σ => by rw [cN (by omega), cN (by omega)], by rw [kZ (by omega), kZ (by omega)]⟩
  ·cases h
 ·unfold idM at h h'
  split at h
  ·split at h'
   ·injection h with h; injection h' with h'; omega
   ·cases h'
  ·cases h
structure R6 (n : Nat) (N : List Nd) (k : Int) : Prop where
 wf : WFN n N
 st : St N.length k
 few : N.length + 1 ≤ 2 ^ n
 again : Q1 N (idM 0) [] k (idM N.length) N k
theorem Gp {n : Nat} {B : List Nd} (hB : WFN n B) {P' : PM} {N : List Nd} {s k : Int} (h : Q1 B (idM 0) [] s P' N k) : R6 n N k ∧ ∀ σ, cM σ N k = cM σ B s := by
 obtain ⟨I, _, p, e, w⟩ := vE (n := n) hB h tS
 obtain ⟨_, h2, h3, _⟩ := I.img _ _ e
 refine ⟨⟨I.wf, h2, by have := tL I.wf p w; simpa using this, Tz (n := n) hB h tS N (List.prefix_refl _)⟩, h3⟩
structure Lh (es : List MapEntry) (P : PM) : Prop where
 kd : ∀ e ∈ es, ∃ s v, Yn e s v ∧ P s = some v
 all : ∀ s v, P s = some v → ∃ e ∈ es, Yn e s v
theorem sN {es : List MapEntry} {P : PM} (h : Lh es P) (s : Int) :
  (Instr.findNow (.int .i64) (.int .i64 s) es 0 = some none ∧ P s = none) ∨ ∃ (i : Nat) (v : Int), Instr.findNow (.int .i64) (.int .i64 s) es 0 = some (some (i, .int .i64 v)) ∧ P s = some v := by
 rcases P6 s es 0 (fun e he => by obtain ⟨s, v, h1, _⟩ := h.kd e he; exact ⟨_, _, h1⟩) with ⟨h1, h2⟩ | ⟨j, v, h1, e, h2, h3⟩
 ·refine .inl ⟨h1, ?_⟩
  cases hp : P s with
  | none => rfl
  | some v =>
   obtain ⟨e, he, hv⟩ := h.all s v hp
   exact (h2 e he v hv).elim
 ·obtain ⟨s', v', h4, h5⟩ := h.kd e (List.mem_of_getElem? h2)
  have e1 := h3.1
  rw [h4.1] at e1
  injection e1 with _ e1
  have e2 := h3.2
  rw [h4.2] at e2
  injection e2 with _ e2
  subst e1; subst e2
  exact .inr ⟨0 + j, v', h1, h5⟩
theorem Lu {es : Array MapEntry} {P : PM} (h : Lh es.toList P) {s k : Int} (hn : P s = none) (clk : Nat) : Lh (es.push ⟨.int .i64 s, .int .i64 k, clk⟩).toList (upM P s k) := by
 refine ⟨fun e he => ?_, fun x v hx => ?_⟩
 ·simp only [Array.toList_push, List.mem_append, List.mem_singleton] at he
  rcases he with he | rfl
  ·obtain ⟨x, v, h1, h2⟩ := h.kd e he
   refine ⟨x, v, h1, ?_⟩
   unfold upM
   rw [if_neg (fun e => by rw [e, hn] at h2; cases h2)]; exact h2
  ·exact ⟨s, k, ⟨rfl, rfl⟩, by unfold upM; rw [if_pos rfl]⟩
 ·simp only [Array.toList_push, List.mem_append, List.mem_singleton]
  unfold upM at hx
  split at hx
  ·rename_i e; injection hx with hx; subst hx; subst e
   exact ⟨_, .inr rfl, rfl, rfl⟩
  ·obtain ⟨e, he, hv⟩ := h.all x v hx
   exact ⟨e, .inl he, hv⟩
theorem A2 {n : Int} {B : List Nd} (hB : WFN n B) {σ : Int → Bool} : ∀ (f : Nat) (s : Int), St B.length s → s < f → cM σ B s = decide (gX B σ n f s = -2)
 | 0, s, hs, hf => by rw [cN (by omega)]; rfl
 | f + 1, s, hs, hf => by
  by_cases h : s < 0
  ·rw [cN h, eE _ (.inl h)]
  ·have hlt : s.toNat < B.length := by have := hs.2; omega
   have hg := List.getElem?_eq_getElem hlt
   have hss : ((s.toNat : Nat) : Int) = s := by omega
   obtain ⟨g1, g2, g3, g4, g5, g6, g7⟩ := hB.ok _ _ hg
   have e1 := lP (σ := σ) hB.st hg
   rw [hss] at e1
   have e3 := kY (σ := σ) (f := f) hg g2
   rw [hss] at e3
   rw [e1, e3]
   have a1 := g4.2
   have a2 := g5.2
   split
   ·exact A2 hB f _ (g5.mono (by omega)) (by omega)
   ·exact A2 hB f _ (g4.mono (by omega)) (by omega)
end Go.SX
namespace Go.SX
open Go.RowKit
variable {C : Cod}
structure Ek (w : World) (E : Env) (w' : World) (E' : Env) : Prop where
 F : ∀ b cs T z, w.heap[b]? = some (.cells cs T z) → w'.heap[b]? = some (.cells cs T z) ∧ (E.F b → E'.F b)
 β : E'.β = E.β
theorem Ek.cell {w w' : World} {E E' : Env} (h : Ek w E w' E') {b o : Nat} {v : Value} (hc : w.cell? ⟨b, o, none⟩ = some v) : w'.cell? ⟨b, o, none⟩ = some v ∧ (E.F b → E'.F b) := by
 obtain ⟨ob, h1, h2⟩ := cells_of_cell hc
 cases ob with
 | cells cs T z =>
  obtain ⟨h3, h4⟩ := h.F b cs T z h1
  exact ⟨(jY (h3.trans h1.symm)).trans hc, h4⟩
 | _ => simp [Obj.isCells] at h2
theorem Ek.row {w w' : World} {E E' : Env} (h : Ek w E w' E') {b : Nat} {cs : Array Value} {T : TypeId} (hr : Row w b cs T) : Row w' b cs T := by
 obtain ⟨z, h1, h2⟩ := hr
 exact ⟨z, (h.F b cs T z h1).1, h2⟩
theorem Ek.glob {w w' : World} {E E' : Env} (h : Ek w E w' E') (hG : pD C w E) : pD C w' E' := by
 refine ⟨fun g hg => ?_, fun g hg => ?_⟩
 ·obtain ⟨h1, ⟨cs, T, z, h2, h3⟩, h4⟩ := hG.1 g hg
  obtain ⟨h5, h6⟩ := h.F g cs T z h2
  exact ⟨h6 h1, ⟨cs, T, z, h5, h3⟩, h4⟩
 ·obtain ⟨h1, v, T, z, h2, h3⟩ := hG.2 g hg
  obtain ⟨h5, h6⟩ := h.F g _ T z h2
  exact ⟨h6 h1, v, T, z, h5, h3⟩
theorem eM.shed {D : aL C} {w w' : World} {E E' : Env} (hS : Ek w E w' E') {x : PV C} {v : Value} (h : eM D w E.F x v) : eM D w' E'.F x v := by
 induction h with
 | int k n => exact .int k n
 | bool b => exact .bool b
 | str l => exact .str l
 | lit v h => exact .lit v h
 | dslNil u a cap => exact .dslNil u a cap
 | dsl u xs b o cap cv hb hc hcell hden ih =>
  refine .dsl u xs b o cap cv (fun hx => ?_) hc (fun i x hx j pv hp => (hS.cell (hcell i x hx j pv hp)).1) ih
  cases xs with
  | nil => exact absurd rfl hx
  | cons x r =>
   have hn : 0 < (D.enc u x).length := by rw [D.enc_len]; exact D.n_pos u
   exact (hS.cell (hcell 0 x rfl 0 _ (List.getElem?_eq_getElem hn))).2 (hb hx)
 | fds u xs a h ih => exact .fds u xs a ih
theorem bE.shed {D : aL C} {w w' : World} {E E' : Env} (hS : Ek w E w' E') {l : List (PV C)} {vs : List Value} (h : bE D w E.F l vs) : bE D w' E'.F l vs :=
 ⟨h.1, fun j pv v hp hv => (h.2 j pv v hp hv).shed hS⟩
mutual
theorem Den.shed {D : aL C} {w w' : World} {E E' : Env} (hS : Ek w E w' E') : ∀ (x : SV C) (v : Value), Den D w E x v → Den D w' E' x v
 | .p x, v, h => by simp only [Den] at *; exact h.shed hS
 | .any, _, _ => by simp only [Den]
 | .ptr c o, v, h => by simp only [Den, hS.β] at *; exact h
 | .eptr c o n i f, v, h => by simp only [Den, hS.β] at *; exact h
 | .yieldv c, v, h => by simp only [Den, hS.β] at *; exact h
 | .mapp c, v, h => by simp only [Den, hS.β] at *; exact h
 | .dptr cells f, v, h => by
  simp only [Den] at *
  obtain ⟨b, o, rfl, hc⟩ := h
  refine ⟨b, o, rfl, fun j pv hp => ?_⟩
  obtain ⟨hb, cv, h1, h2⟩ := hc j pv hp
  exact ⟨(hS.cell h1).2 hb, cv, (hS.cell h1).1, h2.shed hS⟩
 | .slice c o n off len, v, h => by
  simp only [Den, hS.β] at *
  cases hb : E.β c with
  | loc b =>
   rw [hb] at h
   rcases h with h | ⟨cap, cs, T, h1, h2, h3, h4⟩
   ·exact .inl h
   ·exact .inr ⟨cap, cs, T, h1, h2, hS.row h3, h4⟩
  | _ => rw [hb] at h; exact h
 | .arr _ _ _, _, h => by simp only [Den] at h
 | .agg vs, v, h => by
  simp only [Den] at *
  obtain ⟨cs, h1, h2⟩ := h
  exact ⟨cs, h1, DenC.shed hS vs _ h2⟩
 | .fn f first captured, v, h => by
  simp only [Den] at *
  obtain ⟨xs, ys, h1, h2, h3⟩ := h
  exact ⟨xs, ys, h1, DenA.shed hS first _ h2, DenA.shed hS captured _ h3⟩
 | .iface t x, v, h => by
  simp only [Den] at *
  obtain ⟨u, h1, h2⟩ := h
  exact ⟨u, h1, Den.shed hS x _ h2⟩
 | .tuple vs, v, h => by
  simp only [Den] at *
  obtain ⟨xs, h1, h2⟩ := h
  exact ⟨xs, h1, DenA.shed hS vs _ h2⟩
theorem DenC.shed {D : aL C} {w w' : World} {E E' : Env} (hS : Ek w E w' E') : ∀ (l : List (SV C)) (vs : List Value), DenC D w E l vs → DenC D w' E' l vs
 | [], vs, h => by simp only [DenC] at *; exact h
 | x :: rest, vs, h => by
  have ih := DenC.shed (D := D) hS rest
  cases x with
  | arr u N xs =>
   simp only [DenC] at *
   obtain ⟨h0, v1, v2, h1, h2, h3⟩ := h
   exact ⟨h0, v1, v2, h1, h2.shed hS, ih _ h3⟩
  | p y => simp only [DenC] at *; obtain ⟨v, v2, h1, h2, h3, h4⟩ := h; exact ⟨v, v2, h1, h2, Den.shed hS _ _ h3, ih _ h4⟩
  | any => simp only [DenC] at *; obtain ⟨v, v2, h1, h2, h3, h4⟩ := h; exact ⟨v, v2, h1, h2, Den.shed hS _ _ h3, ih _ h4⟩
  | ptr c o => simp only [DenC] at *; obtain ⟨v, v2, h1, h2, h3, h4⟩ := h; exact ⟨v, v2, h1, h2, Den.shed hS _ _ h3, ih _ h4⟩
  | eptr c o n i f => simp only [DenC] at *; obtain ⟨v, v2, h1, h2, h3, h4⟩ := h; exact ⟨v, v2, h1, h2, Den.shed hS _ _ h3, ih _ h4⟩
  | dptr c f => simp only [DenC] at *; obtain ⟨v, v2, h1, h2, h3, h4⟩ := h; exact ⟨v, v2, h1, h2, Den.shed hS _ _ h3, ih _ h4⟩
  | slice c o n off len => simp only [DenC] at *; obtain ⟨v, v2, h1, h2, h3, h4⟩ := h; exact ⟨v, v2, h1, h2, Den.shed hS _ _ h3, ih _ h4⟩
  | agg l => simp only [DenC] at *; obtain ⟨v, v2, h1, h2, h3, h4⟩ := h; exact ⟨v, v2, h1, h2, Den.shed hS (.agg l) _ h3, ih _ h4⟩
  | fn f a b => simp only [DenC] at *; obtain ⟨v, v2, h1, h2, h3, h4⟩ := h; exact ⟨v, v2, h1, h2, Den.shed hS (.fn f a b) _ h3, ih _ h4⟩
  | iface t y => simp only [DenC] at *; obtain ⟨v, v2, h1, h2, h3, h4⟩ := h; exact ⟨v, v2, h1, h2, Den.shed hS (.iface t y) _ h3, ih _ h4⟩
  | tuple l => simp only [DenC] at *; obtain ⟨v, v2, h1, h2, h3, h4⟩ := h; exact ⟨v, v2, h1, h2, Den.shed hS (.tuple l) _ h3, ih _ h4⟩
  | yieldv c => simp only [DenC] at *; obtain ⟨v, v2, h1, h2, h3, h4⟩ := h; exact ⟨v, v2, h1, h2, Den.shed hS _ _ h3, ih _ h4⟩
  | mapp c => simp only [DenC] at *; obtain ⟨v, v2, h1, h2, h3, h4⟩ := h; exact ⟨v, v2, h1, h2, Den.shed hS _ _ h3, ih _ h4⟩
theorem DenA.shed {D : aL C} {w w' : World} {E E' : Env} (hS : Ek w E w' E') : ∀ (l : List (SV C)) (vs : List Value), DenA D w E l vs → DenA D w' E' l vs
 | [], vs, h => by simp only [DenA] at *; exact h
 | x :: rest, vs, h => by
  simp only [DenA] at *
  obtain ⟨v, v2, h1, h2, h3⟩ := h
  exact ⟨v, v2, h1, Den.shed hS x _ h2, DenA.shed hS rest _ h3⟩
end
section
variable {P : Program} {D : aL C} {tab : Tab C} {B : dZ} {E : Env} {σ : Nat → SV C} {H : Nat → HS C} {df : List Deferred} {a : Act} {w : World}
theorem Rel.takeMark {b : Nat} {bs : List Nat} (h : Rel D B E σ H (((b :: bs).map fun b => ⟨.collected b, #[]⟩) ++ B.ds) a w) :
  (Instr.takeDeferred b).run P w = .ok [] (w.putObj b (.deferred none)) ∧
  Rel D B { E with F := fun k => E.F k ∧ k ≠ b } σ H ((bs.map fun b => ⟨.collected b, #[]⟩) ++ B.ds) { a with defers := (bs.map fun b => ⟨.collected b, #[]⟩) ++ B.ds } (w.putObj b (.deferred none)) := by
 obtain ⟨bs', e, hnd, hm, hnm⟩ := h.marks
 have hbs : bs' = b :: bs := (sW _ _ (List.append_cancel_right e)).symm
 subst hbs
 obtain ⟨hF, hob, hge, hn0⟩ := hm b (by simp)
 have hlt : b < w.heap.size := h.sat.F b hF
 have hoth : ∀ k, k ≠ b → (w.putObj b (.deferred none)).heap[k]? = w.heap[k]? := fun k hk => World.putObj_heap_other hk
 have hS : Ek w E (w.putObj b (.deferred none)) { E with F := fun k => E.F k ∧ k ≠ b } := by
  refine ⟨fun k cs T z hk => ?_, rfl⟩
  have hkb : k ≠ b := fun e => by rw [e, hob] at hk; cases hk
  exact ⟨(hoth k hkb).trans hk, fun hf => ⟨hf, hkb⟩⟩
 have hown : ∀ c k, E.β c = .loc k → k ≠ b := fun c k e ek => (h.sat.own c k e).2 (ek ▸ hF)
 refine ⟨run_takeDeferred hob, ⟨fun i => Den.shed hS _ _ (h.den i), ⟨fun c => ?_, fun c k e => ?_, h.sat.inj, fun k hk => ?_, hS.glob h.sat.glob⟩, ?_, rfl, bs, rfl, (List.nodup_cons.1 hnd).2, fun k hk => ?_, fun hn => by cases hnm hn⟩⟩
 ·have hok := h.sat.ok c
  show HS.ok D _ _ (E.β c) _
  cases hb : E.β c with
  | fresh => rw [hb] at hok; exact hok
  | dead => rw [hb] at hok; exact hok
  | virt => rw [hb] at hok; exact hok
  | loc k =>
   rw [hb] at hok
   have hk := hown c k hb
   simp only [HS.ok] at hok ⊢
   cases hH : H c with
   | fresh => rw [hH] at hok; exact hok
   | dead => rw [hH] at hok; exact hok
   | vart _ vs => rw [hH] at hok; obtain ⟨cs, T, h1, h2⟩ := hok; exact ⟨cs, T, Kt.of (hoth k hk) h1, DenC.shed hS _ _ h2⟩
   | rows u xs => rw [hH] at hok; obtain ⟨cs, T, h1, h2, h3⟩ := hok; exact ⟨cs, T, Kt.of (hoth k hk) h1, h2, h3.shed hS⟩
   | obj o => rw [hH] at hok; obtain ⟨h1, h2⟩ := hok; exact ⟨(hoth k hk).trans h1, h2⟩
 ·have := h.sat.own c k e
  exact ⟨by simpa using this.1, fun hf => this.2 hf.1⟩
 ·have := h.sat.F k hk.1; simpa using this
 ·refine ⟨h.fr.os, h.fr.tape, h.fr.output, by simpa using h.fr.size, fun k hk ho => (hoth k (by omega)).trans (h.fr.same k hk ho), ⟨fun k hk => ?_, h.fr.late.β, fun c k e1 e2 cs T hcs => ?_⟩, fun k hk => h.fr.newF k hk.1, h.fr.newO⟩
  ·have := h.fr.late.F k hk
   have hkb : k ≠ b := fun e => hn0 (e ▸ hk)
   exact ⟨⟨this.1, hkb⟩, (hoth k hkb).trans this.2⟩
  ·obtain ⟨cs', T', h1, h2⟩ := h.fr.late.size c k e1 e2 cs T hcs
   exact ⟨cs', T', Row.of (hoth k (hown c k e2)) h1, h2⟩
 ·have hk' := hm k (List.mem_cons_of_mem _ hk)
  have hkb : k ≠ b := fun e => (List.nodup_cons.1 hnd).1 (e ▸ hk)
  exact ⟨⟨hk'.1, hkb⟩, (hoth k hkb).trans hk'.2.1, hk'.2.2⟩
theorem oC {F : Fence} {n : Nat} {fn : Func} {R : Ending → World → Prop} {u : FrameMode} (hu : u ≠ .run) : ∀ (bs : List Nat) (a : Act) (w : World) (E : Env), Rel D B E σ H ((bs.map fun b => ⟨.collected b, #[]⟩) ++ B.ds) a w →
  (∀ w' E', Rel D B E' σ H B.ds { a with defers := B.ds } w' → LeavesInM F n P fn a.tmps R B.ds u w') →
  LeavesInM F n P fn a.tmps R ((bs.map fun b => ⟨.collected b, #[]⟩) ++ B.ds) u w
 | [], a, w, E, h, hK => by
  have hd := h.defers
  exact hK w E ⟨h.den, h.sat, h.fr, rfl, uD.nil⟩
 | b :: bs, a, w, E, h, hK => by
  obtain ⟨h1, h2⟩ := h.takeMark (P := P)
  refine ⟨hu, .inl ⟨b, _, rfl, h1, ?_⟩⟩
  exact oC hu bs { a with defers := (bs.map fun b => ⟨.collected b, #[]⟩) ++ B.ds } _ _ h2 hK
theorem S2 {F : Fence} {n : Nat} {fn : Func} {R : Ending → World → Prop} {u : FrameMode} (hu : u ≠ .run) (h : Rel D B E σ H df a w)
  (hK : ∀ w' E', Rel D B E' σ H B.ds { a with defers := B.ds } w' → LeavesInM F n P fn a.tmps R B.ds u w') : LeavesInM F n P fn a.tmps R a.defers u w := by
 obtain ⟨bs, e, _⟩ := h.marks
 rw [h.defers, e]
 subst e
 exact oC hu bs a w E h hK
theorem qM {F : Fence} {n : Nat} {fn : Func} {R : Ending → World → Prop} (h : Rel D B E σ H df a w)
  (hK : ∀ w' E', Rel D B E' σ H [] { a with defers := [] } w' → ∃ v, (results fn a.tmps).run P w' = .ok v w' ∧ R (.returned v) w') (hds : B.ds = [] := by rfl) :
  LeavesInM F n P fn a.tmps R a.defers .returning w := by
 refine S2 (by simp) h fun w' E' hR => ?_
 rw [hds] at hR ⊢
 exact hK w' E' hR
end
end Go.SX
namespace Go.SX
set_option linter.unusedSectionVars false
set_option maxHeartbeats 1000000
open Go.RowKit
variable {C : Cod}
def Um : SV C := .p (.lit (.agg #[]))
def J0 : SV C → Bool
 | .p (.lit (.agg _)) => true
 | _ => false
def Fv (T : List (SV C)) : List Nat → Option Nat
 | [] => none
 | t :: l => match J0 (bI T t) with
  | true => some t
  | false => Fv T l
def rB (P : Program) {D : aL C} (A : Aux C D) (tab : Tab C) (K : DK C) (big : Nat) : List Oper → DK C
 | [] => K
 | ⟨dst, op, _, _, _, guard⟩ :: rest => fun tr T Hp => match Fv T (fF (aO op)) with
  | some t => rB P A tab K big rest (⟨dst, [t], [], []⟩ :: tr) (iV T dst Um) Hp
  | none => guard = none ∧ rH P A tab big (rB P A tab K big rest) dst op [] tr T Hp
def noW : List Ent → Bool
 | [] => true
 | e :: l => match e.wc with
  | [] => noW l
  | _ :: _ => false
structure q1c (P : Program) (D : aL C) (f : FuncId) (args : List (SV C)) (Hp : List (HS C)) (ch : List PanicEntry) (Hp' : List (HS C)) : Prop where
 run : (∀ args w, (callFunc f args).run P w = .ok (.enter f args) w) ∧ ∀ B σ df a w E, Rel D B E σ (aS Hp) df a w → ∀ vs, DenA D w E args vs →
  CallsIn (Fc none) 0 P f vs.toArray w fun e w' => ∃ E', e = .panicked ch ∧ Rel D B E' σ (aS Hp') df a w'
def Pj (all : List Oper) (dd : Nat) : DK C := fun tr T _ => yK all tr.reverse = true ∧ noW tr = true ∧ J0 (bI T dd) = true
def Wh (P : Program) {D : aL C} (A : Aux C D) (tab : Tab C) (R : jN C) (all : List Oper) (k : List (It C)) (big : Nat) : List Oper → DK C
 | ⟨some dd, op, _, _, _, none⟩ :: post => fun tr T Hp =>
  ∃ f args ch Hp', exec A tab op (aV T (aO op)) (mI Hp (aV T (aO op))) (hlen Hp) = .call f args ∧ q1c P D f args Hp ch Hp' ∧ R (.die ch :: k) (Er T.length) Hp' ∧
   rB P A tab (Pj all dd) big post (⟨some dd, fF (aO op), [], []⟩ :: tr) (tN T dd Um) Hp
 | _ => fun _ _ _ => False
def Fl (P : Program) {D : aL C} (A : Aux C D) (tab : Tab C) (R : jN C) (ops : List Oper) (k : List (It C)) (T : List (SV C)) (Hp : List (HS C)) : Prop :=
 P.follows .mixedOrders = true ∧ ∃ i, rB P A tab (Wh P A tab R ops k (hlen Hp + 1000) (ops.drop i)) (hlen Hp + 1000) (ops.take i) [] T Hp
section
variable {P : Program} {D : aL C} {tab : Tab C} {B : dZ} {E : Env} {σ : Nat → SV C} {H : Nat → HS C} {df : List Deferred} {a : Act} {w : World} {o : Oper} {r : Option Nat}
theorem xH {x : SV C} (h : J0 x = true) {v : Value} (hd : Den D w E x v) : False := by
 unfold J0 at h
 split at h
 ·simp only [Den] at hd
  cases hd with
  | lit _ h => simp [Value.oneCell'] at h
 ·cases h
theorem N9 {T : List (SV C)} : ∀ {l : List Nat} {t : Nat}, Fv T l = some t → t ∈ l ∧ J0 (bI T t) = true
 | [], t, h => by simp [Fv] at h
 | s :: l, t, h => by
  simp only [Fv] at h
  split at h
  ·rename_i hp
   injection h with h
   subst h
   exact ⟨by simp, hp⟩
  ·obtain ⟨h1, h2⟩ := N9 h
   exact ⟨List.mem_cons_of_mem _ h1, h2⟩
theorem Ev : ∀ {l : List Ent}, noW l = true → ∀ e ∈ l, e.wc = []
 | [], _, e, he => by simp at he
 | x :: l, h, e, he => by
  simp only [noW] at h
  split at h
  ·rename_i hx
   rcases List.mem_cons.1 he with rfl | he
   ·exact hx
   ·exact Ev h e he
  ·cases h
theorem kX (A : Aux C D) (hT : bH P D tab) {all : List Oper} {Q : Exit → Act → World → Prop} {N : Nat} {big : Nat} {K : DK C} : ∀ (rest : List Oper) (i : Nat) (tr : List Ent) (T : List (SV C)) (Hp : List (HS C)),
  (∀ j, j < rest.length → rest[j]? = all[i + j]?) → T.length = N → rB P A tab K big rest tr T Hp →
  ∃ (ss : List (Stp C)) (T' : List (SV C)) (Hp' : List (HS C)), ss.length = rest.length ∧ T'.length = N ∧ K ((ss.map (·.e)).reverse ++ tr) T' Hp' ∧
   (∀ j s, ss[j]? = some s → fT r P D B df Q N all (i + j) s (fO N (bI T, aS Hp) (ss.take j))) ∧ fO N (bI T, aS Hp) ss = (bI T', aS Hp')
 | [], i, tr, T, Hp, _, hN, h => ⟨[], T, Hp, rfl, hN, h, fun j s hs => by simp at hs, rfl⟩
 | o :: rest, i, tr, T, Hp, hall, hN, h => by
  have hi : all[i]? = some o := by have := hall 0 (by simp); simpa using this.symm
  have hrest : ∀ j, j < rest.length → rest[j]? = all[i + 1 + j]? := fun j hj => by
   have := hall (j + 1) (by simpa using hj)
   simp only [List.getElem?_cons_succ] at this
   rw [this]; congr 1; omega
  have fin : (∃ s : Stp C, fT r P D B df Q N all i s (bI T, aS Hp) ∧ s.e.d = o.dst ∧ rB P A tab K big rest (s.e :: tr) (iV T o.dst s.v) (dR Hp s.ws)) →
    ∃ (ss : List (Stp C)) (T' : List (SV C)) (Hp' : List (HS C)), ss.length = (o :: rest).length ∧ T'.length = N ∧ K ((ss.map (·.e)).reverse ++ tr) T' Hp' ∧
   (∀ j s, ss[j]? = some s → fT r P D B df Q N all (i + j) s (fO N (bI T, aS Hp) (ss.take j))) ∧ fO N (bI T, aS Hp) ss = (bI T', aS Hp') := by
   rintro ⟨s, h1, h2, h3⟩
   obtain ⟨ss, T', Hp', g1, g2, g3, g4, g5⟩ := kX A hT rest (i + 1) _ _ _ hrest (by rw [dS, hN]) h3
   have happ : s.app N (bI T, aS Hp) = (bI (iV T o.dst s.v), aS (dR Hp s.ws)) := by
    simp only [Stp.app, h2, fE, gI, hN]
   refine ⟨s :: ss, T', Hp', by simp [g1], g2, by simpa using g3, fun j u hu => ?_, by rw [fO, happ]; exact g5⟩
   cases j with
   | zero => simp at hu; subst hu; exact h1
   | succ j =>
    have := g4 j u (by simpa using hu)
    rw [show i + (j + 1) = i + 1 + j by omega, List.take_succ_cons, fO, happ]
    exact this
  apply fin
  obtain ⟨dst, op, ty, pos, after, guard⟩ := o
  simp only [rB] at h
  split at h
  ·rename_i t ht
   obtain ⟨_, hp⟩ := N9 ht
   refine ⟨⟨⟨dst, [t], [], []⟩, Um, [], rfl⟩, fun x' hfs _ a w K hok _ => ?_, rfl, h⟩
   obtain ⟨E, hR, _⟩ := hok
   have hd := hR.den t
   rw [hfs t (by simp)] at hd
   exact (xH hp hd).elim
  ·obtain ⟨rfl, h⟩ := h
   exact kP A hT hi (gs := []) (fun x' _ a w _ => nL rfl) h
theorem Bd {N : Nat} {s : Stp C} {x : ST C} (h : s.e.wc = []) : (s.app N x).2 = x.2 := by
 have : s.ws = [] := by have := s.hw; rw [h] at this; simpa using this
 simp only [Stp.app, this, kH]
theorem wS {N : Nat} : ∀ (ss : List (Stp C)) (x : ST C), (∀ s ∈ ss, s.e.wc = []) → (fO N x ss).2 = x.2
 | [], x, _ => rfl
 | s :: l, x, h => by rw [fO, wS l _ fun u hu => h u (by simp [hu]), Bd (h s (by simp))]
theorem Kk {A : Aux C D} {R : jN C} {all : List Oper} {k : List (It C)} {big : Nat} {tr : List Ent} {T : List (SV C)} {Hp : List (HS C)} : ∀ l : List Oper, Wh P A tab R all k big l tr T Hp → ∃ dd op ty pos after post, l = ⟨some dd, op, ty, pos, after, none⟩ :: post ∧
  ∃ f args ch Hp', exec A tab op (aV T (aO op)) (mI Hp (aV T (aO op))) (hlen Hp) = .call f args ∧ q1c P D f args Hp ch Hp' ∧ R (.die ch :: k) (Er T.length) Hp' ∧
   rB P A tab (Pj all dd) big post (⟨some dd, fF (aO op), [], []⟩ :: tr) (tN T dd Um) Hp
 | [], h => h.elim
 | ⟨none, _, _, _, _, _⟩ :: _, h => h.elim
 | ⟨some _, _, _, _, _, some _⟩ :: _, h => h.elim
 | ⟨some dd, op, ty, pos, after, none⟩ :: post, h => ⟨dd, op, ty, pos, after, post, rfl, h⟩
theorem zM (A : Aux C D) (hT : bH P D tab) {R : jN C} {id : Nat} {ops : List Oper} {k : List (It C)} {T : List (SV C)} {Hp : List (HS C)} {Q : Exit → Act → World → Prop} (h : Fl P A tab R ops k T Hp)
  (hR : Bm D B df T Hp a w) (hQ : ∀ ch T' Hp' a' w', R (.die ch :: k) T' Hp' → Bm D B df T' Hp' a' w' → Q (.panic ch) a' w') : (Code.region id ops.toArray true).wpIn (Fc r) 0 P Q a w := by
 obtain ⟨hmix, i0, hgo⟩ := h
 obtain ⟨E, hR', hsz⟩ := hR
 refine wpIn_region_any hmix ?_
 obtain ⟨ss1, T1, Hp1, g1, g2, g3, g4, g5⟩ := kX A hT (r := r) (Q := Q) (B := B) (df := df) (N := T.length) (all := ops) (ops.take i0) 0 [] T Hp (fun j hj => by
  rw [Nat.zero_add, List.getElem?_take]
  rw [List.length_take] at hj
  rw [if_pos (by omega)]) rfl hgo
 simp only [List.append_nil] at g3
 obtain ⟨dd, op, ty, pos, after, post, hdrop, g3⟩ := Kk _ g3
 obtain ⟨f, args, ch, Hp', hex, hdie, hRk, hpost⟩ := g3
 have hi0 : i0 < ops.length := by
  rcases Nat.lt_or_ge i0 ops.length with h | h
  ·exact h
  ·rw [List.drop_eq_nil_of_le h] at hdrop; cases hdrop
 have hl1 : ss1.length = i0 := by rw [g1, List.length_take]; omega
 have hop : ops[i0]? = some ⟨some dd, op, ty, pos, after, none⟩ := by
  have : (ops.drop i0)[0]? = some ⟨some dd, op, ty, pos, after, none⟩ := by rw [hdrop]; rfl
  rwa [List.getElem?_drop, Nat.add_zero] at this
 have hpo : ∀ j, post[j]? = ops[i0 + 1 + j]? := fun j => by
  have : (ops.drop i0)[j + 1]? = post[j]? := by rw [hdrop]; rfl
  rw [← this, List.getElem?_drop]; congr 1; omega
 have hlen1 : ops.length = i0 + 1 + post.length := by
  have : (ops.drop i0).length = post.length + 1 := by rw [hdrop]; rfl
  rw [List.length_drop] at this; omega
 obtain ⟨ss2, T2, Hp2, e1, e2, e3, e4, e5⟩ := kX A hT (r := r) (Q := Q) (B := B) (df := df) (N := T.length) (all := ops) post (i0 + 1) _ _ _ (fun j _ => hpo j) (by rw [gZ, g2]) hpost
 obtain ⟨htr, hno, hpz⟩ := e3
 let sd : Stp C := ⟨⟨some dd, fF (aO op), [], []⟩, Um, [], rfl⟩
 let dflt : Stp C := ⟨⟨none, [], [], []⟩, .any, [], rfl⟩
 obtain ⟨ss, hss⟩ : ∃ ss, ss = ss1 ++ sd :: ss2 := ⟨_, rfl⟩
 have hsl : ss.length = ops.length := by rw [hss]; simp [hl1, e1]; omega
 have hmap : ((ss2.map (·.e)).reverse ++ (⟨some dd, fF (aO op), [], []⟩ :: (ss1.map (·.e)).reverse)).reverse = ss.map (·.e) := by rw [hss]; simp [sd]
 rw [hmap] at htr
 have hnw : ∀ s ∈ ss, s.e.wc = [] := fun s hs => Ev hno s.e (by
  rw [← List.mem_reverse, hmap]
  exact List.mem_map.2 ⟨s, hs, rfl⟩)
 simp only [yK, Bool.and_eq_true] at htr
 have hfold1 : fO T.length (bI T, aS Hp) ss1 = (bI T1, aS Hp1) := g5
 have hH1 : aS Hp1 = aS Hp := by
  have := wS (N := T.length) ss1 (bI T, aS Hp) fun s hs => hnw s (by rw [hss]; simp [hs])
  rw [hfold1] at this
  exact this
 have hfoldd : sd.app T.length (bI T1, aS Hp1) = (bI (tN T1 dd Um), aS Hp1) := by
  simp only [Stp.app, sd, kH]
  refine Prod.ext ?_ rfl
  simp only
  have := fE T1 (some dd) (Um : SV C)
  rw [g2] at this
  exact this.symm
 have hfin : fO T.length (bI T, aS Hp) ss = (bI T2, aS Hp2) := by
  rw [hss, iE, hfold1, fO, hfoldd]
  exact e5
 refine rM (N := T.length) (x0 := (bI T, aS Hp)) (S := fun i => ss.getD i dflt) (Ok := fun x a w => OkS D B df T.length x a w ∧ x.2 = aS Hp) (n := ops.length) (by simp) ?_ ?_ ?_ ?_ _ _ a _ (by simp) ⟨fun k hk o ho e he hb => ?_⟩ ?_ ?_
 ·intro k o ho e he hb
  have := pV ops 0 (ops := ops.toArray) (fun i => by simp) htr.1 k o (by simpa using ho) e he hb
  simpa using this
 ·intro i j hij hj hc
  have hj' : j < ss.length := by omega
  have hi' : i < ss.length := by omega
  have e1 : (ss.map (·.e))[i]? = some (ss.getD i dflt).e := by simp [hi']
  have e2 : (ss.map (·.e))[j]? = some (ss.getD j dflt).e := by simp [hj']
  have := kS (ss.map (·.e)) 0 (fun q => by simp) htr.2 j i _ _ (by omega) e1 (by simpa using e2) e2 hc
  rw [Nat.zero_add] at this
  exact tX ops [] (ops := ops.toArray) (fun q => by simp) (fun k j h => by simp at h) j i this
 ·intro i hi x' h1 h2 a w K hok hK
  have hi' : i < ss.length := by omega
  rw [lH (dflt := dflt) i (by omega)] at h1 h2
  have hwi : (ss.getD i dflt).e.wc = [] := hnw _ (by rw [List.getD_eq_getElem?_getD, List.getElem?_eq_getElem hi']; exact List.getElem_mem hi')
  have hK' : ∀ a' w', OkS D B df T.length ((ss.getD i dflt).app T.length x') a' w' → K a' w' := fun a' w' ho => hK a' w' ⟨ho, (Bd hwi).trans hok.2⟩
  rcases Nat.lt_trichotomy i i0 with hlt | rfl | hgt
  ·have hsi : ss1[i]? = some (ss.getD i dflt) := by
    rw [hss, List.getD_eq_getElem?_getD, List.getElem?_append_left (by omega)]
    simp [show i < ss1.length by omega]
   have := g4 i _ hsi
   rw [Nat.zero_add] at this
   rw [hss, List.take_append_of_le_length (by omega), ← hss] at h1 h2
   exact this x' h1 h2 a w K hok.1 hK'
  ·have hsi : ss.getD i dflt = sd := by
    rw [hss, List.getD_eq_getElem?_getD, List.getElem?_append_right (by omega), hl1, Nat.sub_self]; rfl
   rw [hsi] at h1 h2
   have htk : ss.take i = ss1 := by rw [hss, List.take_append_of_le_length (by omega), ← hl1, List.take_length]
   rw [htk, hfold1] at h1
   obtain ⟨⟨E, hR, hsz⟩, hx2⟩ := hok
   have hv : aV T1 (aO op) = (aO op).map (ev x'.1) := by
    rw [lA]
    exact (kB (σ := bI T1) (σ' := x'.1) _ fun t ht => h1 t ht).symm
   have hm' : x'.2 (hlen Hp1) = .fresh := by rw [hx2, ← hH1]; exact sG Hp1
   have hOK := E7 (o := ⟨some dd, op, ty, pos, after, none⟩) A hT hR hm' hv (hs := mI Hp1 (aV T1 (aO op))) (fun x hx c hc => (pX Hp1 _ x hx c hc).trans (by rw [hx2, hH1]))
   have hnd : ∀ c, op ≠ .defer c := tP (o := ⟨some dd, op, ty, pos, after, none⟩) (m := hlen Hp1) (hs := mI Hp1 (aV T1 (aO op))) (vals := aV T1 (aO op)) A (by rw [hex]; simp)
   rw [hex] at hOK
   unfold wpOpIn
   simp only [List.getElem?_toArray, hop, nL (o := ⟨some dd, op, ty, pos, after, none⟩) rfl, if_true]
   refine ⟨fun _ _ => trivial, ?_⟩
   obtain ⟨vs, hd, hrun⟩ := hOK E hR
   obtain ⟨hc1, hc2⟩ := hdie.run
   rw [show (Fc r).round = r from rfl, Oper.semAt_eq r _ _ hnd, hrun, hc1]
   refine ⟨fun h => by simp [Fc] at h, ?_⟩
   rw [hx2, ← hH1] at hR
   have hcalls := hc2 B _ df a w E hR vs hd
   have hcalls' : CallsIn (Fc r) (0 - 1) P f vs.toArray w fun e w' => ∃ E', e = .panicked ch ∧ Rel D B E' x'.1 (aS Hp') df a w' := hcalls
   refine hcalls'.mono ?_
   rintro e w' ⟨E', rfl, hR'⟩
   exact hQ ch _ _ a w' hRk ⟨E', ⟨fun i => by rw [uV]; simp [Den], hR'.sat, hR'.fr, hR'.defers, hR'.marks⟩, by rw [nK, g2]; exact hsz⟩
  ·have hsi : ss2[i - (i0 + 1)]? = some (ss.getD i dflt) := by
    rw [hss, List.getD_eq_getElem?_getD, List.getElem?_append_right (by omega), hl1, show i - i0 = (i - (i0 + 1)) + 1 by omega, List.getElem?_cons_succ]
    simp [show i - (i0 + 1) < ss2.length by omega]
   have := e4 _ _ hsi
   rw [show i0 + 1 + (i - (i0 + 1)) = i by omega] at this
   have htk : ss.take i = ss1 ++ sd :: ss2.take (i - (i0 + 1)) := by
    rw [hss, List.take_append, hl1, List.take_of_length_le (by omega), show i - i0 = (i - (i0 + 1)) + 1 by omega, List.take_succ_cons]
   rw [htk, iE, hfold1, fO, hfoldd] at h1 h2
   exact this x' h1 h2 a w K hok.1 hK'
 ·intro a w hok
  rw [lH (dflt := dflt) _ (by omega), show ops.length = ss.length by omega, List.take_length, hfin] at hok
  obtain ⟨⟨E, h1, h2⟩, _⟩ := hok
  exact (xH hpz (h1.den dd)).elim
 ·have ho' := ho
  rw [Array.getElem?_eq_some_iff] at ho'
  obtain ⟨hlt, _⟩ := ho'
  simp at hlt
  simp [hlt] at hk
 ·have : ∀ n, cnt (fun k => (Array.replicate ops.length false).getD k true) n ≤ n := by
   intro n
   induction n with
   | zero => exact Nat.le_refl _
   | succ n ih => simp only [cnt]; split <;> omega
  have := this ops.length
  simpa using this
 ·have : ∀ n, n ≤ ops.length → stA T.length (bI T, aS Hp) (fun i => ss.getD i dflt) (fun k => (Array.replicate ops.toArray.size false).getD k true) n = (bI T, aS Hp) := by
   intro n
   induction n with
   | zero => intro _; rfl
   | succ n ih =>
    intro hn
    have hf : (Array.replicate ops.toArray.size false).getD n true = false := by simp [show n < ops.length by omega]
    simp only [stA, hf, ih (by omega)]
  rw [this _ (Nat.le_refl _)]
  exact ⟨⟨E, hR'.drew, hsz⟩, rfl⟩
end
end Go.SX
