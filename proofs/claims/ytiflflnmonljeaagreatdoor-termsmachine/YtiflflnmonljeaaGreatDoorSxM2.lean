/-
  SX, part M2: a region that draws its order, reckoned in the order of the text.
-/
import Derived.Test.YtiflflnmonljeaaGreatDoorSxL3
import Derived.OrdersIn
import Derived.TacticsIn
import Derived.Deep.LoopGhost
import Derived.Scope
set_option linter.unusedVariables false
set_option linter.unusedSimpArgs false
namespace Go.SX
set_option linter.unusedSectionVars false
variable {C : Cod}
structure Ent where
 d : Option Nat
 fs : List Nat
 fc : List Nat
 wc : List Nat
def Uk (x : Nat) : List Nat → Bool
 | [] => false
 | y :: l => if Nat.beq x y then true else Uk x l
def wK : List Nat → List Nat → Bool
 | [], _ => false
 | x :: l, m => if Uk x m then true else wK l m
def Mx (d : Option Nat) (l : List Nat) : Bool := match d with
 | none => false
 | some d => Uk d l
def Yq (d e : Option Nat) : Bool := match d, e with
 | some d, some e => Nat.beq d e
 | _, _ => false
def jU (a b : Ent) : Bool := Mx a.d b.fs || Mx b.d a.fs || Yq a.d b.d || wK a.wc b.fc || wK b.wc a.fc || wK a.wc b.wc
theorem pK {x : Nat} : ∀ {l : List Nat}, Uk x l = true ↔ x ∈ l
 | [] => by simp [Uk]
 | y :: l => by
  simp only [Uk, List.mem_cons]
  by_cases h : x = y
  ·subst h; simp
  ·have : Nat.beq x y = false := by
    cases hb : Nat.beq x y with
    | false => rfl
    | true => exact absurd (Nat.eq_of_beq_eq_true hb) h
   rw [this]; simp [h, pK (l := l)]
theorem oR : ∀ {l m : List Nat}, wK l m = true ↔ ∃ x, x ∈ l ∧ x ∈ m
 | [], m => by simp [wK]
 | x :: l, m => by
  simp only [wK]
  cases h : Uk x m with
  | true => simp only [if_true, true_iff]; exact ⟨x, by simp, pK.1 h⟩
  | false =>
   have hx : x ∉ m := fun hx => by rw [pK.2 hx] at h; cases h
   simp only [Bool.false_eq_true, if_false, oR (l := l), List.mem_cons]
   constructor
   ·rintro ⟨y, h1, h2⟩; exact ⟨y, .inr h1, h2⟩
   ·rintro ⟨y, rfl | h1, h2⟩
    ·exact absurd h2 hx
    ·exact ⟨y, h1, h2⟩
theorem U5 {a b : Ent} {t : Nat} (h : a.d = some t) (ht : t ∈ b.fs) : jU a b = true := by
 simp [jU, Mx, h, pK.2 ht]
theorem P5 {a b : Ent} {t : Nat} (h : b.d = some t) (ht : t ∈ a.fs) : jU a b = true := by
 simp [jU, Mx, h, pK.2 ht]
theorem Cs {a b : Ent} {t : Nat} (h : a.d = some t) (ht : b.d = some t) : jU a b = true := by
 simp [jU, Yq, h, ht]
theorem V5 {a b : Ent} {c : Nat} (h : c ∈ a.wc) (hc : c ∈ b.fc) : jU a b = true := by
 have : wK a.wc b.fc = true := oR.2 ⟨c, h, hc⟩
 simp [jU, this]
theorem I4 {a b : Ent} {c : Nat} (h : c ∈ b.wc) (hc : c ∈ a.fc) : jU a b = true := by
 have : wK b.wc a.fc = true := oR.2 ⟨c, h, hc⟩
 simp [jU, this]
theorem S3 {a b : Ent} {c : Nat} (h : c ∈ a.wc) (hc : c ∈ b.wc) : jU a b = true := by
 have : wK a.wc b.wc = true := oR.2 ⟨c, h, hc⟩
 simp [jU, this]
structure Stp (C : Cod) where
 e : Ent
 v : SV C
 ws : List (Nat × HS C)
 hw : ws.map (·.1) = e.wc
abbrev ST (C : Cod) := (Nat → SV C) × (Nat → HS C)
def Stp.app (N : Nat) (s : Stp C) (x : ST C) : ST C := (upT N x.1 s.e.d s.v, kH x.2 s.ws)
def stA (N : Nat) (x0 : ST C) (S : Nat → Stp C) (L : Nat → Bool) : Nat → ST C
 | 0 => x0
 | k + 1 => match L k with
  | true => (S k).app N (stA N x0 S L k)
  | false => stA N x0 S L k
theorem rA {N : Nat} {σ : Nat → SV C} {d : Option Nat} {v : SV C} {t : Nat} (h : d ≠ some t) : upT N σ d v t = σ t := by
 cases d with
 | none => rfl
 | some d => simp only [upT]; rw [if_neg]; rintro ⟨rfl, _⟩; exact h rfl
theorem nT : ∀ (ws : List (Nat × HS C)) (H : Nat → HS C) (c : Nat), c ∉ ws.map (·.1) → kH H ws c = H c
 | [], H, c, _ => rfl
 | (c', h) :: l, H, c, hc => by
  simp only [List.map_cons, List.mem_cons, not_or] at hc
  simp only [kH]
  rw [nT l _ c hc.2, upH, if_neg hc.1]
theorem lU : ∀ (ws : List (Nat × HS C)) (H H' : Nat → HS C) (c : Nat), (c ∉ ws.map (·.1) → H c = H' c) → kH H ws c = kH H' ws c
 | [], H, H', c, h => h (by simp)
 | (c', h') :: l, H, H', c, h => by
  simp only [kH]
  refine lU l _ _ c fun hc => ?_
  simp only [upH]
  split
  ·rfl
  ·rename_i hne; exact h (by simp [hne]; simpa using hc)
theorem Gc (ws ws' : List (Nat × HS C)) (hd : ∀ c, c ∈ ws.map (·.1) → c ∉ ws'.map (·.1)) (H : Nat → HS C) : kH (kH H ws) ws' = kH (kH H ws') ws := by
 funext c
 by_cases h : c ∈ ws.map (·.1)
 ·rw [nT ws' _ c (hd c h)]
  exact lU ws _ _ c fun h' => absurd h h'
 ·rw [nT ws _ c h]
  exact lU ws' _ _ c fun _ => nT ws _ c h
theorem Nr {N : Nat} {d e : Option Nat} (h : ∀ t, d = some t → e ≠ some t) (σ : Nat → SV C) (v u : SV C) : upT N (upT N σ d v) e u = upT N (upT N σ e u) d v := by
 funext t
 by_cases hd : d = some t
 ·have he := h t hd
  rw [rA he]
  subst hd
  simp only [upT, true_and]
  split
  ·rfl
  ·exact (rA (d := e) he).symm
 ·rw [rA hd]
  cases e with
  | none => exact rA hd
  | some e =>
   show (if t = e ∧ e < N then u else upT N σ d v t) = (if t = e ∧ e < N then u else σ t)
   rw [rA hd]
inductive Anc (ops : Array Oper) : Nat → Nat → Prop
 | dir {k : Nat} {o : Oper} {e : Edge} (ho : ops[k]? = some o) (he : e ∈ o.after) (hb : Region.binds .any e = true) : Anc ops k e.on
 | trans {k j i : Nat} (h : Anc ops k j) (h' : Anc ops j i) : Anc ops k i
section
variable {N n : Nat} {x0 : ST C} {S : Nat → Stp C} {ops : Array Oper} {L : Nat → Bool}
def Ei : Nat → Bool := fun _ => true
structure Cut (ops : Array Oper) (L : Nat → Bool) : Prop where
 down : ∀ k, L k = true → ∀ o, ops[k]? = some o → ∀ e ∈ o.after, Region.binds .any e = true → L e.on = true
theorem Cut.anc (h : Cut ops L) {k j : Nat} (ha : Anc ops k j) : L k = true → L j = true := by
 induction ha with
 | dir ho he hb => intro hk; exact h.down _ hk _ ho _ he hb
 | trans _ _ ih1 ih2 => intro hk; exact ih2 (ih1 hk)
theorem Ij (h : Cut ops L) {i j : Nat} (hi : ∀ o, ops[i]? = some o → ∀ e ∈ o.after, Region.binds .any e = true → L e.on = true) (ha : Anc ops i j) : L j = true := by
 induction ha with
 | dir ho he hb => exact hi _ ho _ he hb
 | trans h1 h2 ih1 _ => exact h.anc h2 (ih1 hi)
variable (hcl : ∀ i j, i < j → j < n → jU (S i).e (S j).e = true → Anc ops j i) (hL : Cut ops L) {i : Nat} (hin : i < n) (hLi : L i = false)
 (hi : ∀ j, Anc ops i j → L j = true)
include hcl hL hin hLi hi
theorem Z0 : ∀ k, k ≤ i → (∀ t ∈ (S i).e.fs, (stA N x0 S L k).1 t = (stA N x0 S Ei k).1 t) ∧ (∀ c ∈ (S i).e.fc, (stA N x0 S L k).2 c = (stA N x0 S Ei k).2 c)
 | 0, _ => ⟨fun _ _ => rfl, fun _ _ => rfl⟩
 | k + 1, hk => by
  obtain ⟨ih1, ih2⟩ := Z0 k (by omega)
  refine ⟨fun t ht => ?_, fun c hc => ?_⟩
  ·by_cases hd : (S k).e.d = some t
   ·have := hi k (hcl k i (by omega) hin (U5 hd ht))
    simp only [stA, this, Ei, Stp.app, hd, upT]
    split
    ·rfl
    ·exact ih1 t ht
   ·simp only [stA, Ei, Stp.app]
    rw [rA hd]
    cases L k with
    | true => simp only; rw [rA hd]; exact ih1 t ht
    | false => exact ih1 t ht
  ·by_cases hw : c ∈ (S k).e.wc
   ·have := hi k (hcl k i (by omega) hin (V5 hw hc))
    simp only [stA, this, Ei, Stp.app]
    exact lU _ _ _ c fun _ => ih2 c hc
   ·rw [← (S k).hw] at hw
    simp only [stA, Ei, Stp.app]
    rw [nT _ _ c hw]
    cases L k with
    | true => simp only; rw [nT _ _ c hw]; exact ih2 c hc
    | false => exact ih2 c hc
theorem Az : ∀ k, i + k ≤ n → (∀ t ∈ (S i).e.fs, (stA N x0 S L (i + k)).1 t = (stA N x0 S L i).1 t) ∧ (∀ c ∈ (S i).e.fc, (stA N x0 S L (i + k)).2 c = (stA N x0 S L i).2 c)
 | 0, _ => ⟨fun _ _ => rfl, fun _ _ => rfl⟩
 | k + 1, hk => by
  obtain ⟨ih1, ih2⟩ := Az k (by omega)
  rw [← Nat.add_assoc]
  cases hLk : L (i + k) with
  | false => simp only [stA, hLk]; exact ⟨ih1, ih2⟩
  | true =>
   have hne : i ≠ i + k := fun e => by rw [← e, hLi] at hLk; cases hLk
   have hno : jU (S i).e (S (i + k)).e = true → False := fun hc => by
    have := hL.anc (hcl i (i + k) (by omega) (by omega) hc) hLk
    rw [hLi] at this; cases this
   simp only [stA, hLk, Stp.app]
   refine ⟨fun t ht => ?_, fun c hc => ?_⟩
   ·rw [rA fun hd => hno (P5 hd ht)]; exact ih1 t ht
   ·rw [nT _ _ c fun hw => hno (I4 ((S (i + k)).hw ▸ hw) hc)]; exact ih2 c hc
omit hi in
theorem Xk (L' : Nat → Bool) (hL' : ∀ k, L' k = if k = i then true else L k) : (∀ k, k ≤ i → stA N x0 S L' k = stA N x0 S L k) ∧ ∀ k, i + 1 + k ≤ n → stA N x0 S L' (i + 1 + k) = (S i).app N (stA N x0 S L (i + 1 + k)) := by
 have h1 : ∀ k, k ≤ i → stA N x0 S L' k = stA N x0 S L k := by
  intro k
  induction k with
  | zero => intro _; rfl
  | succ k ih =>
   intro hk
   have : L' k = L k := by rw [hL', if_neg (by omega)]
   simp only [stA, this, ih (by omega)]
 refine ⟨h1, fun k => ?_⟩
 induction k with
 | zero =>
  intro _
  have : L' i = true := by rw [hL', if_pos rfl]
  simp only [stA, Nat.add_zero, this, hLi, h1 i (Nat.le_refl _)]
 | succ k ih =>
  intro hk
  rw [← Nat.add_assoc]
  have hLk : L' (i + 1 + k) = L (i + 1 + k) := by rw [hL', if_neg (by omega)]
  simp only [stA, hLk, ih (by omega)]
  cases hk2 : L (i + 1 + k) with
  | false => rfl
  | true =>
   have hno : jU (S i).e (S (i + 1 + k)).e = true → False := fun hc => by
    have := hL.anc (hcl i (i + 1 + k) (by omega) (by omega) hc) hk2
    rw [hLi] at this; cases this
   simp only [Stp.app]
   refine Prod.ext ?_ ?_
   ·exact Nr (fun t h1 h2 => hno (Cs h1 h2)) _ _ _
   ·exact Gc _ _ (fun c h1 h2 => hno (S3 ((S i).hw ▸ h1) ((S (i + 1 + k)).hw ▸ h2))) _
end
def cnt (L : Nat → Bool) : Nat → Nat
 | 0 => 0
 | k + 1 => cnt L k + (match L k with | true => 0 | false => 1)
theorem Z1 {L : Nat → Bool} : ∀ {n : Nat}, cnt L n = 0 → ∀ k, k < n → L k = true
 | 0, _, k, hk => by omega
 | n + 1, h, k, hk => by
  simp only [cnt] at h
  by_cases hkn : k = n
  ·subst hkn
   cases hL : L k with
   | true => rfl
   | false => rw [hL] at h; simp at h
  ·exact Z1 (n := n) (by omega) k (by omega)
theorem Jf {L L' : Nat → Bool} {i : Nat} (hLi : L i = false) (hL' : ∀ k, L' k = if k = i then true else L k) : ∀ n, (n ≤ i → cnt L' n = cnt L n) ∧ (i < n → cnt L' n + 1 = cnt L n)
 | 0 => ⟨fun _ => rfl, fun h => by omega⟩
 | n + 1 => by
  obtain ⟨h1, h2⟩ := Jf hLi hL' n
  simp only [cnt]
  refine ⟨fun h => ?_, fun h => ?_⟩
  ·rw [h1 (by omega), hL' n, if_neg (by omega)]
  ·by_cases hn : i = n
   ·subst hn
    rw [h1 (Nat.le_refl _), hL' i, if_pos rfl, hLi]
    rfl
   ·have := h2 (by omega)
    rw [hL' n, if_neg (fun e => hn e.symm)]
    omega
section
variable {N n r : Nat} {P : Program} {x0 : ST C} {S : Nat → Stp C} {ops : Array Oper} {F : Fence} {Q : Exit → Act → World → Prop} {Ok : ST C → Act → World → Prop}
theorem rM (hn : ops.size = n) (hback : ∀ k o, ops[k]? = some o → ∀ e ∈ o.after, Region.binds .any e = true → e.on < k)
    (hcl : ∀ i j, i < j → j < n → jU (S i).e (S j).e = true → Anc ops j i)
    (step : ∀ i, i < n → ∀ x : ST C, (∀ t ∈ (S i).e.fs, x.1 t = (stA N x0 S Ei i).1 t) → (∀ c ∈ (S i).e.fc, x.2 c = (stA N x0 S Ei i).2 c) → ∀ a w (K : Act → World → Prop), Ok x a w →
      (∀ a' w', Ok ((S i).app N x) a' w' → K a' w') → wpOpIn F r P ops Q i K a w)
    (hQ : ∀ a w, Ok (stA N x0 S Ei n) a w → Q .normal a w) : ∀ (fuel : Nat) (listed : Array Bool) (a : Act) (w : World), listed.size = n → Cut ops (fun k => listed.getD k true) →
      cnt (fun k => listed.getD k true) n ≤ fuel → Ok (stA N x0 S (fun k => listed.getD k true) n) a w → wpAnyIn F r P .any ops Q fuel listed a w := by
  have hdf : ∀ (listed : Array Bool), listed.size = n → ∀ k, k < n → listed.getD k false = listed.getD k true := by
    intro listed hs k hk
    have : k < listed.size := by omega
    simp [this]
  have hall : ∀ (listed : Array Bool) (a : Act) (w : World), (∀ k, k < n → listed.getD k true = true) → Ok (stA N x0 S (fun k => listed.getD k true) n) a w → Q .normal a w := by
    intro listed a w h hok
    have : ∀ k, k ≤ n → stA N x0 S (fun k => listed.getD k true) k = stA N x0 S Ei k := by
      intro k
      induction k with
      | zero => intro _; rfl
      | succ k ih => intro hk; have h1 := h k (by omega); simp only [stA, h1, Ei, ih (by omega)]
    rw [this n (Nat.le_refl _)] at hok
    exact hQ a w hok
  have hready : ∀ (listed : Array Bool), listed.size = n → Region.ready .any ops listed = [] → ∀ k, k < n → listed.getD k true = true := by
    intro listed hs hr k
    induction k using Nat.strongRecOn with
    | ind k ih =>
      intro hk
      cases hLk : listed.getD k true with
      | true => rfl
      | false =>
        have hko : ops[k]? = some ops[k] := Array.getElem?_eq_getElem (by omega)
        have : k ∈ Region.ready .any ops listed := mem_ready.2 ⟨hLk, _, hko, fun e he hb => by
          have := hback k _ hko e he hb
          rw [hdf listed hs _ (by omega)]
          exact ih _ this (by omega)⟩
        rw [hr] at this; cases this
  intro fuel
  induction fuel with
  | zero =>
    intro listed a w hs hc hf hok
    have hl := Z1 (Nat.le_zero.1 hf)
    refine ⟨?_, hall listed a w hl hok⟩
    cases hr : Region.ready .any ops listed with
    | nil => rfl
    | cons k l =>
      have hk : k ∈ Region.ready .any ops listed := by rw [hr]; simp
      obtain ⟨h0, o, ho, _⟩ := mem_ready.1 hk
      have hkn : k < n := by rw [← hn]; exact (Array.getElem?_eq_some_iff.1 ho).1
      have := hl k hkn
      simp only [h0] at this; cases this
  | succ fuel ih =>
    intro listed a w hs hc hf hok
    refine ⟨fun hr => hall listed a w (hready listed hs hr) hok, fun i hi => ?_⟩
    obtain ⟨h0, o, ho, hdep⟩ := mem_ready.1 hi
    have hin : i < n := by rw [← hn]; exact (Array.getElem?_eq_some_iff.1 ho).1
    have hdep' : ∀ o, ops[i]? = some o → ∀ e ∈ o.after, Region.binds .any e = true → listed.getD e.on true = true := by
      intro o' ho' e he hb
      rw [ho] at ho'; cases ho'
      have := hback i o ho e he hb
      rw [← hdf listed hs _ (by omega)]
      exact hdep e he hb
    have hanc : ∀ j, Anc ops i j → listed.getD j true = true := fun j hj => Ij hc hdep' hj
    have hag := Z0 (N := N) (x0 := x0) hcl hc hin h0 hanc i (Nat.le_refl _)
    have hag2 := Az (N := N) (x0 := x0) hcl hc hin h0 hanc (n - i) (by omega)
    rw [show i + (n - i) = n by omega] at hag2
    refine step i hin _ (fun t ht => (hag2.1 t ht).trans (hag.1 t ht)) (fun c hc => (hag2.2 c hc).trans (hag.2 c hc)) a w _ hok fun a' w' hok' => ?_
    have hL' : ∀ k, (listed.setIfInBounds i true).getD k true = if k = i then true else listed.getD k true := by
      intro k
      by_cases hki : k = i
      · subst hki; rw [if_pos rfl]; simp [show k < listed.size by omega]
      · rw [if_neg hki, getD_set_ne true (fun e => hki e.symm)]
    refine ih _ a' w' (by simp [hs]) ⟨fun k hk o' ho' e he hb => ?_⟩ ?_ ?_
    · show (listed.setIfInBounds i true).getD e.on true = true
      rw [hL']
      split
      · rfl
      · by_cases hki : k = i
        · subst hki; exact hdep' o' ho' e he hb
        · have hk' : (listed.setIfInBounds i true).getD k true = true := hk
          rw [hL', if_neg hki] at hk'
          exact hc.down k hk' o' ho' e he hb
    · have := (Jf (L := fun k => listed.getD k true) (L' := fun k => (listed.setIfInBounds i true).getD k true) h0 hL' n).2 hin
      omega
    · have := (Xk (N := N) (x0 := x0) hcl hc hin h0 (fun k => (listed.setIfInBounds i true).getD k true) hL').2 (n - i - 1) (by omega)
      rw [show i + 1 + (n - i - 1) = n by omega] at this
      rw [this]
      exact hok'
end
def Vo (acc : List Nat) : List Edge → Nat
 | [] => 0
 | e :: l => if Region.binds .any e then 2 ^ e.on ||| (acc.getD e.on 0 ||| Vo acc l) else Vo acc l
def q0p : List Oper → List Nat → List Nat
 | [], acc => acc
 | o :: l, acc => q0p l (acc ++ [Vo acc o.after.toList])
def Lb : Nat → List Oper → Bool
 | _, [] => true
 | k, o :: l => (o.after.toList.all fun e => !Region.binds .any e || Nat.blt e.on k) && Lb (k + 1) l
def At (masks : List Nat) (e : Ent) (j : Nat) : Nat → List Ent → Bool
 | _, [] => true
 | i, a :: l => (!jU a e || (masks.getD j 0).testBit i) && At masks e j (i + 1) l
def yZ (masks : List Nat) (tr : List Ent) : Nat → List Ent → Bool
 | _, [] => true
 | j, e :: l => At masks e j 0 (tr.take j) && yZ masks tr (j + 1) l
def yK (all : List Oper) (tr : List Ent) : Bool := Lb 0 all && yZ (q0p all []) tr 0 tr
theorem vM {ops : Array Oper} {acc : List Nat} (hacc : ∀ k j, (acc.getD k 0).testBit j = true → Anc ops k j) {k : Nat} {o : Oper} (ho : ops[k]? = some o) : ∀ (l : List Edge), (∀ e ∈ l, e ∈ o.after) →
  ∀ j, (Vo acc l).testBit j = true → Anc ops k j
 | [], _, j, h => by simp [Vo] at h
 | e :: l, hl, j, h => by
  simp only [Vo] at h
  split at h
  ·rename_i hb
   rw [Nat.testBit_or, Nat.testBit_or, Bool.or_eq_true, Bool.or_eq_true] at h
   have hd : Anc ops k e.on := .dir ho (hl e (by simp)) hb
   rcases h with h | h | h
   ·rw [Nat.testBit_two_pow] at h
    have : e.on = j := by simpa using h
    rw [← this]; exact hd
   ·exact .trans hd (hacc _ _ h)
   ·exact vM hacc ho l (fun e he => hl e (by simp [he])) j h
  ·exact vM hacc ho l (fun e he => hl e (by simp [he])) j h
theorem tX {ops : Array Oper} : ∀ (l : List Oper) (acc : List Nat), (∀ i, l[i]? = ops[acc.length + i]?) → (∀ k j, (acc.getD k 0).testBit j = true → Anc ops k j) →
  ∀ k j, ((q0p l acc).getD k 0).testBit j = true → Anc ops k j
 | [], acc, _, h => h
 | o :: l, acc, hl, h => by
  refine tX l _ (fun i => ?_) fun k j hk => ?_
  ·have := hl (i + 1)
   simp only [List.getElem?_cons_succ] at this
   rw [this]; simp; congr 1; omega
  ·rw [List.getD_eq_getElem?_getD, List.getElem?_append] at hk
   split at hk
   ·exact h k j (by rw [List.getD_eq_getElem?_getD]; exact hk)
   ·rename_i hlt
    by_cases hke : k = acc.length
    ·subst hke
     have ho := hl 0
     simp at ho
     simp at hk
     exact vM h ho.symm _ (fun e he => by simpa using he) j hk
    ·rw [List.getElem?_eq_none (by simp; omega)] at hk
     simp at hk
theorem pV {ops : Array Oper} : ∀ (l : List Oper) (k : Nat), (∀ i, l[i]? = ops[k + i]?) → Lb k l = true → ∀ i o, l[i]? = some o → ∀ e ∈ o.after, Region.binds .any e = true → e.on < k + i
 | [], k, _, _, i, o, ho => by simp at ho
 | x :: l, k, hl, h, i, o, ho => by
  simp only [Lb, Bool.and_eq_true, List.all_eq_true] at h
  cases i with
  | zero =>
   simp at ho; subst ho
   intro e he hb
   have := h.1 e (by simpa using he)
   simp [hb] at this
   exact this
  | succ i =>
   intro e he hb
   have := pV l (k + 1) (fun j => by have := hl (j + 1); simp only [List.getElem?_cons_succ] at this; rw [this]; congr 1; omega) h.2 i o (by simpa using ho) e he hb
   omega
theorem tR {masks : List Nat} {e : Ent} {j : Nat} : ∀ (l : List Ent) (k : Nat), At masks e j k l = true → ∀ (i : Nat) (a : Ent), l[i]? = some a → jU a e = true → (masks.getD j 0).testBit (k + i) = true
 | [], k, _, i, a, hi => by simp at hi
 | x :: l, k, h, i, a, hi => by
  simp only [At, Bool.and_eq_true, Bool.or_eq_true] at h
  cases i with
  | zero => intro hc; simp at hi; subst hi; simpa [hc] using h.1
  | succ i => intro hc; have := tR l (k + 1) h.2 i a (by simpa using hi) hc; rwa [show k + (i + 1) = k + 1 + i by omega]
theorem kS {masks : List Nat} {tr : List Ent} : ∀ (l : List Ent) (j : Nat), (∀ i, l[i]? = tr[j + i]?) → yZ masks tr j l = true → ∀ (i k : Nat) (a e : Ent), k < j + i → tr[k]? = some a → tr[j + i]? = some e → l[i]? = some e → jU a e = true → (masks.getD (j + i) 0).testBit k = true
 | [], j, _, _, i, k, a, e, _, _, _, hl => by simp at hl
 | x :: l, j, hl, h, i, k, a, e, hk, ha, he, hle => by
  simp only [yZ, Bool.and_eq_true] at h
  intro hc
  cases i with
  | zero =>
   simp at hle; subst hle
   have := tR _ 0 h.1 k a (by rw [List.getElem?_take]; rw [if_pos (by omega)]; exact ha) hc
   simpa using this
  | succ i =>
   have := kS l (j + 1) (fun q => by have := hl (q + 1); simp only [List.getElem?_cons_succ] at this; rw [this]; congr 1; omega) h.2 i k a e (by omega) ha (by rw [← he]; congr 1; omega) (by simpa using hle) hc
   rw [show j + (i + 1) = j + 1 + i by omega]; exact this
end Go.SX
namespace Go.SX
open Go.RowKit
variable {C : Cod}
def Fc (r : Option Nat) : Fence := { fn := fun _ => True, depth := none, alive := false, round := r }
def bI : List (SV C) → Nat → SV C
 | [], _ => .any
 | x :: _, 0 => x
 | _ :: l, n + 1 => bI l n
def tN : List (SV C) → Nat → SV C → List (SV C)
 | [], _, _ => []
 | _ :: l, 0, v => v :: l
 | x :: l, n + 1, v => x :: tN l n v
def iV (T : List (SV C)) (d : Option Nat) (v : SV C) : List (SV C) :=
 match d with
 | none => T
 | some d => tN T d v
def aS : List (HS C) → Nat → HS C
 | [], _ => .fresh
 | x :: _, 0 => x
 | _ :: l, n + 1 => aS l n
def F1 : List (HS C) → Nat → HS C → List (HS C)
 | [], 0, h => [h]
 | [], n + 1, h => .fresh :: F1 [] n h
 | _ :: l, 0, h => h :: l
 | x :: l, n + 1, h => x :: F1 l n h
def dR : List (HS C) → List (Nat × HS C) → List (HS C)
 | Hp, [] => Hp
 | Hp, (c, h) :: l => dR (F1 Hp c h) l
def evT (T : List (SV C)) : Operand → SV C
 | .tmp t => bI T t
 | .const v => ofV v
 | .global g => Ot g (C.glob g)
 | .func f => .fn (.func f) [] []
def aV (T : List (SV C)) : List Operand → List (SV C)
 | [] => []
 | x :: l => evT T x :: aV T l
def mI (Hp : List (HS C)) : List (SV C) → List (Nat × HS C)
 | [] => []
 | x :: l => match x.topId with
  | some c => (c, aS Hp c) :: mI Hp l
  | none => mI Hp l
def hlen : List (HS C) → Nat
 | [] => 0
 | _ :: l => hlen l + 1
def Tl {D : aL C} (A : Aux C D) (tab : Tab C) (o : Op) (vals : List (SV C)) (Hp : List (HS C)) : Out C :=
 exec A tab o vals (mI Hp vals) (hlen Hp)
inductive It (C : Cod) where
 | code (c : Code)
 | ops (all rest : List Oper)
 | op1 (all : List Oper) (o : Oper) (rest : List Oper)
 | blk (id : Nat)
 | endLoop (J : List (SV C) → List (HS C) → Prop)
 | beginR
 | scp
 | die (ch : List PanicEntry)
def yQ (id : Nat) : List (It C) → Option (List (It C))
 | [] => none
 | .blk i :: k => if i = id then some k else yQ id k
 | _ :: k => yQ id k
def wP (all : List Oper) (j : Nat) : Option Nat :=
 match ixL all j with
 | some o => o.dst
 | none => none
def Qv (b : Bool) (X Y : Prop) : Prop := match b with
 | true => X
 | false => Y
abbrev Ca (C : Cod) := Exit → List (SV C) → List (HS C) → Prop
def Bm (D : aL C) (B : dZ) (df : List Deferred) (T : List (SV C)) (Hp : List (HS C)) (a : Act) (w : World) : Prop :=
 ∃ E, Rel D B E (bI T) (aS Hp) df a w ∧ a.tmps.size = T.length
def Vl (D : aL C) (m0 : Nat) (T : List (SV C)) (Hp : List (HS C)) (T' : List (SV C)) (Hp' : List (HS C)) : Prop :=
 ∀ B df a w, B.m0 = m0 → Bm D B df T Hp a w → Bm D B df T' Hp' a w
structure wV (P : Program) (D : aL C) (f : FuncId) (args : List (SV C)) (H : Nat → HS C) (ret : SV C) (ws : List (Nat × HS C)) : Prop where
 run : ((∀ args w, (callFunc f args).run P w = .ok (.enter f args) w) ∧ ∀ B σ df a w E, Rel D B E σ H df a w → ∀ vs, DenA D w E args vs →
  CallsIn (Fc none) 0 P f vs.toArray w fun e w' => ∃ v E', e = .returned v ∧ Den D w' E' ret v ∧ Rel D B E' σ (kH H ws) df a w') ∨
  ∀ B σ df a w E, Rel D B E σ H df a w → ∀ vs, DenA D w E args vs → ∃ v w' E', (callFunc f vs.toArray).run P w = .ok (.value v) w' ∧ Den D w' E' ret v ∧ Rel D B E' σ (kH H ws) df a w'
abbrev jN (C : Cod) := List (It C) → List (SV C) → List (HS C) → Prop
def Xw (D : aL C) (m0 : Nat) (R : jN C) (body : Code) (k : List (It C)) (T : List (SV C)) (Hp : List (HS C)) : Prop :=
 ∃ (γ : Type) (I : γ → List (SV C) × List (HS C)) (good : γ → Prop) (μ : γ → Nat) (g0 : γ), good g0 ∧ Vl D m0 T Hp (I g0).1 (I g0).2 ∧
  ∀ g, good g → ∀ J : List (SV C) → List (HS C) → Prop, (∀ T' Hp' g', good g' → μ g' < μ g → Vl D m0 T' Hp' (I g').1 (I g').2 → J T' Hp') →
   R (.code body :: .endLoop J :: k) (I g).1 (I g).2
def Qa (Φ : Ca C) (R : jN C) (id : Nat) (T : List (SV C)) (Hp : List (HS C)) : Option (List (It C)) → Prop
 | some k => R k T Hp
 | none => Φ (.exit id) T Hp
structure Ti (P : Program) (D : aL C) (f : FuncId) (args : List (SV C)) (H0 : Nat → HS C) (fc : List Nat) (ret : SV C) (ws : List (Nat × HS C)) : Prop where
 at_ : ∀ H, (∀ c ∈ fc, H c = H0 c) → wV P D f args H ret ws
def fF : List Operand → List Nat
 | [] => []
 | .tmp t :: l => t :: fF l
 | _ :: l => fF l
def mK : List (SV C) → List Nat
 | [] => []
 | x :: l => match x.topId with
  | some c => c :: mK l
  | none => mK l
def Yk : Op → List (SV C) → List Nat
 | .move _, _ => []
 | .assign _, _ => []
 | .store _ _ _, vals => match vals with
  | a :: _ => mK [a]
  | [] => []
 | _, vals => mK vals
def mJ : List (Nat × HS C) → List Nat
 | [] => []
 | (c, _) :: l => c :: mJ l
def q0f : Op → Bool
 | .alloc _ => true
 | .box _ _ => true
 | .buildSlice _ _ _ => true
 | .makeSlice _ _ _ => true
 | .makeMap _ _ => true
 | .slice _ _ (some _) _ (some _) => true
 | .call c => match c.callee with
  | .builtin .append => true
  | _ => false
 | _ => false
abbrev DK (C : Cod) := List Ent → List (SV C) → List (HS C) → Prop
def Yx (next : DK C) (tr : List Ent) (T : List (SV C)) (Hp : List (HS C)) : Prop := next tr T Hp
def zA (P : Program) (D : aL C) (next : DK C) (f : FuncId) (args : List (SV C)) (dst : Option Nat) (fs fc0 : List Nat) (tr : List Ent) (T : List (SV C)) (Hp : List (HS C)) : Prop :=
 ∃ ret ws fc, Ti P D f args (aS Hp) fc ret ws ∧ next (⟨dst, fs, fc0 ++ fc, mJ ws⟩ :: tr) (iV T dst ret) (dR Hp ws)
def Ty (P : Program) (D : aL C) (next : DK C) (dst : Option Nat) (fs fc : List Nat) (tr : List Ent) (T : List (SV C)) (Hp : List (HS C)) : Out C → Prop
 | .stuck => False
 | .val v => next (⟨dst, fs, fc, []⟩ :: tr) (iV T dst v) Hp
 | .side p v => p ∧ next (⟨dst, fs, fc, []⟩ :: tr) (iV T dst v) Hp
 | .mem v ws => next (⟨dst, fs, fc, mJ ws⟩ :: tr) (iV T dst v) (dR Hp ws)
 | .smem p v ws => p ∧ next (⟨dst, fs, fc, mJ ws⟩ :: tr) (iV T dst v) (dR Hp ws)
 | .call f args => zA P D next f args dst fs fc tr T Hp
 | .yieldc _ _ => False
 | .may _ _ => False
 | .ask q K W => ∃ r, q = some r ∧ next (⟨dst, fs, fc, mJ (W r)⟩ :: tr) (iV T dst (K r)) (dR Hp (W r))
def R9 (Hp : List (HS C)) (m : Nat) (X : Prop) : Prop := match aS Hp m with
 | .fresh => X
 | _ => False
def Gk (o : Op) (big : Nat) (Hp : List (HS C)) : Nat := match q0f o with
 | true => hlen Hp
 | false => big
def E9 (P : Program) {D : aL C} (A : Aux C D) (tab : Tab C) (next : DK C) (dst : Option Nat) (op : Op) (fs : List Nat) (tr : List Ent) (T : List (SV C)) (Hp : List (HS C)) (vals : List (SV C)) (m : Nat) : Prop :=
 R9 Hp m (Ty P D next dst fs (m :: Yk op vals) tr T Hp (exec A tab op vals (mI Hp vals) m))
def rH (P : Program) {D : aL C} (A : Aux C D) (tab : Tab C) (big : Nat) (next : DK C) (dst : Option Nat) (op : Op) (gs : List Nat) (tr : List Ent) (T : List (SV C)) (Hp : List (HS C)) : Prop :=
 E9 P A tab next dst op (gs ++ fF (aO op)) tr T Hp (aV T (aO op)) (Gk op big Hp)
def Qm (P : Program) {D : aL C} (A : Aux C D) (tab : Tab C) (big : Nat) (next : DK C) (dst : Option Nat) (op : Op) (gs : List Nat) (tr : List Ent) (T : List (SV C)) (Hp : List (HS C)) : Prop :=
 rH P A tab big next dst op gs tr T Hp
def Fi (P : Program) {D : aL C} (A : Aux C D) (tab : Tab C) (big : Nat) (next : DK C) (dst : Option Nat) (op : Op) (d : Nat) (want : Bool) (tr : List Ent) (T : List (SV C)) (Hp : List (HS C)) : SV C → Prop
 | .p (.bool b) => match want with
  | true => Qv b (Qm P A tab big next dst op [d] tr T Hp) (Yx next (⟨dst, [d], [], []⟩ :: tr) (iV T dst (.tuple [])) Hp)
  | false => Qv b (Yx next (⟨dst, [d], [], []⟩ :: tr) (iV T dst (.tuple [])) Hp) (Qm P A tab big next dst op [d] tr T Hp)
 | .tuple [] => next (⟨dst, [d], [], []⟩ :: tr) (iV T dst (.tuple [])) Hp
 | _ => False
def W0 (P : Program) {D : aL C} (A : Aux C D) (tab : Tab C) (big : Nat) (next : DK C) (dst : Option Nat) (op : Op) (want : Bool) (tr : List Ent) (T : List (SV C)) (Hp : List (HS C)) : Option Nat → Prop
 | none => False
 | some d => Fi P A tab big next dst op d want tr T Hp (bI T d)
def kD (P : Program) {D : aL C} (A : Aux C D) (tab : Tab C) (K : DK C) (all : List Oper) (big : Nat) : List Oper → DK C
 | [] => K
 | ⟨dst, op, _, _, _, none⟩ :: rest => fun tr T Hp => rH P A tab big (kD P A tab K all big rest) dst op [] tr T Hp
 | ⟨dst, op, _, _, _, some (j, want)⟩ :: rest => fun tr T Hp => W0 P A tab big (kD P A tab K all big rest) dst op want tr T Hp (wP all j)
def Wl (R : jN C) (all : List Oper) (k : List (It C)) : DK C := fun tr T Hp => yK all tr.reverse = true ∧ R k T Hp
def Pv (P : Program) {D : aL C} (A : Aux C D) (tab : Tab C) (R : jN C) (ops : List Oper) (k : List (It C)) (T : List (SV C)) (Hp : List (HS C)) : Prop :=
 P.follows .mixedOrders = true ∧ kD P A tab (Wl R ops k) ops (hlen Hp + 1000) ops [] T Hp
section
variable {P : Program} {D : aL C} {tab : Tab C} {B : dZ} {E : Env} {σ : Nat → SV C} {H : Nat → HS C} {df : List Deferred} {a : Act} {w : World} {o : Oper} {r : Option Nat}
theorem oE : ∀ (T : List (SV C)) (d : Nat) (v : SV C) (i : Nat), bI (tN T d v) i = if i = d ∧ d < T.length then v else bI T i
 | [], d, v, i => by simp [tN, bI]
 | x :: l, 0, v, i => by cases i <;> simp [tN, bI]
 | x :: l, d + 1, v, i => by
  cases i with
  | zero => simp [tN, bI]
  | succ i => simp only [tN, bI, oE l d v i, List.length_cons, Nat.add_right_cancel_iff, Nat.add_lt_add_iff_right]
theorem gZ : ∀ (T : List (SV C)) (d : Nat) (v : SV C), (tN T d v).length = T.length
 | [], d, v => rfl
 | x :: l, 0, v => rfl
 | x :: l, d + 1, v => by simp [tN, gZ l d v]
theorem dS (T : List (SV C)) (d : Option Nat) (v : SV C) : (iV T d v).length = T.length := by
 cases d <;> simp [iV, gZ]
theorem fE (T : List (SV C)) (d : Option Nat) (v : SV C) : bI (iV T d v) = upT T.length (bI T) d v := by
 cases d with
 | none => rfl
 | some d => funext i; simp only [iV, upT, oE]
theorem uZ : ∀ (Hp : List (HS C)) (c : Nat) (h : HS C) (i : Nat), aS (F1 Hp c h) i = if i = c then h else aS Hp i
 | [], 0, h, i => by cases i <;> simp [F1, aS]
 | [], c + 1, h, i => by
  cases i with
  | zero => simp [F1, aS]
  | succ i => simp only [F1, aS, uZ [] c h i, Nat.add_right_cancel_iff]
 | x :: l, 0, h, i => by cases i <;> simp [F1, aS]
 | x :: l, c + 1, h, i => by
  cases i with
  | zero => simp [F1, aS]
  | succ i => simp only [F1, aS, uZ l c h i, Nat.add_right_cancel_iff]
theorem lW (Hp : List (HS C)) (c : Nat) (h : HS C) : aS (F1 Hp c h) = upH (aS Hp) c h := by
 funext i; simp only [upH, uZ]
theorem gI : ∀ (ws : List (Nat × HS C)) (Hp : List (HS C)), aS (dR Hp ws) = kH (aS Hp) ws
 | [], Hp => rfl
 | (c, h) :: l, Hp => by simp only [dR, kH, gI l, lW]
theorem Ao (T : List (SV C)) (x : Operand) : evT T x = ev (bI T) x := by cases x <;> rfl
theorem lA (T : List (SV C)) : ∀ l : List Operand, aV T l = l.map (ev (bI T))
 | [] => rfl
 | x :: l => by simp only [aV, List.map_cons, Ao, lA T l]
theorem pX (Hp : List (HS C)) : ∀ (vals : List (SV C)) (x : SV C), x ∈ vals → ∀ c, x.topId = some c → lk (mI Hp vals) c = aS Hp c
 | [], x, hx, c, _ => by simp at hx
 | y :: l, x, hx, c, hc => by
  simp only [mI]
  have ih := pX Hp l
  rcases List.mem_cons.1 hx with rfl | hx
  ·rw [hc]; simp [lk]
  ·cases hy : y.topId with
   | none => exact ih x hx c hc
   | some d =>
    simp only [lk]
    by_cases hdc : d = c
    ·rw [if_pos hdc, hdc]
    ·rw [if_neg hdc]; exact ih x hx c hc
theorem qZ : ∀ Hp : List (HS C), hlen Hp = Hp.length
 | [] => rfl
 | _ :: l => by simp [hlen, qZ l]
theorem sG : ∀ Hp : List (HS C), aS Hp (hlen Hp) = .fresh
 | [] => rfl
 | _ :: l => by simp only [hlen, aS]; exact sG l
theorem Mj (A : Aux C D) (hT : bH P D tab) {T : List (SV C)} {Hp : List (HS C)} (hR : Rel D B E (bI T) (aS Hp) df a w) :
  bF P D B (bI T) (aS Hp) df a w o (Tl A tab o.op (aV T (aO o.op)) Hp) :=
 E7 A hT hR (sG Hp) (lA T _) fun x hx c hc => pX Hp _ x hx c hc
theorem tP (A : Aux C D) {vals : List (SV C)} {hs : List (Nat × HS C)} {m : Nat} (h : exec A tab o.op vals hs m ≠ .stuck) : ∀ c, o.op ≠ .defer c := by
 intro c hc
 rw [hc] at h
 exact h rfl
theorem cX {next : Act → World → Prop} {Q : Exit → Act → World → Prop} (hnd : ∀ c, o.op ≠ .defer c) {v : SV C} {ws : List (Nat × HS C)} {T : List (SV C)} {Hp : List (HS C)}
  (hR : Bm D B df T Hp a w) (h : fX P D B (bI T) (aS Hp) df a w o v ws)
  (hn : ∀ a' w', Bm D B df (iV T o.dst v) (dR Hp ws) a' w' → next a' w') : o.wpIn (Fc r) 0 P a w next Q := by
 refine ⟨fun _ _ => trivial, ?_⟩
 obtain ⟨u, w', E', hrun, hR', hd⟩ := h
 obtain ⟨E0, _, hsz⟩ := hR
 have hput := hR'.put hsz o.dst (.inr hd)
 have hrel : Bm D B df (iV T o.dst v) (dR Hp ws) (a.put o.dst u) w' := by
  refine ⟨E', ?_, by rw [gA, hsz, dS]⟩
  rw [fE, gI]
  exact hput
 rw [show (Fc r).round = r from rfl, Oper.semAt_eq r _ _ hnd]
 rcases hrun with hrun | ⟨hrun, rfl⟩
 ·rw [hrun]; exact hn _ _ hrel
 ·rw [hrun]; exact hn _ _ hrel
variable {Q : Exit → Act → World → Prop}
theorem vW {c : Code} (I : Nat → Act → World → Prop) (n₀ : Nat) (h₀ : I n₀ a w)
  (round : ∀ n a w, I n a w → c.wpIn (Fc r) 0 P (Exit.then (fun a' w' => ∃ n', n' < n ∧ I n' a' w') Q) a w) : (Code.loop c).wpIn (Fc r) 0 P Q a w := by
 refine wpIn_loop (fun a w => ∃ n, I n a w) (fun a w => leastOf (fun n => I n a w)) ⟨n₀, h₀⟩ ?_
 intro a w hI
 refine wpIn_mono (round _ a w (leastOf_spec hI).1) ?_
 intro e a' w' hq
 cases e with
 | normal =>
  obtain ⟨n', hlt, hI'⟩ := hq
  exact show (∃ n, I n a' w') ∧ leastOf (fun n => I n a' w') < leastOf (fun n => I n a w) from ⟨⟨n', hI'⟩, Nat.lt_of_le_of_lt ((leastOf_spec ⟨n', hI'⟩).2 n' hI') hlt⟩
 | exit id => exact hq
 | goto l => exact hq
 | ret => exact hq
 | panic c => exact hq
 | outgrown => exact hq
theorem rQ {all : List Oper} {j d : Nat} (h : wP all j = some d) (b : Bool) (hb : a.tmps.getD d undef = .bool b) : yielded all.toArray a.tmps j = some b := by
 unfold wP at h
 rw [oP] at h
 unfold yielded
 cases hq : all[j]? with
 | none => simp [hq] at h
 | some o =>
  simp [hq] at h
  have hbt : a.tmps[d]? = some (.bool b) := by
   rw [Array.getD_eq_getD_getElem?] at hb
   cases ht : a.tmps[d]? with
   | none => rw [ht] at hb; simp [undef] at hb
   | some v => rw [ht] at hb; simp at hb; rw [hb]
  simp [hq, h, hbt]
theorem pM {all : List Oper} {j d : Nat} (h : wP all j = some d) (hb : a.tmps.getD d undef = .tuple #[]) : yielded all.toArray a.tmps j = none := by
 unfold wP at h
 rw [oP] at h
 unfold yielded
 cases hq : all[j]? with
 | none => simp [hq] at h
 | some o =>
  simp [hq] at h
  cases ht : a.tmps[d]? with
  | none => simp [hq, h, ht]
  | some v =>
   rw [Array.getD_eq_getD_getElem?, ht] at hb
   simp at hb
   simp [hq, h, ht, hb]
theorem O8 {T : List (SV C)} {Hp : List (HS C)} {d : Nat} {b : Bool} (h : Bm D B df T Hp a w) (hd : bI T d = .p (.bool b)) : a.tmps.getD d undef = .bool b ∧ Bm D B df (tN T d (.p (.bool b))) Hp a w := by
 obtain ⟨E, hR, hsz⟩ := h
 have hden := hR.den d
 rw [hd] at hden
 refine ⟨fZ hden, E, ⟨fun i => ?_, hR.sat, hR.fr, hR.defers, hR.marks⟩, by rw [gZ, hsz]⟩
 rw [oE]
 split
 ·rename_i hi; rw [hi.1]; exact hden
 ·exact hR.den i
theorem Et {T : List (SV C)} {Hp : List (HS C)} (h : Bm D B df T Hp a w) (d : Option Nat) : Bm D B df (iV T d (.tuple [])) Hp (a.put d undef) w := by
 obtain ⟨E, hR, hsz⟩ := h
 refine ⟨E, ?_, by rw [gA, hsz, dS]⟩
 rw [fE]
 exact hR.put hsz d (.inr (by simp only [Den, DenA]; exact ⟨#[], rfl, rfl⟩))
def OkS (D : aL C) (B : dZ) (df : List Deferred) (N : Nat) (x : ST C) (a : Act) (w : World) : Prop := ∃ E, Rel D B E x.1 x.2 df a w ∧ a.tmps.size = N
theorem fC {next : Act → World → Prop} {Q : Exit → Act → World → Prop} (hnd : ∀ c, o.op ≠ .defer c) {v : SV C} {ws : List (Nat × HS C)} {N : Nat} (hsz : a.tmps.size = N)
  (h : fX P D B σ H df a w o v ws) (hn : ∀ a' w', OkS D B df N (upT N σ o.dst v, kH H ws) a' w' → next a' w') : o.wpIn (Fc r) 0 P a w next Q := by
 refine ⟨fun _ _ => trivial, ?_⟩
 obtain ⟨u, w', E', hrun, hR', hd⟩ := h
 have hput := hR'.put hsz o.dst (.inr hd)
 have hrel : OkS D B df N (upT N σ o.dst v, kH H ws) (a.put o.dst u) w' := ⟨E', hput, by rw [gA, hsz]⟩
 rw [show (Fc r).round = r from rfl, Oper.semAt_eq r _ _ hnd]
 rcases hrun with hrun | ⟨hrun, rfl⟩
 ·rw [hrun]; exact hn _ _ hrel
 ·rw [hrun]; exact hn _ _ hrel
theorem C5 {next : Act → World → Prop} {Q : Exit → Act → World → Prop} (hnd : ∀ c, o.op ≠ .defer c) {f : FuncId} {args : List (SV C)} {ret : SV C} {ws : List (Nat × HS C)} {N : Nat} (hsz : a.tmps.size = N)
  (hR : Rel D B E σ H df a w) (h : bF P D B σ H df a w o (.call f args)) (hc : wV P D f args H ret ws)
  (hn : ∀ a' w', OkS D B df N (upT N σ o.dst ret, kH H ws) a' w' → next a' w') : o.wpIn (Fc r) 0 P a w next Q := by
 refine ⟨fun _ _ => trivial, ?_⟩
 obtain ⟨vs, hd, hrun⟩ := h E hR
 rcases hc.run with ⟨hc1, hc2⟩ | hx
 rotate_left
 ·obtain ⟨v, w', E', h1, hv, hR'⟩ := hx B _ df a w E hR vs hd
  rw [show (Fc r).round = r from rfl, Oper.semAt_eq r _ _ hnd, hrun, h1]
  have hput := hR'.put hsz o.dst (.inr hv)
  exact hn _ _ ⟨E', hput, by rw [gA, hsz]⟩
 rw [show (Fc r).round = r from rfl, Oper.semAt_eq r _ _ hnd, hrun, hc1]
 refine ⟨fun h => by simp [Fc] at h, ?_⟩
 have hcalls := hc2 B _ df a w E hR vs hd
 have hcalls' : CallsIn (Fc r) (0 - 1) P f vs.toArray w fun e w' => ∃ v E', e = .returned v ∧ Den D w' E' ret v ∧ Rel D B E' σ (kH H ws) df a w' := hcalls
 refine hcalls'.mono ?_
 rintro e w' ⟨v, E', rfl, hv, hR'⟩
 have hput := hR'.put hsz o.dst (.inr hv)
 exact hn _ _ ⟨E', hput, by rw [gA, hsz]⟩
variable (r) in
def fT (P : Program) (D : aL C) (B : dZ) (df : List Deferred) (Q : Exit → Act → World → Prop) (N : Nat) (all : List Oper) (i : Nat) (s : Stp C) (x : ST C) : Prop :=
 ∀ x' : ST C, (∀ t ∈ s.e.fs, x'.1 t = x.1 t) → (∀ c ∈ s.e.fc, x'.2 c = x.2 c) → ∀ a w (K : Act → World → Prop), OkS D B df N x' a w →
  (∀ a' w', OkS D B df N (s.app N x') a' w' → K a' w') → wpOpIn (Fc r) 0 P all.toArray Q i K a w
theorem dY : ∀ (l : List (SV C)) (x : SV C) (c : Nat), x ∈ l → x.topId = some c → c ∈ mK l
 | [], x, c, h, _ => by simp at h
 | y :: l, x, c, h, hc => by
  simp only [mK]
  rcases List.mem_cons.1 h with rfl | h
  ·rw [hc]; simp
  ·cases y.topId with
   | none => exact dY l x c h hc
   | some d => exact List.mem_cons_of_mem _ (dY l x c h hc)
theorem A7 : ∀ ws : List (Nat × HS C), mJ ws = ws.map (·.1)
 | [] => rfl
 | (c, h) :: l => by simp [mJ, A7 l]
theorem kB {σ σ' : Nat → SV C} : ∀ (l : List Operand), (∀ t ∈ fF l, σ' t = σ t) → l.map (ev σ') = l.map (ev σ)
 | [], _ => rfl
 | x :: l, h => by
  simp only [List.map_cons]
  cases x with
  | tmp t => rw [kB l fun u hu => h u (by simp [fF, hu])]; simp only [ev]; rw [h t (by simp [fF])]
  | const v => rw [kB l fun u hu => h u (by simpa [fF] using hu)]; rfl
  | global v => rw [kB l fun u hu => h u (by simpa [fF] using hu)]; rfl
  | func v => rw [kB l fun u hu => h u (by simpa [fF] using hu)]; rfl
theorem H8 (H : Nat → HS C) : ∀ (l : List Nat) (c : Nat), c ∈ l → lk (l.map fun c => (c, H c)) c = H c
 | [], c, h => by simp at h
 | d :: l, c, h => by
  simp only [List.map_cons, lk]
  by_cases e : d = c
  ·rw [if_pos e, e]
  ·rw [if_neg e]
   exact H8 H l c (by rcases List.mem_cons.1 h with h | h; exact absurd h.symm e; exact h)
theorem E8 {t : TypeId} {a v : SV C} {hs hs' : List (Nat × HS C)} (h : ∀ c, a.topId = some c → lk hs c = lk hs' c) : pR D tab t a v hs = pR D tab t a v hs' := by
 unfold pR
 cases tab t with
 | none => rfl
 | some i => cases a <;> first | rfl | simp only [h _ rfl]
theorem Qq (A : Aux C D) {m : Nat} (op : Op) (vals : List (SV C)) (Hp : List (HS C)) (H : Nat → HS C) (h : ∀ c ∈ Yk op vals, H c = aS Hp c) :
  ∃ hs', (∀ x ∈ vals, ∀ c, x.topId = some c → lk hs' c = H c) ∧ exec A tab op vals hs' m = exec A tab op vals (mI Hp vals) m := by
 cases op
 case move x => exact ⟨_, fun x hx c hc => H8 H (mK vals) c (dY _ x c hx hc), rfl⟩
 case assign x => exact ⟨_, fun x hx c hc => H8 H (mK vals) c (dY _ x c hx hc), rfl⟩
 case store t x y =>
  refine ⟨_, fun x hx c hc => H8 H (mK vals) c (dY _ x c hx hc), ?_⟩
  match vals, h with
  | [], _ => rfl
  | [_], _ => rfl
  | _ :: _ :: _ :: _, _ => rfl
  | [a, v], h =>
   refine E8 fun c hc => ?_
   rw [H8 H (mK [a, v]) c (dY _ a c (by simp) hc), pX Hp [a, v] a (by simp) c hc]
   exact h c (dY [a] a c (by simp) hc)
 all_goals exact ⟨_, fun x hx c hc => (pX Hp _ x hx c hc).trans (h c (dY _ x c hx hc)).symm, rfl⟩
theorem nL {tmps : Nat → Option Bool} (hg : o.guard = none) : Region.wanted o tmps = true := by simp [Region.wanted, hg]
theorem gW (A : Aux C D) (hT : bH P D tab) {all : List Oper} {i : Nat} (hi : all[i]? = some o) {Q : Exit → Act → World → Prop} {N : Nat} {T : List (SV C)} {Hp : List (HS C)} {m : Nat} {gs : List Nat} (hm : aS Hp m = .fresh) {v : SV C} {ws : List (Nat × HS C)}
    (hwant : ∀ x' : ST C, (∀ t ∈ gs, x'.1 t = bI T t) → ∀ a w, OkS D B df N x' a w → Region.wanted o (yielded all.toArray a.tmps) = true)
    {fc : List Nat} (hf : fc = m :: Yk o.op (aV T (aO o.op)))
    (hout : exec A tab o.op (aV T (aO o.op)) (mI Hp (aV T (aO o.op))) m = .val v ∧ ws = [] ∨
      (∃ p : Prop, p ∧ exec A tab o.op (aV T (aO o.op)) (mI Hp (aV T (aO o.op))) m = .side p v ∧ ws = []) ∨
      exec A tab o.op (aV T (aO o.op)) (mI Hp (aV T (aO o.op))) m = .mem v ws ∨
      (∃ p : Prop, p ∧ exec A tab o.op (aV T (aO o.op)) (mI Hp (aV T (aO o.op))) m = .smem p v ws) ∨
      ∃ q K W r, exec A tab o.op (aV T (aO o.op)) (mI Hp (aV T (aO o.op))) m = .ask q K W ∧ q = some r ∧ v = K r ∧ ws = W r) :
    fT r P D B df Q N all i ⟨⟨o.dst, gs ++ fF (aO o.op), fc, mJ ws⟩, v, ws, (A7 ws).symm⟩ (bI T, aS Hp) := by
  subst hf
  intro x' hfs hfc a w K hok hK
  have hw := hwant x' (fun t ht => hfs t (by simp [ht])) a w hok
  obtain ⟨E, hR, hsz⟩ := hok
  have hv : aV T (aO o.op) = (aO o.op).map (ev x'.1) := by
    rw [lA]
    exact (kB (σ := bI T) (σ' := x'.1) _ fun t ht => hfs t (by simp [ht])).symm
  have hm' : x'.2 m = .fresh := (hfc m (by simp)).trans hm
  obtain ⟨hs', hl', he'⟩ := Qq (tab := tab) (m := m) A o.op (aV T (aO o.op)) Hp x'.2 fun c hc => hfc c (by simp [hc])
  have hOK := E7 (o := o) A hT hR hm' hv (hs := hs') hl'
  rw [he'] at hOK
  have hnd : ∀ c, o.op ≠ .defer c := tP (m := m) (hs := mI Hp (aV T (aO o.op))) (vals := aV T (aO o.op)) A (by
    rcases hout with ⟨h, _⟩ | ⟨p, _, h, _⟩ | h | ⟨p, _, h⟩ | ⟨q, K, W, r, h, _⟩ <;> rw [h] <;> simp)
  unfold wpOpIn
  simp only [List.getElem?_toArray, hi, hw, if_true]
  rcases hout with ⟨h, rfl⟩ | ⟨p, hp, h, rfl⟩ | h | ⟨p, hp, h⟩ | ⟨q, K, W, r', h, hq, rfl, rfl⟩ <;> rw [h] at hOK
  · exact fC hnd hsz hOK fun a' w' hr => hK a' w' hr
  · exact fC hnd hsz (hOK hp) fun a' w' hr => hK a' w' hr
  · exact fC hnd hsz hOK fun a' w' hr => hK a' w' hr
  · exact fC hnd hsz (hOK hp) fun a' w' hr => hK a' w' hr
  · exact fC hnd hsz (hOK r' hq) fun a' w' hr => hK a' w' hr
theorem N6 (A : Aux C D) (hT : bH P D tab) {all : List Oper} {i : Nat} (hi : all[i]? = some o) {Q : Exit → Act → World → Prop} {N : Nat} {T : List (SV C)} {Hp : List (HS C)} {m : Nat} {gs : List Nat} (hm : aS Hp m = .fresh) {v : SV C} {ws : List (Nat × HS C)}
  (hwant : ∀ x' : ST C, (∀ t ∈ gs, x'.1 t = bI T t) → ∀ a w, OkS D B df N x' a w → Region.wanted o (yielded all.toArray a.tmps) = true) {f : FuncId} {args : List (SV C)} {fc : List Nat}
  (hout : exec A tab o.op (aV T (aO o.op)) (mI Hp (aV T (aO o.op))) m = .call f args) (hc : Ti P D f args (aS Hp) fc v ws) :
  fT r P D B df Q N all i ⟨⟨o.dst, gs ++ fF (aO o.op), m :: Yk o.op (aV T (aO o.op)) ++ fc, mJ ws⟩, v, ws, (A7 ws).symm⟩ (bI T, aS Hp) := by
 intro x' hfs hfc a w K hok hK
 have hw := hwant x' (fun t ht => hfs t (by simp [ht])) a w hok
 obtain ⟨E, hR, hsz⟩ := hok
 have hv : aV T (aO o.op) = (aO o.op).map (ev x'.1) := by
  rw [lA]
  exact (kB (σ := bI T) (σ' := x'.1) _ fun t ht => hfs t (by simp [ht])).symm
 have hm' : x'.2 m = .fresh := (hfc m (by simp)).trans hm
 obtain ⟨hs', hl', he'⟩ := Qq (tab := tab) (m := m) A o.op (aV T (aO o.op)) Hp x'.2 fun c hc => hfc c (by simp [hc])
 have hOK := E7 (o := o) A hT hR hm' hv (hs := hs') hl'
 rw [he'] at hOK
 have hnd : ∀ c, o.op ≠ .defer c := tP (m := m) (hs := mI Hp (aV T (aO o.op))) (vals := aV T (aO o.op)) A (by rw [hout]; simp)
 unfold wpOpIn
 simp only [List.getElem?_toArray, hi, hw, if_true]
 rw [hout] at hOK
 exact C5 hnd hsz hR hOK (hc.at_ x'.2 fun c hcc => hfc c (by simp [hcc])) fun a' w' hr => hK a' w' hr
theorem rR {all : List Oper} {i : Nat} (hi : all[i]? = some o) {Q : Exit → Act → World → Prop} {N : Nat} {T : List (SV C)} {Hp : List (HS C)} {gs : List Nat}
  (hwant : ∀ x' : ST C, (∀ t ∈ gs, x'.1 t = bI T t) → ∀ a w, OkS D B df N x' a w → Region.wanted o (yielded all.toArray a.tmps) = false) :
  fT r P D B df Q N all i ⟨⟨o.dst, gs, [], []⟩, .tuple [], [], rfl⟩ (bI T, aS Hp) := by
 intro x' hfs hfc a w K hok hK
 have hw := hwant x' (fun t ht => hfs t ht) a w hok
 obtain ⟨E, hR, hsz⟩ := hok
 unfold wpOpIn
 simp only [List.getElem?_toArray, hi, hw, Bool.false_eq_true, if_false]
 refine ⟨fun _ _ => trivial, hK _ _ ⟨E, ?_, by rw [gA, hsz]⟩⟩
 exact hR.put hsz o.dst (.inr (by simp only [Den, DenA]; exact ⟨#[], rfl, rfl⟩))
def fO (N : Nat) : ST C → List (Stp C) → ST C
 | x, [] => x
 | x, s :: l => fO N (s.app N x) l
theorem iE (N : Nat) : ∀ (l m : List (Stp C)) (x : ST C), fO N x (l ++ m) = fO N (fO N x l) m
 | [], m, x => rfl
 | s :: l, m, x => iE N l m _
theorem lH {N : Nat} {x : ST C} {ss : List (Stp C)} {dflt : Stp C} : ∀ k, k ≤ ss.length → stA N x (fun k => ss.getD k dflt) Ei k = fO N x (ss.take k)
 | 0, _ => by simp [stA, fO]
 | k + 1, hk => by
  have hk' : k < ss.length := by omega
  rw [List.take_add_one, iE, ← lH (dflt := dflt) k (by omega)]
  simp [stA, Ei, hk', fO]
theorem kP (A : Aux C D) (hT : bH P D tab) {all : List Oper} {i : Nat} (hi : all[i]? = some o) {Q : Exit → Act → World → Prop} {N : Nat} {T : List (SV C)} {Hp : List (HS C)} {big : Nat} {gs : List Nat} {next : DK C} {tr : List Ent}
  (hwant : ∀ x' : ST C, (∀ t ∈ gs, x'.1 t = bI T t) → ∀ a w, OkS D B df N x' a w → Region.wanted o (yielded all.toArray a.tmps) = true)
  (h : rH P A tab big next o.dst o.op gs tr T Hp) : ∃ s : Stp C, fT r P D B df Q N all i s (bI T, aS Hp) ∧ s.e.d = o.dst ∧ next (s.e :: tr) (iV T o.dst s.v) (dR Hp s.ws) := by
 unfold rH E9 R9 at h
 split at h
 ·rename_i hm
  generalize hout : exec A tab o.op (aV T (aO o.op)) (mI Hp (aV T (aO o.op))) (Gk o.op big Hp) = out at h
  cases out with
  | stuck => exact h.elim
  | val v => exact ⟨_, gW A hT hi hm (ws := []) hwant rfl (.inl ⟨hout, rfl⟩), rfl, h⟩
  | side p v => exact ⟨_, gW A hT hi hm (ws := []) hwant rfl (.inr (.inl ⟨p, h.1, hout, rfl⟩)), rfl, h.2⟩
  | mem v ws => exact ⟨_, gW A hT hi hm (ws := ws) hwant rfl (.inr (.inr (.inl hout))), rfl, h⟩
  | smem p v ws => exact ⟨_, gW A hT hi hm (ws := ws) hwant rfl (.inr (.inr (.inr (.inl ⟨p, h.1, hout⟩)))), rfl, h.2⟩
  | call f args =>
   obtain ⟨ret, ws, fc, hc, hn⟩ := h
   exact ⟨_, N6 A hT hi hm (ws := ws) hwant hout hc, rfl, hn⟩
  | yieldc c args => exact h.elim
  | may p v => exact h.elim
  | ask q K W =>
   obtain ⟨r', hq, h2⟩ := h
   exact ⟨_, gW A hT hi hm (ws := W r') hwant rfl (.inr (.inr (.inr (.inr ⟨q, K, W, r', hout, hq, rfl, rfl⟩)))), rfl, h2⟩
 ·exact h.elim
theorem Mo {N : Nat} {x : ST C} {T : List (SV C)} {d : Nat} (hok : OkS D B df N x a w) (hx : x.1 d = bI T d) {b : Bool} (hb : bI T d = .p (.bool b)) : a.tmps.getD d undef = .bool b := by
 obtain ⟨E, hR, _⟩ := hok
 have := hR.den d
 rw [hx, hb] at this
 exact fZ this
theorem Mh {N : Nat} {x : ST C} {T : List (SV C)} {d : Nat} (hok : OkS D B df N x a w) (hx : x.1 d = bI T d) (hb : bI T d = .tuple []) : a.tmps.getD d undef = .tuple #[] := by
 obtain ⟨E, hR, _⟩ := hok
 have hden := hR.den d
 rw [hx, hb] at hden
 simp only [Den, DenA] at hden
 obtain ⟨xs, e, hx⟩ := hden
 have : xs = #[] := by simpa using hx
 rw [e, this]
theorem rC (A : Aux C D) (hT : bH P D tab) {all : List Oper} {Q : Exit → Act → World → Prop} {N : Nat} {big : Nat} {K : DK C} : ∀ (rest : List Oper) (i : Nat) (tr : List Ent) (T : List (SV C)) (Hp : List (HS C)),
  (∀ j, rest[j]? = all[i + j]?) → T.length = N → kD P A tab K all big rest tr T Hp →
  ∃ (ss : List (Stp C)) (T' : List (SV C)) (Hp' : List (HS C)), ss.length = rest.length ∧ T'.length = N ∧ K ((ss.map (·.e)).reverse ++ tr) T' Hp' ∧
   (∀ j s, ss[j]? = some s → fT r P D B df Q N all (i + j) s (fO N (bI T, aS Hp) (ss.take j))) ∧ fO N (bI T, aS Hp) ss = (bI T', aS Hp')
 | [], i, tr, T, Hp, _, hN, h => ⟨[], T, Hp, rfl, hN, h, fun j s hs => by simp at hs, rfl⟩
 | o :: rest, i, tr, T, Hp, hall, hN, h => by
  have hi : all[i]? = some o := by have := hall 0; simpa using this.symm
  have hrest : ∀ j, rest[j]? = all[i + 1 + j]? := fun j => by
   have := hall (j + 1)
   simp only [List.getElem?_cons_succ] at this
   rw [this]; congr 1; omega
  have fin : (∃ s : Stp C, fT r P D B df Q N all i s (bI T, aS Hp) ∧ s.e.d = o.dst ∧ kD P A tab K all big rest (s.e :: tr) (iV T o.dst s.v) (dR Hp s.ws)) →
    ∃ (ss : List (Stp C)) (T' : List (SV C)) (Hp' : List (HS C)), ss.length = (o :: rest).length ∧ T'.length = N ∧ K ((ss.map (·.e)).reverse ++ tr) T' Hp' ∧
   (∀ j s, ss[j]? = some s → fT r P D B df Q N all (i + j) s (fO N (bI T, aS Hp) (ss.take j))) ∧ fO N (bI T, aS Hp) ss = (bI T', aS Hp') := by
   rintro ⟨s, h1, h2, h3⟩
   obtain ⟨ss, T', Hp', g1, g2, g3, g4, g5⟩ := rC A hT rest (i + 1) _ _ _ hrest (by rw [dS, hN]) h3
   have happ : s.app N (bI T, aS Hp) = (bI (iV T o.dst s.v), aS (dR Hp s.ws)) := by
    simp only [Stp.app, h2, fE, gI, hN]
   refine ⟨s :: ss, T', Hp', by simp [g1], g2, by simpa using g3, fun j u hu => ?_, by rw [fO, happ]; exact g5⟩
   cases j with
   | zero => simp at hu; subst hu; exact h1
   | succ j =>
    have := g4 j u (by simpa using hu)
    rw [show i + (j + 1) = i + 1 + j by omega, List.take_succ_cons, fO, happ]
    exact this
  apply fin
  obtain ⟨dst, op, ty, pos, after, guard⟩ := o
  cases guard with
  | none => exact kP A hT hi (gs := []) (fun x' _ a w _ => nL rfl) h
  | some g =>
   obtain ⟨j, want⟩ := g
   simp only [kD] at h
   cases hg : wP all j with
   | none => rw [hg] at h; exact h.elim
   | some d =>
    rw [hg] at h
    simp only [W0, Fi] at h
    split at h
    ·rename_i b hb
     have hw : ∀ (b' : Bool), (want == b) = b' → ∀ x' : ST C, (∀ t ∈ [d], x'.1 t = bI T t) → ∀ a w, OkS D B df N x' a w →
       Region.wanted ⟨dst, op, ty, pos, after, some (j, want)⟩ (yielded all.toArray a.tmps) = b' := by
      intro b' hbb x' hx a w hok
      have hv := Mo hok (hx d (by simp)) hb
      simp only [Region.wanted, rQ hg b hv]
      rw [← hbb]; cases want <;> cases b <;> rfl
     have hskip : (want == b) = false → kD P A tab K all big rest (⟨dst, [d], [], []⟩ :: tr) (iV T dst (.tuple [])) Hp →
       ∃ s : Stp C, fT r P D B df Q N all i s (bI T, aS Hp) ∧ s.e.d = dst ∧ kD P A tab K all big rest (s.e :: tr) (iV T dst s.v) (dR Hp s.ws) :=
      fun hbb hn => ⟨_, rR hi (gs := [d]) (hw false hbb), rfl, hn⟩
     have hexec : (want == b) = true → rH P A tab big (kD P A tab K all big rest) dst op [d] tr T Hp →
       ∃ s : Stp C, fT r P D B df Q N all i s (bI T, aS Hp) ∧ s.e.d = dst ∧ kD P A tab K all big rest (s.e :: tr) (iV T dst s.v) (dR Hp s.ws) :=
      fun hbb hn => kP A hT hi (gs := [d]) (hw true hbb) hn
     cases want <;> cases b
     ·exact hexec rfl h
     ·exact hskip rfl h
     ·exact hskip rfl h
     ·exact hexec rfl h
    ·rename_i hb
     refine ⟨_, rR hi (gs := [d]) fun x' hx a w hok => ?_, rfl, h⟩
     have hv := Mh hok (hx d (by simp)) hb
     simp only [Region.wanted, pM hg hv]
     rfl
    ·exact h.elim
theorem K8 (A : Aux C D) (hT : bH P D tab) {R : jN C} {id : Nat} {ops : List Oper} {k : List (It C)} {T : List (SV C)} {Hp : List (HS C)} {Q : Exit → Act → World → Prop} (h : Pv P A tab R ops k T Hp)
  (hR : Bm D B df T Hp a w) (hQ : ∀ T' Hp' a' w', R k T' Hp' → Bm D B df T' Hp' a' w' → Q .normal a' w') : (Code.region id ops.toArray true).wpIn (Fc r) 0 P Q a w := by
 obtain ⟨hmix, hgo⟩ := h
 obtain ⟨E, hR', hsz⟩ := hR
 refine wpIn_region_any hmix ?_
 obtain ⟨ss, T', Hp', g1, g2, g3, g4, g5⟩ := rC A hT (r := r) (Q := Q) (B := B) (df := df) (N := T.length) ops 0 [] T Hp (fun j => by simp) rfl hgo
 simp only [List.append_nil, Wl, List.reverse_reverse] at g3
 obtain ⟨htr, hk⟩ := g3
 simp only [yK, Bool.and_eq_true] at htr
 let dflt : Stp C := ⟨⟨none, [], [], []⟩, .any, [], rfl⟩
 have hS : ∀ i s, ss[i]? = some s → ss.getD i dflt = s := fun i s hs => by simp [hs]
 refine rM (N := T.length) (x0 := (bI T, aS Hp)) (S := fun i => ss.getD i dflt) (Ok := OkS D B df T.length) (n := ops.length) (by simp) ?_ ?_ ?_ ?_ _ _ a _ (by simp) ⟨fun k hk o ho e he hb => ?_⟩ ?_ ?_
 ·intro k o ho e he hb
  have := pV ops 0 (ops := ops.toArray) (fun i => by simp) htr.1 k o (by simpa using ho) e he hb
  simpa using this
 ·intro i j hij hj hc
  have hj' : j < ss.length := by omega
  have hi' : i < ss.length := by omega
  have e1 : (ss.map (·.e))[i]? = some (ss.getD i dflt).e := by simp [hi']
  have e2 : (ss.map (·.e))[j]? = some (ss.getD j dflt).e := by simp [hj']
  have := kS (ss.map (·.e)) 0 (fun q => by simp) htr.2 j i _ _ (by omega) e1 (by simpa using e2) e2 hc
  rw [Nat.zero_add] at this
  exact tX ops [] (ops := ops.toArray) (fun q => by simp) (fun k j h => by simp at h) j i this
 ·intro i hi x' h1 h2 a w K hok hK
  have hi' : i < ss.length := by omega
  have hsi : ss[i]? = some (ss.getD i dflt) := by simp [hi']
  have := g4 i _ hsi
  rw [Nat.zero_add] at this
  rw [lH (dflt := dflt) i (by omega)] at h1 h2
  exact this x' h1 h2 a w K hok hK
 ·intro a w hok
  rw [lH (dflt := dflt) _ (by omega), show ops.length = ss.length by omega, List.take_length, g5] at hok
  obtain ⟨E, h1, h2⟩ := hok
  exact hQ _ _ _ _ hk ⟨E, h1, by rw [h2, g2]⟩
 ·have ho' := ho
  rw [Array.getElem?_eq_some_iff] at ho'
  obtain ⟨hlt, _⟩ := ho'
  simp at hlt
  simp [hlt] at hk
 ·have : ∀ n, cnt (fun k => (Array.replicate ops.length false).getD k true) n ≤ n := by
   intro n
   induction n with
   | zero => exact Nat.le_refl _
   | succ n ih => simp only [cnt]; split <;> omega
  have := this ops.length
  simpa using this
 ·have : ∀ n, n ≤ ops.length → stA T.length (bI T, aS Hp) (fun i => ss.getD i dflt) (fun k => (Array.replicate ops.toArray.size false).getD k true) n = (bI T, aS Hp) := by
   intro n
   induction n with
   | zero => intro _; rfl
   | succ n ih =>
    intro hn
    have hf : (Array.replicate ops.toArray.size false).getD n true = false := by simp [show n < ops.length by omega]
    simp only [stA, hf, ih (by omega)]
  rw [this _ (Nat.le_refl _)]
  exact ⟨E, hR'.drew, hsz⟩
end
end Go.SX
namespace Go.SX
open Go.RowKit
variable {C : Cod}
def ixO : List (Option Nat) → Nat → Option Nat
 | [], _ => none
 | x :: _, 0 => x
 | _ :: l, i + 1 => ixO l i
mutual
def jO (θ : List (Option Nat)) : SV C → Option (SV C)
 | .ptr c o => match ixO θ c with
  | some d => some (.ptr d o)
  | none => none
 | .eptr c o n i f => match ixO θ c with
  | some d => some (.eptr d o n i f)
  | none => none
 | .slice c o n off len => match ixO θ c with
  | some d => some (.slice d o n off len)
  | none => none
 | .agg vs => match renL θ vs with
  | some l => some (.agg l)
  | none => none
 | .fn f a b => match renL θ a with
  | some a' => match renL θ b with
   | some b' => some (.fn f a' b')
   | none => none
  | none => none
 | .iface t v => match jO θ v with
  | some v' => some (.iface t v')
  | none => none
 | .tuple vs => match renL θ vs with
  | some l => some (.tuple l)
  | none => none
 | .p x => some (.p x)
 | .any => some .any
 | .dptr a f => some (.dptr a f)
 | .arr u N xs => some (.arr u N xs)
 | .mapp c => match ixO θ c with
  | some d => some (.mapp d)
  | none => none
 | .yieldv c => match ixO θ c with
  | some d => some (.yieldv d)
  | none => none
def renL (θ : List (Option Nat)) : List (SV C) → Option (List (SV C))
 | [] => some []
 | x :: l => match jO θ x with
  | some y => match renL θ l with
   | some r => some (y :: r)
   | none => none
  | none => none
end
def R0 (θ : List (Option Nat)) : HS C → Option (HS C)
 | .fresh => some .fresh
 | .dead => some .dead
 | .rows u xs => some (.rows u xs)
 | .obj o => some (.obj o)
 | .vart t vs => match renL θ vs with
  | some l => some (.vart t l)
  | none => none
section
variable {D : aL C} {w : World}
theorem yC {θ : List (Option Nat)} {x y : SV C} (h : jO θ x = some y) : y.isArr = x.isArr := by
 cases x <;> simp only [jO] at h <;> (repeat' split at h) <;> simp at h <;> (try subst h) <;> rfl
mutual
theorem lJ {θ : List (Option Nat)} {E E' : Env} (hF : E'.F = E.F) (hβ : ∀ j d, ixO θ j = some d → E'.β j = E.β d) : ∀ (x y : SV C) (v : Value), jO θ x = some y → (Den D w E y v ↔ Den D w E' x v)
 | .ptr c o, y, v, h => by
  simp only [jO] at h
  cases hc : ixO θ c with
  | none => simp [hc] at h
  | some d => simp [hc] at h; subst h; simp only [Den, hβ c d hc]
 | .eptr c o n i f, y, v, h => by
  simp only [jO] at h
  cases hc : ixO θ c with
  | none => simp [hc] at h
  | some d => simp [hc] at h; subst h; simp only [Den, hβ c d hc]
 | .slice c o n off len, y, v, h => by
  simp only [jO] at h
  cases hc : ixO θ c with
  | none => simp [hc] at h
  | some d => simp [hc] at h; subst h; simp only [Den, hβ c d hc]
 | .agg vs, y, v, h => by
  simp only [jO] at h
  cases hc : renL θ vs with
  | none => simp [hc] at h
  | some l =>
   simp [hc] at h; subst h; simp only [Den]
   constructor
   ·rintro ⟨cs, h1, h2⟩; exact ⟨cs, h1, (ren_denC hF hβ vs l _ hc).1 h2⟩
   ·rintro ⟨cs, h1, h2⟩; exact ⟨cs, h1, (ren_denC hF hβ vs l _ hc).2 h2⟩
 | .fn f a b, y, v, h => by
  simp only [jO] at h
  cases ha : renL θ a with
  | none => simp [ha] at h
  | some a' =>
   cases hb : renL θ b with
   | none => simp [ha, hb] at h
   | some b' =>
    simp [ha, hb] at h; subst h; simp only [Den]
    constructor
    ·rintro ⟨xs, ys, h1, h2, h3⟩; exact ⟨xs, ys, h1, (ren_denA hF hβ a a' _ ha).1 h2, (ren_denA hF hβ b b' _ hb).1 h3⟩
    ·rintro ⟨xs, ys, h1, h2, h3⟩; exact ⟨xs, ys, h1, (ren_denA hF hβ a a' _ ha).2 h2, (ren_denA hF hβ b b' _ hb).2 h3⟩
 | .iface t x, y, v, h => by
  simp only [jO] at h
  cases hc : jO θ x with
  | none => simp [hc] at h
  | some l =>
   simp [hc] at h; subst h; simp only [Den]
   constructor
   ·rintro ⟨u, h1, h2⟩; exact ⟨u, h1, (lJ hF hβ x l _ hc).1 h2⟩
   ·rintro ⟨u, h1, h2⟩; exact ⟨u, h1, (lJ hF hβ x l _ hc).2 h2⟩
 | .tuple vs, y, v, h => by
  simp only [jO] at h
  cases hc : renL θ vs with
  | none => simp [hc] at h
  | some l =>
   simp [hc] at h; subst h; simp only [Den]
   constructor
   ·rintro ⟨cs, h1, h2⟩; exact ⟨cs, h1, (ren_denA hF hβ vs l _ hc).1 h2⟩
   ·rintro ⟨cs, h1, h2⟩; exact ⟨cs, h1, (ren_denA hF hβ vs l _ hc).2 h2⟩
 | .p x, y, v, h => by simp only [jO, Option.some.injEq] at h; subst h; simp only [Den, hF]
 | .any, y, v, h => by simp only [jO, Option.some.injEq] at h; subst h; simp only [Den]
 | .dptr a f, y, v, h => by simp only [jO, Option.some.injEq] at h; subst h; simp only [Den, hF]
 | .arr u N xs, y, v, h => by simp only [jO, Option.some.injEq] at h; subst h; simp only [Den]
 | .mapp c, y, v, h => by
  simp only [jO] at h
  cases hc : ixO θ c with
  | none => simp [hc] at h
  | some d => simp [hc] at h; subst h; simp only [Den, hβ c d hc]
 | .yieldv c, y, v, h => by
  simp only [jO] at h
  cases hc : ixO θ c with
  | none => simp [hc] at h
  | some d => simp [hc] at h; subst h; simp only [Den, hβ c d hc]
theorem ren_denC {θ : List (Option Nat)} {E E' : Env} (hF : E'.F = E.F) (hβ : ∀ j d, ixO θ j = some d → E'.β j = E.β d) : ∀ (l m : List (SV C)) (vs : List Value), renL θ l = some m → (DenC D w E m vs ↔ DenC D w E' l vs)
 | [], m, vs, h => by simp only [renL, Option.some.injEq] at h; subst h; simp only [DenC]
 | x :: l, m, vs, h => by
  simp only [renL] at h
  cases hx : jO θ x with
  | none => simp [hx] at h
  | some y =>
   cases hl : renL θ l with
   | none => simp [hx, hl] at h
   | some r =>
    simp [hx, hl] at h; subst h
    have ih := ren_denC hF hβ l r
    cases hxa : x.isArr with
    | true =>
     obtain ⟨u, N, xs, rfl⟩ := SV.arr_of hxa
     simp only [jO, Option.some.injEq] at hx
     subst hx
     simp only [DenC, hF]
     constructor
     ·rintro ⟨h1, v1, v2, h2, h3, h4⟩; exact ⟨h1, v1, v2, h2, h3, (ih v2 hl).1 h4⟩
     ·rintro ⟨h1, v1, v2, h2, h3, h4⟩; exact ⟨h1, v1, v2, h2, h3, (ih v2 hl).2 h4⟩
    | false =>
     have hya : y.isArr = false := by rw [yC hx]; exact hxa
     rw [aZ hxa, aZ hya]
     constructor
     ·rintro ⟨v, v2, h1, h2, h3, h4⟩; exact ⟨v, v2, h1, h2, (lJ hF hβ x y v hx).1 h3, (ih v2 hl).1 h4⟩
     ·rintro ⟨v, v2, h1, h2, h3, h4⟩; exact ⟨v, v2, h1, h2, (lJ hF hβ x y v hx).2 h3, (ih v2 hl).2 h4⟩
theorem ren_denA {θ : List (Option Nat)} {E E' : Env} (hF : E'.F = E.F) (hβ : ∀ j d, ixO θ j = some d → E'.β j = E.β d) : ∀ (l m : List (SV C)) (vs : List Value), renL θ l = some m → (DenA D w E m vs ↔ DenA D w E' l vs)
 | [], m, vs, h => by simp only [renL, Option.some.injEq] at h; subst h; simp only [DenA]
 | x :: l, m, vs, h => by
  simp only [renL] at h
  cases hx : jO θ x with
  | none => simp [hx] at h
  | some y =>
   cases hl : renL θ l with
   | none => simp [hx, hl] at h
   | some r =>
    simp [hx, hl] at h; subst h
    have ih := ren_denA hF hβ l r
    simp only [DenA]
    constructor
    ·rintro ⟨v, v2, h1, h2, h3⟩; exact ⟨v, v2, h1, (lJ hF hβ x y v hx).1 h2, (ih v2 hl).1 h3⟩
    ·rintro ⟨v, v2, h1, h2, h3⟩; exact ⟨v, v2, h1, (lJ hF hβ x y v hx).2 h2, (ih v2 hl).2 h3⟩
end
theorem Wx {θ : List (Option Nat)} {E E' : Env} (hF : E'.F = E.F) (hβ : ∀ j d, ixO θ j = some d → E'.β j = E.β d) {x y : HS C} (h : R0 θ x = some y) (b : Nat) : y.at D w E b ↔ x.at D w E' b := by
 cases x with
 | fresh => simp only [R0, Option.some.injEq] at h; subst h; exact Iff.rfl
 | dead => simp only [R0, Option.some.injEq] at h; subst h; exact Iff.rfl
 | rows u xs => simp only [R0, Option.some.injEq] at h; subst h; simp only [HS.at, hF]
 | obj o => simp only [R0, Option.some.injEq] at h; subst h; exact Iff.rfl
 | vart ty vs =>
  simp only [R0] at h
  cases hc : renL θ vs with
  | none => simp [hc] at h
  | some l =>
   simp [hc] at h; subst h
   simp only [HS.at]
   constructor
   ·rintro ⟨cs, T, h1, h2⟩; exact ⟨cs, T, h1, (ren_denC hF hβ vs l _ hc).1 h2⟩
   ·rintro ⟨cs, T, h1, h2⟩; exact ⟨cs, T, h1, (ren_denC hF hβ vs l _ hc).2 h2⟩
theorem Qb {θ : List (Option Nat)} {E E' : Env} (hF : E'.F = E.F) (hβ : ∀ j d, ixO θ j = some d → E'.β j = E.β d) {x y : HS C} (h : R0 θ x = some y) (s : BS) : y.ok D w E s ↔ x.ok D w E' s := by
 have key : (y = .fresh ↔ x = .fresh) ∧ (y = .dead ↔ x = .dead) ∧ ((∃ u, y = .rows u []) ↔ ∃ u, x = .rows u []) := by
  cases x with
  | fresh => simp only [R0, Option.some.injEq] at h; subst h; simp
  | dead => simp only [R0, Option.some.injEq] at h; subst h; simp
  | rows u xs => simp only [R0, Option.some.injEq] at h; subst h; simp
  | obj o => simp only [R0, Option.some.injEq] at h; subst h; simp
  | vart ty vs =>
   simp only [R0] at h
   cases hc : renL θ vs with
   | none => simp [hc] at h
   | some l => simp [hc] at h; subst h; simp
 cases s with
 | fresh => exact key.1
 | dead => exact key.2.1
 | virt => exact key.2.2
 | loc b => exact Wx hF hβ h b
end
end Go.SX
