/-
  SX, part M2: a region that draws its order, reckoned in the order of the text.
-/
import Derived.Test.YtdaghncicimipaaGreatDoorSxL2
import Derived.OrdersIn
import Derived.TacticsIn
import Derived.Deep.LoopGhost
import Derived.Scope
set_option linter.unusedVariables false
set_option linter.unusedSimpArgs false
namespace Go.SX
set_option linter.unusedSectionVars false
variable {C : Cod}

/-- what a step looks at and writes: slots and chunks -/
structure Ent where
 d : Option Nat
 fs : List Nat
 fc : List Nat
 wc : List Nat

def memN (x : Nat) : List Nat → Bool
 | [] => false
 | y :: l => if Nat.beq x y then true else memN x l
def meetN : List Nat → List Nat → Bool
 | [], _ => false
 | x :: l, m => if memN x m then true else meetN l m
def optIn (d : Option Nat) (l : List Nat) : Bool := match d with
 | none => false
 | some d => memN d l
def optEq (d e : Option Nat) : Bool := match d, e with
 | some d, some e => Nat.beq d e
 | _, _ => false
def clash (a b : Ent) : Bool := optIn a.d b.fs || optIn b.d a.fs || optEq a.d b.d || meetN a.wc b.fc || meetN b.wc a.fc || meetN a.wc b.wc

theorem memN_iff {x : Nat} : ∀ {l : List Nat}, memN x l = true ↔ x ∈ l
 | [] => by simp [memN]
 | y :: l => by
  simp only [memN, List.mem_cons]
  by_cases h : x = y
  ·subst h; simp
  ·have : Nat.beq x y = false := by
    cases hb : Nat.beq x y with
    | false => rfl
    | true => exact absurd (Nat.eq_of_beq_eq_true hb) h
   rw [this]; simp [h, memN_iff (l := l)]
theorem meetN_iff : ∀ {l m : List Nat}, meetN l m = true ↔ ∃ x, x ∈ l ∧ x ∈ m
 | [], m => by simp [meetN]
 | x :: l, m => by
  simp only [meetN]
  cases h : memN x m with
  | true => simp only [if_true, true_iff]; exact ⟨x, by simp, memN_iff.1 h⟩
  | false =>
   have hx : x ∉ m := fun hx => by rw [memN_iff.2 hx] at h; cases h
   simp only [Bool.false_eq_true, if_false, meetN_iff (l := l), List.mem_cons]
   constructor
   ·rintro ⟨y, h1, h2⟩; exact ⟨y, .inr h1, h2⟩
   ·rintro ⟨y, rfl | h1, h2⟩
    ·exact absurd h2 hx
    ·exact ⟨y, h1, h2⟩

theorem clash_of_fs {a b : Ent} {t : Nat} (h : a.d = some t) (ht : t ∈ b.fs) : clash a b = true := by
 simp [clash, optIn, h, memN_iff.2 ht]
theorem clash_of_fs' {a b : Ent} {t : Nat} (h : b.d = some t) (ht : t ∈ a.fs) : clash a b = true := by
 simp [clash, optIn, h, memN_iff.2 ht]
theorem clash_of_d {a b : Ent} {t : Nat} (h : a.d = some t) (ht : b.d = some t) : clash a b = true := by
 simp [clash, optEq, h, ht]
theorem clash_of_fc {a b : Ent} {c : Nat} (h : c ∈ a.wc) (hc : c ∈ b.fc) : clash a b = true := by
 have : meetN a.wc b.fc = true := meetN_iff.2 ⟨c, h, hc⟩
 simp [clash, this]
theorem clash_of_fc' {a b : Ent} {c : Nat} (h : c ∈ b.wc) (hc : c ∈ a.fc) : clash a b = true := by
 have : meetN b.wc a.fc = true := meetN_iff.2 ⟨c, h, hc⟩
 simp [clash, this]
theorem clash_of_wc {a b : Ent} {c : Nat} (h : c ∈ a.wc) (hc : c ∈ b.wc) : clash a b = true := by
 have : meetN a.wc b.wc = true := meetN_iff.2 ⟨c, h, hc⟩
 simp [clash, this]

structure Stp (C : Cod) where
 e : Ent
 v : SV C
 ws : List (Nat × HS C)
 hw : ws.map (·.1) = e.wc

abbrev ST (C : Cod) := (Nat → SV C) × (Nat → HS C)
def Stp.app (N : Nat) (s : Stp C) (x : ST C) : ST C := (upT N x.1 s.e.d s.v, upHs x.2 s.ws)
def stA (N : Nat) (x0 : ST C) (S : Nat → Stp C) (L : Nat → Bool) : Nat → ST C
 | 0 => x0
 | k + 1 => match L k with
  | true => (S k).app N (stA N x0 S L k)
  | false => stA N x0 S L k

theorem upT_ne {N : Nat} {σ : Nat → SV C} {d : Option Nat} {v : SV C} {t : Nat} (h : d ≠ some t) : upT N σ d v t = σ t := by
 cases d with
 | none => rfl
 | some d => simp only [upT]; rw [if_neg]; rintro ⟨rfl, _⟩; exact h rfl
theorem upHs_ne : ∀ (ws : List (Nat × HS C)) (H : Nat → HS C) (c : Nat), c ∉ ws.map (·.1) → upHs H ws c = H c
 | [], H, c, _ => rfl
 | (c', h) :: l, H, c, hc => by
  simp only [List.map_cons, List.mem_cons, not_or] at hc
  simp only [upHs]
  rw [upHs_ne l _ c hc.2, upH, if_neg hc.1]
theorem upHs_congr : ∀ (ws : List (Nat × HS C)) (H H' : Nat → HS C) (c : Nat), (c ∉ ws.map (·.1) → H c = H' c) → upHs H ws c = upHs H' ws c
 | [], H, H', c, h => h (by simp)
 | (c', h') :: l, H, H', c, h => by
  simp only [upHs]
  refine upHs_congr l _ _ c fun hc => ?_
  simp only [upH]
  split
  ·rfl
  ·rename_i hne; exact h (by simp [hne]; simpa using hc)
theorem upHs_comm (ws ws' : List (Nat × HS C)) (hd : ∀ c, c ∈ ws.map (·.1) → c ∉ ws'.map (·.1)) (H : Nat → HS C) : upHs (upHs H ws) ws' = upHs (upHs H ws') ws := by
 funext c
 by_cases h : c ∈ ws.map (·.1)
 ·rw [upHs_ne ws' _ c (hd c h)]
  exact upHs_congr ws _ _ c fun h' => absurd h h'
 ·rw [upHs_ne ws _ c h]
  exact upHs_congr ws' _ _ c fun _ => upHs_ne ws _ c h
theorem upT_comm {N : Nat} {d e : Option Nat} (h : ∀ t, d = some t → e ≠ some t) (σ : Nat → SV C) (v u : SV C) : upT N (upT N σ d v) e u = upT N (upT N σ e u) d v := by
 funext t
 by_cases hd : d = some t
 ·have he := h t hd
  rw [upT_ne he]
  subst hd
  simp only [upT, true_and]
  split
  ·rfl
  ·exact (upT_ne (d := e) he).symm
 ·rw [upT_ne hd]
  cases e with
  | none => exact upT_ne hd
  | some e =>
   show (if t = e ∧ e < N then u else upT N σ d v t) = (if t = e ∧ e < N then u else σ t)
   rw [upT_ne hd]

/-- operation k waits, maybe by others, for operation j -/
inductive Anc (ops : Array Oper) : Nat → Nat → Prop
 | dir {k : Nat} {o : Oper} {e : Edge} (ho : ops[k]? = some o) (he : e ∈ o.after) (hb : Region.binds .any e = true) : Anc ops k e.on
 | trans {k j i : Nat} (h : Anc ops k j) (h' : Anc ops j i) : Anc ops k i

section
variable {N n : Nat} {x0 : ST C} {S : Nat → Stp C} {ops : Array Oper} {L : Nat → Bool}

def full : Nat → Bool := fun _ => true

structure Cut (ops : Array Oper) (L : Nat → Bool) : Prop where
 down : ∀ k, L k = true → ∀ o, ops[k]? = some o → ∀ e ∈ o.after, Region.binds .any e = true → L e.on = true
theorem Cut.anc (h : Cut ops L) {k j : Nat} (ha : Anc ops k j) : L k = true → L j = true := by
 induction ha with
 | dir ho he hb => intro hk; exact h.down _ hk _ ho _ he hb
 | trans _ _ ih1 ih2 => intro hk; exact ih2 (ih1 hk)
theorem ready_anc (h : Cut ops L) {i j : Nat} (hi : ∀ o, ops[i]? = some o → ∀ e ∈ o.after, Region.binds .any e = true → L e.on = true) (ha : Anc ops i j) : L j = true := by
 induction ha with
 | dir ho he hb => exact hi _ ho _ he hb
 | trans h1 h2 ih1 _ => exact h.anc h2 (ih1 hi)

variable (hcl : ∀ i j, i < j → j < n → clash (S i).e (S j).e = true → Anc ops j i) (hL : Cut ops L) {i : Nat} (hin : i < n) (hLi : L i = false)
 (hi : ∀ j, Anc ops i j → L j = true)
include hcl hL hin hLi hi

theorem agree_le : ∀ k, k ≤ i → (∀ t ∈ (S i).e.fs, (stA N x0 S L k).1 t = (stA N x0 S full k).1 t) ∧ (∀ c ∈ (S i).e.fc, (stA N x0 S L k).2 c = (stA N x0 S full k).2 c)
 | 0, _ => ⟨fun _ _ => rfl, fun _ _ => rfl⟩
 | k + 1, hk => by
  obtain ⟨ih1, ih2⟩ := agree_le k (by omega)
  refine ⟨fun t ht => ?_, fun c hc => ?_⟩
  ·by_cases hd : (S k).e.d = some t
   ·have := hi k (hcl k i (by omega) hin (clash_of_fs hd ht))
    simp only [stA, this, full, Stp.app, hd, upT]
    split
    ·rfl
    ·exact ih1 t ht
   ·simp only [stA, full, Stp.app]
    rw [upT_ne hd]
    cases L k with
    | true => simp only; rw [upT_ne hd]; exact ih1 t ht
    | false => exact ih1 t ht
  ·by_cases hw : c ∈ (S k).e.wc
   ·have := hi k (hcl k i (by omega) hin (clash_of_fc hw hc))
    simp only [stA, this, full, Stp.app]
    exact upHs_congr _ _ _ c fun _ => ih2 c hc
   ·rw [← (S k).hw] at hw
    simp only [stA, full, Stp.app]
    rw [upHs_ne _ _ c hw]
    cases L k with
    | true => simp only; rw [upHs_ne _ _ c hw]; exact ih2 c hc
    | false => exact ih2 c hc

theorem agree_ge : ∀ k, i + k ≤ n → (∀ t ∈ (S i).e.fs, (stA N x0 S L (i + k)).1 t = (stA N x0 S L i).1 t) ∧ (∀ c ∈ (S i).e.fc, (stA N x0 S L (i + k)).2 c = (stA N x0 S L i).2 c)
 | 0, _ => ⟨fun _ _ => rfl, fun _ _ => rfl⟩
 | k + 1, hk => by
  obtain ⟨ih1, ih2⟩ := agree_ge k (by omega)
  rw [← Nat.add_assoc]
  cases hLk : L (i + k) with
  | false => simp only [stA, hLk]; exact ⟨ih1, ih2⟩
  | true =>
   have hne : i ≠ i + k := fun e => by rw [← e, hLi] at hLk; cases hLk
   have hno : clash (S i).e (S (i + k)).e = true → False := fun hc => by
    have := hL.anc (hcl i (i + k) (by omega) (by omega) hc) hLk
    rw [hLi] at this; cases this
   simp only [stA, hLk, Stp.app]
   refine ⟨fun t ht => ?_, fun c hc => ?_⟩
   ·rw [upT_ne fun hd => hno (clash_of_fs' hd ht)]; exact ih1 t ht
   ·rw [upHs_ne _ _ c fun hw => hno (clash_of_fc' ((S (i + k)).hw ▸ hw) hc)]; exact ih2 c hc

omit hi in
theorem ext_gt (L' : Nat → Bool) (hL' : ∀ k, L' k = if k = i then true else L k) : (∀ k, k ≤ i → stA N x0 S L' k = stA N x0 S L k) ∧ ∀ k, i + 1 + k ≤ n → stA N x0 S L' (i + 1 + k) = (S i).app N (stA N x0 S L (i + 1 + k)) := by
 have h1 : ∀ k, k ≤ i → stA N x0 S L' k = stA N x0 S L k := by
  intro k
  induction k with
  | zero => intro _; rfl
  | succ k ih =>
   intro hk
   have : L' k = L k := by rw [hL', if_neg (by omega)]
   simp only [stA, this, ih (by omega)]
 refine ⟨h1, fun k => ?_⟩
 induction k with
 | zero =>
  intro _
  have : L' i = true := by rw [hL', if_pos rfl]
  simp only [stA, Nat.add_zero, this, hLi, h1 i (Nat.le_refl _)]
 | succ k ih =>
  intro hk
  rw [← Nat.add_assoc]
  have hLk : L' (i + 1 + k) = L (i + 1 + k) := by rw [hL', if_neg (by omega)]
  simp only [stA, hLk, ih (by omega)]
  cases hk2 : L (i + 1 + k) with
  | false => rfl
  | true =>
   have hno : clash (S i).e (S (i + 1 + k)).e = true → False := fun hc => by
    have := hL.anc (hcl i (i + 1 + k) (by omega) (by omega) hc) hk2
    rw [hLi] at this; cases this
   simp only [Stp.app]
   refine Prod.ext ?_ ?_
   ·exact upT_comm (fun t h1 h2 => hno (clash_of_d h1 h2)) _ _ _
   ·exact upHs_comm _ _ (fun c h1 h2 => hno (clash_of_wc ((S i).hw ▸ h1) ((S (i + 1 + k)).hw ▸ h2))) _
end

def cnt (L : Nat → Bool) : Nat → Nat
 | 0 => 0
 | k + 1 => cnt L k + (match L k with | true => 0 | false => 1)
theorem cnt_zero {L : Nat → Bool} : ∀ {n : Nat}, cnt L n = 0 → ∀ k, k < n → L k = true
 | 0, _, k, hk => by omega
 | n + 1, h, k, hk => by
  simp only [cnt] at h
  by_cases hkn : k = n
  ·subst hkn
   cases hL : L k with
   | true => rfl
   | false => rw [hL] at h; simp at h
  ·exact cnt_zero (n := n) (by omega) k (by omega)
theorem cnt_set {L L' : Nat → Bool} {i : Nat} (hLi : L i = false) (hL' : ∀ k, L' k = if k = i then true else L k) : ∀ n, (n ≤ i → cnt L' n = cnt L n) ∧ (i < n → cnt L' n + 1 = cnt L n)
 | 0 => ⟨fun _ => rfl, fun h => by omega⟩
 | n + 1 => by
  obtain ⟨h1, h2⟩ := cnt_set hLi hL' n
  simp only [cnt]
  refine ⟨fun h => ?_, fun h => ?_⟩
  ·rw [h1 (by omega), hL' n, if_neg (by omega)]
  ·by_cases hn : i = n
   ·subst hn
    rw [h1 (Nat.le_refl _), hL' i, if_pos rfl, hLi]
    rfl
   ·have := h2 (by omega)
    rw [hL' n, if_neg (fun e => hn e.symm)]
    omega

section
variable {N n r : Nat} {P : Program} {x0 : ST C} {S : Nat → Stp C} {ops : Array Oper} {F : Fence} {Q : Exit → Act → World → Prop} {Ok : ST C → Act → World → Prop}

theorem any_of_steps (hn : ops.size = n) (hback : ∀ k o, ops[k]? = some o → ∀ e ∈ o.after, Region.binds .any e = true → e.on < k)
  (hcl : ∀ i j, i < j → j < n → clash (S i).e (S j).e = true → Anc ops j i)
  (step : ∀ i, i < n → ∀ x : ST C, (∀ t ∈ (S i).e.fs, x.1 t = (stA N x0 S full i).1 t) → (∀ c ∈ (S i).e.fc, x.2 c = (stA N x0 S full i).2 c) → ∀ a w (K : Act → World → Prop), Ok x a w →
   (∀ a' w', Ok ((S i).app N x) a' w' → K a' w') → wpOpIn F r P ops Q i K a w)
  (hQ : ∀ a w, Ok (stA N x0 S full n) a w → Q .normal a w) : ∀ (fuel : Nat) (listed : Array Bool) (a : Act) (w : World), listed.size = n → Cut ops (fun k => listed.getD k true) →
   cnt (fun k => listed.getD k true) n ≤ fuel → Ok (stA N x0 S (fun k => listed.getD k true) n) a w → wpAnyIn F r P .any ops Q fuel listed a w := by
 have hdf : ∀ (listed : Array Bool), listed.size = n → ∀ k, k < n → listed.getD k false = listed.getD k true := by
  intro listed hs k hk
  have : k < listed.size := by omega
  simp [this]
 have hall : ∀ (listed : Array Bool) (a : Act) (w : World), (∀ k, k < n → listed.getD k true = true) → Ok (stA N x0 S (fun k => listed.getD k true) n) a w → Q .normal a w := by
  intro listed a w h hok
  have : ∀ k, k ≤ n → stA N x0 S (fun k => listed.getD k true) k = stA N x0 S full k := by
   intro k
   induction k with
   | zero => intro _; rfl
   | succ k ih => intro hk; have h1 := h k (by omega); simp only [stA, h1, full, ih (by omega)]
  rw [this n (Nat.le_refl _)] at hok
  exact hQ a w hok
 have hready : ∀ (listed : Array Bool), listed.size = n → Region.ready .any ops listed = [] → ∀ k, k < n → listed.getD k true = true := by
  intro listed hs hr k
  induction k using Nat.strongRecOn with
  | ind k ih =>
   intro hk
   cases hLk : listed.getD k true with
   | true => rfl
   | false =>
    have hko : ops[k]? = some ops[k] := Array.getElem?_eq_getElem (by omega)
    have : k ∈ Region.ready .any ops listed := mem_ready.2 ⟨hLk, _, hko, fun e he hb => by
     have := hback k _ hko e he hb
     rw [hdf listed hs _ (by omega)]
     exact ih _ this (by omega)⟩
    rw [hr] at this; cases this
 intro fuel
 induction fuel with
 | zero =>
  intro listed a w hs hc hf hok
  have hl := cnt_zero (Nat.le_zero.1 hf)
  refine ⟨?_, hall listed a w hl hok⟩
  cases hr : Region.ready .any ops listed with
  | nil => rfl
  | cons k l =>
   have hk : k ∈ Region.ready .any ops listed := by rw [hr]; simp
   obtain ⟨h0, o, ho, _⟩ := mem_ready.1 hk
   have hkn : k < n := by rw [← hn]; exact (Array.getElem?_eq_some_iff.1 ho).1
   have := hl k hkn
   simp only [h0] at this; cases this
 | succ fuel ih =>
  intro listed a w hs hc hf hok
  refine ⟨fun hr => hall listed a w (hready listed hs hr) hok, fun i hi => ?_⟩
  obtain ⟨h0, o, ho, hdep⟩ := mem_ready.1 hi
  have hin : i < n := by rw [← hn]; exact (Array.getElem?_eq_some_iff.1 ho).1
  have hdep' : ∀ o, ops[i]? = some o → ∀ e ∈ o.after, Region.binds .any e = true → listed.getD e.on true = true := by
   intro o' ho' e he hb
   rw [ho] at ho'; cases ho'
   have := hback i o ho e he hb
   rw [← hdf listed hs _ (by omega)]
   exact hdep e he hb
  have hanc : ∀ j, Anc ops i j → listed.getD j true = true := fun j hj => ready_anc hc hdep' hj
  have hag := agree_le (N := N) (x0 := x0) hcl hc hin h0 hanc i (Nat.le_refl _)
  have hag2 := agree_ge (N := N) (x0 := x0) hcl hc hin h0 hanc (n - i) (by omega)
  rw [show i + (n - i) = n by omega] at hag2
  refine step i hin _ (fun t ht => (hag2.1 t ht).trans (hag.1 t ht)) (fun c hc => (hag2.2 c hc).trans (hag.2 c hc)) a w _ hok fun a' w' hok' => ?_
  have hL' : ∀ k, (listed.setIfInBounds i true).getD k true = if k = i then true else listed.getD k true := by
   intro k
   by_cases hki : k = i
   ·subst hki; rw [if_pos rfl]; simp [show k < listed.size by omega]
   ·rw [if_neg hki, getD_set_ne true (fun e => hki e.symm)]
  refine ih _ a' w' (by simp [hs]) ⟨fun k hk o' ho' e he hb => ?_⟩ ?_ ?_
  ·show (listed.setIfInBounds i true).getD e.on true = true
   rw [hL']
   split
   ·rfl
   ·by_cases hki : k = i
    ·subst hki; exact hdep' o' ho' e he hb
    ·have hk' : (listed.setIfInBounds i true).getD k true = true := hk
     rw [hL', if_neg hki] at hk'
     exact hc.down k hk' o' ho' e he hb
  ·have := (cnt_set (L := fun k => listed.getD k true) (L' := fun k => (listed.setIfInBounds i true).getD k true) h0 hL' n).2 hin
   omega
  ·have := (ext_gt (N := N) (x0 := x0) hcl hc hin h0 (fun k => (listed.setIfInBounds i true).getD k true) hL').2 (n - i - 1) (by omega)
   rw [show i + 1 + (n - i - 1) = n by omega] at this
   rw [this]
   exact hok'
end

/-- the masks of those before -/
def ancM (acc : List Nat) : List Edge → Nat
 | [] => 0
 | e :: l => if Region.binds .any e then 2 ^ e.on ||| (acc.getD e.on 0 ||| ancM acc l) else ancM acc l
def ancL : List Oper → List Nat → List Nat
 | [], acc => acc
 | o :: l, acc => ancL l (acc ++ [ancM acc o.after.toList])
def backB : Nat → List Oper → Bool
 | _, [] => true
 | k, o :: l => (o.after.toList.all fun e => !Region.binds .any e || Nat.blt e.on k) && backB (k + 1) l
/-- each pair that clashes is in order -/
def orderB (masks : List Nat) (e : Ent) (j : Nat) : Nat → List Ent → Bool
 | _, [] => true
 | i, a :: l => (!clash a e || (masks.getD j 0).testBit i) && orderB masks e j (i + 1) l
def ordersB (masks : List Nat) (tr : List Ent) : Nat → List Ent → Bool
 | _, [] => true
 | j, e :: l => orderB masks e j 0 (tr.take j) && ordersB masks tr (j + 1) l
def traceB (all : List Oper) (tr : List Ent) : Bool := backB 0 all && ordersB (ancL all []) tr 0 tr

theorem ancM_spec {ops : Array Oper} {acc : List Nat} (hacc : ∀ k j, (acc.getD k 0).testBit j = true → Anc ops k j) {k : Nat} {o : Oper} (ho : ops[k]? = some o) : ∀ (l : List Edge), (∀ e ∈ l, e ∈ o.after) →
  ∀ j, (ancM acc l).testBit j = true → Anc ops k j
 | [], _, j, h => by simp [ancM] at h
 | e :: l, hl, j, h => by
  simp only [ancM] at h
  split at h
  ·rename_i hb
   rw [Nat.testBit_or, Nat.testBit_or, Bool.or_eq_true, Bool.or_eq_true] at h
   have hd : Anc ops k e.on := .dir ho (hl e (by simp)) hb
   rcases h with h | h | h
   ·rw [Nat.testBit_two_pow] at h
    have : e.on = j := by simpa using h
    rw [← this]; exact hd
   ·exact .trans hd (hacc _ _ h)
   ·exact ancM_spec hacc ho l (fun e he => hl e (by simp [he])) j h
  ·exact ancM_spec hacc ho l (fun e he => hl e (by simp [he])) j h
theorem ancL_spec {ops : Array Oper} : ∀ (l : List Oper) (acc : List Nat), (∀ i, l[i]? = ops[acc.length + i]?) → (∀ k j, (acc.getD k 0).testBit j = true → Anc ops k j) →
  ∀ k j, ((ancL l acc).getD k 0).testBit j = true → Anc ops k j
 | [], acc, _, h => h
 | o :: l, acc, hl, h => by
  refine ancL_spec l _ (fun i => ?_) fun k j hk => ?_
  ·have := hl (i + 1)
   simp only [List.getElem?_cons_succ] at this
   rw [this]; simp; congr 1; omega
  ·rw [List.getD_eq_getElem?_getD, List.getElem?_append] at hk
   split at hk
   ·exact h k j (by rw [List.getD_eq_getElem?_getD]; exact hk)
   ·rename_i hlt
    by_cases hke : k = acc.length
    ·subst hke
     have ho := hl 0
     simp at ho
     simp at hk
     exact ancM_spec h ho.symm _ (fun e he => by simpa using he) j hk
    ·rw [List.getElem?_eq_none (by simp; omega)] at hk
     simp at hk
theorem backB_spec {ops : Array Oper} : ∀ (l : List Oper) (k : Nat), (∀ i, l[i]? = ops[k + i]?) → backB k l = true → ∀ i o, l[i]? = some o → ∀ e ∈ o.after, Region.binds .any e = true → e.on < k + i
 | [], k, _, _, i, o, ho => by simp at ho
 | x :: l, k, hl, h, i, o, ho => by
  simp only [backB, Bool.and_eq_true, List.all_eq_true] at h
  cases i with
  | zero =>
   simp at ho; subst ho
   intro e he hb
   have := h.1 e (by simpa using he)
   simp [hb] at this
   exact this
  | succ i =>
   intro e he hb
   have := backB_spec l (k + 1) (fun j => by have := hl (j + 1); simp only [List.getElem?_cons_succ] at this; rw [this]; congr 1; omega) h.2 i o (by simpa using ho) e he hb
   omega
theorem orderB_spec {masks : List Nat} {e : Ent} {j : Nat} : ∀ (l : List Ent) (k : Nat), orderB masks e j k l = true → ∀ (i : Nat) (a : Ent), l[i]? = some a → clash a e = true → (masks.getD j 0).testBit (k + i) = true
 | [], k, _, i, a, hi => by simp at hi
 | x :: l, k, h, i, a, hi => by
  simp only [orderB, Bool.and_eq_true, Bool.or_eq_true] at h
  cases i with
  | zero => intro hc; simp at hi; subst hi; simpa [hc] using h.1
  | succ i => intro hc; have := orderB_spec l (k + 1) h.2 i a (by simpa using hi) hc; rwa [show k + (i + 1) = k + 1 + i by omega]
theorem ordersB_spec {masks : List Nat} {tr : List Ent} : ∀ (l : List Ent) (j : Nat), (∀ i, l[i]? = tr[j + i]?) → ordersB masks tr j l = true → ∀ (i k : Nat) (a e : Ent), k < j + i → tr[k]? = some a → tr[j + i]? = some e → l[i]? = some e → clash a e = true → (masks.getD (j + i) 0).testBit k = true
 | [], j, _, _, i, k, a, e, _, _, _, hl => by simp at hl
 | x :: l, j, hl, h, i, k, a, e, hk, ha, he, hle => by
  simp only [ordersB, Bool.and_eq_true] at h
  intro hc
  cases i with
  | zero =>
   simp at hle; subst hle
   have := orderB_spec _ 0 h.1 k a (by rw [List.getElem?_take]; rw [if_pos (by omega)]; exact ha) hc
   simpa using this
  | succ i =>
   have := ordersB_spec l (j + 1) (fun q => by have := hl (q + 1); simp only [List.getElem?_cons_succ] at this; rw [this]; congr 1; omega) h.2 i k a e (by omega) ha (by rw [← he]; congr 1; omega) (by simpa using hle) hc
   rw [show j + (i + 1) = j + 1 + i by omega]; exact this
end Go.SX

/-
 SX, part N: the generator of verification conditions, and its soundness.
-/
namespace Go.SX
open Go.RowKit
variable {C : Cod}

def Fc (r : Option Nat) : Fence := { fn := fun _ => True, depth := none, alive := false, round := r }

def getT : List (SV C) → Nat → SV C
 | [], _ => .any
 | x :: _, 0 => x
 | _ :: l, n + 1 => getT l n
def setT : List (SV C) → Nat → SV C → List (SV C)
 | [], _, _ => []
 | _ :: l, 0, v => v :: l
 | x :: l, n + 1, v => x :: setT l n v
def setO (T : List (SV C)) (d : Option Nat) (v : SV C) : List (SV C) :=
 match d with
 | none => T
 | some d => setT T d v
def getC : List (HS C) → Nat → HS C
 | [], _ => .fresh
 | x :: _, 0 => x
 | _ :: l, n + 1 => getC l n
def setC : List (HS C) → Nat → HS C → List (HS C)
 | [], 0, h => [h]
 | [], n + 1, h => .fresh :: setC [] n h
 | _ :: l, 0, h => h :: l
 | x :: l, n + 1, h => x :: setC l n h
def setCs : List (HS C) → List (Nat × HS C) → List (HS C)
 | Hp, [] => Hp
 | Hp, (c, h) :: l => setCs (setC Hp c h) l

def evT (T : List (SV C)) : Operand → SV C
 | .tmp t => getT T t
 | .const v => ofV v
 | .global g => globS g (C.glob g)
 | .func f => .fn (.func f) [] []
def valsOf (T : List (SV C)) : List Operand → List (SV C)
 | [] => []
 | x :: l => evT T x :: valsOf T l
def hsOf (Hp : List (HS C)) : List (SV C) → List (Nat × HS C)
 | [] => []
 | x :: l => match x.topId with
  | some c => (c, getC Hp c) :: hsOf Hp l
  | none => hsOf Hp l

def hlen : List (HS C) → Nat
 | [] => 0
 | _ :: l => hlen l + 1

def execV {D : Codec C} (A : Aux C D) (tab : Tab C) (o : Op) (vals : List (SV C)) (Hp : List (HS C)) : Out C :=
 exec A tab o vals (hsOf Hp vals) (hlen Hp)

/-- what is still to be done -/
inductive It (C : Cod) where
 | code (c : Code)
 | ops (all rest : List Oper)
 | op1 (all : List Oper) (o : Oper) (rest : List Oper)
 | blk (id : Nat)
 | endLoop (J : List (SV C) → List (HS C) → Prop)
 | beginR
 | scp

def unwind (id : Nat) : List (It C) → Option (List (It C))
 | [] => none
 | .blk i :: k => if i = id then some k else unwind id k
 | _ :: k => unwind id k

def gslot (all : List Oper) (j : Nat) : Option Nat :=
 match ixL all j with
 | some o => o.dst
 | none => none

def CondVC (b : Bool) (X Y : Prop) : Prop := match b with
 | true => X
 | false => Y

abbrev Post (C : Cod) := Exit → List (SV C) → List (HS C) → Prop

/-- the meaning of a state: slots T, heap Hp -/
def RelL (D : Codec C) (B : Base) (df : List Deferred) (T : List (SV C)) (Hp : List (HS C)) (a : Act) (w : World) : Prop :=
 ∃ E, Rel D B E (getT T) (getC Hp) df a w ∧ a.tmps.size = T.length

/-- one state says no more than another -/
def SubS (D : Codec C) (m0 : Nat) (T : List (SV C)) (Hp : List (HS C)) (T' : List (SV C)) (Hp' : List (HS C)) : Prop :=
 ∀ B df a w, B.m0 = m0 → RelL D B df T Hp a w → RelL D B df T' Hp' a w

/-- a call returns ret, and does ws to the heap -/
structure CallAt (P : Program) (D : Codec C) (f : FuncId) (args : List (SV C)) (H : Nat → HS C) (ret : SV C) (ws : List (Nat × HS C)) : Prop where
 /-- by its body, or (a function of the runtime that has none) at once -/
 run : ((∀ args w, (callFunc f args).run P w = .ok (.enter f args) w) ∧ ∀ B σ df a w E, Rel D B E σ H df a w → ∀ vs, DenA D w E args vs →
  CallsIn (Fc none) 0 P f vs.toArray w fun e w' => ∃ v E', e = .returned v ∧ Den D w' E' ret v ∧ Rel D B E' σ (upHs H ws) df a w') ∨
  ∀ B σ df a w E, Rel D B E σ H df a w → ∀ vs, DenA D w E args vs → ∃ v w' E', (callFunc f vs.toArray).run P w = .ok (.value v) w' ∧ Den D w' E' ret v ∧ Rel D B E' σ (upHs H ws) df a w'

abbrev Kont (C : Cod) := List (It C) → List (SV C) → List (HS C) → Prop

def LoopVC (D : Codec C) (m0 : Nat) (R : Kont C) (body : Code) (k : List (It C)) (T : List (SV C)) (Hp : List (HS C)) : Prop :=
 ∃ (γ : Type) (I : γ → List (SV C) × List (HS C)) (good : γ → Prop) (μ : γ → Nat) (g0 : γ), good g0 ∧ SubS D m0 T Hp (I g0).1 (I g0).2 ∧
  ∀ g, good g → ∀ J : List (SV C) → List (HS C) → Prop, (∀ T' Hp' g', good g' → μ g' < μ g → SubS D m0 T' Hp' (I g').1 (I g').2 → J T' Hp') →
   R (.code body :: .endLoop J :: k) (I g).1 (I g).2

def atExit (Φ : Post C) (R : Kont C) (id : Nat) (T : List (SV C)) (Hp : List (HS C)) : Option (List (It C)) → Prop
 | some k => R k T Hp
 | none => Φ (.exit id) T Hp

/-- a call whose contract holds over every heap that is alike at the numbers fc -/
structure CallF (P : Program) (D : Codec C) (f : FuncId) (args : List (SV C)) (H0 : Nat → HS C) (fc : List Nat) (ret : SV C) (ws : List (Nat × HS C)) : Prop where
 at_ : ∀ H, (∀ c ∈ fc, H c = H0 c) → CallAt P D f args H ret ws

def tmpsOf : List Operand → List Nat
 | [] => []
 | .tmp t :: l => t :: tmpsOf l
 | _ :: l => tmpsOf l
def topIds : List (SV C) → List Nat
 | [] => []
 | x :: l => match x.topId with
  | some c => c :: topIds l
  | none => topIds l
/-- the chunks that an operation looks at: a copied value's none -/
def fcOf : Op → List (SV C) → List Nat
 | .move _, _ => []
 | .assign _, _ => []
 | _, vals => topIds vals
def idsOf : List (Nat × HS C) → List Nat
 | [] => []
 | (c, _) :: l => c :: idsOf l
/-- does it lay a new block? -/
def lays : Op → Bool
 | .alloc _ => true
 | .box _ _ => true
 | .buildSlice _ _ _ => true
 | .makeSlice _ _ _ => true
 | .makeMap _ _ => true
 | .slice _ _ (some _) _ (some _) => true
 | .call c => match c.callee with
  | .builtin .append => true
  | _ => false
 | _ => false

abbrev DK (C : Cod) := List Ent → List (SV C) → List (HS C) → Prop
def DWait (next : DK C) (tr : List Ent) (T : List (SV C)) (Hp : List (HS C)) : Prop := next tr T Hp
def DCallVC (P : Program) (D : Codec C) (next : DK C) (f : FuncId) (args : List (SV C)) (dst : Option Nat) (fs fc0 : List Nat) (tr : List Ent) (T : List (SV C)) (Hp : List (HS C)) : Prop :=
 ∃ ret ws fc, CallF P D f args (getC Hp) fc ret ws ∧ next (⟨dst, fs, fc0 ++ fc, idsOf ws⟩ :: tr) (setO T dst ret) (setCs Hp ws)
def drawOut (P : Program) (D : Codec C) (next : DK C) (dst : Option Nat) (fs fc : List Nat) (tr : List Ent) (T : List (SV C)) (Hp : List (HS C)) : Out C → Prop
 | .stuck => False
 | .val v => next (⟨dst, fs, fc, []⟩ :: tr) (setO T dst v) Hp
 | .side p v => p ∧ next (⟨dst, fs, fc, []⟩ :: tr) (setO T dst v) Hp
 | .mem v ws => next (⟨dst, fs, fc, idsOf ws⟩ :: tr) (setO T dst v) (setCs Hp ws)
 | .smem p v ws => p ∧ next (⟨dst, fs, fc, idsOf ws⟩ :: tr) (setO T dst v) (setCs Hp ws)
 | .call f args => DCallVC P D next f args dst fs fc tr T Hp
 | .yieldc _ _ => False
 | .may _ _ => False
 | .ask q K => ∃ r, q = some r ∧ next (⟨dst, fs, fc, []⟩ :: tr) (setO T dst (K r)) Hp
def freshAt (Hp : List (HS C)) (m : Nat) (X : Prop) : Prop := match getC Hp m with
 | .fresh => X
 | _ => False
def newAt (o : Op) (big : Nat) (Hp : List (HS C)) : Nat := match lays o with
 | true => hlen Hp
 | false => big
def drawOpAt (P : Program) {D : Codec C} (A : Aux C D) (tab : Tab C) (next : DK C) (dst : Option Nat) (op : Op) (fs : List Nat) (tr : List Ent) (T : List (SV C)) (Hp : List (HS C)) (vals : List (SV C)) (m : Nat) : Prop :=
 freshAt Hp m (drawOut P D next dst fs (m :: fcOf op vals) tr T Hp (exec A tab op vals (hsOf Hp vals) m))
def drawOp (P : Program) {D : Codec C} (A : Aux C D) (tab : Tab C) (big : Nat) (next : DK C) (dst : Option Nat) (op : Op) (gs : List Nat) (tr : List Ent) (T : List (SV C)) (Hp : List (HS C)) : Prop :=
 drawOpAt P A tab next dst op (gs ++ tmpsOf (opnds op)) tr T Hp (valsOf T (opnds op)) (newAt op big Hp)
def DWaitO (P : Program) {D : Codec C} (A : Aux C D) (tab : Tab C) (big : Nat) (next : DK C) (dst : Option Nat) (op : Op) (gs : List Nat) (tr : List Ent) (T : List (SV C)) (Hp : List (HS C)) : Prop :=
 drawOp P A tab big next dst op gs tr T Hp
def dGuard (P : Program) {D : Codec C} (A : Aux C D) (tab : Tab C) (big : Nat) (next : DK C) (dst : Option Nat) (op : Op) (d : Nat) (want : Bool) (tr : List Ent) (T : List (SV C)) (Hp : List (HS C)) : SV C → Prop
 | .p (.bool b) => match want with
  | true => CondVC b (DWaitO P A tab big next dst op [d] tr T Hp) (DWait next (⟨dst, [d], [], []⟩ :: tr) (setO T dst (.tuple [])) Hp)
  | false => CondVC b (DWait next (⟨dst, [d], [], []⟩ :: tr) (setO T dst (.tuple [])) Hp) (DWaitO P A tab big next dst op [d] tr T Hp)
 | .tuple [] => next (⟨dst, [d], [], []⟩ :: tr) (setO T dst (.tuple [])) Hp
 | _ => False
def dGuardD (P : Program) {D : Codec C} (A : Aux C D) (tab : Tab C) (big : Nat) (next : DK C) (dst : Option Nat) (op : Op) (want : Bool) (tr : List Ent) (T : List (SV C)) (Hp : List (HS C)) : Option Nat → Prop
 | none => False
 | some d => dGuard P A tab big next dst op d want tr T Hp (getT T d)
def drawGo (P : Program) {D : Codec C} (A : Aux C D) (tab : Tab C) (K : DK C) (all : List Oper) (big : Nat) : List Oper → DK C
 | [] => K
 | ⟨dst, op, _, _, _, none⟩ :: rest => fun tr T Hp => drawOp P A tab big (drawGo P A tab K all big rest) dst op [] tr T Hp
 | ⟨dst, op, _, _, _, some (j, want)⟩ :: rest => fun tr T Hp => dGuardD P A tab big (drawGo P A tab K all big rest) dst op want tr T Hp (gslot all j)
def drawK (R : Kont C) (all : List Oper) (k : List (It C)) : DK C := fun tr T Hp => traceB all tr.reverse = true ∧ R k T Hp
def DrawVC (P : Program) {D : Codec C} (A : Aux C D) (tab : Tab C) (R : Kont C) (ops : List Oper) (k : List (It C)) (T : List (SV C)) (Hp : List (HS C)) : Prop :=
 P.follows .mixedOrders = true ∧ drawGo P A tab (drawK R ops k) ops (hlen Hp + 1000) ops [] T Hp

section
variable {P : Program} {D : Codec C} {tab : Tab C} {B : Base} {E : Env} {σ : Nat → SV C} {H : Nat → HS C} {df : List Deferred} {a : Act} {w : World} {o : Oper} {r : Option Nat}

theorem getT_setT : ∀ (T : List (SV C)) (d : Nat) (v : SV C) (i : Nat), getT (setT T d v) i = if i = d ∧ d < T.length then v else getT T i
 | [], d, v, i => by simp [setT, getT]
 | x :: l, 0, v, i => by cases i <;> simp [setT, getT]
 | x :: l, d + 1, v, i => by
  cases i with
  | zero => simp [setT, getT]
  | succ i => simp only [setT, getT, getT_setT l d v i, List.length_cons, Nat.add_right_cancel_iff, Nat.add_lt_add_iff_right]
theorem length_setT : ∀ (T : List (SV C)) (d : Nat) (v : SV C), (setT T d v).length = T.length
 | [], d, v => rfl
 | x :: l, 0, v => rfl
 | x :: l, d + 1, v => by simp [setT, length_setT l d v]
theorem length_setO (T : List (SV C)) (d : Option Nat) (v : SV C) : (setO T d v).length = T.length := by
 cases d <;> simp [setO, length_setT]
theorem getT_setO (T : List (SV C)) (d : Option Nat) (v : SV C) : getT (setO T d v) = upT T.length (getT T) d v := by
 cases d with
 | none => rfl
 | some d => funext i; simp only [setO, upT, getT_setT]
theorem getC_setC : ∀ (Hp : List (HS C)) (c : Nat) (h : HS C) (i : Nat), getC (setC Hp c h) i = if i = c then h else getC Hp i
 | [], 0, h, i => by cases i <;> simp [setC, getC]
 | [], c + 1, h, i => by
  cases i with
  | zero => simp [setC, getC]
  | succ i => simp only [setC, getC, getC_setC [] c h i, Nat.add_right_cancel_iff]
 | x :: l, 0, h, i => by cases i <;> simp [setC, getC]
 | x :: l, c + 1, h, i => by
  cases i with
  | zero => simp [setC, getC]
  | succ i => simp only [setC, getC, getC_setC l c h i, Nat.add_right_cancel_iff]
theorem getC_setC' (Hp : List (HS C)) (c : Nat) (h : HS C) : getC (setC Hp c h) = upH (getC Hp) c h := by
 funext i; simp only [upH, getC_setC]
theorem getC_setCs : ∀ (ws : List (Nat × HS C)) (Hp : List (HS C)), getC (setCs Hp ws) = upHs (getC Hp) ws
 | [], Hp => rfl
 | (c, h) :: l, Hp => by simp only [setCs, upHs, getC_setCs l, getC_setC']

theorem evT_eq (T : List (SV C)) (x : Operand) : evT T x = ev (getT T) x := by cases x <;> rfl
theorem valsOf_eq (T : List (SV C)) : ∀ l : List Operand, valsOf T l = l.map (ev (getT T))
 | [] => rfl
 | x :: l => by simp only [valsOf, List.map_cons, evT_eq, valsOf_eq T l]

theorem lk_hsOf (Hp : List (HS C)) : ∀ (vals : List (SV C)) (x : SV C), x ∈ vals → ∀ c, x.topId = some c → lk (hsOf Hp vals) c = getC Hp c
 | [], x, hx, c, _ => by simp at hx
 | y :: l, x, hx, c, hc => by
  simp only [hsOf]
  have ih := lk_hsOf Hp l
  rcases List.mem_cons.1 hx with rfl | hx
  ·rw [hc]; simp [lk]
  ·cases hy : y.topId with
   | none => exact ih x hx c hc
   | some d =>
    simp only [lk]
    by_cases hdc : d = c
    ·rw [if_pos hdc, hdc]
    ·rw [if_neg hdc]; exact ih x hx c hc

theorem hlen_eq : ∀ Hp : List (HS C), hlen Hp = Hp.length
 | [] => rfl
 | _ :: l => by simp [hlen, hlen_eq l]
theorem getC_len : ∀ Hp : List (HS C), getC Hp (hlen Hp) = .fresh
 | [] => rfl
 | _ :: l => by simp only [hlen, getC]; exact getC_len l

theorem execV_ok (A : Aux C D) (hT : TabOK P D tab) {T : List (SV C)} {Hp : List (HS C)} (hR : Rel D B E (getT T) (getC Hp) df a w) :
  OutOK P D B (getT T) (getC Hp) df a w o (execV A tab o.op (valsOf T (opnds o.op)) Hp) :=
 exec_ok A hT hR (getC_len Hp) (valsOf_eq T _) fun x hx c hc => lk_hsOf Hp _ x hx c hc

/-- only a supported operation is not stuck -/
theorem not_defer (A : Aux C D) {vals : List (SV C)} {hs : List (Nat × HS C)} {m : Nat} (h : exec A tab o.op vals hs m ≠ .stuck) : ∀ c, o.op ≠ .defer c := by
 intro c hc
 rw [hc] at h
 exact h rfl

theorem wpIn_of_run {next : Act → World → Prop} {Q : Exit → Act → World → Prop} (hnd : ∀ c, o.op ≠ .defer c) {v : SV C} {ws : List (Nat × HS C)} {T : List (SV C)} {Hp : List (HS C)}
  (hR : RelL D B df T Hp a w) (h : RunOK P D B (getT T) (getC Hp) df a w o v ws)
  (hn : ∀ a' w', RelL D B df (setO T o.dst v) (setCs Hp ws) a' w' → next a' w') : o.wpIn (Fc r) 0 P a w next Q := by
 refine ⟨fun _ _ => trivial, ?_⟩
 obtain ⟨u, w', E', hrun, hR', hd⟩ := h
 obtain ⟨E0, _, hsz⟩ := hR
 have hput := hR'.put hsz o.dst (.inr hd)
 have hrel : RelL D B df (setO T o.dst v) (setCs Hp ws) (a.put o.dst u) w' := by
  refine ⟨E', ?_, by rw [size_put, hsz, length_setO]⟩
  rw [getT_setO, getC_setCs]
  exact hput
 rw [show (Fc r).round = r from rfl, Oper.semAt_eq r _ _ hnd]
 rcases hrun with hrun | ⟨hrun, rfl⟩
 ·rw [hrun]; exact hn _ _ hrel
 ·rw [hrun]; exact hn _ _ hrel

variable {Q : Exit → Act → World → Prop}
theorem wpIn_loop_ghost {c : Code} (I : Nat → Act → World → Prop) (n₀ : Nat) (h₀ : I n₀ a w)
  (round : ∀ n a w, I n a w → c.wpIn (Fc r) 0 P (Exit.then (fun a' w' => ∃ n', n' < n ∧ I n' a' w') Q) a w) : (Code.loop c).wpIn (Fc r) 0 P Q a w := by
 refine wpIn_loop (fun a w => ∃ n, I n a w) (fun a w => leastOf (fun n => I n a w)) ⟨n₀, h₀⟩ ?_
 intro a w hI
 refine wpIn_mono (round _ a w (leastOf_spec hI).1) ?_
 intro e a' w' hq
 cases e with
 | normal =>
  obtain ⟨n', hlt, hI'⟩ := hq
  exact show (∃ n, I n a' w') ∧ leastOf (fun n => I n a' w') < leastOf (fun n => I n a w) from ⟨⟨n', hI'⟩, Nat.lt_of_le_of_lt ((leastOf_spec ⟨n', hI'⟩).2 n' hI') hlt⟩
 | exit id => exact hq
 | goto l => exact hq
 | ret => exact hq
 | panic c => exact hq
 | outgrown => exact hq

theorem yielded_slot {all : List Oper} {j d : Nat} (h : gslot all j = some d) (b : Bool) (hb : a.tmps.getD d undef = .bool b) : yielded all.toArray a.tmps j = some b := by
 unfold gslot at h
 rw [ixL_eq] at h
 unfold yielded
 cases hq : all[j]? with
 | none => simp [hq] at h
 | some o =>
  simp [hq] at h
  have hbt : a.tmps[d]? = some (.bool b) := by
   rw [Array.getD_eq_getD_getElem?] at hb
   cases ht : a.tmps[d]? with
   | none => rw [ht] at hb; simp [undef] at hb
   | some v => rw [ht] at hb; simp at hb; rw [hb]
  simp [hq, h, hbt]

theorem yielded_undef {all : List Oper} {j d : Nat} (h : gslot all j = some d) (hb : a.tmps.getD d undef = .tuple #[]) : yielded all.toArray a.tmps j = none := by
 unfold gslot at h
 rw [ixL_eq] at h
 unfold yielded
 cases hq : all[j]? with
 | none => simp [hq] at h
 | some o =>
  simp [hq] at h
  cases ht : a.tmps[d]? with
  | none => simp [hq, h, ht]
  | some v =>
   rw [Array.getD_eq_getD_getElem?, ht] at hb
   simp at hb
   simp [hq, h, ht, hb]

theorem relL_bool {T : List (SV C)} {Hp : List (HS C)} {d : Nat} {b : Bool} (h : RelL D B df T Hp a w) (hd : getT T d = .p (.bool b)) : a.tmps.getD d undef = .bool b ∧ RelL D B df (setT T d (.p (.bool b))) Hp a w := by
 obtain ⟨E, hR, hsz⟩ := h
 have hden := hR.den d
 rw [hd] at hden
 refine ⟨den_bool hden, E, ⟨fun i => ?_, hR.sat, hR.fr, hR.defers, hR.marks⟩, by rw [length_setT, hsz]⟩
 rw [getT_setT]
 split
 ·rename_i hi; rw [hi.1]; exact hden
 ·exact hR.den i

theorem relL_skip {T : List (SV C)} {Hp : List (HS C)} (h : RelL D B df T Hp a w) (d : Option Nat) : RelL D B df (setO T d (.tuple [])) Hp (a.put d undef) w := by
 obtain ⟨E, hR, hsz⟩ := h
 refine ⟨E, ?_, by rw [size_put, hsz, length_setO]⟩
 rw [getT_setO]
 exact hR.put hsz d (.inr (by simp only [Den, DenA]; exact ⟨#[], rfl, rfl⟩))


def OkS (D : Codec C) (B : Base) (df : List Deferred) (N : Nat) (x : ST C) (a : Act) (w : World) : Prop := ∃ E, Rel D B E x.1 x.2 df a w ∧ a.tmps.size = N

theorem wpIn_of_run' {next : Act → World → Prop} {Q : Exit → Act → World → Prop} (hnd : ∀ c, o.op ≠ .defer c) {v : SV C} {ws : List (Nat × HS C)} {N : Nat} (hsz : a.tmps.size = N)
  (h : RunOK P D B σ H df a w o v ws) (hn : ∀ a' w', OkS D B df N (upT N σ o.dst v, upHs H ws) a' w' → next a' w') : o.wpIn (Fc r) 0 P a w next Q := by
 refine ⟨fun _ _ => trivial, ?_⟩
 obtain ⟨u, w', E', hrun, hR', hd⟩ := h
 have hput := hR'.put hsz o.dst (.inr hd)
 have hrel : OkS D B df N (upT N σ o.dst v, upHs H ws) (a.put o.dst u) w' := ⟨E', hput, by rw [size_put, hsz]⟩
 rw [show (Fc r).round = r from rfl, Oper.semAt_eq r _ _ hnd]
 rcases hrun with hrun | ⟨hrun, rfl⟩
 ·rw [hrun]; exact hn _ _ hrel
 ·rw [hrun]; exact hn _ _ hrel

theorem wpIn_of_call' {next : Act → World → Prop} {Q : Exit → Act → World → Prop} (hnd : ∀ c, o.op ≠ .defer c) {f : FuncId} {args : List (SV C)} {ret : SV C} {ws : List (Nat × HS C)} {N : Nat} (hsz : a.tmps.size = N)
  (hR : Rel D B E σ H df a w) (h : OutOK P D B σ H df a w o (.call f args)) (hc : CallAt P D f args H ret ws)
  (hn : ∀ a' w', OkS D B df N (upT N σ o.dst ret, upHs H ws) a' w' → next a' w') : o.wpIn (Fc r) 0 P a w next Q := by
 refine ⟨fun _ _ => trivial, ?_⟩
 obtain ⟨vs, hd, hrun⟩ := h E hR
 rcases hc.run with ⟨hc1, hc2⟩ | hx
 rotate_left
 ·obtain ⟨v, w', E', h1, hv, hR'⟩ := hx B _ df a w E hR vs hd
  rw [show (Fc r).round = r from rfl, Oper.semAt_eq r _ _ hnd, hrun, h1]
  have hput := hR'.put hsz o.dst (.inr hv)
  exact hn _ _ ⟨E', hput, by rw [size_put, hsz]⟩
 rw [show (Fc r).round = r from rfl, Oper.semAt_eq r _ _ hnd, hrun, hc1]
 refine ⟨fun h => by simp [Fc] at h, ?_⟩
 have hcalls := hc2 B _ df a w E hR vs hd
 have hcalls' : CallsIn (Fc r) (0 - 1) P f vs.toArray w fun e w' => ∃ v E', e = .returned v ∧ Den D w' E' ret v ∧ Rel D B E' σ (upHs H ws) df a w' := hcalls
 refine hcalls'.mono ?_
 rintro e w' ⟨v, E', rfl, hv, hR'⟩
 have hput := hR'.put hsz o.dst (.inr hv)
 exact hn _ _ ⟨E', hput, by rw [size_put, hsz]⟩

variable (r) in
/-- what a step does, from every state that is alike where it looks -/
def StepSem (P : Program) (D : Codec C) (B : Base) (df : List Deferred) (Q : Exit → Act → World → Prop) (N : Nat) (all : List Oper) (i : Nat) (s : Stp C) (x : ST C) : Prop :=
 ∀ x' : ST C, (∀ t ∈ s.e.fs, x'.1 t = x.1 t) → (∀ c ∈ s.e.fc, x'.2 c = x.2 c) → ∀ a w (K : Act → World → Prop), OkS D B df N x' a w →
  (∀ a' w', OkS D B df N (s.app N x') a' w' → K a' w') → wpOpIn (Fc r) 0 P all.toArray Q i K a w

theorem topIds_mem : ∀ (l : List (SV C)) (x : SV C) (c : Nat), x ∈ l → x.topId = some c → c ∈ topIds l
 | [], x, c, h, _ => by simp at h
 | y :: l, x, c, h, hc => by
  simp only [topIds]
  rcases List.mem_cons.1 h with rfl | h
  ·rw [hc]; simp
  ·cases y.topId with
   | none => exact topIds_mem l x c h hc
   | some d => exact List.mem_cons_of_mem _ (topIds_mem l x c h hc)
theorem idsOf_eq : ∀ ws : List (Nat × HS C), idsOf ws = ws.map (·.1)
 | [] => rfl
 | (c, h) :: l => by simp [idsOf, idsOf_eq l]
theorem ev_agree {σ σ' : Nat → SV C} : ∀ (l : List Operand), (∀ t ∈ tmpsOf l, σ' t = σ t) → l.map (ev σ') = l.map (ev σ)
 | [], _ => rfl
 | x :: l, h => by
  simp only [List.map_cons]
  cases x with
  | tmp t => rw [ev_agree l fun u hu => h u (by simp [tmpsOf, hu])]; simp only [ev]; rw [h t (by simp [tmpsOf])]
  | const v => rw [ev_agree l fun u hu => h u (by simpa [tmpsOf] using hu)]; rfl
  | global v => rw [ev_agree l fun u hu => h u (by simpa [tmpsOf] using hu)]; rfl
  | func v => rw [ev_agree l fun u hu => h u (by simpa [tmpsOf] using hu)]; rfl

theorem lk_ids (H : Nat → HS C) : ∀ (l : List Nat) (c : Nat), c ∈ l → lk (l.map fun c => (c, H c)) c = H c
 | [], c, h => by simp at h
 | d :: l, c, h => by
  simp only [List.map_cons, lk]
  by_cases e : d = c
  ·rw [if_pos e, e]
  ·rw [if_neg e]
   exact lk_ids H l c (by rcases List.mem_cons.1 h with h | h; exact absurd h.symm e; exact h)
/-- what an operation that copies looks at plays no part -/
theorem hs_for (A : Aux C D) {m : Nat} (op : Op) (vals : List (SV C)) (Hp : List (HS C)) (H : Nat → HS C) (h : ∀ c ∈ fcOf op vals, H c = getC Hp c) :
  ∃ hs', (∀ x ∈ vals, ∀ c, x.topId = some c → lk hs' c = H c) ∧ exec A tab op vals hs' m = exec A tab op vals (hsOf Hp vals) m := by
 cases op
 case move x => exact ⟨_, fun x hx c hc => lk_ids H (topIds vals) c (topIds_mem _ x c hx hc), rfl⟩
 case assign x => exact ⟨_, fun x hx c hc => lk_ids H (topIds vals) c (topIds_mem _ x c hx hc), rfl⟩
 all_goals exact ⟨_, fun x hx c hc => (lk_hsOf Hp _ x hx c hc).trans (h c (topIds_mem _ x c hx hc)).symm, rfl⟩
/-- a guarded or free operation, wanted -/
theorem wanted_free {tmps : Nat → Option Bool} (hg : o.guard = none) : Region.wanted o tmps = true := by simp [Region.wanted, hg]

theorem step_of_out (A : Aux C D) (hT : TabOK P D tab) {all : List Oper} {i : Nat} (hi : all[i]? = some o) {Q : Exit → Act → World → Prop} {N : Nat} {T : List (SV C)} {Hp : List (HS C)} {m : Nat} {gs : List Nat} (hm : getC Hp m = .fresh) {v : SV C} {ws : List (Nat × HS C)}
  (hwant : ∀ x' : ST C, (∀ t ∈ gs, x'.1 t = getT T t) → ∀ a w, OkS D B df N x' a w → Region.wanted o (yielded all.toArray a.tmps) = true)
  {fc : List Nat} (hf : fc = m :: fcOf o.op (valsOf T (opnds o.op)))
  (hout : exec A tab o.op (valsOf T (opnds o.op)) (hsOf Hp (valsOf T (opnds o.op))) m = .val v ∧ ws = [] ∨
   (∃ p : Prop, p ∧ exec A tab o.op (valsOf T (opnds o.op)) (hsOf Hp (valsOf T (opnds o.op))) m = .side p v ∧ ws = []) ∨
   exec A tab o.op (valsOf T (opnds o.op)) (hsOf Hp (valsOf T (opnds o.op))) m = .mem v ws ∨
   (∃ p : Prop, p ∧ exec A tab o.op (valsOf T (opnds o.op)) (hsOf Hp (valsOf T (opnds o.op))) m = .smem p v ws) ∨
   ∃ q K r, exec A tab o.op (valsOf T (opnds o.op)) (hsOf Hp (valsOf T (opnds o.op))) m = .ask q K ∧ q = some r ∧ v = K r ∧ ws = []) :
  StepSem r P D B df Q N all i ⟨⟨o.dst, gs ++ tmpsOf (opnds o.op), fc, idsOf ws⟩, v, ws, (idsOf_eq ws).symm⟩ (getT T, getC Hp) := by
 subst hf
 intro x' hfs hfc a w K hok hK
 have hw := hwant x' (fun t ht => hfs t (by simp [ht])) a w hok
 obtain ⟨E, hR, hsz⟩ := hok
 have hv : valsOf T (opnds o.op) = (opnds o.op).map (ev x'.1) := by
  rw [valsOf_eq]
  exact (ev_agree (σ := getT T) (σ' := x'.1) _ fun t ht => hfs t (by simp [ht])).symm
 have hm' : x'.2 m = .fresh := (hfc m (by simp)).trans hm
 obtain ⟨hs', hl', he'⟩ := hs_for (tab := tab) (m := m) A o.op (valsOf T (opnds o.op)) Hp x'.2 fun c hc => hfc c (by simp [hc])
 have hOK := exec_ok (o := o) A hT hR hm' hv (hs := hs') hl'
 rw [he'] at hOK
 have hnd : ∀ c, o.op ≠ .defer c := not_defer (m := m) (hs := hsOf Hp (valsOf T (opnds o.op))) (vals := valsOf T (opnds o.op)) A (by
  rcases hout with ⟨h, _⟩ | ⟨p, _, h, _⟩ | h | ⟨p, _, h⟩ | ⟨q, K, r, h, _⟩ <;> rw [h] <;> simp)
 unfold wpOpIn
 simp only [List.getElem?_toArray, hi, hw, if_true]
 rcases hout with ⟨h, rfl⟩ | ⟨p, hp, h, rfl⟩ | h | ⟨p, hp, h⟩ | ⟨q, K, r', h, hq, rfl, rfl⟩ <;> rw [h] at hOK
 ·exact wpIn_of_run' hnd hsz hOK fun a' w' hr => hK a' w' hr
 ·exact wpIn_of_run' hnd hsz (hOK hp) fun a' w' hr => hK a' w' hr
 ·exact wpIn_of_run' hnd hsz hOK fun a' w' hr => hK a' w' hr
 ·exact wpIn_of_run' hnd hsz (hOK hp) fun a' w' hr => hK a' w' hr
 ·exact wpIn_of_run' hnd hsz (hOK r' hq) fun a' w' hr => hK a' w' hr

theorem step_of_call (A : Aux C D) (hT : TabOK P D tab) {all : List Oper} {i : Nat} (hi : all[i]? = some o) {Q : Exit → Act → World → Prop} {N : Nat} {T : List (SV C)} {Hp : List (HS C)} {m : Nat} {gs : List Nat} (hm : getC Hp m = .fresh) {v : SV C} {ws : List (Nat × HS C)}
  (hwant : ∀ x' : ST C, (∀ t ∈ gs, x'.1 t = getT T t) → ∀ a w, OkS D B df N x' a w → Region.wanted o (yielded all.toArray a.tmps) = true) {f : FuncId} {args : List (SV C)} {fc : List Nat}
  (hout : exec A tab o.op (valsOf T (opnds o.op)) (hsOf Hp (valsOf T (opnds o.op))) m = .call f args) (hc : CallF P D f args (getC Hp) fc v ws) :
  StepSem r P D B df Q N all i ⟨⟨o.dst, gs ++ tmpsOf (opnds o.op), m :: fcOf o.op (valsOf T (opnds o.op)) ++ fc, idsOf ws⟩, v, ws, (idsOf_eq ws).symm⟩ (getT T, getC Hp) := by
 intro x' hfs hfc a w K hok hK
 have hw := hwant x' (fun t ht => hfs t (by simp [ht])) a w hok
 obtain ⟨E, hR, hsz⟩ := hok
 have hv : valsOf T (opnds o.op) = (opnds o.op).map (ev x'.1) := by
  rw [valsOf_eq]
  exact (ev_agree (σ := getT T) (σ' := x'.1) _ fun t ht => hfs t (by simp [ht])).symm
 have hm' : x'.2 m = .fresh := (hfc m (by simp)).trans hm
 obtain ⟨hs', hl', he'⟩ := hs_for (tab := tab) (m := m) A o.op (valsOf T (opnds o.op)) Hp x'.2 fun c hc => hfc c (by simp [hc])
 have hOK := exec_ok (o := o) A hT hR hm' hv (hs := hs') hl'
 rw [he'] at hOK
 have hnd : ∀ c, o.op ≠ .defer c := not_defer (m := m) (hs := hsOf Hp (valsOf T (opnds o.op))) (vals := valsOf T (opnds o.op)) A (by rw [hout]; simp)
 unfold wpOpIn
 simp only [List.getElem?_toArray, hi, hw, if_true]
 rw [hout] at hOK
 exact wpIn_of_call' hnd hsz hR hOK (hc.at_ x'.2 fun c hcc => hfc c (by simp [hcc])) fun a' w' hr => hK a' w' hr

theorem step_of_skip {all : List Oper} {i : Nat} (hi : all[i]? = some o) {Q : Exit → Act → World → Prop} {N : Nat} {T : List (SV C)} {Hp : List (HS C)} {gs : List Nat}
  (hwant : ∀ x' : ST C, (∀ t ∈ gs, x'.1 t = getT T t) → ∀ a w, OkS D B df N x' a w → Region.wanted o (yielded all.toArray a.tmps) = false) :
  StepSem r P D B df Q N all i ⟨⟨o.dst, gs, [], []⟩, .tuple [], [], rfl⟩ (getT T, getC Hp) := by
 intro x' hfs hfc a w K hok hK
 have hw := hwant x' (fun t ht => hfs t ht) a w hok
 obtain ⟨E, hR, hsz⟩ := hok
 unfold wpOpIn
 simp only [List.getElem?_toArray, hi, hw, Bool.false_eq_true, if_false]
 refine ⟨fun _ _ => trivial, hK _ _ ⟨E, ?_, by rw [size_put, hsz]⟩⟩
 exact hR.put hsz o.dst (.inr (by simp only [Den, DenA]; exact ⟨#[], rfl, rfl⟩))

def foldS (N : Nat) : ST C → List (Stp C) → ST C
 | x, [] => x
 | x, s :: l => foldS N (s.app N x) l
theorem foldS_append (N : Nat) : ∀ (l m : List (Stp C)) (x : ST C), foldS N x (l ++ m) = foldS N (foldS N x l) m
 | [], m, x => rfl
 | s :: l, m, x => foldS_append N l m _
theorem stA_foldS {N : Nat} {x : ST C} {ss : List (Stp C)} {dflt : Stp C} : ∀ k, k ≤ ss.length → stA N x (fun k => ss.getD k dflt) full k = foldS N x (ss.take k)
 | 0, _ => by simp [stA, foldS]
 | k + 1, hk => by
  have hk' : k < ss.length := by omega
  rw [List.take_add_one, foldS_append, ← stA_foldS (dflt := dflt) k (by omega)]
  simp [stA, full, hk', foldS]


theorem drawOp_sound (A : Aux C D) (hT : TabOK P D tab) {all : List Oper} {i : Nat} (hi : all[i]? = some o) {Q : Exit → Act → World → Prop} {N : Nat} {T : List (SV C)} {Hp : List (HS C)} {big : Nat} {gs : List Nat} {next : DK C} {tr : List Ent}
  (hwant : ∀ x' : ST C, (∀ t ∈ gs, x'.1 t = getT T t) → ∀ a w, OkS D B df N x' a w → Region.wanted o (yielded all.toArray a.tmps) = true)
  (h : drawOp P A tab big next o.dst o.op gs tr T Hp) : ∃ s : Stp C, StepSem r P D B df Q N all i s (getT T, getC Hp) ∧ s.e.d = o.dst ∧ next (s.e :: tr) (setO T o.dst s.v) (setCs Hp s.ws) := by
 unfold drawOp drawOpAt freshAt at h
 split at h
 ·rename_i hm
  generalize hout : exec A tab o.op (valsOf T (opnds o.op)) (hsOf Hp (valsOf T (opnds o.op))) (newAt o.op big Hp) = out at h
  cases out with
  | stuck => exact h.elim
  | val v => exact ⟨_, step_of_out A hT hi hm (ws := []) hwant rfl (.inl ⟨hout, rfl⟩), rfl, h⟩
  | side p v => exact ⟨_, step_of_out A hT hi hm (ws := []) hwant rfl (.inr (.inl ⟨p, h.1, hout, rfl⟩)), rfl, h.2⟩
  | mem v ws => exact ⟨_, step_of_out A hT hi hm (ws := ws) hwant rfl (.inr (.inr (.inl hout))), rfl, h⟩
  | smem p v ws => exact ⟨_, step_of_out A hT hi hm (ws := ws) hwant rfl (.inr (.inr (.inr (.inl ⟨p, h.1, hout⟩)))), rfl, h.2⟩
  | call f args =>
   obtain ⟨ret, ws, fc, hc, hn⟩ := h
   exact ⟨_, step_of_call A hT hi hm (ws := ws) hwant hout hc, rfl, hn⟩
  | yieldc c args => exact h.elim
  | may p v => exact h.elim
  | ask q K =>
   obtain ⟨r', hq, h2⟩ := h
   exact ⟨_, step_of_out A hT hi hm (ws := []) hwant rfl (.inr (.inr (.inr (.inr ⟨q, K, r', hout, hq, rfl, rfl⟩)))), rfl, h2⟩
 ·exact h.elim

theorem okS_getT {N : Nat} {x : ST C} {T : List (SV C)} {d : Nat} (hok : OkS D B df N x a w) (hx : x.1 d = getT T d) {b : Bool} (hb : getT T d = .p (.bool b)) : a.tmps.getD d undef = .bool b := by
 obtain ⟨E, hR, _⟩ := hok
 have := hR.den d
 rw [hx, hb] at this
 exact den_bool this
theorem okS_skip {N : Nat} {x : ST C} {T : List (SV C)} {d : Nat} (hok : OkS D B df N x a w) (hx : x.1 d = getT T d) (hb : getT T d = .tuple []) : a.tmps.getD d undef = .tuple #[] := by
 obtain ⟨E, hR, _⟩ := hok
 have hden := hR.den d
 rw [hx, hb] at hden
 simp only [Den, DenA] at hden
 obtain ⟨xs, e, hx⟩ := hden
 have : xs = #[] := by simpa using hx
 rw [e, this]

theorem drawGo_sound (A : Aux C D) (hT : TabOK P D tab) {all : List Oper} {Q : Exit → Act → World → Prop} {N : Nat} {big : Nat} {K : DK C} : ∀ (rest : List Oper) (i : Nat) (tr : List Ent) (T : List (SV C)) (Hp : List (HS C)),
  (∀ j, rest[j]? = all[i + j]?) → T.length = N → drawGo P A tab K all big rest tr T Hp →
  ∃ (ss : List (Stp C)) (T' : List (SV C)) (Hp' : List (HS C)), ss.length = rest.length ∧ T'.length = N ∧ K ((ss.map (·.e)).reverse ++ tr) T' Hp' ∧
   (∀ j s, ss[j]? = some s → StepSem r P D B df Q N all (i + j) s (foldS N (getT T, getC Hp) (ss.take j))) ∧ foldS N (getT T, getC Hp) ss = (getT T', getC Hp')
 | [], i, tr, T, Hp, _, hN, h => ⟨[], T, Hp, rfl, hN, h, fun j s hs => by simp at hs, rfl⟩
 | o :: rest, i, tr, T, Hp, hall, hN, h => by
  have hi : all[i]? = some o := by have := hall 0; simpa using this.symm
  have hrest : ∀ j, rest[j]? = all[i + 1 + j]? := fun j => by
   have := hall (j + 1)
   simp only [List.getElem?_cons_succ] at this
   rw [this]; congr 1; omega
  have fin : (∃ s : Stp C, StepSem r P D B df Q N all i s (getT T, getC Hp) ∧ s.e.d = o.dst ∧ drawGo P A tab K all big rest (s.e :: tr) (setO T o.dst s.v) (setCs Hp s.ws)) →
    ∃ (ss : List (Stp C)) (T' : List (SV C)) (Hp' : List (HS C)), ss.length = (o :: rest).length ∧ T'.length = N ∧ K ((ss.map (·.e)).reverse ++ tr) T' Hp' ∧
   (∀ j s, ss[j]? = some s → StepSem r P D B df Q N all (i + j) s (foldS N (getT T, getC Hp) (ss.take j))) ∧ foldS N (getT T, getC Hp) ss = (getT T', getC Hp') := by
   rintro ⟨s, h1, h2, h3⟩
   obtain ⟨ss, T', Hp', g1, g2, g3, g4, g5⟩ := drawGo_sound A hT rest (i + 1) _ _ _ hrest (by rw [length_setO, hN]) h3
   have happ : s.app N (getT T, getC Hp) = (getT (setO T o.dst s.v), getC (setCs Hp s.ws)) := by
    simp only [Stp.app, h2, getT_setO, getC_setCs, hN]
   refine ⟨s :: ss, T', Hp', by simp [g1], g2, by simpa using g3, fun j u hu => ?_, by rw [foldS, happ]; exact g5⟩
   cases j with
   | zero => simp at hu; subst hu; exact h1
   | succ j =>
    have := g4 j u (by simpa using hu)
    rw [show i + (j + 1) = i + 1 + j by omega, List.take_succ_cons, foldS, happ]
    exact this
  apply fin
  obtain ⟨dst, op, ty, pos, after, guard⟩ := o
  cases guard with
  | none => exact drawOp_sound A hT hi (gs := []) (fun x' _ a w _ => wanted_free rfl) h
  | some g =>
   obtain ⟨j, want⟩ := g
   simp only [drawGo] at h
   cases hg : gslot all j with
   | none => rw [hg] at h; exact h.elim
   | some d =>
    rw [hg] at h
    simp only [dGuardD, dGuard] at h
    split at h
    ·rename_i b hb
     have hw : ∀ (b' : Bool), (want == b) = b' → ∀ x' : ST C, (∀ t ∈ [d], x'.1 t = getT T t) → ∀ a w, OkS D B df N x' a w →
       Region.wanted ⟨dst, op, ty, pos, after, some (j, want)⟩ (yielded all.toArray a.tmps) = b' := by
      intro b' hbb x' hx a w hok
      have hv := okS_getT hok (hx d (by simp)) hb
      simp only [Region.wanted, yielded_slot hg b hv]
      rw [← hbb]; cases want <;> cases b <;> rfl
     have hskip : (want == b) = false → drawGo P A tab K all big rest (⟨dst, [d], [], []⟩ :: tr) (setO T dst (.tuple [])) Hp →
       ∃ s : Stp C, StepSem r P D B df Q N all i s (getT T, getC Hp) ∧ s.e.d = dst ∧ drawGo P A tab K all big rest (s.e :: tr) (setO T dst s.v) (setCs Hp s.ws) :=
      fun hbb hn => ⟨_, step_of_skip hi (gs := [d]) (hw false hbb), rfl, hn⟩
     have hexec : (want == b) = true → drawOp P A tab big (drawGo P A tab K all big rest) dst op [d] tr T Hp →
       ∃ s : Stp C, StepSem r P D B df Q N all i s (getT T, getC Hp) ∧ s.e.d = dst ∧ drawGo P A tab K all big rest (s.e :: tr) (setO T dst s.v) (setCs Hp s.ws) :=
      fun hbb hn => drawOp_sound A hT hi (gs := [d]) (hw true hbb) hn
     cases want <;> cases b
     ·exact hexec rfl h
     ·exact hskip rfl h
     ·exact hskip rfl h
     ·exact hexec rfl h
    ·rename_i hb
     refine ⟨_, step_of_skip hi (gs := [d]) fun x' hx a w hok => ?_, rfl, h⟩
     have hv := okS_skip hok (hx d (by simp)) hb
     simp only [Region.wanted, yielded_undef hg hv]
     rfl
    ·exact h.elim

theorem drawVC_sound (A : Aux C D) (hT : TabOK P D tab) {R : Kont C} {id : Nat} {ops : List Oper} {k : List (It C)} {T : List (SV C)} {Hp : List (HS C)} {Q : Exit → Act → World → Prop} (h : DrawVC P A tab R ops k T Hp)
  (hR : RelL D B df T Hp a w) (hQ : ∀ T' Hp' a' w', R k T' Hp' → RelL D B df T' Hp' a' w' → Q .normal a' w') : (Code.region id ops.toArray true).wpIn (Fc r) 0 P Q a w := by
 obtain ⟨hmix, hgo⟩ := h
 obtain ⟨E, hR', hsz⟩ := hR
 refine wpIn_region_any hmix ?_
 obtain ⟨ss, T', Hp', g1, g2, g3, g4, g5⟩ := drawGo_sound A hT (r := r) (Q := Q) (B := B) (df := df) (N := T.length) ops 0 [] T Hp (fun j => by simp) rfl hgo
 simp only [List.append_nil, drawK, List.reverse_reverse] at g3
 obtain ⟨htr, hk⟩ := g3
 simp only [traceB, Bool.and_eq_true] at htr
 let dflt : Stp C := ⟨⟨none, [], [], []⟩, .any, [], rfl⟩
 have hS : ∀ i s, ss[i]? = some s → ss.getD i dflt = s := fun i s hs => by simp [hs]
 refine any_of_steps (N := T.length) (x0 := (getT T, getC Hp)) (S := fun i => ss.getD i dflt) (Ok := OkS D B df T.length) (n := ops.length) (by simp) ?_ ?_ ?_ ?_ _ _ a _ (by simp) ⟨fun k hk o ho e he hb => ?_⟩ ?_ ?_
 ·intro k o ho e he hb
  have := backB_spec ops 0 (ops := ops.toArray) (fun i => by simp) htr.1 k o (by simpa using ho) e he hb
  simpa using this
 ·intro i j hij hj hc
  have hj' : j < ss.length := by omega
  have hi' : i < ss.length := by omega
  have e1 : (ss.map (·.e))[i]? = some (ss.getD i dflt).e := by simp [hi']
  have e2 : (ss.map (·.e))[j]? = some (ss.getD j dflt).e := by simp [hj']
  have := ordersB_spec (ss.map (·.e)) 0 (fun q => by simp) htr.2 j i _ _ (by omega) e1 (by simpa using e2) e2 hc
  rw [Nat.zero_add] at this
  exact ancL_spec ops [] (ops := ops.toArray) (fun q => by simp) (fun k j h => by simp at h) j i this
 ·intro i hi x' h1 h2 a w K hok hK
  have hi' : i < ss.length := by omega
  have hsi : ss[i]? = some (ss.getD i dflt) := by simp [hi']
  have := g4 i _ hsi
  rw [Nat.zero_add] at this
  rw [stA_foldS (dflt := dflt) i (by omega)] at h1 h2
  exact this x' h1 h2 a w K hok hK
 ·intro a w hok
  rw [stA_foldS (dflt := dflt) _ (by omega), show ops.length = ss.length by omega, List.take_length, g5] at hok
  obtain ⟨E, h1, h2⟩ := hok
  exact hQ _ _ _ _ hk ⟨E, h1, by rw [h2, g2]⟩
 ·have ho' := ho
  rw [Array.getElem?_eq_some_iff] at ho'
  obtain ⟨hlt, _⟩ := ho'
  simp at hlt
  simp [hlt] at hk
 ·have : ∀ n, cnt (fun k => (Array.replicate ops.length false).getD k true) n ≤ n := by
   intro n
   induction n with
   | zero => exact Nat.le_refl _
   | succ n ih => simp only [cnt]; split <;> omega
  have := this ops.length
  simpa using this
 ·have : ∀ n, n ≤ ops.length → stA T.length (getT T, getC Hp) (fun i => ss.getD i dflt) (fun k => (Array.replicate ops.toArray.size false).getD k true) n = (getT T, getC Hp) := by
   intro n
   induction n with
   | zero => intro _; rfl
   | succ n ih =>
    intro hn
    have hf : (Array.replicate ops.toArray.size false).getD n true = false := by simp [show n < ops.length by omega]
    simp only [stA, hf, ih (by omega)]
  rw [this _ (Nat.le_refl _)]
  exact ⟨E, hR'.drew, hsz⟩

end
end Go.SX

/-
 SX, part O: numbers renamed.
-/
namespace Go.SX
open Go.RowKit
variable {C : Cod}

def ixO : List (Option Nat) → Nat → Option Nat
 | [], _ => none
 | x :: _, 0 => x
 | _ :: l, i + 1 => ixO l i

mutual
def renS (θ : List (Option Nat)) : SV C → Option (SV C)
 | .ptr c o => match ixO θ c with
  | some d => some (.ptr d o)
  | none => none
 | .eptr c o n i f => match ixO θ c with
  | some d => some (.eptr d o n i f)
  | none => none
 | .slice c o n off len => match ixO θ c with
  | some d => some (.slice d o n off len)
  | none => none
 | .agg vs => match renL θ vs with
  | some l => some (.agg l)
  | none => none
 | .fn f a b => match renL θ a with
  | some a' => match renL θ b with
   | some b' => some (.fn f a' b')
   | none => none
  | none => none
 | .iface t v => match renS θ v with
  | some v' => some (.iface t v')
  | none => none
 | .tuple vs => match renL θ vs with
  | some l => some (.tuple l)
  | none => none
 | .p x => some (.p x)
 | .any => some .any
 | .dptr a f => some (.dptr a f)
 | .arr u N xs => some (.arr u N xs)
 | .mapp c => match ixO θ c with
  | some d => some (.mapp d)
  | none => none
 | .yieldv c => match ixO θ c with
  | some d => some (.yieldv d)
  | none => none
def renL (θ : List (Option Nat)) : List (SV C) → Option (List (SV C))
 | [] => some []
 | x :: l => match renS θ x with
  | some y => match renL θ l with
   | some r => some (y :: r)
   | none => none
  | none => none
end
def renH (θ : List (Option Nat)) : HS C → Option (HS C)
 | .fresh => some .fresh
 | .dead => some .dead
 | .rows u xs => some (.rows u xs)
 | .obj o => some (.obj o)
 | .vart t vs => match renL θ vs with
  | some l => some (.vart t l)
  | none => none

section
variable {D : Codec C} {w : World}

theorem renS_isArr {θ : List (Option Nat)} {x y : SV C} (h : renS θ x = some y) : y.isArr = x.isArr := by
 cases x <;> simp only [renS] at h <;> (repeat' split at h) <;> simp at h <;> (try subst h) <;> rfl

mutual
theorem ren_den {θ : List (Option Nat)} {E E' : Env} (hF : E'.F = E.F) (hβ : ∀ j d, ixO θ j = some d → E'.β j = E.β d) : ∀ (x y : SV C) (v : Value), renS θ x = some y → (Den D w E y v ↔ Den D w E' x v)
 | .ptr c o, y, v, h => by
  simp only [renS] at h
  cases hc : ixO θ c with
  | none => simp [hc] at h
  | some d => simp [hc] at h; subst h; simp only [Den, hβ c d hc]
 | .eptr c o n i f, y, v, h => by
  simp only [renS] at h
  cases hc : ixO θ c with
  | none => simp [hc] at h
  | some d => simp [hc] at h; subst h; simp only [Den, hβ c d hc]
 | .slice c o n off len, y, v, h => by
  simp only [renS] at h
  cases hc : ixO θ c with
  | none => simp [hc] at h
  | some d => simp [hc] at h; subst h; simp only [Den, hβ c d hc]
 | .agg vs, y, v, h => by
  simp only [renS] at h
  cases hc : renL θ vs with
  | none => simp [hc] at h
  | some l =>
   simp [hc] at h; subst h; simp only [Den]
   constructor
   ·rintro ⟨cs, h1, h2⟩; exact ⟨cs, h1, (ren_denC hF hβ vs l _ hc).1 h2⟩
   ·rintro ⟨cs, h1, h2⟩; exact ⟨cs, h1, (ren_denC hF hβ vs l _ hc).2 h2⟩
 | .fn f a b, y, v, h => by
  simp only [renS] at h
  cases ha : renL θ a with
  | none => simp [ha] at h
  | some a' =>
   cases hb : renL θ b with
   | none => simp [ha, hb] at h
   | some b' =>
    simp [ha, hb] at h; subst h; simp only [Den]
    constructor
    ·rintro ⟨xs, ys, h1, h2, h3⟩; exact ⟨xs, ys, h1, (ren_denA hF hβ a a' _ ha).1 h2, (ren_denA hF hβ b b' _ hb).1 h3⟩
    ·rintro ⟨xs, ys, h1, h2, h3⟩; exact ⟨xs, ys, h1, (ren_denA hF hβ a a' _ ha).2 h2, (ren_denA hF hβ b b' _ hb).2 h3⟩
 | .iface t x, y, v, h => by
  simp only [renS] at h
  cases hc : renS θ x with
  | none => simp [hc] at h
  | some l =>
   simp [hc] at h; subst h; simp only [Den]
   constructor
   ·rintro ⟨u, h1, h2⟩; exact ⟨u, h1, (ren_den hF hβ x l _ hc).1 h2⟩
   ·rintro ⟨u, h1, h2⟩; exact ⟨u, h1, (ren_den hF hβ x l _ hc).2 h2⟩
 | .tuple vs, y, v, h => by
  simp only [renS] at h
  cases hc : renL θ vs with
  | none => simp [hc] at h
  | some l =>
   simp [hc] at h; subst h; simp only [Den]
   constructor
   ·rintro ⟨cs, h1, h2⟩; exact ⟨cs, h1, (ren_denA hF hβ vs l _ hc).1 h2⟩
   ·rintro ⟨cs, h1, h2⟩; exact ⟨cs, h1, (ren_denA hF hβ vs l _ hc).2 h2⟩
 | .p x, y, v, h => by simp only [renS, Option.some.injEq] at h; subst h; simp only [Den, hF]
 | .any, y, v, h => by simp only [renS, Option.some.injEq] at h; subst h; simp only [Den]
 | .dptr a f, y, v, h => by simp only [renS, Option.some.injEq] at h; subst h; simp only [Den, hF]
 | .arr u N xs, y, v, h => by simp only [renS, Option.some.injEq] at h; subst h; simp only [Den]
 | .mapp c, y, v, h => by
  simp only [renS] at h
  cases hc : ixO θ c with
  | none => simp [hc] at h
  | some d => simp [hc] at h; subst h; simp only [Den, hβ c d hc]
 | .yieldv c, y, v, h => by
  simp only [renS] at h
  cases hc : ixO θ c with
  | none => simp [hc] at h
  | some d => simp [hc] at h; subst h; simp only [Den, hβ c d hc]
theorem ren_denC {θ : List (Option Nat)} {E E' : Env} (hF : E'.F = E.F) (hβ : ∀ j d, ixO θ j = some d → E'.β j = E.β d) : ∀ (l m : List (SV C)) (vs : List Value), renL θ l = some m → (DenC D w E m vs ↔ DenC D w E' l vs)
 | [], m, vs, h => by simp only [renL, Option.some.injEq] at h; subst h; simp only [DenC]
 | x :: l, m, vs, h => by
  simp only [renL] at h
  cases hx : renS θ x with
  | none => simp [hx] at h
  | some y =>
   cases hl : renL θ l with
   | none => simp [hx, hl] at h
   | some r =>
    simp [hx, hl] at h; subst h
    have ih := ren_denC hF hβ l r
    cases hxa : x.isArr with
    | true =>
     obtain ⟨u, N, xs, rfl⟩ := SV.arr_of hxa
     simp only [renS, Option.some.injEq] at hx
     subst hx
     simp only [DenC, hF]
     constructor
     ·rintro ⟨h1, v1, v2, h2, h3, h4⟩; exact ⟨h1, v1, v2, h2, h3, (ih v2 hl).1 h4⟩
     ·rintro ⟨h1, v1, v2, h2, h3, h4⟩; exact ⟨h1, v1, v2, h2, h3, (ih v2 hl).2 h4⟩
    | false =>
     have hya : y.isArr = false := by rw [renS_isArr hx]; exact hxa
     rw [DenC_cons hxa, DenC_cons hya]
     constructor
     ·rintro ⟨v, v2, h1, h2, h3, h4⟩; exact ⟨v, v2, h1, h2, (ren_den hF hβ x y v hx).1 h3, (ih v2 hl).1 h4⟩
     ·rintro ⟨v, v2, h1, h2, h3, h4⟩; exact ⟨v, v2, h1, h2, (ren_den hF hβ x y v hx).2 h3, (ih v2 hl).2 h4⟩
theorem ren_denA {θ : List (Option Nat)} {E E' : Env} (hF : E'.F = E.F) (hβ : ∀ j d, ixO θ j = some d → E'.β j = E.β d) : ∀ (l m : List (SV C)) (vs : List Value), renL θ l = some m → (DenA D w E m vs ↔ DenA D w E' l vs)
 | [], m, vs, h => by simp only [renL, Option.some.injEq] at h; subst h; simp only [DenA]
 | x :: l, m, vs, h => by
  simp only [renL] at h
  cases hx : renS θ x with
  | none => simp [hx] at h
  | some y =>
   cases hl : renL θ l with
   | none => simp [hx, hl] at h
   | some r =>
    simp [hx, hl] at h; subst h
    have ih := ren_denA hF hβ l r
    simp only [DenA]
    constructor
    ·rintro ⟨v, v2, h1, h2, h3⟩; exact ⟨v, v2, h1, (ren_den hF hβ x y v hx).1 h2, (ih v2 hl).1 h3⟩
    ·rintro ⟨v, v2, h1, h2, h3⟩; exact ⟨v, v2, h1, (ren_den hF hβ x y v hx).2 h2, (ih v2 hl).2 h3⟩
end

theorem ren_at {θ : List (Option Nat)} {E E' : Env} (hF : E'.F = E.F) (hβ : ∀ j d, ixO θ j = some d → E'.β j = E.β d) {x y : HS C} (h : renH θ x = some y) (b : Nat) : y.at D w E b ↔ x.at D w E' b := by
 cases x with
 | fresh => simp only [renH, Option.some.injEq] at h; subst h; exact Iff.rfl
 | dead => simp only [renH, Option.some.injEq] at h; subst h; exact Iff.rfl
 | rows u xs => simp only [renH, Option.some.injEq] at h; subst h; simp only [HS.at, hF]
 | obj o => simp only [renH, Option.some.injEq] at h; subst h; exact Iff.rfl
 | vart ty vs =>
  simp only [renH] at h
  cases hc : renL θ vs with
  | none => simp [hc] at h
  | some l =>
   simp [hc] at h; subst h
   simp only [HS.at]
   constructor
   ·rintro ⟨cs, T, h1, h2⟩; exact ⟨cs, T, h1, (ren_denC hF hβ vs l _ hc).1 h2⟩
   ·rintro ⟨cs, T, h1, h2⟩; exact ⟨cs, T, h1, (ren_denC hF hβ vs l _ hc).2 h2⟩

theorem ren_ok {θ : List (Option Nat)} {E E' : Env} (hF : E'.F = E.F) (hβ : ∀ j d, ixO θ j = some d → E'.β j = E.β d) {x y : HS C} (h : renH θ x = some y) (s : BS) : y.ok D w E s ↔ x.ok D w E' s := by
 have key : (y = .fresh ↔ x = .fresh) ∧ (y = .dead ↔ x = .dead) ∧ ((∃ u, y = .rows u []) ↔ ∃ u, x = .rows u []) := by
  cases x with
  | fresh => simp only [renH, Option.some.injEq] at h; subst h; simp
  | dead => simp only [renH, Option.some.injEq] at h; subst h; simp
  | rows u xs => simp only [renH, Option.some.injEq] at h; subst h; simp
  | obj o => simp only [renH, Option.some.injEq] at h; subst h; simp
  | vart ty vs =>
   simp only [renH] at h
   cases hc : renL θ vs with
   | none => simp [hc] at h
   | some l => simp [hc] at h; subst h; simp
 cases s with
 | fresh => exact key.1
 | dead => exact key.2.1
 | virt => exact key.2.2
 | loc b => exact ren_at hF hβ h b
end
end Go.SX

/-
 SX, part P: one state seen as another: numbers renamed, what is dropped becomes persistent.
-/
namespace Go.SX
open Go.RowKit
variable {C : Cod}

def inO : List (Option Nat) → Nat → Bool
 | [], _ => false
 | none :: l, c => inO l c
 | some d :: l, c => if d = c then true else inO l c

/-- how a slice of a dropped chunk is seen: as persistent data -/
def FrozenAs (Hp : List (HS C)) (θ : List (Option Nat)) (c o n off len : Nat) (u : C.U) (ys : List (C.El u)) : Prop :=
 ∃ xs, getC Hp c = .rows u xs ∧ o = 0 ∧ n = C.n u ∧ off + len ≤ xs.length ∧ ys = (xs.drop off).take len ∧ inO θ c = false

/-- one cell of a variable, seen as persistent data -/
def ViewP (Hp : List (HS C)) (θ : List (Option Nat)) : SV C → PV C → Prop
 | .slice c o n off len, .dsl u ys => FrozenAs Hp θ c o n off len u ys
 | .p (.lit (.slice none 0 0)), .dsl _ ys => ys = []
 | .p x, y => x = y
 | _, _ => False
def ViewPs (Hp : List (HS C)) (θ : List (Option Nat)) : List (SV C) → List (PV C) → Prop
 | [], [] => True
 | x :: l, y :: m => ViewP Hp θ x y ∧ ViewPs Hp θ l m
 | _, _ => False
/-- a pointer into a dropped variable: into persistent cells -/
def FrozenVar (Hp : List (HS C)) (θ : List (Option Nat)) (c : Nat) (cells : List (PV C)) : Prop :=
 ∃ t vs, getC Hp c = .vart t vs ∧ ViewPs Hp θ vs cells ∧ inO θ c = false
mutual
def View (Hp : List (HS C)) (θ : List (Option Nat)) : SV C → SV C → Prop
 | .arr _ _ _, .any => False
 | _, .any => True
 | .agg vs, .agg ws => ViewL Hp θ vs ws
 | .tuple vs, .tuple ws => ViewL Hp θ vs ws
 | .fn f a b, .fn f' a' b' => f' = f ∧ ViewL Hp θ a a' ∧ ViewL Hp θ b b'
 | .ptr c o, .dptr cells f => f = o ∧ FrozenVar Hp θ c cells
 | .slice c o n off len, .p (.dsl u ys) => FrozenAs Hp θ c o n off len u ys
 | .p (.lit (.slice none 0 0)), .p (.dsl _ ys) => ys = []
 | .p (.lit (.slice none 0 0)), .slice j _ _ _ len => ixL θ j = some none ∧ len = 0
 | .p x, .p y => x = y
 | x, y => renS θ y = some x
def ViewL (Hp : List (HS C)) (θ : List (Option Nat)) : List (SV C) → List (SV C) → Prop
 | [], [] => True
 | x :: l, y :: m => View Hp θ x y ∧ ViewL Hp θ l m
 | _, _ => False
end
def ViewH (Hp : List (HS C)) (θ : List (Option Nat)) : HS C → HS C → Prop
 | _, .dead => True
 | .vart t vs, .vart t' ws => t' = t ∧ ViewL Hp θ vs ws
 | .rows u xs, .rows v ys => (.rows v ys : HS C) = .rows u xs
 | .obj o, .obj o' => o' = o
 | _, _ => False
def ViewHs (Hp : List (HS C)) (θ : List (Option Nat)) : List (Option Nat) → List (HS C) → Prop
 | [], [] => True
 | some d :: l, h :: m => ViewH Hp θ (getC Hp d) h ∧ ViewHs Hp θ l m
 | none :: l, h :: m => (∃ u, h = .rows u []) ∧ ViewHs Hp θ l m
 | _, _ => False

/-- the first m numbers stay -/
def idO : Nat → Nat → List (Option Nat) → Bool
 | 0, _, _ => true
 | m + 1, k, some d :: l => if d = k then idO m (k + 1) l else false
 | _, _, _ => false
/-- no number twice -/
def ndO : List (Option Nat) → Bool
 | [] => true
 | none :: l => ndO l
 | some d :: l => match inO l d with
  | true => false
  | false => ndO l

section
variable {P : Program} {D : Codec C} {B : Base} {E : Env} {df : List Deferred} {a : Act} {w : World}

theorem ixO_in : ∀ (θ : List (Option Nat)) (j d : Nat), ixO θ j = some d → inO θ d = true
 | [], j, d, h => by simp [ixO] at h
 | x :: l, 0, d, h => by simp [ixO] at h; subst h; simp [inO]
 | x :: l, j + 1, d, h => by
  have ih := ixO_in l j d (by simpa [ixO] using h)
  cases x with
  | none => simpa [inO] using ih
  | some e => simp only [inO]; split <;> first | rfl | exact ih
theorem ndO_inj : ∀ (θ : List (Option Nat)), ndO θ = true → ∀ j j' d, ixO θ j = some d → ixO θ j' = some d → j = j'
 | [], _, j, j', d, h, _ => by simp [ixO] at h
 | x :: l, hn, j, j', d, h, h' => by
  cases x with
  | none =>
   cases j with
   | zero => simp [ixO] at h
   | succ j =>
    cases j' with
    | zero => simp [ixO] at h'
    | succ j' => rw [ndO_inj l (by simpa [ndO] using hn) j j' d (by simpa [ixO] using h) (by simpa [ixO] using h')]
  | some e =>
   simp only [ndO] at hn
   cases hi : inO l e with
   | true => rw [hi] at hn; simp at hn
   | false =>
    rw [hi] at hn
    cases j with
    | zero =>
     simp [ixO] at h; subst h
     cases j' with
     | zero => rfl
     | succ j' => have := ixO_in l j' e (by simpa [ixO] using h'); rw [hi] at this; cases this
    | succ j =>
     cases j' with
     | zero => simp [ixO] at h'; subst h'; have := ixO_in l j e (by simpa [ixO] using h); rw [hi] at this; cases this
     | succ j' => rw [ndO_inj l hn j j' d (by simpa [ixO] using h) (by simpa [ixO] using h')]
theorem idO_spec : ∀ (m k : Nat) (θ : List (Option Nat)), idO m k θ = true → ∀ c, c < m → ixO θ c = some (k + c)
 | 0, _, _, _, c, hc => absurd hc (Nat.not_lt_zero _)
 | m + 1, k, [], h, c, hc => by simp [idO] at h
 | m + 1, k, none :: l, h, c, hc => by simp [idO] at h
 | m + 1, k, some d :: l, h, c, hc => by
  simp only [idO] at h
  split at h
  ·rename_i hd
   subst hd
   cases c with
   | zero => simp [ixO]
   | succ c =>
    have := idO_spec m (d + 1) l h c (by omega)
    simp only [ixO, this]
    congr 1
    omega
  ·cases h

theorem ixO_of_ixL (θ : List (Option Nat)) (j d : Nat) : ixL θ j = some (some d) ↔ ixO θ j = some d := by
 induction θ generalizing j with
 | nil => simp [ixL, ixO]
 | cons x l ih => cases j with
  | zero => simp [ixL, ixO]
  | succ j => simpa [ixL, ixO] using ih j

theorem viewHs_get : ∀ (Hp : List (HS C)) (θ l : List (Option Nat)) (m : List (HS C)), ViewHs Hp θ l m → l.length = m.length ∧
  (∀ j d, ixL l j = some (some d) → ViewH Hp θ (getC Hp d) (getC m j)) ∧ (∀ j, ixL l j = some none → ∃ u, getC m j = .rows u []) ∧ (∀ j, ixL l j = none → getC m j = .fresh)
 | Hp, θ, [], [], h => ⟨rfl, fun j d h => by simp [ixL] at h, fun j h => by simp [ixL] at h, fun j _ => rfl⟩
 | Hp, θ, [], _ :: _, h => by simp [ViewHs] at h
 | Hp, θ, some d :: l, [], h => by simp [ViewHs] at h
 | Hp, θ, none :: l, [], h => by simp [ViewHs] at h
 | Hp, θ, some d :: l, y :: m, h => by
  simp only [ViewHs] at h
  obtain ⟨h1, h2, h3, h4⟩ := viewHs_get Hp θ l m h.2
  refine ⟨by simp [h1], fun j e hj => ?_, fun j hj => ?_, fun j hj => ?_⟩
  ·cases j with
   | zero => simp [ixL] at hj; subst hj; exact h.1
   | succ j => exact h2 j e (by simpa [ixL] using hj)
  ·cases j with
   | zero => simp [ixL] at hj
   | succ j => exact h3 j (by simpa [ixL] using hj)
  ·cases j with
   | zero => simp [ixL] at hj
   | succ j => exact h4 j (by simpa [ixL] using hj)
 | Hp, θ, none :: l, y :: m, h => by
  simp only [ViewHs] at h
  obtain ⟨h1, h2, h3, h4⟩ := viewHs_get Hp θ l m h.2
  refine ⟨by simp [h1], fun j e hj => ?_, fun j hj => ?_, fun j hj => ?_⟩
  ·cases j with
   | zero => simp [ixL] at hj
   | succ j => exact h2 j e (by simpa [ixL] using hj)
  ·cases j with
   | zero => exact h.1
   | succ j => exact h3 j (by simpa [ixL] using hj)
  ·cases j with
   | zero => simp [ixL] at hj
   | succ j => exact h4 j (by simpa [ixL] using hj)

/-- what is asked of the new environment -/
structure EnvView (w : World) (E E' : Env) (θ : List (Option Nat)) : Prop where
 F : ∀ b, E.F b → E'.F b
 β : ∀ j d, ixO θ j = some d → E'.β j = E.β d ∨ E'.β j = .dead
 virt : ∀ j, ixL θ j = some none → E'.β j = .virt ∨ E'.β j = .dead
 drop : ∀ c b, inO θ c = false → E.β c = .loc b → E'.F b

def Env.sub (E : Env) (θ : List (Option Nat)) : Env := { F := E.F, β := fun j => match ixO θ j with | some d => E.β d | none => .fresh }

theorem view_ren {E' : Env} {θ : List (Option Nat)} (hV : EnvView w E E' θ) {x y : SV C} {v : Value} (h : renS θ y = some x) (hd : Den D w E x v) : Den D w E' y v := by
 have h1 := (ren_den (D := D) (w := w) (E := E) (E' := E.sub θ) rfl (fun j d hj => by simp [Env.sub, hj]) y x v h).1 hd
 have hL : Later w (E.sub θ) w E' := by
  refine ⟨fun b hb => ⟨hV.F b hb, rfl⟩, fun j => ?_, fun _ _ _ _ cs T hc => ⟨cs, T, hc, rfl⟩⟩
  cases hj : ixO θ j with
  | none => exact .inr (.inr (by simp [Env.sub, hj]))
  | some d =>
   rcases hV.β j d hj with e | e
   ·exact .inl (by simp [Env.sub, hj, e])
   ·exact .inr (.inl e)
 exact Den.mono hL y v h1

theorem view_arr {Hp : List (HS C)} {θ : List (Option Nat)} {u : C.U} {N : Nat} {xs : List (C.El u)} {y : SV C} (h : View Hp θ (.arr u N xs) y) : y = .arr u N xs := by
 have key : ∀ z : SV C, renS θ z = some (.arr u N xs) → z = .arr u N xs := fun z hz => by
  have h1 := renS_isArr hz
  have h2 : z.isArr = true := by rw [← h1]; rfl
  obtain ⟨u', N', xs', rfl⟩ := SV.arr_of h2
  simpa [renS] using hz
 cases y with
 | any => simp only [View] at h
 | _ => exact key _ (by simpa only [View] using h)

theorem view_frozen {E' : Env} {θ : List (Option Nat)} {Hp : List (HS C)} (hs : Sat D w E (getC Hp)) (hV : EnvView w E E' θ) {c o n off len : Nat} {u : C.U} {ys : List (C.El u)} {v : Value}
  (h : FrozenAs Hp θ c o n off len u ys) (hd : Den D w E (.slice c o n off len) v) : PDen D w E'.F (.dsl u ys) v := by
 obtain ⟨xs, h1, rfl, rfl, h2, rfl, h3⟩ := h
 have hl : (getC Hp c).live = true := by rw [h1]; rfl
 have hylen : ((xs.drop off).take len).length = len := by simp; omega
 rcases slice_live hs hl hd with ⟨rfl, hn⟩ | ⟨b, cap, cs, T, hb, e, hlc, hcs, hsz⟩
 ·simp only [List.take_zero]
  rcases hn with ⟨ad, e, _⟩ | ⟨ad, b, e, _⟩
  ·rw [e]; exact .dslNil u _ _
  ·rw [e]; exact .dslNil u _ _
 ·have hok := hs.ok c
  rw [hb, h1] at hok
  obtain ⟨cs', T', hcs', hz1, hz2⟩ := hok
  obtain ⟨rfl, rfl⟩ := hcs.inj hcs'.1
  have hsq : SqOK D w E b 0 (.some u xs) := ⟨cs, T, hcs, by omega, by simpa using hz2⟩
  have hF' : E'.F b := hV.drop c b h3 hb
  -- the cells, chosen
  have hcell : ∀ (i : Nat) (x : C.El u), ((xs.drop off).take len)[i]? = some x → ∀ (j : Nat) (pv : PV C), (D.enc u x)[j]? = some pv →
    ∃ v, w.cell? ⟨b, 0 + off * C.n u + i * C.n u + j, none⟩ = some v ∧ PDen D w E.F pv v := by
   intro i x hx j pv hp
   rw [List.getElem?_take] at hx
   split at hx
   ·rename_i hi
    rw [List.getElem?_drop] at hx
    have hlt : off + i < xs.length := (List.getElem?_eq_some_iff.1 hx).1
    have hg : xs.getD (off + i) (C.dflt u) = x := by simp [List.getD_eq_getElem?_getD, hx]
    obtain ⟨v, h4, h5⟩ := sq_cells hsq hlt j pv (by rw [hg]; exact hp)
    refine ⟨v, ?_, h5⟩
    rw [show 0 + off * C.n u + i * C.n u + j = 0 + (off + i) * C.n u + j by rw [Nat.add_mul]; omega]
    exact h4
   ·cases hx
  rw [e]
  have hfin := PDen.dsl (D := D) (w := w) (F := E'.F) u ((xs.drop off).take len) b (0 + off * C.n u) cap (fun i j => (w.cell? ⟨b, 0 + off * C.n u + i * C.n u + j, none⟩).getD undef) (fun _ => hF') (by rw [hylen]; exact hlc)
   (fun i x hx j pv hp => by obtain ⟨v, h4, _⟩ := hcell i x hx j pv hp; rw [h4]; rfl)
   (fun i x hx j pv hp => by
    obtain ⟨v, h4, h5⟩ := hcell i x hx j pv hp
    simp only [h4, Option.getD_some]
    exact h5.mono fun b hb => ⟨hV.F b hb, rfl⟩)
  rw [hylen] at hfin
  exact hfin

theorem viewP_den {E' : Env} {θ : List (Option Nat)} {Hp : List (HS C)} (hs : Sat D w E (getC Hp)) (hV : EnvView w E E' θ) {x : SV C} {y : PV C} {v : Value} (h : ViewP Hp θ x y) (hd : Den D w E x v) : PDen D w E'.F y v := by
 have key : ∀ z, x = .p z → z = y → PDen D w E'.F y v := fun z e e' => by
  subst e; subst e'
  simp only [Den] at hd
  exact hd.mono fun b hb => ⟨hV.F b hb, rfl⟩
 unfold ViewP at h
 split at h
 ·exact view_frozen hs hV h hd
 ·subst h; rw [den_lit hd]; exact .dslNil _ _ _
 ·exact key _ rfl h
 ·exact h.elim
theorem viewPs_den {E' : Env} {θ : List (Option Nat)} {Hp : List (HS C)} (hs : Sat D w E (getC Hp)) (hV : EnvView w E E' θ) : ∀ (l : List (SV C)) (m : List (PV C)) (vs : List Value), ViewPs Hp θ l m → DenC D w E l vs →
  ∀ (j : Nat) (pv : PV C), m[j]? = some pv → ∃ cv : Value, vs[j]? = some cv ∧ PDen D w E'.F pv cv
 | [], [], vs, h, hd, j, pv, hp => by simp at hp
 | [], _ :: _, vs, h, hd, j, pv, hp => by simp only [ViewPs] at h
 | _ :: _, [], vs, h, hd, j, pv, hp => by simp at hp
 | x :: l, y :: m, vs, h, hd, j, pv, hp => by
  simp only [ViewPs] at h
  have hx : x.isArr = false := by
   cases hx : x.isArr with
   | false => rfl
   | true =>
    obtain ⟨u, N, xs, rfl⟩ := SV.arr_of hx
    have := h.1
    simp [ViewP] at this
  rw [DenC_cons hx] at hd
  obtain ⟨v, v2, rfl, _, h2, h3⟩ := hd
  cases j with
  | zero =>
   simp at hp; subst hp
   exact ⟨v, rfl, viewP_den hs hV h.1 h2⟩
  | succ j => exact viewPs_den hs hV l m v2 h.2 h3 j pv (by simpa using hp)
theorem view_var {E' : Env} {θ : List (Option Nat)} {Hp : List (HS C)} (hs : Sat D w E (getC Hp)) (hV : EnvView w E E' θ) {c o f : Nat} {cells : List (PV C)} {v : Value} (h : f = o ∧ FrozenVar Hp θ c cells) (hd : Den D w E (.ptr c o) v) : Den D w E' (.dptr cells f) v := by
 obtain ⟨rfl, t, vs, h1, h2, h3⟩ := h
 obtain ⟨b, cs, T, hb, hrow, hden⟩ := var_at hs h1
 have e := ptr_den hd hb
 have hF' : E'.F b := hV.drop c b h3 hb
 simp only [Den]
 refine ⟨b, 0, by rw [e, Nat.zero_add], fun j pv hp => ⟨hF', ?_⟩⟩
 obtain ⟨cv, h4, h5⟩ := viewPs_den hs hV vs cells _ h2 hden j pv hp
 exact ⟨cv, by rw [Nat.zero_add, cells_cell hrow.1]; exact h4, h5⟩

mutual
theorem view_den {E' : Env} {θ : List (Option Nat)} {Hp : List (HS C)} (hs : Sat D w E (getC Hp)) (hV : EnvView w E E' θ) : ∀ (x y : SV C) (v : Value), View Hp θ x y → Den D w E x v → Den D w E' y v
 | .agg vs, y, v, h, hd => by
  cases y with
  | any => trivial
  | agg ws =>
   simp only [View] at h
   simp only [Den] at hd ⊢
   obtain ⟨cs, e, hc⟩ := hd
   exact ⟨cs, e, view_denC hs hV vs ws _ h hc⟩
  | _ => exact view_ren hV (by simpa only [View] using h) hd
 | .tuple vs, y, v, h, hd => by
  cases y with
  | any => trivial
  | tuple ws =>
   simp only [View] at h
   simp only [Den] at hd ⊢
   obtain ⟨cs, e, hc⟩ := hd
   exact ⟨cs, e, view_denA hs hV vs ws _ h hc⟩
  | _ => exact view_ren hV (by simpa only [View] using h) hd
 | .slice c o n off len, y, v, h, hd => by
  cases y with
  | any => trivial
  | p pv =>
   cases pv with
   | dsl u ys => simp only [View] at h; simp only [Den]; exact view_frozen hs hV h hd
   | _ => exact view_ren hV (by simpa only [View] using h) hd
  | _ => exact view_ren hV (by simpa only [View] using h) hd
 | .p x, y, v, h, hd => by
  have key : ∀ z, x = z → Den D w E' (.p z) v := fun z e => by
   subst e
   simp only [Den] at hd ⊢
   exact hd.mono fun b hb => ⟨hV.F b hb, rfl⟩
  by_cases hx : x = .lit (.slice none 0 0)
  ·subst hx
   have e := den_lit hd
   cases y with
   | any => trivial
   | p pv =>
    cases pv with
    | dsl u ys => simp only [View] at h; subst h; simp only [Den]; rw [e]; exact .dslNil u _ _
    | _ => exact key _ (by simpa only [View] using h)
   | slice j o n off len =>
    simp only [View] at h
    obtain ⟨h1, h2⟩ := h
    simp only [Den]
    rcases hV.virt j h1 with h3 | h3
    ·rw [h3]; exact ⟨none, e, h2⟩
    ·rw [h3, e]; rfl
   | _ => exact view_ren hV (by simpa only [View] using h) hd
  ·cases y with
   | any => trivial
   | p pv =>
    have hv : View Hp θ (.p x) (.p pv) = (x = pv) := by
     unfold View
     split <;> simp_all
    rw [hv] at h
    exact key _ h
   | slice j o n off len =>
    have hv : View Hp θ (.p x) (.slice j o n off len) = (renS θ (.slice j o n off len) = some (.p x)) := by
     unfold View
     split <;> simp_all
    rw [hv] at h
    exact view_ren hV h hd
   | _ => exact view_ren hV (by simpa only [View] using h) hd
 | .any, y, v, h, hd => by
  cases y with
  | any => trivial
  | _ => exact view_ren hV (by simpa only [View] using h) hd
 | .ptr c o, y, v, h, hd => by
  cases y with
  | any => trivial
  | dptr cells f => exact view_var hs hV (by simpa only [View] using h) hd
  | _ => exact view_ren hV (by simpa only [View] using h) hd
 | .eptr c o n i f, y, v, h, hd => by
  cases y with
  | any => trivial
  | _ => exact view_ren hV (by simpa only [View] using h) hd
 | .dptr cells f, y, v, h, hd => by
  cases y with
  | any => trivial
  | _ => exact view_ren hV (by simpa only [View] using h) hd
 | .arr u N xs, y, v, h, hd => by simp only [Den] at hd
 | .fn f p q, y, v, h, hd => by
  cases y with
  | any => trivial
  | fn f' p' q' =>
   simp only [View] at h
   obtain ⟨rfl, h1, h2⟩ := h
   simp only [Den] at hd ⊢
   obtain ⟨xs, ys, e, h3, h4⟩ := hd
   exact ⟨xs, ys, e, view_denA hs hV p p' _ h1 h3, view_denA hs hV q q' _ h2 h4⟩
  | _ => exact view_ren hV (by simpa only [View] using h) hd
 | .iface t z, y, v, h, hd => by
  cases y with
  | any => trivial
  | _ => exact view_ren hV (by simpa only [View] using h) hd
 | .yieldv c, y, v, h, hd => by
  cases y with
  | any => trivial
  | _ => exact view_ren hV (by simpa only [View] using h) hd
 | .mapp c, y, v, h, hd => by
  cases y with
  | any => trivial
  | _ => exact view_ren hV (by simpa only [View] using h) hd
theorem view_denC {E' : Env} {θ : List (Option Nat)} {Hp : List (HS C)} (hs : Sat D w E (getC Hp)) (hV : EnvView w E E' θ) : ∀ (l m : List (SV C)) (vs : List Value), ViewL Hp θ l m → DenC D w E l vs → DenC D w E' m vs
 | [], m, vs, h, hd => by
  cases m with
  | nil => simp only [DenC] at hd ⊢; exact hd
  | cons y m => simp only [ViewL] at h
 | x :: l, [], vs, h, hd => by simp only [ViewL] at h
 | x :: l, y :: m, vs, h, hd => by
  simp only [ViewL] at h
  cases hxa : x.isArr with
  | true =>
   obtain ⟨u, N, xs, rfl⟩ := SV.arr_of hxa
   have hy := view_arr h.1
   subst hy
   simp only [DenC] at hd ⊢
   obtain ⟨h1, v1, v2, h2, h3, h4⟩ := hd
   exact ⟨h1, v1, v2, h2, h3.mono fun b hb => ⟨hV.F b hb, rfl⟩, view_denC hs hV l m v2 h.2 h4⟩
  | false =>
   rw [DenC_cons hxa] at hd
   obtain ⟨v, v2, rfl, h2, h3, h4⟩ := hd
   have ih := view_denC hs hV l m v2 h.2 h4
   have hden := view_den hs hV x y v h.1 h3
   cases hya : y.isArr with
   | false => rw [DenC_cons hya]; exact ⟨v, v2, rfl, h2, hden, ih⟩
   | true =>
    obtain ⟨u, N, xs, rfl⟩ := SV.arr_of hya
    simp only [Den] at hden
theorem view_denA {E' : Env} {θ : List (Option Nat)} {Hp : List (HS C)} (hs : Sat D w E (getC Hp)) (hV : EnvView w E E' θ) : ∀ (l m : List (SV C)) (vs : List Value), ViewL Hp θ l m → DenA D w E l vs → DenA D w E' m vs
 | [], m, vs, h, hd => by
  cases m with
  | nil => simp only [DenA] at hd ⊢; exact hd
  | cons y m => simp only [ViewL] at h
 | x :: l, [], vs, h, hd => by simp only [ViewL] at h
 | x :: l, y :: m, vs, h, hd => by
  simp only [ViewL] at h
  simp only [DenA] at hd ⊢
  obtain ⟨v, v2, rfl, h2, h3⟩ := hd
  exact ⟨v, v2, rfl, view_den hs hV x y v h.1 h2, view_denA hs hV l m v2 h.2 h3⟩
end

end
end Go.SX
