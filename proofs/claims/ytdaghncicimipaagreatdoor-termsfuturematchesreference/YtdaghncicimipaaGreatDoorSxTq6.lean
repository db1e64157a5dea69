/-
  Plain law: what finishes a goal: its events, and that they meet it: the parts.
-/
import Derived.Test.YtdaghncicimipaaGreatDoorSxTg1
import Derived.Test.YtdaghncicimipaaGreatDoorSxTd7
set_option linter.unusedVariables false
set_option linter.unusedSimpArgs false
namespace Go.SX
/-! what is ordered strictly -/
theorem bef_irr (a : Event) : ¬ befB a a = true := by rw [befB_iff]; omega
theorem bef_asym {a b : Event} (h : befB a b = true) : ¬ befB b a = true := by rw [befB_iff] at *; omega
theorem str_nodup {l : List Event} (h : StrE l) : l.Nodup := h.imp fun hab e => by subst e; exact bef_irr _ hab
theorem str_find : ∀ {l : List Event} {x : Event}, StrE l → x ∈ l → l.find? (keyE x) = some x
 | [], x, _, h => by cases h
 | a :: l, x, hs, h => by
  have hs' := List.pairwise_cons.1 hs
  by_cases hk : keyE x a = true
  ·rw [List.find?_cons_of_pos hk]
   rcases List.mem_cons.1 h with rfl | h
   ·rfl
   ·have hb := hs'.1 x h
    rw [befB_iff] at hb; rw [keyE_iff] at hk; omega
  ·rw [List.find?_cons_of_neg hk]
   rcases List.mem_cons.1 h with rfl | h
   ·exact absurd (keyE_refl _) hk
   ·exact str_find hs'.2 h
theorem merge_sub {l : List Event} {x : Event} (h : x ∈ mergeS l) : x ∈ l := by
 have := str_find (merge_str l) h
 rw [merge_find] at this
 exact List.mem_of_find?_eq_some this
theorem merge_key {l : List Event} {x : Event} (h : x ∈ l) : ∃ y, y ∈ mergeS l ∧ y ∈ l ∧ keyE x y = true := by
 cases hf : l.find? (keyE x) with
 | none => exact absurd (keyE_refl x) (List.find?_eq_none.1 hf x h)
 | some y =>
  have hm := merge_find l x
  rw [hf] at hm
  exact ⟨y, List.mem_of_find?_eq_some hm, List.mem_of_find?_eq_some hf, List.find?_some hf⟩
/-- what has the same key is the same -/
def KeyInj (l : List Event) : Prop := ∀ a ∈ l, ∀ b ∈ l, keyE a b = true → a = b
theorem merge_mem {l : List Event} (h : KeyInj l) {x : Event} : x ∈ mergeS l ↔ x ∈ l := by
 refine ⟨merge_sub, fun hx => ?_⟩
 obtain ⟨y, h1, h2, h3⟩ := merge_key hx
 rw [h x hx y h2 h3]; exact h1
theorem str_sub : ∀ {l m : List Event}, StrE m → StrE l → (∀ x ∈ m, x ∈ l) → m.Sublist l
 | l, [], _, _, _ => List.nil_sublist _
 | [], a :: m, _, _, h => by have := h a (by simp); cases this
 | b :: l, a :: m, h1, h2, h => by
  have h1' := List.pairwise_cons.1 h1
  have h2' := List.pairwise_cons.1 h2
  rcases List.mem_cons.1 (h a (by simp)) with rfl | ha
  ·refine List.Sublist.cons_cons a (str_sub h1'.2 h2'.2 fun x hx => ?_)
   rcases List.mem_cons.1 (h x (by simp [hx])) with rfl | hx'
   ·exact absurd (h1'.1 x hx) (bef_irr x)
   ·exact hx'
  ·refine List.Sublist.cons b (str_sub h1 h2'.2 fun x hx => ?_)
   rcases List.mem_cons.1 hx with rfl | hx'
   ·exact ha
   ·rcases List.mem_cons.1 (h x hx) with rfl | hx2
    ·exact absurd (h1'.1 x hx') (bef_asym (h2'.1 a ha))
    ·exact hx2
theorem str_filter {l : List Event} (h : StrE l) (p : Event → Bool) : StrE (l.filter p) := List.Pairwise.sublist List.filter_sublist h
/-! events that finish -/
structure GoodO (out : List Event) (now image : Int) : Prop where
 str : StrE out
 plain : ∀ e ∈ out, e.kind = 1 ∨ e = delT e.at_ e.image
 late : ∀ e ∈ out, now ≤ e.at_ ∧ e.at_ ≤ 1000000
 shots : ∀ e ∈ out, e.kind = 1 → image ≤ e.image ∧ (-90 ≤ e.sun ∧ e.sun ≤ 90) ∧ (-4 ≤ e.look ∧ e.look ≤ 4) ∧ areaB e.rows = true
 imgs : ∀ e ∈ out, 0 ≤ e.image ∧ e.image < image + countE out
 inj : ∀ a ∈ out, ∀ b ∈ out, a.kind = 1 → b.kind = 1 → a.image = b.image → a = b
theorem goodO_nil (now : Int) {image : Int} : GoodO [] now image := ⟨List.Pairwise.nil, fun e h => (by cases h), fun e h => (by cases h), fun e h => (by cases h), fun e h => (by cases h), fun a h => (by cases h)⟩
theorem goodO_key {o m : List Event} {now i j : Int} (h1 : GoodO o now i) (h2 : GoodO m now j) (hij : i + countE o = j) : KeyInj (o ++ m) := by
 intro a ha b hb hk
 rw [keyE_iff] at hk
 obtain ⟨k1, k2, k3⟩ := hk
 by_cases hka : a.kind = 1
 ·have hkb : b.kind = 1 := by omega
  rcases List.mem_append.1 ha with ha | ha <;> rcases List.mem_append.1 hb with hb | hb
  ·exact h1.inj a ha b hb hka hkb k3
  ·have := h1.imgs a ha; have := h2.shots b hb hkb; omega
  ·have := h1.imgs b hb; have := h2.shots a ha hka; omega
  ·exact h2.inj a ha b hb hka hkb k3
 ·have hkb : ¬ b.kind = 1 := by omega
  have pa : a = delT a.at_ a.image := by
   rcases List.mem_append.1 ha with ha | ha
   ·exact (h1.plain a ha).resolve_left hka
   ·exact (h2.plain a ha).resolve_left hka
  have pb : b = delT b.at_ b.image := by
   rcases List.mem_append.1 hb with hb | hb
   ·exact (h1.plain b hb).resolve_left hkb
   ·exact (h2.plain b hb).resolve_left hkb
  rw [pa, pb, k1, k3]
theorem count_app (a b : List Event) : countE (a ++ b) = countE a + countE b := by unfold countE; rw [List.filter_append, List.length_append]; omega
theorem count_nonneg (l : List Event) : 0 ≤ countE l := by unfold countE; omega
theorem count_merge {l : List Event} (h : KeyInj l) (hd : (l.filter fun e => decide (e.kind = 1)).Nodup) : countE (mergeS l) = countE l := by
 unfold countE
 have hp : ((mergeS l).filter fun e => decide (e.kind = 1)).Perm (l.filter fun e => decide (e.kind = 1)) := by
  rw [List.perm_ext_iff_of_nodup (str_nodup (str_filter (merge_str l) _)) hd]
  intro x
  rw [List.mem_filter, List.mem_filter, merge_mem h]
 rw [hp.length_eq]
theorem goodO_nodup {o : List Event} {now i : Int} (h : GoodO o now i) : (o.filter fun e => decide (e.kind = 1)).Nodup := str_nodup (str_filter h.str _)
theorem goodO_merge {o m : List Event} {now i j : Int} (h1 : GoodO o now i) (h2 : GoodO m now j) (hij : i + countE o = j) : GoodO (mergeS (o ++ m)) now i ∧ countE (mergeS (o ++ m)) = countE o + countE m := by
 have hk := goodO_key h1 h2 hij
 have hd : ((o ++ m).filter fun e => decide (e.kind = 1)).Nodup := by
  rw [List.filter_append, List.nodup_append]
  refine ⟨goodO_nodup h1, goodO_nodup h2, fun a ha b hb e => ?_⟩
  subst e
  obtain ⟨a1, a2⟩ := List.mem_filter.1 ha
  obtain ⟨b1, b2⟩ := List.mem_filter.1 hb
  have := h1.imgs a a1; have := h2.shots a b1 (by simpa using b2); omega
 have hc := count_merge hk hd
 rw [count_app] at hc
 have hmem : ∀ {e}, e ∈ mergeS (o ++ m) → e ∈ o ∨ e ∈ m := fun h => List.mem_append.1 (merge_sub h)
 have c1 := count_nonneg o
 have c2 := count_nonneg m
 refine ⟨⟨merge_str _, fun e he => ?_, fun e he => ?_, fun e he hk => ?_, fun e he => ?_, fun a ha b hb ka kb hi => ?_⟩, hc⟩
 ·rcases hmem he with h | h
  ·exact h1.plain e h
  ·exact h2.plain e h
 ·rcases hmem he with h | h
  ·exact h1.late e h
  ·exact h2.late e h
 ·rcases hmem he with h | h
  ·exact h1.shots e h hk
  ·have := h2.shots e h hk
   exact ⟨by omega, this.2⟩
 ·rw [hc]
  rcases hmem he with h | h
  ·have := h1.imgs e h; omega
  ·have := h2.imgs e h; omega
 ·rcases hmem ha with ha | ha <;> rcases hmem hb with hb | hb
  ·exact h1.inj a ha b hb ka kb hi
  ·have := h1.imgs a ha; have := h2.shots b hb kb; omega
  ·have := h1.imgs b hb; have := h2.shots a ha ka; omega
  ·exact h2.inj a ha b hb ka kb hi
/-- how many of them are new -/
def newN (out : List Event) (image : Int) : Nat := (out.filter fun e => decide (image ≤ e.image)).length
theorem new_merge {o m : List Event} {i j : Int} (h : i ≤ j) (hm : ∀ e ∈ m, i ≤ e.image → j ≤ e.image ∨ e ∈ o) : newN (mergeS (o ++ m)) i ≤ newN o i + newN m j := by
 unfold newN
 rw [← List.length_append]
 refine List.Nodup.length_le_of_subset (str_nodup (str_filter (merge_str _) _)) fun x hx => ?_
 obtain ⟨h1, h2⟩ := List.mem_filter.1 hx
 have h2' : i ≤ x.image := by simpa using h2
 rcases List.mem_append.1 (merge_sub h1) with h3 | h3
 ·exact List.mem_append.2 (.inl (List.mem_filter.2 ⟨h3, h2⟩))
 ·rcases hm x h3 h2' with h4 | h4
  ·exact List.mem_append.2 (.inr (List.mem_filter.2 ⟨h3, by simpa using h4⟩))
  ·exact List.mem_append.2 (.inl (List.mem_filter.2 ⟨h4, h2⟩))
/-! an EShot of one's own is seen -/
theorem and_compl {x n : Nat} (h : x < 2 ^ n) : x &&& (2 ^ n - (x + 1)) = 0 := by
 apply Nat.eq_of_testBit_eq
 intro i
 rw [Nat.testBit_and, Nat.testBit_two_pow_sub_succ h, Nat.zero_testBit]
 cases x.testBit i <;> simp
theorem cont_self {rows : List Int} (h : areaB rows = true) : contB rows rows = true := by
 unfold contB
 rw [h, Bool.true_and, Bool.true_and, List.all_eq_true]
 intro y hy
 have hy := List.mem_range.1 hy
 unfold areaB at h
 simp only [Bool.and_eq_true, decide_eq_true_eq, List.all_eq_true] at h
 have hm : rows.getD y 0 ∈ rows := by
  rw [List.getD_eq_getElem?_getD, List.getElem?_eq_getElem (by omega)]; exact List.getElem_mem _
 have hr := h.2 _ hm
 unfold rowOK at hr
 rw [inB_iff] at hr
 rw [decide_eq_true_eq]
 refine and_compl ?_
 have : (2 : Nat) ^ 48 = 281474976710656 := by decide
 rw [this]; omega
theorem see_shot {g : Goal} (hg : SeeOK g) (ha : areaB g.rows = true) {m image look : Int} (h1 : g.from_ ≤ m) (h2 : m < g.to_) : seesB g (shotE g m image look) = true := by
 unfold seesB shotE
 simp only [decide_true, Bool.true_and, Bool.true_or, Bool.and_true, Bool.and_eq_true, decide_eq_true_eq, inB_iff]
 have := hg.high
 exact ⟨⟨⟨h1, h2⟩, by omega, by omega⟩, cont_self ha⟩
theorem see_area {s : Goal} (h : okB s = true) (hk : s.kind = 1) : areaB s.rows = true := by
 have := (okB_parts h).2.1
 unfold limB at this
 rw [if_pos hk] at this
 simp only [Bool.and_eq_true] at this
 exact this.1.1.1.1.1
end Go.SX

/-
 Plain law: runs that are continued.
-/
namespace Go.SX
theorem chain_app {g : Goal} : ∀ {c : List Event} {x y : Event} {s : List Event}, chainB g (c ++ [x]) → doFollowB g x y = true → chainB g (y :: s) → chainB g (c ++ [x] ++ (y :: s))
 | [], x, y, s, _, h2, h3 => ⟨h2, h3⟩
 | [a], x, y, s, h1, h2, h3 => ⟨h1.1, h2, h3⟩
 | a :: b :: c, x, y, s, h1, h2, h3 => ⟨h1.1, chain_app (c := b :: c) h1.2 h2 h3⟩
theorem fits_app {g : Goal} {c s : List Event} (h : fitsB g none c) (hc : c ≠ []) : fitsB g none (c ++ s) := by
 cases c with
 | nil => exact absurd rfl hc
 | cons a c => exact h
theorem fits_pre {g : Goal} {a b : List Event} (h : fitsB g none (a ++ b)) : fitsB g none a := by
 cases a with
 | nil => trivial
 | cons x a => exact h
/-! how long the runs are that end somewhere -/
theorem endK_is (g : Goal) (m : List Event) (long : List Int) (i : Nat) : ∀ k, 0 < endK g m long i k → (endK g m long i k = 1 ∧ doBeginB g (m.getD i (U.dflt .event)) = true) ∨ ∃ j, j < k ∧ 0 < long.getD j 0 ∧ doFollowB g (m.getD j (U.dflt .event)) (m.getD i (U.dflt .event)) = true ∧ endK g m long i k = 1 + long.getD j 0
 | 0, h => by
  rw [endK] at h ⊢
  split at h
  ·rename_i hb; exact .inl ⟨by rw [if_pos hb], hb⟩
  ·omega
 | k + 1, h => by
  rw [endK] at h ⊢
  split at h
  ·rename_i hc
   simp only [Bool.and_eq_true, decide_eq_true_eq] at hc
   rw [if_pos (by simp only [Bool.and_eq_true, decide_eq_true_eq]; exact hc)]
   rcases Int.le_total (1 + long.getD k 0) (endK g m long i k) with hm | hm
   ·rw [Int.max_eq_left hm]
    rcases endK_is g m long i k (by omega) with h1 | ⟨j, h1, h2, h3, h4⟩
    ·exact .inl h1
    ·exact .inr ⟨j, by omega, h2, h3, h4⟩
   ·rw [Int.max_eq_right hm]
    exact .inr ⟨k, by omega, hc.1, hc.2, rfl⟩
  ·rename_i hc
   rw [if_neg hc]
   rcases endK_is g m long i k h with h1 | ⟨j, h1, h2, h3, h4⟩
   ·exact .inl h1
   ·exact .inr ⟨j, by omega, h2, h3, h4⟩
theorem run_chain (g : Goal) (m : List Event) : ∀ (n i : Nat), i = n → i < m.length → 0 < runI g m i → ∃ c, (c ++ [m.getD i (U.dflt .event)]).Sublist (m.take (i + 1)) ∧ chainB g (c ++ [m.getD i (U.dflt .event)]) ∧ fitsB g none (c ++ [m.getD i (U.dflt .event)]) ∧ ((c ++ [m.getD i (U.dflt .event)]).length : Int) = runI g m i := by
 intro n
 induction n using Nat.strongRecOn with
 | ind n ih =>
  intro i hi hlt hp
  subst hi
  rcases endK_is g m (endsN g m i) i i hp with ⟨h1, h2⟩ | ⟨j, h1, h2, h3, h4⟩
  ·refine ⟨[], ?_, trivial, h2, ?_⟩
   ·rw [take_getD (d := U.dflt .event) hlt]; simp
   ·show (1 : Int) = runI g m i
    unfold runI; rw [h1]
  ·rw [endsN_get g m h1] at h2 h4
   obtain ⟨c, c1, c2, c3, c4⟩ := ih j h1 j rfl (by omega) h2
   refine ⟨c ++ [m.getD j (U.dflt .event)], ?_, chain_app c2 h3 (s := []) trivial, fits_app c3 (by simp), ?_⟩
   ·rw [take_getD (d := U.dflt .event) hlt]
    refine List.Sublist.append (c1.trans ?_) (List.Sublist.refl _)
    have : m.take (j + 1) = (m.take i).take (j + 1) := by rw [List.take_take, Nat.min_eq_left (by omega)]
    rw [this]; exact List.take_sublist _ _
   ·rw [List.length_append, Int.natCast_add, c4]
    show runI g m j + 1 = endK g m (endsN g m i) i i
    rw [h4]; unfold runI; omega
/-! which one is continued -/
structure GoR (g kid : Goal) (m : List Event) (mm : Int) (i : Nat) (r : Int × Int) : Prop where
 ge : mm ≤ r.2
 can : r.2 + (g.times - r.1 - 1) * g.within < kid.to_
 is : (r.1 = 0 ∧ r.2 ≤ g.from_ + 1440 * g.days) ∨ ∃ j, j < i ∧ 0 < runI g m j ∧ r.1 = runI g m j ∧ (m.getD j (U.dflt .event)).at_ + g.within ≤ r.2 ∧ r.2 ≤ (m.getD j (U.dflt .event)).at_ + 1440 * g.days
theorem goN_is (g kid : Goal) (m : List Event) (mm : Int) : ∀ i : Nat, (goN g kid m mm i).1 < 0 ∨ GoR g kid m mm i (goN g kid m mm i)
 | 0 => by
  rw [goN]; unfold considerS
  split
  ·rename_i h; exact .inr ⟨Int.le_refl _, h.2.1, .inl ⟨rfl, h.1⟩⟩
  ·left; show (-1 : Int) < 0; omega
 | i + 1 => by
  have ih := goN_is g kid m mm i
  have up : (goN g kid m mm i).1 < 0 ∨ GoR g kid m mm (i + 1) (goN g kid m mm i) := by
   rcases ih with h | ⟨h1, h2, h3⟩
   ·exact .inl h
   ·refine .inr ⟨h1, h2, ?_⟩
    rcases h3 with h3 | ⟨j, j1, j2⟩
    ·exact .inl h3
    ·exact .inr ⟨j, by omega, j2⟩
  rw [goN]
  split
  ·rename_i hp
   unfold considerS
   split
   ·rename_i h
    exact .inr ⟨by dsimp only; omega, h.2.1, .inr ⟨i, by omega, hp, rfl, by dsimp only; omega, h.1⟩⟩
   ·exact up
  ·exact up
/-! the EShots that continue it -/
theorem shotsN_len (kid : Goal) (a w image : Int) : ∀ j, (shotsN kid a w image j).length = j
 | 0 => rfl
 | j + 1 => by rw [shotsN, List.length_append, shotsN_len kid a w image j]; rfl
theorem shotsN_mem {kid : Goal} {a w image : Int} {x : Event} : ∀ {j : Nat}, x ∈ shotsN kid a w image j → ∃ i : Nat, i < j ∧ x = shotE kid (a + i * w) (image + i) 0
 | 0, h => by cases h
 | j + 1, h => by
  rw [shotsN] at h
  rcases List.mem_append.1 h with h | h
  ·obtain ⟨i, h1, h2⟩ := shotsN_mem h
   exact ⟨i, by omega, h2⟩
  ·exact ⟨j, by omega, List.mem_singleton.1 h⟩
theorem shotsN_str (kid : Goal) (a w image : Int) (hw : 0 ≤ w) : ∀ j, StrE (shotsN kid a w image j)
 | 0 => List.Pairwise.nil
 | j + 1 => by
  rw [shotsN]
  refine List.pairwise_append.2 ⟨shotsN_str kid a w image hw j, List.pairwise_singleton _ _, fun x hx y hy => ?_⟩
  obtain ⟨i, h1, rfl⟩ := shotsN_mem hx
  rw [List.mem_singleton.1 hy, befB_iff]
  have h2 : (i : Int) * w ≤ (j : Int) * w := Int.mul_le_mul_of_nonneg_right (by omega) hw
  show a + i * w < a + j * w ∨ a + i * w = a + j * w ∧ ((1 : Int) < 1 ∨ (1 : Int) = 1 ∧ image + i < image + j)
  omega
theorem shotsN_chain (g kid : Goal) (a image : Int) (hw : g.within ≤ 1440 * g.days) : ∀ j, chainB g (shotsN kid a g.within image j)
 | 0 => trivial
 | 1 => trivial
 | j + 2 => by
  rw [shotsN]
  have ih := shotsN_chain g kid a image hw (j + 1)
  rw [shotsN] at ih ⊢
  refine chain_app ih ?_ (s := []) trivial
  unfold doFollowB shotE
  rw [inB_iff]
  have e : ((j + 1 : Nat) : Int) * g.within = (j : Int) * g.within + g.within := by rw [Int.natCast_add, Int.add_mul]; simp
  dsimp only
  rw [e]; omega
theorem shotsN_head {kid : Goal} {a w image : Int} : ∀ {j : Nat}, 0 < j → ∃ s, shotsN kid a w image j = shotE kid a image 0 :: s
 | 0, h => absurd h (Nat.lt_irrefl _)
 | 1, _ => ⟨[], by show [shotE kid (a + (0 : Nat) * w) (image + (0 : Nat)) 0] = _; simp⟩
 | j + 2, _ => by
  obtain ⟨s, hs⟩ := shotsN_head (kid := kid) (a := a) (w := w) (image := image) (j := j + 1) (by omega)
  exact ⟨s ++ [shotE kid (a + (j + 1 : Nat) * w) (image + (j + 1 : Nat)) 0], by rw [shotsN, hs]; rfl⟩
end Go.SX

/-
 Plain law: what finishes a goal without goals of goals meets it; and where nothing does, nothing further does.
-/
namespace Go.SX
theorem form_plain {e : Event} (h : formB e = true) (hk : e.kind ≠ 1) : e = delT e.at_ e.image := by
 unfold formB at h
 simp only [Bool.and_eq_true] at h
 have h3 := h.2
 rw [if_neg hk] at h3
 split at h3
 ·rename_i hk2
  simp only [Bool.and_eq_true, decide_eq_true_eq, Bool.not_eq_true'] at h3
  obtain ⟨kind, at_, image, rows, sun, look, clear⟩ := e
  dsimp only at *
  have hr : rows = [] := List.length_eq_zero_iff.1 (by omega)
  unfold delT
  rw [hk2, hr, h3.1.1.2, h3.1.2, h3.2]
 ·cases h3
/-- events up to now -/
structure CtxO (l : List Event) (now image : Int) : Prop where
 str : StrE l
 form : ∀ e ∈ l, formB e = true
 shot : ∀ e ∈ l, e.kind = 1 → e.at_ < now
 all : ∀ e ∈ l, e.at_ ≤ now
 img : ∀ e ∈ l, e.image < image
structure FinOK (g : Goal) (n : Int) (l : List Event) (now image : Int) (out : List Event) : Prop where
 good : GoodO out now image
 new : (newN out image : Int) ≤ 4 * n
 leaf : g.kind ≤ 3 → (newN out image : Int) ≤ 2 * n + 2
 old : ∀ e ∈ out, e.image < image → e = delT now e.image ∧ ∃ x ∈ l, x.image = e.image
 met : ∀ L, StrE L → (∀ e ∈ l, e ∈ L) → (∀ e ∈ out, e ∈ L) → (meanG g L).isSome = true
theorem kid_ok {ks : List Goal} {d m : Int} (h : sizeL ks d = some m) (h1 : (ks.length : Int) = 1) : ∃ q, sizeG (kid0 ks) d = some q ∧ m = q := by
 match ks, h1 with
 | [k], _ =>
  rw [sizeL] at h
  split at h
  ·cases h
  ·rename_i q hq
   rw [sizeL] at h
   injection h with h
   exact ⟨q, hq, by omega⟩
theorem kid_kind {g : Goal} (h : okB g = true) (h1 : (g.kids.length : Int) = 1) : (kid0 g.kids).kind ≤ lastK g.kind := by
 unfold okB partsB at h
 simp only [Bool.and_eq_true, Bool.not_eq_true'] at h
 have h2 := h.2.2
 rw [List.any_eq_false] at h2
 obtain ⟨kind, rows, from_, to_, low, high, clear, days, times, within, cents, kids⟩ := g
 match kids, h1 with
 | [k], _ =>
  have := h2 k (by simp)
  simpa [kid0] using this
theorem kid_see {g : Goal} (h : okB g = true) (hk : g.kind = 2 ∨ g.kind = 3) {d m : Int} (hs : sizeL g.kids d = some m) : ∃ q, sizeG (kid0 g.kids) d = some q ∧ m = q ∧ okB (kid0 g.kids) = true ∧ (kid0 g.kids).kind = 1 := by
 have h1 := ok_one h (by omega) (by omega) (by omega)
 obtain ⟨q, hq, e⟩ := kid_ok hs h1
 have hko := (size_ok hq).1
 have hkk := kid_kind h h1
 have hkp := (okB_parts hko).1
 unfold lastK at hkk
 rw [if_pos hk] at hkk
 exact ⟨q, hq, e, hko, by omega⟩
theorem good_one {kid : Goal} (hsee : SeeOK kid) (ha : areaB kid.rows = true) {now image m look : Int} (h0 : 0 ≤ image) (h1 : now ≤ m) (h2 : m < kid.to_) (hl : -4 ≤ look ∧ look ≤ 4) : ∀ e, e = shotE kid m image look → (e.kind = 1 ∨ e = delT e.at_ e.image) ∧ (now ≤ e.at_ ∧ e.at_ ≤ 1000000) ∧ ((-90 ≤ e.sun ∧ e.sun ≤ 90) ∧ (-4 ≤ e.look ∧ e.look ≤ 4) ∧ areaB e.rows = true) := by
 rintro e rfl
 have := hsee.to; have := hsee.low
 exact ⟨.inl rfl, ⟨h1, by show m ≤ 1000000; omega⟩, ⟨by show (-90 : Int) ≤ kid.low; omega, by show kid.low ≤ 90; omega⟩, hl, ha⟩
theorem see_fin {g : Goal} {n : Int} (hok : okB g = true) (hk : g.kind = 1) (hn : 1 ≤ n) {l : List Event} {now image : Int} (h0 : 0 ≤ image) {out : List Event} (hf : finSee g now image = some out) : FinOK g n l now image out := by
 have hsee := see_ok hok hk
 have ha := see_area hok hk
 unfold finSee at hf
 split at hf
 ·rename_i hlt
  injection hf with hf
  subst hf
  have hg := good_one hsee ha (look := 0) h0 (show now ≤ max now g.from_ by omega) hlt (by omega)
  have hc : countE [shotE g (max now g.from_) image 0] = 1 := rfl
  have hnew : newN [shotE g (max now g.from_) image 0] image ≤ 1 := List.length_filter_le _ _
  refine ⟨⟨List.pairwise_singleton _ _, fun e he => (hg e (List.mem_singleton.1 he)).1, fun e he => (hg e (List.mem_singleton.1 he)).2.1, fun e he _ => ?_, fun e he => ?_, fun a h1 b h2 _ _ _ => ?_⟩, by omega, fun _ => by omega, fun e he hlt => ?_, fun L hL _ h2 => ?_⟩
  ·have := List.mem_singleton.1 he
   exact ⟨by rw [this]; exact Int.le_refl _, (hg e this).2.2⟩
  ·rw [List.mem_singleton.1 he, hc]
   exact ⟨h0, by show image < image + 1; omega⟩
  ·rw [List.mem_singleton.1 h1, List.mem_singleton.1 h2]
  ·rw [List.mem_singleton.1 he] at hlt
   exact absurd hlt (Int.lt_irrefl _)
  ·rw [meanG_eq, if_pos hk]
   unfold seeM
   have hm : shotE g (max now g.from_) image 0 ∈ seenS g L := List.mem_filter.2 ⟨h2 _ (by simp), see_shot hsee ha (by omega) hlt⟩
   cases hs : seenS g L with
   | nil => rw [hs] at hm; cases hm
   | cons a r => rfl
 ·cases hf
theorem pair_fin {g : Goal} {n d m : Int} (hok : okB g = true) (hk : g.kind = 2) (hs : sizeL g.kids d = some m) (hn : n = 1 + m) {l : List Event} {now image : Int} (h0 : 0 ≤ image) {out : List Event} (hf : finPair g now image = some out) : FinOK g n l now image out := by
 obtain ⟨q, hq, hm, hko, hkk⟩ := kid_see hok (.inl hk) hs
 have hq1 := size_pos hq
 have hsee := see_ok hko hkk
 have ha := see_area hko hkk
 have hlim := (okB_parts hok).2.1
 unfold limB at hlim
 rw [if_neg (by omega), if_pos hk] at hlim
 simp only [Bool.and_eq_true, inB_iff] at hlim
 unfold finPair at hf
 obtain ⟨kid, hkid⟩ : ∃ kid, kid = kid0 g.kids := ⟨_, rfl⟩
 rw [← hkid] at hf hsee ha hkk hko hq
 split at hf
 ·rename_i hlt
  injection hf with hf
  subst hf
  obtain ⟨a, hae⟩ : ∃ a, a = shotE kid (max now kid.from_) image (-4) := ⟨_, rfl⟩
  obtain ⟨b, hbe⟩ : ∃ b, b = shotE kid (max now kid.from_) (image + 1) 4 := ⟨_, rfl⟩
  have hga := good_one hsee ha (look := -4) h0 (show now ≤ max now kid.from_ by omega) hlt (by omega) a hae
  have hgb := good_one hsee ha (image := image + 1) (look := 4) (by omega) (show now ≤ max now kid.from_ by omega) hlt (by omega) b hbe
  have ka : a.kind = 1 := by rw [hae]; rfl
  have kb : b.kind = 1 := by rw [hbe]; rfl
  have ia : a.image = image := by rw [hae]; rfl
  have ib : b.image = image + 1 := by rw [hbe]; rfl
  have hab : befB a b = true := by
   rw [befB_iff, ka, kb, ia, ib, hae, hbe]
   show max now kid.from_ < max now kid.from_ ∨ _
   right
   exact ⟨rfl, .inr ⟨rfl, by omega⟩⟩
  rw [← hae, ← hbe]
  have hc : countE [a, b] = 2 := by unfold countE; simp [ka, kb]
  have hnew : newN [a, b] image ≤ 2 := List.length_filter_le _ _
  have hmem : ∀ e ∈ [a, b], e = a ∨ e = b := fun e he => by simpa using he
  refine ⟨⟨List.pairwise_cons.2 ⟨fun x hx => by rw [List.mem_singleton.1 hx]; exact hab, List.pairwise_singleton _ _⟩, fun e he => ?_, fun e he => ?_, fun e he _ => ?_, fun e he => ?_, fun x h1 y h2 _ _ h3 => ?_⟩, by omega, fun _ => by omega, fun e he hlt => ?_, fun L hL _ h2 => ?_⟩
  ·rcases hmem e he with rfl | rfl
   ·exact hga.1
   ·exact hgb.1
  ·rcases hmem e he with rfl | rfl
   ·exact hga.2.1
   ·exact hgb.2.1
  ·rcases hmem e he with rfl | rfl
   ·exact ⟨by omega, hga.2.2⟩
   ·exact ⟨by omega, hgb.2.2⟩
  ·rw [hc]
   rcases hmem e he with rfl | rfl <;> omega
  ·rcases hmem x h1 with rfl | rfl <;> rcases hmem y h2 with rfl | rfl
   ·rfl
   ·omega
   ·omega
   ·rfl
  ·rcases hmem e he with rfl | rfl <;> omega
  ·rw [meanG_eq, if_neg (by omega), if_pos hk]
   unfold pairM
   have hsub : [a, b].Sublist (seenS kid L) := by
    refine str_sub (List.pairwise_cons.2 ⟨fun x hx => by rw [List.mem_singleton.1 hx]; exact hab, List.pairwise_singleton _ _⟩) (str_filter hL _) fun x hx => ?_
    rcases hmem x hx with rfl | rfl
    ·exact List.mem_filter.2 ⟨h2 _ (by simp), by rw [hae]; exact see_shot hsee ha (by omega) hlt⟩
    ·exact List.mem_filter.2 ⟨h2 _ (by simp), by rw [hbe]; exact see_shot hsee ha (by omega) hlt⟩
   have hp := (pair_some g (seenS kid L)).1 ⟨a, b, hsub, by
    unfold pfB gapS
    rw [hae, hbe]
    show (decide (g.low ≤ max ((-4 : Int) - 4) (4 - -4)) && decide (max (max now kid.from_ - max now kid.from_) (max now kid.from_ - max now kid.from_) ≤ g.within)) = true
    rw [Bool.and_eq_true, decide_eq_true_eq, decide_eq_true_eq]
    omega⟩
   rw [← hkid]
   cases hps : pairS g (seenS kid L) with
   | none => rw [hps] at hp; cases hp
   | some w => rfl
 ·cases hf
/-! runs -/
theorem every_some (g : Goal) (l : List Event) {n : Nat} (hn : g.times = n) : (everyM g l).isSome = true ↔ ∃ c, c.Sublist (seenS (kid0 g.kids) l) ∧ c.length = n ∧ chainB g c ∧ fitsB g none c := by
 unfold everyM
 rw [takeS_T, hn]
 constructor
 ·intro h
  by_cases ht : (takeT g (seenS (kid0 g.kids) l) n none).2 = true
  ·obtain ⟨c, c1, c2, c3, c4, _⟩ := run_of_take g _ n none ht
   exact ⟨c, c1, c2, c3, c4⟩
  ·rw [if_neg ht] at h; cases h
 ·rintro ⟨c, c1, c2, c3, c4⟩
  rw [if_pos (take_of_run g _ n none c c1 c2 c3 c4)]; rfl
theorem every_fin {g : Goal} {n d m : Int} (hok : okB g = true) (hk : g.kind = 3) (hs : sizeL g.kids d = some m) (hn : n = 1 + m) {l : List Event} {now image : Int} (hc : CtxO l now image) (h0 : 0 ≤ image) (hno : meanG g l = none) {out : List Event} (hf : finEvery g l now image = some out) : FinOK g n l now image out := by
 obtain ⟨q, hq, hm, hko, hkk⟩ := kid_see hok (.inr hk) hs
 have hq1 := size_pos hq
 have hsee := see_ok hko hkk
 have ha := see_area hko hkk
 have ht := ok_times hok hk
 have hd := ok_days hok hk
 obtain ⟨N, hN⟩ : ∃ N : Nat, g.times = N := ⟨g.times.toNat, by omega⟩
 rw [meanG_eq, if_neg (by omega), if_neg (by omega), if_pos hk] at hno
 unfold finEvery at hf
 obtain ⟨kid, hkid⟩ : ∃ kid, kid = kid0 g.kids := ⟨_, rfl⟩
 rw [← hkid] at hf hsee ha hkk hko hq
 have hgo := goN_is g kid (seenS kid l) (max now kid.from_) (seenS kid l).length
 obtain ⟨r, hr⟩ : ∃ r, r = goN g kid (seenS kid l) (max now kid.from_) (seenS kid l).length := ⟨_, rfl⟩
 rw [← hr] at hf hgo
 split at hf
 ·cases hf
 ·rename_i hr0
  rcases hgo with h | ⟨g1, g2, g3⟩
  ·exact absurd h hr0
  ·injection hf with hf
   obtain ⟨J, hJ⟩ : ∃ J : Nat, J = (g.times - r.1).toNat := ⟨_, rfl⟩
   rw [← hJ] at hf
   have hstr := shotsN_str kid r.2 g.within image hd.2.2.1 J
   have hchain := shotsN_chain g kid r.2 image hd.2.2.2.1 J
   have hlen := shotsN_len kid r.2 g.within image J
   have hhead := shotsN_head (kid := kid) (a := r.2) (w := g.within) (image := image) (j := J)
   have hmem : ∀ e ∈ shotsN kid r.2 g.within image J, ∃ i : Nat, i < J ∧ e = shotE kid (r.2 + i * g.within) (image + i) 0 ∧ now ≤ r.2 + i * g.within ∧ kid.from_ ≤ r.2 + i * g.within ∧ r.2 + i * g.within < kid.to_ := fun e he => by
    obtain ⟨i, i1, i2⟩ := shotsN_mem he
    have e1 : (0 : Int) ≤ (i : Int) * g.within := Int.mul_nonneg (by omega) hd.2.2.1
    have e2 : (i : Int) * g.within ≤ (g.times - r.1 - 1) * g.within := Int.mul_le_mul_of_nonneg_right (by omega) hd.2.2.1
    exact ⟨i, i1, i2, by omega, by omega, by omega⟩
   have hone : ∀ e ∈ shotsN kid r.2 g.within image J, (e.kind = 1 ∨ e = delT e.at_ e.image) ∧ (now ≤ e.at_ ∧ e.at_ ≤ 1000000) ∧ ((-90 ≤ e.sun ∧ e.sun ≤ 90) ∧ (-4 ≤ e.look ∧ e.look ≤ 4) ∧ areaB e.rows = true) := fun e he => by
    obtain ⟨i, i1, i2, i3, i4, i5⟩ := hmem e he
    exact good_one hsee ha (image := image + i) (look := 0) (by omega) i3 i5 (by omega) e i2
   have hall : ∀ e ∈ shotsN kid r.2 g.within image J, e.kind = 1 := fun e he => by
    obtain ⟨i, i1, i2, _⟩ := hmem e he
    rw [i2]; rfl
   have hcnt : countE (shotsN kid r.2 g.within image J) = J := by
    unfold countE
    rw [List.filter_eq_self.2 fun e he => by simpa using hall e he, hlen]
   rw [hf] at hstr hchain hlen hhead hmem hone hall hcnt
   have hJ6 : (J : Int) ≤ 6 := by omega
   have hnew : newN out image ≤ out.length := List.length_filter_le _ _
   refine ⟨⟨hstr, fun e he => (hone e he).1, fun e he => (hone e he).2.1, fun e he _ => ?_, fun e he => ?_, fun x h1 y h2 _ _ h3 => ?_⟩, by omega, fun _ => by omega, fun e he hlt => ?_, fun L hL h1 h2 => ?_⟩
   ·obtain ⟨i, i1, i2, _⟩ := hmem e he
    refine ⟨?_, (hone e he).2.2⟩
    rw [i2]; show image ≤ image + i; omega
   ·obtain ⟨i, i1, i2, _⟩ := hmem e he
    rw [hcnt, i2]
    exact ⟨by show (0 : Int) ≤ image + i; omega, by show image + i < image + J; omega⟩
   ·obtain ⟨i, i1, i2, _⟩ := hmem x h1
    obtain ⟨k, k1, k2, _⟩ := hmem y h2
    rw [i2, k2] at h3
    have : image + (i : Int) = image + k := h3
    rw [i2, k2, show i = k by omega]
   ·obtain ⟨i, i1, i2, _⟩ := hmem e he
    rw [i2] at hlt
    have : image + (i : Int) < image := hlt
    omega
   ·rw [meanG_eq, if_neg (by omega), if_neg (by omega), if_pos hk, every_some g L hN, ← hkid]
    have hsl : ∀ e ∈ seenS kid l, e ∈ seenS kid L := fun e he => by
     obtain ⟨e1, e2⟩ := List.mem_filter.1 he
     exact List.mem_filter.2 ⟨h1 e e1, e2⟩
    have hso : ∀ e ∈ out, e ∈ seenS kid L := fun e he => by
     obtain ⟨i, i1, i2, i3, i4, i5⟩ := hmem e he
     exact List.mem_filter.2 ⟨h2 e he, by rw [i2]; exact see_shot hsee ha i4 i5⟩
    have hsn : ¬ (everyM g l).isSome = true := by rw [hno]; simp
    rw [every_some g l hN, ← hkid] at hsn
    -- a run and what continues it
    have fin : ∀ c : List Event, c.Sublist (seenS kid l) → (c.length : Int) + J = g.times → chainB g (c ++ out) → fitsB g none (c ++ out) → ∃ c, c.Sublist (seenS kid L) ∧ c.length = N ∧ chainB g c ∧ fitsB g none c := fun c c1 c2 c3 c4 => by
     refine ⟨c ++ out, str_sub ?_ (str_filter hL _) fun x hx => ?_, by rw [List.length_append, hlen]; omega, c3, c4⟩
     ·refine List.pairwise_append.2 ⟨(str_filter hc.str (seesB kid)).sublist c1, hstr, fun x hx y hy => ?_⟩
      obtain ⟨x1, x2⟩ := List.mem_filter.1 (c1.subset hx)
      have hxk : x.kind = 1 := by
       unfold seesB at x2
       simp only [Bool.and_eq_true, decide_eq_true_eq] at x2
       exact x2.1.1.1.1.1
      have := hc.shot x x1 hxk
      have := (hone y hy).2.1
      rw [befB_iff]; omega
     ·rcases List.mem_append.1 hx with hx | hx
      ·exact hsl x (c1.subset hx)
      ·exact hso x hx
    rcases g3 with ⟨g3, g4⟩ | ⟨j, j1, j2, j3, j4, j5⟩
    ·refine fin [] (List.nil_sublist _) (by simp; omega) hchain ?_
     obtain ⟨s, hs⟩ := hhead (by omega)
     rw [List.nil_append, hs]
     show doBeginB g _ = true
     unfold doBeginB
     rw [decide_eq_true_eq]
     exact g4
    ·obtain ⟨c, c1, c2, c3, c4⟩ := run_chain g (seenS kid l) j j rfl j1 j2
     have c1' := c1.trans (List.take_sublist _ _)
     have hlt : r.1 < g.times := by
      rcases Int.lt_or_le r.1 g.times with h | h
      ·exact h
      ·exfalso
       refine hsn ⟨(c ++ [(seenS kid l).getD j (U.dflt .event)]).take N, (List.take_sublist _ _).trans c1', by rw [List.length_take]; omega, chain_take N c2, ?_⟩
       have := List.take_append_drop N (c ++ [(seenS kid l).getD j (U.dflt .event)])
       rw [← this] at c3
       exact fits_pre c3
     obtain ⟨s, hs⟩ := hhead (by omega)
     refine fin _ c1' (by rw [c4]; omega) ?_ (fits_app c3 (by simp))
     rw [hs] at hchain ⊢
     refine chain_app c2 ?_ hchain
     unfold doFollowB
     rw [inB_iff]
     show g.within ≤ r.2 - _ ∧ r.2 - _ ≤ _
     omega
end Go.SX

/-
 Plain law: what finishes a goal meets it; and where nothing does, nothing further does.
-/
namespace Go.SX
theorem ctx_mono {l : List Event} {now i j : Int} (h : CtxO l now i) (hij : i ≤ j) : CtxO l now j := ⟨h.str, h.form, h.shot, h.all, fun e he => by have := h.img e he; omega⟩
theorem form_img {e : Event} (h : formB e = true) : 0 ≤ e.image ∧ e.image ≤ 999 := by
 unfold formB at h
 simp only [Bool.and_eq_true, inB_iff] at h
 exact h.1.2
theorem form_del {t i : Int} (ht : 0 ≤ t ∧ t ≤ 1000000) (hi : 0 ≤ i ∧ i ≤ 999) : formB (delT t i) = true := by
 unfold formB delT
 simp only [Bool.and_eq_true, inB_iff]
 exact ⟨⟨ht, hi⟩, rfl⟩
theorem hopes_mem {l : List Event} {within now : Int} {x : Event} (h : x ∈ hopesS l within now) : ∃ e ∈ l, e.kind = 1 ∧ x = delT now e.image := by
 obtain ⟨e, h1, h2⟩ := List.mem_map.1 h
 obtain ⟨h3, h4⟩ := List.mem_filter.1 h1
 unfold openB at h4
 simp only [Bool.and_eq_true, decide_eq_true_eq] at h4
 exact ⟨e, h3, h4.1.1, h2.symm⟩
theorem hoped_mem {l : List Event} {within now : Int} {x : Event} (h : x ∈ hopedS l within now) : (x ∈ l ∨ x ∈ hopesS l within now) ∧ (x.kind = 1 → delB (mergeS (l ++ hopesS l within now)) x within = true) := by
 obtain ⟨h1, h2⟩ := List.mem_filter.1 h
 refine ⟨List.mem_append.1 (merge_sub h1), fun hk => ?_⟩
 simp only [hk, decide_true, Bool.true_and, Bool.not_not] at h2
 exact h2
theorem hoped_ctx {l : List Event} {within now image : Int} (hc : CtxO l now image) (ht : 0 ≤ now ∧ now ≤ 1000000) : CtxO (hopedS l within now) now image := by
 refine ⟨str_filter (merge_str _) _, fun e he => ?_, fun e he hk => ?_, fun e he => ?_, fun e he => ?_⟩
 ·rcases (hoped_mem he).1 with h | h
  ·exact hc.form e h
  ·obtain ⟨x, h1, _, rfl⟩ := hopes_mem h
   exact form_del ht (form_img (hc.form x h1))
 ·rcases (hoped_mem he).1 with h | h
  ·exact hc.shot e h hk
  ·obtain ⟨x, h1, _, rfl⟩ := hopes_mem h
   have : (2 : Int) = 1 := hk
   omega
 ·rcases (hoped_mem he).1 with h | h
  ·exact hc.all e h
  ·obtain ⟨x, h1, _, rfl⟩ := hopes_mem h
   exact Int.le_refl _
 ·rcases (hoped_mem he).1 with h | h
  ·exact hc.img e h
  ·obtain ⟨x, h1, _, rfl⟩ := hopes_mem h
   exact hc.img x h1
theorem with_mem {more : List Event} {x : Event} : x ∈ withDel more ↔ ∃ e ∈ more, x = e ∨ x = delT e.at_ e.image := by
 unfold withDel
 rw [List.mem_flatMap]
 constructor
 ·rintro ⟨e, h1, h2⟩; exact ⟨e, h1, by simpa using h2⟩
 ·rintro ⟨e, h1, h2⟩; exact ⟨e, h1, by simpa using h2⟩
theorem with_shots : ∀ more : List Event, (withDel more).filter (fun e => decide (e.kind = 1)) = more.filter fun e => decide (e.kind = 1)
 | [] => rfl
 | e :: more => by
  have ih := with_shots more
  unfold withDel at ih ⊢
  rw [List.flatMap_cons, List.filter_append, ih]
  by_cases hk : e.kind = 1
  ·simp [hk, delT]
  ·simp [hk, delT]
theorem mem_key {a b : List Event} {now image : Int} (ha : CtxO a now image) (hb : GoodO b now image) : KeyInj (a ++ b) := by
 intro x hx y hy hk
 rw [keyE_iff] at hk
 obtain ⟨k1, k2, k3⟩ := hk
 by_cases h1 : x.kind = 1
 ·have h2 : y.kind = 1 := by omega
  rcases List.mem_append.1 hx with hx' | hx' <;> rcases List.mem_append.1 hy with hy' | hy'
  ·have e1 := str_find ha.str hx'
   have e2 := str_find ha.str hy'
   have : keyE x = keyE y := by funext z; unfold keyE; rw [k1, k2, k3]
   rw [this, e2] at e1
   exact (Option.some.inj e1).symm
  ·have := ha.img x hx'; have := (hb.shots y hy' h2).1; omega
  ·have := ha.img y hy'; have := (hb.shots x hx' h1).1; omega
  ·exact hb.inj x hx' y hy' h1 h2 k3
 ·have h2 : ¬ y.kind = 1 := by omega
  have px : x = delT x.at_ x.image := by
   rcases List.mem_append.1 hx with h | h
   ·exact form_plain (ha.form x h) h1
   ·exact (hb.plain x h).resolve_left h1
  have py : y = delT y.at_ y.image := by
   rcases List.mem_append.1 hy with h | h
   ·exact form_plain (ha.form y h) h2
   ·exact (hb.plain y h).resolve_left h2
  rw [px, py, k1, k3]
theorem del_fin {g k : Goal} {n d : Int} (hk : g.kind = 4) (hkid : ∀ M, meanG g M = meanG k (restE M g.within)) (hw : 0 ≤ g.within) (hkk : k.kind ≤ 3) (hs : sizeG k d = some n) {l : List Event} {now image : Int} (hc : CtxO l now image) (h0 : 0 ≤ image) (ht : 0 ≤ now ∧ now ≤ 1000000)
  {more : List Event} (ih : FinOK k n (hopedS l g.within now) now image more) : FinOK g (1 + n) l now image (delOut (hopesS l g.within now) more (imsOf (meanG k (mergeS (hopedS l g.within now ++ more))))) := by
 obtain ⟨S, hS⟩ : ∃ S, S = (hopesS l g.within now).filter (fun e => decide (e.image ∈ imsOf (meanG k (mergeS (hopedS l g.within now ++ more))))) ++ withDel more := ⟨_, rfl⟩
 have hhc := hoped_ctx (within := g.within) hc ht
 -- what the source holds
 have hmem : ∀ x ∈ S, (∃ e ∈ l, e.kind = 1 ∧ x = delT now e.image) ∨ ∃ e ∈ more, x = e ∨ x = delT e.at_ e.image := fun x hx => by
  rw [hS] at hx
  rcases List.mem_append.1 hx with h | h
  ·exact .inl (hopes_mem (List.mem_filter.1 h).1)
  ·exact .inr (with_mem.1 h)
 have hpl : ∀ x ∈ S, (x.kind = 1 ∧ x ∈ more) ∨ (x.kind = 2 ∧ x = delT x.at_ x.image) := fun x hx => by
  rcases hmem x hx with ⟨e, _, _, rfl⟩ | ⟨e, h1, rfl | rfl⟩
  ·exact .inr ⟨rfl, rfl⟩
  ·rcases ih.good.plain x h1 with h | h
   ·exact .inl ⟨h, h1⟩
   ·exact .inr ⟨by rw [h]; rfl, h⟩
  ·exact .inr ⟨rfl, rfl⟩
 have hinj : KeyInj S := by
  intro x hx y hy hxy
  rw [keyE_iff] at hxy
  obtain ⟨k1, k2, k3⟩ := hxy
  rcases hpl x hx with ⟨h1, h2⟩ | ⟨h1, h2⟩ <;> rcases hpl y hy with ⟨h3, h4⟩ | ⟨h3, h4⟩
  ·exact ih.good.inj x h2 y h4 h1 h3 k3
  ·omega
  ·omega
  ·rw [h2, h4, k1, k3]
 have hcS : countE S = countE more := by
  rw [hS, count_app]
  have e1 : countE ((hopesS l g.within now).filter (fun e => decide (e.image ∈ imsOf (meanG k (mergeS (hopedS l g.within now ++ more)))))) = 0 := by
   unfold countE
   rw [List.filter_eq_nil_iff.2]
   ·rfl
   ·intro x hx
    obtain ⟨e, _, _, rfl⟩ := hopes_mem (List.mem_filter.1 hx).1
    simp [delT]
  have e2 : countE (withDel more) = countE more := by unfold countE; rw [with_shots]
  omega
 have hnd : (S.filter fun e => decide (e.kind = 1)).Nodup := by
  have e1 : S.filter (fun e => decide (e.kind = 1)) = more.filter fun e => decide (e.kind = 1) := by
   rw [hS, List.filter_append, with_shots, List.filter_eq_nil_iff.2, List.nil_append]
   intro x hx
   obtain ⟨e, _, _, rfl⟩ := hopes_mem (List.mem_filter.1 hx).1
   simp [delT]
  rw [e1]; exact goodO_nodup ih.good
 have hcnt := count_merge hinj hnd
 have hin : ∀ {x}, x ∈ mergeS S ↔ x ∈ S := merge_mem hinj
 have hcm := count_nonneg more
 have hmS : ∀ e ∈ more, e ∈ S ∧ delT e.at_ e.image ∈ S := fun e he => by
  rw [hS]
  exact ⟨List.mem_append.2 (.inr (with_mem.2 ⟨e, he, .inl rfl⟩)), List.mem_append.2 (.inr (with_mem.2 ⟨e, he, .inr rfl⟩))⟩
 show FinOK g (1 + n) l now image (mergeS _)
 rw [← hS]
 refine ⟨⟨merge_str _, fun e he => ?_, fun e he => ?_, fun e he hk1 => ?_, fun e he => ?_, fun x hx y hy hx1 hy1 hxy => ?_⟩, ?_, fun h => by omega, fun e he hlt => ?_, fun L hL h1 h2 => ?_⟩
 ·rcases hpl e (hin.1 he) with h | h
  ·exact .inl h.1
  ·exact .inr h.2
 ·rcases hmem e (hin.1 he) with ⟨x, _, _, rfl⟩ | ⟨x, h1, rfl | rfl⟩
  ·exact ⟨Int.le_refl _, ht.2⟩
  ·exact ih.good.late e h1
  ·exact ih.good.late x h1
 ·rcases hpl e (hin.1 he) with h | h
  ·exact ih.good.shots e h.2 hk1
  ·omega
 ·rw [hcnt, hcS]
  rcases hmem e (hin.1 he) with ⟨x, h1, _, rfl⟩ | ⟨x, h1, rfl | rfl⟩
  ·have := hc.img x h1
   have := form_img (hc.form x h1)
   exact ⟨this.1, by show x.image < _; omega⟩
  ·exact ih.good.imgs e h1
  ·exact ih.good.imgs x h1
 ·rcases hpl x (hin.1 hx) with h | h <;> rcases hpl y (hin.1 hy) with h' | h'
  ·exact ih.good.inj x h.2 y h'.2 hx1 hy1 hxy
  ·omega
  ·omega
  ·omega
 ·have hb : newN (mergeS S) image ≤ newN more image + newN more image := by
   have : newN more image + newN more image = ((more.filter fun e => decide (image ≤ e.image)) ++ (more.filter fun e => decide (image ≤ e.image)).map fun e => delT e.at_ e.image).length := by
    unfold newN; simp
   rw [this]
   refine List.Nodup.length_le_of_subset (str_nodup (str_filter (merge_str _) _)) fun x hx => ?_
   obtain ⟨x1, x2⟩ := List.mem_filter.1 hx
   have x2' : image ≤ x.image := by simpa using x2
   rcases hmem x (hin.1 x1) with ⟨e, h1, _, rfl⟩ | ⟨e, h1, rfl | rfl⟩
   ·have := hc.img e h1
    have : image ≤ e.image := x2'
    omega
   ·exact List.mem_append.2 (.inl (List.mem_filter.2 ⟨h1, x2⟩))
   ·exact List.mem_append.2 (.inr (List.mem_map.2 ⟨e, List.mem_filter.2 ⟨h1, x2⟩, rfl⟩))
  have := ih.leaf hkk
  omega
 ·rcases hmem e (hin.1 he) with ⟨x, h1, _, rfl⟩ | ⟨x, h1, rfl | rfl⟩
  ·exact ⟨rfl, x, h1, rfl⟩
  ·obtain ⟨e1, y, y1, y2⟩ := ih.old e h1 hlt
   refine ⟨e1, ?_⟩
   rcases (hoped_mem y1).1 with h | h
   ·exact ⟨y, h, y2⟩
   ·obtain ⟨z, z1, _, rfl⟩ := hopes_mem h
    exact ⟨z, z1, y2⟩
  ·obtain ⟨e1, y, y1, y2⟩ := ih.old x h1 hlt
   refine ⟨by rw [show x.at_ = now by rw [e1]; rfl]; rfl, ?_⟩
   rcases (hoped_mem y1).1 with h | h
   ·exact ⟨y, h, y2⟩
   ·obtain ⟨z, z1, _, rfl⟩ := hopes_mem h
    exact ⟨z, z1, y2⟩
 ·have hki := mem_key hhc ih.good
  have hm' := ih.met (mergeS (hopedS l g.within now ++ more)) (merge_str _) (fun e he => (merge_mem hki).2 (List.mem_append.2 (.inl he))) (fun e he => (merge_mem hki).2 (List.mem_append.2 (.inr he)))
  rw [hkid]
  obtain ⟨⟨p, im⟩, hpim⟩ := Option.isSome_iff_exists.1 hm'
  rw [hpim] at hS
  obtain ⟨q, jm, hq, _⟩ := mean_on k d n _ hs p im hpim im fun x hx => hx
  have hsub : (onI im (mergeS (hopedS l g.within now ++ more))).Sublist (restE L g.within) := by
   refine str_sub (str_filter (merge_str _) _) (str_filter hL _) fun x hx => ?_
   obtain ⟨x1, x2⟩ := List.mem_filter.1 hx
   have x2' : x.image ∈ im := by simpa using x2
   have hdS : ∀ z, z ∈ hopesS l g.within now → z.image ∈ im → z ∈ L := fun z z1 z2 => h2 z (hin.2 (by rw [hS]; exact List.mem_append.2 (.inl (List.mem_filter.2 ⟨z1, decide_eq_true z2⟩))))
   have keep : x ∈ L → (x.kind = 1 → ∃ z ∈ L, z.kind = 2 ∧ z.image = x.image ∧ 0 ≤ z.at_ - x.at_ ∧ z.at_ - x.at_ ≤ g.within) → x ∈ restE L g.within := fun a b => by
    refine List.mem_filter.2 ⟨a, ?_⟩
    by_cases hxk : x.kind = 1
    ·obtain ⟨z, z1, z2, z3, z4⟩ := b hxk
     have : delB L x g.within = true := List.any_eq_true.2 ⟨z, z1, by simp only [Bool.and_eq_true, decide_eq_true_eq, inB_iff]; exact ⟨⟨z2, z3⟩, z4⟩⟩
     rw [this]; simp
    ·simp [hxk]
   rcases List.mem_append.1 ((merge_mem hki).1 x1) with hx' | hx'
   ·obtain ⟨h3, h4⟩ := hoped_mem hx'
    rcases h3 with h3 | h3
    ·refine keep (h1 x h3) fun hxk => ?_
     obtain ⟨z, z1, z2⟩ := List.any_eq_true.1 (h4 hxk)
     simp only [Bool.and_eq_true, decide_eq_true_eq, inB_iff] at z2
     refine ⟨z, ?_, z2.1.1, z2.1.2, z2.2⟩
     rcases List.mem_append.1 (merge_sub z1) with z3 | z3
     ·exact h1 z z3
     ·exact hdS z z3 (by rw [z2.1.2]; exact x2')
    ·obtain ⟨e, _, _, he⟩ := hopes_mem h3
     refine keep (hdS x h3 x2') fun hxk => ?_
     rw [he] at hxk
     have : (2 : Int) = 1 := hxk
     omega
   ·obtain ⟨s1, s2⟩ := hmS x hx'
    exact keep (h2 x (hin.2 s1)) fun _ => ⟨_, h2 _ (hin.2 s2), rfl, rfl, by show 0 ≤ x.at_ - x.at_ ∧ x.at_ - x.at_ ≤ g.within; omega⟩
  obtain ⟨q2, jm2, hq2, _⟩ := mean_part k d n hs hsub q jm hq
  rw [hq2]; rfl
theorem all_some : ∀ (ks : List Goal) (L : List Event) (p : Int) (im : List Int), (∀ k ∈ ks, (meanG k L).isSome = true) → (meanAll ks L p im).isSome = true
 | [], L, p, im, _ => by rw [meanAll]; rfl
 | k :: ks, L, p, im, h => by
  rw [meanAll]
  obtain ⟨⟨q, jm⟩, hq⟩ := Option.isSome_iff_exists.1 (h k (by simp))
  rw [hq]
  exact all_some ks L _ _ fun x hx => h x (by simp [hx])
theorem step_some {r acc : Sen} {c : Int} (h : r.isSome = true ∨ acc.isSome = true) : (stepAny r c acc).isSome = true := by
 unfold stepAny
 split
 ·rcases h with h | h
  ·cases h
  ·exact h
 ·split
  ·rfl
  ·split <;> rfl
theorem any_some : ∀ (ks : List Goal) (cs : List Int) (L : List Event) (acc : Sen), (acc.isSome = true ∨ ∃ k ∈ ks, (meanG k L).isSome = true) → (meanAny ks cs L acc).isSome = true
 | [], cs, L, acc, h => by
  rw [meanAny]
  rcases h with h | ⟨k, hk, _⟩
  ·exact h
  ·cases hk
 | k :: ks, cs, L, acc, h => by
  rw [meanAny]
  refine any_some ks cs.tail L _ ?_
  rcases h with h | ⟨x, hx, hm⟩
  ·exact .inl (step_some (.inr h))
  ·rcases List.mem_cons.1 hx with rfl | hx
   ·exact .inl (step_some (.inl hm))
   ·exact .inr ⟨x, hx, hm⟩
theorem ok_withinQ {g : Goal} (h : okB g = true) (hk : g.kind = 4) : 0 ≤ g.within := by
 have := (okB_parts h).2.1
 unfold limB at this
 rw [if_neg (by omega), if_neg (by omega), if_neg (by omega), if_pos hk, inB_iff] at this
 exact this.1
theorem del_mean {g : Goal} (h : okB g = true) (hk : g.kind = 4) (M : List Event) : meanG g M = meanG (kid0 g.kids) (restE M g.within) := by
 rw [meanG_eq, if_neg (by omega), if_neg (by omega), if_neg (by omega), if_pos hk, meanH_eq _ _ (ok_one h (by omega) (by omega) (by omega))]
/-- what has been put together of some goals -/
structure AccOK (l : List Event) (now i0 : Int) (out : List Event) : Prop where
 good : GoodO out now i0
 old : ∀ e ∈ out, e.image < i0 → e = delT now e.image ∧ ∃ x ∈ l, x.image = e.image
theorem acc_next {k : Goal} {q : Int} {l : List Event} {now i0 : Int} {out more : List Event} (hc : CtxO l now i0) (ha : AccOK l now i0 out) (h : FinOK k q l now (i0 + countE out) more) :
  AccOK l now i0 (mergeS (out ++ more)) ∧ i0 + countE (mergeS (out ++ more)) = i0 + countE out + countE more ∧ newN (mergeS (out ++ more)) i0 ≤ newN out i0 + newN more (i0 + countE out) ∧ (∀ e ∈ out, e ∈ mergeS (out ++ more)) ∧ ∀ e ∈ more, e ∈ mergeS (out ++ more) := by
 obtain ⟨h1, h2⟩ := goodO_merge ha.good h.good rfl
 have hk := goodO_key ha.good h.good rfl
 have hcn := count_nonneg out
 refine ⟨⟨h1, fun e he hlt => ?_⟩, by omega, new_merge (by omega) fun e he hi => ?_, fun e he => (merge_mem hk).2 (List.mem_append.2 (.inl he)), fun e he => (merge_mem hk).2 (List.mem_append.2 (.inr he))⟩
 ·rcases List.mem_append.1 (merge_sub he) with h3 | h3
  ·exact ha.old e h3 hlt
  ·exact h.old e h3 (by omega)
 ·left
  rcases Int.lt_or_le e.image (i0 + countE out) with h3 | h3
  ·exfalso
   obtain ⟨_, x, x1, x2⟩ := h.old e he h3
   have := hc.img x x1
   omega
  ·exact h3
mutual
theorem fin_ok : ∀ (g : Goal) (d n : Int) (l : List Event) (now image : Int) (out : List Event), sizeG g d = some n → CtxO l now image → 0 ≤ image → (0 ≤ now ∧ now ≤ 1000000) → finG g l now image = some out → FinOK g n l now image out
 | ⟨kind, rows, from_, to_, low, high, clear, days, times, within, cents, kids⟩, d, n, l, now, image, out, hs, hc, h0, ht, hf => by
  have hall := fin_all kids
  have hany := fin_any kids
  have hhd := fin_hd kids
  obtain ⟨hok, hd, m, hL, rfl⟩ := size_ok hs
  have hm0 := sizeL_pos hL
  obtain ⟨g, hg⟩ : ∃ g : Goal, g = ⟨kind, rows, from_, to_, low, high, clear, days, times, within, cents, kids⟩ := ⟨_, rfl⟩
  have ek : g.kids = kids := by rw [hg]
  have ec : g.cents = cents := by rw [hg]
  rw [← hg] at hs hok hL hf ⊢
  rw [finG_eq] at hf
  split at hf
  ·rename_i hmet
   injection hf with hf
   subst hf
   refine ⟨goodO_nil now, by show ((0 : Nat) : Int) ≤ _; omega, fun _ => by show ((0 : Nat) : Int) ≤ _; omega, fun e he => (by cases he), fun L hL h1 _ => ?_⟩
   obtain ⟨⟨p, im⟩, hp⟩ := Option.isSome_iff_exists.1 hmet
   obtain ⟨q, jm, hq, _⟩ := mean_part g d _ hs (str_sub hc.str hL h1) p im hp
   rw [hq]; rfl
  ·rename_i hno
   have hno' : meanG g l = none := by
    cases h : meanG g l with
    | none => rfl
    | some w => rw [h] at hno; exact absurd rfl hno
   split at hf
   ·rename_i hk
    exact see_fin hok hk (by omega) h0 hf
   ·split at hf
    ·rename_i hk
     exact pair_fin hok hk hL rfl h0 hf
    ·split at hf
     ·rename_i hk
      exact every_fin hok hk hL rfl hc h0 hno' hf
     ·split at hf
      ·rename_i hk
       have h1 := ok_one hok (by omega) (by omega) (by omega)
       rw [finH_eq _ _ _ _ _ h1] at hf
       obtain ⟨q, hq, rfl⟩ := kid_ok hL h1
       have hkk := kid_kind hok h1
       unfold lastK at hkk
       rw [if_neg (by omega), if_pos hk] at hkk
       split at hf
       ·cases hf
       ·rename_i more hmore
        injection hf with hf
        subst hf
        rw [ek] at hq hmore
        rw [ek]
        have ih := hhd (d + 1) m (hopedS l g.within now) now image more (by rw [ek] at h1; exact h1) hq (hoped_ctx hc ht) h0 ht hmore
        rw [← ek] at ih hq ⊢
        exact del_fin hk (del_mean hok hk) (ok_withinQ hok hk) hkk hq hc h0 ht ih
      ·split at hf
       ·rename_i hk
        rw [ek] at hf hL
        obtain ⟨a1, a2, a3, a4⟩ := hall (d + 1) m l now image [] out hL hc h0 ht ⟨goodO_nil now, fun e he => (by cases he)⟩ (by rw [show countE [] = 0 from rfl, Int.add_zero]; exact hf)
        have hz : newN [] image = 0 := rfl
        refine ⟨a1.good, by omega, fun h => by omega, a1.old, fun L hL' h1 h2 => ?_⟩
        rw [meanG_eq, if_neg (by omega), if_neg (by omega), if_neg (by omega), if_neg (by omega), if_pos hk, ek]
        exact all_some kids L 0 [] fun k hk' => a4 k hk' L hL' h1 h2
       ·rename_i k1 k2 k3 k4 k5
        rw [ek] at hf hL
        obtain ⟨k, hk, q, hq, hqm, hfo⟩ := hany (d + 1) m l now image out hL hc h0 ht hf
        have hq1 := size_pos hq
        have hkind : g.kind = 6 := by
         have := (okB_parts hok).1; omega
        refine ⟨hfo.good, by have := hfo.new; omega, fun h => by omega, hfo.old, fun L hL' h1 h2 => ?_⟩
        rw [meanG_eq, if_neg (by omega), if_neg (by omega), if_neg (by omega), if_neg (by omega), if_neg (by omega), ek]
        exact any_some kids g.cents L none (.inr ⟨k, hk, hfo.met L hL' h1 h2⟩)
theorem fin_hd : ∀ (ks : List Goal) (d n : Int) (l : List Event) (now image : Int) (out : List Event), (ks.length : Int) = 1 → sizeG (kid0 ks) d = some n → CtxO l now image → 0 ≤ image → (0 ≤ now ∧ now ≤ 1000000) → finG (kid0 ks) l now image = some out → FinOK (kid0 ks) n l now image out
 | [], d, n, l, now, image, out, h1, hs, hc, h0, ht, hf => by simp at h1
 | k :: ks, d, n, l, now, image, out, h1, hs, hc, h0, ht, hf => fin_ok k d n l now image out hs hc h0 ht hf
theorem fin_all : ∀ (ks : List Goal) (d n : Int) (l : List Event) (now i0 : Int) (acc out : List Event), sizeL ks d = some n → CtxO l now i0 → 0 ≤ i0 → (0 ≤ now ∧ now ≤ 1000000) → AccOK l now i0 acc → finAll ks l now (i0 + countE acc) acc = some out →
  AccOK l now i0 out ∧ (newN out i0 : Int) ≤ newN acc i0 + 4 * n ∧ (∀ e ∈ acc, e ∈ out) ∧ ∀ k ∈ ks, ∀ L, StrE L → (∀ e ∈ l, e ∈ L) → (∀ e ∈ out, e ∈ L) → (meanG k L).isSome = true
 | [], d, n, l, now, i0, acc, out, hs, hc, h0, ht, ha, hf => by
  rw [finAll] at hf
  injection hf with hf
  subst hf
  have := sizeL_pos hs
  exact ⟨ha, by omega, fun e he => he, fun k hk => (by cases hk)⟩
 | k :: ks, d, n, l, now, i0, acc, out, hs, hc, h0, ht, ha, hf => by
  rw [sizeL] at hs
  split at hs
  ·cases hs
  ·rename_i q hq
   split at hs
   ·cases hs
   ·rename_i m hm
    injection hs with hs
    rw [finAll] at hf
    split at hf
    ·cases hf
    ·rename_i more hmore
     have hcn := count_nonneg acc
     have hk := fin_ok k d q l now (i0 + countE acc) more hq (ctx_mono hc (by omega)) (by omega) ht hmore
     obtain ⟨b1, b2, b3, b4, b5⟩ := acc_next hc ha hk
     rw [← b2] at hf
     obtain ⟨c1, c2, c3, c4⟩ := fin_all ks d m l now i0 _ out hm hc h0 ht b1 hf
     have := hk.new
     refine ⟨c1, by omega, fun e he => c3 e (b4 e he), fun x hx L hL h1 h2 => ?_⟩
     rcases List.mem_cons.1 hx with rfl | hx
     ·exact hk.met L hL h1 fun e he => h2 e (c3 e (b5 e he))
     ·exact c4 x hx L hL h1 h2
theorem fin_any : ∀ (ks : List Goal) (d n : Int) (l : List Event) (now image : Int) (out : List Event), sizeL ks d = some n → CtxO l now image → 0 ≤ image → (0 ≤ now ∧ now ≤ 1000000) → finAny ks l now image = some out → ∃ k ∈ ks, ∃ q, sizeG k d = some q ∧ q ≤ n ∧ FinOK k q l now image out
 | [], d, n, l, now, image, out, hs, hc, h0, ht, hf => by rw [finAny] at hf; cases hf
 | k :: ks, d, n, l, now, image, out, hs, hc, h0, ht, hf => by
  rw [sizeL] at hs
  split at hs
  ·cases hs
  ·rename_i q hq
   split at hs
   ·cases hs
   ·rename_i m hm
    injection hs with hs
    have hq1 := size_pos hq
    have hm1 := sizeL_pos hm
    rw [finAny] at hf
    split at hf
    ·obtain ⟨x, hx, r, hr, hrm, hfo⟩ := fin_any ks d m l now image out hm hc h0 ht hf
     exact ⟨x, by simp [hx], r, hr, by omega, hfo⟩
    ·rename_i more hmore
     injection hf with hf
     subst hf
     exact ⟨k, by simp, q, hq, by omega, fin_ok k d q l now image _ hq hc h0 ht hmore⟩
end
end Go.SX

namespace Go.SX
open Go.Proofs
set_option maxHeartbeats 4000000
set_option maxRecDepth 100000
@[reducible] def goalH (g : Goal) : HS Cd := .vart none [iS g.kind, lS g.rows, iS g.from_, iS g.to_, iS g.low, iS g.high, bS g.clear, iS g.days, iS g.times, iS g.within, lS g.cents, .p (.dsl U.goal g.kids)]
@[reducible] def considerH (g kid : Goal) (image : Int) (r : Int × Int) : List (HS Cd) := [goalH g, .vart none [.ptr 4 0], .vart none [iS r.1], .vart none [iS r.2], shotH kid image]
theorem tconsider (g kid : Goal) (image : Int) (r : Int × Int) (n from_ latest : Int) (ht : 1 ≤ g.times ∧ g.times ≤ 6) (hw : 0 ≤ g.within ∧ g.within ≤ 86400) (hn : 0 ≤ n ∧ n ≤ 1000000) (hf : 0 ≤ from_ ∧ from_ ≤ 4000000) : Meets Tryz.prog Dc 100 [iS n, iS from_, iS latest, .ptr 0 0, .ptr 1 0, .ptr 2 0, .ptr 3 0] (considerH g kid image r) (.tuple []) (considerH g kid image (considerS g kid.to_ r n from_ latest)) := by
 have hm : -86400000000 ≤ (g.times - n - 1) * g.within ∧ (g.times - n - 1) * g.within ≤ 604800 := by
  have h1 : (g.times - n - 1) * g.within ≤ 5 * g.within := Int.mul_le_mul_of_nonneg_right (by omega) hw.1
  have h2 : (-1000000) * g.within ≤ (g.times - n - 1) * g.within := Int.mul_le_mul_of_nonneg_right (by omega) hw.1
  omega
 obtain ⟨b, a⟩ := r
 unfold considerS
 by_cases hc : from_ ≤ latest ∧ from_ + (g.times - n - 1) * g.within < kid.to_ ∧ b ≤ n
 ·rw [if_pos hc]
  obtain ⟨c1, c2, c3⟩ := hc
  refine meets_of_gx Ax tab_ok Tryz.func100 (c := _) rfl Tryz.call100 300 ?_
  (repeat' ((conv => whnf); first | (exfalso; omega) | (refine end_fn [some 0, some 1, some 2, some 3, some 4] (.inl rfl) ?_ ?_ rfl rfl; (focus exact vwV); exact hsV) | refine spC (fun hb => ?_) fun hb => ?_ | refine taC ?_ | refine saC ?_ | refine drawX_of mixed ?_))
 ·rw [if_neg hc]
  refine meets_of_gx Ax tab_ok Tryz.func100 (c := _) rfl Tryz.call100 300 ?_
  (repeat' ((conv => whnf); first | (exfalso; omega) | (refine end_fn [some 0, some 1, some 2, some 3, some 4] (.inl rfl) ?_ ?_ rfl rfl; (focus exact vwV); exact hsV) | refine spC (fun hb => ?_) fun hb => ?_ | refine taC ?_ | refine saC ?_ | refine drawX_of mixed ?_))
theorem goN_bd (g kid : Goal) (M : List Event) (mm : Int) : ∀ i : Nat, -1 ≤ (goN g kid M mm i).1 ∧ (goN g kid M mm i).1 ≤ i
 | 0 => by
  rw [goN]; unfold considerS
  split
  ·exact ⟨by dsimp only; omega, by dsimp only; omega⟩
  ·exact ⟨by dsimp only; omega, by dsimp only; omega⟩
 | i + 1 => by
  have ih := goN_bd g kid M mm i
  have hr := runI_bd g M i
  rw [goN]
  split
  ·unfold considerS
   split
   ·dsimp only; omega
   ·omega
  ·omega
theorem goN_at (g kid : Goal) (M : List Event) (mm : Int) (hm : 0 ≤ mm ∧ mm ≤ 2000000) (hw : 0 ≤ g.within ∧ g.within ≤ 86400) (hM : ∀ e ∈ M, 0 ≤ e.at_ ∧ e.at_ ≤ 1000000) : ∀ i : Nat, i ≤ M.length → 0 ≤ (goN g kid M mm i).2 ∧ (goN g kid M mm i).2 ≤ 2000000
 | 0, _ => by
  rw [goN]; unfold considerS
  split
  ·dsimp only; omega
  ·dsimp only; omega
 | i + 1, h => by
  have ih := goN_at g kid M mm hm hw hM i (by omega)
  rw [goN]
  have hi := hM _ (getD_mem (l := M) (k := i) (by omega))
  split
  ·unfold considerS
   split
   ·dsimp only; omega
   ·exact ih
  ·exact ih
/-- while the runs to an EShot are looked at -/
def longE (g : Goal) (M : List Event) (i : Nat) : List Int := endsN g M i ++ List.replicate (M.length - i) 0
def longK (g : Goal) (M : List Event) (i k : Nat) : List Int := endsN g M i ++ endK g M (endsN g M i) i k :: List.replicate (M.length - (i + 1)) 0
theorem longE_len (g : Goal) (M : List Event) {i : Nat} (h : i ≤ M.length) : (longE g M i).length = M.length := by
 unfold longE; rw [List.length_append, endsN_len, List.length_replicate]; omega
theorem longK_len (g : Goal) (M : List Event) {i k : Nat} (h : i < M.length) : (longK g M i k).length = M.length := by
 unfold longK; rw [List.length_append, endsN_len, List.length_cons, List.length_replicate]; omega
theorem longE_zero (g : Goal) (M : List Event) : longE g M 0 = List.replicate M.length 0 := rfl
theorem longE_succ (g : Goal) (M : List Event) {i : Nat} (h : i < M.length) : longK g M i i = longE g M (i + 1) := by
 unfold longK longE
 rw [endsN, List.append_assoc]; rfl
theorem longE_split (g : Goal) (M : List Event) {i : Nat} (h : i < M.length) : longE g M i = endsN g M i ++ 0 :: List.replicate (M.length - (i + 1)) 0 := by
 unfold longE
 rw [show M.length - i = (M.length - (i + 1)) + 1 by omega, List.replicate_succ]
theorem longK_begin (g : Goal) (M : List Event) {i : Nat} (h : i < M.length) (hb : doBeginB g (M.getD i (U.dflt .event)) = true) : (longE g M i).set i 1 = longK g M i 0 := by
 rw [longE_split g M h]
 unfold longK
 rw [List.set_append_right _ _ (by rw [endsN_len]; exact Nat.le_refl _), endsN_len, Nat.sub_self, List.set_cons_zero, endK, if_pos hb]
theorem longK_nobegin (g : Goal) (M : List Event) {i : Nat} (h : i < M.length) (hb : doBeginB g (M.getD i (U.dflt .event)) = false) : longE g M i = longK g M i 0 := by
 rw [longE_split g M h]
 unfold longK
 rw [endK, if_neg (by rw [hb]; simp)]
theorem longK_at (g : Goal) (M : List Event) {i k : Nat} (h : i < M.length) : (longK g M i k).getD i 0 = endK g M (endsN g M i) i k := by
 unfold longK
 rw [List.getD_eq_getElem?_getD, List.getElem?_append_right (by rw [endsN_len]; exact Nat.le_refl _), endsN_len, Nat.sub_self]; rfl
theorem longK_far (g : Goal) (M : List Event) {i k j : Nat} (h : j < i) : (longK g M i k).getD j 0 = (endsN g M i).getD j 0 := by
 unfold longK
 rw [List.getD_eq_getElem?_getD, List.getElem?_append_left (by rw [endsN_len]; exact h), List.getD_eq_getElem?_getD]
theorem longK_set (g : Goal) (M : List Event) {i k : Nat} (h : i < M.length) (hk : k < i) (h1 : 0 < (endsN g M i).getD k 0) (h2 : doFollowB g (M.getD k (U.dflt .event)) (M.getD i (U.dflt .event)) = true) : (longK g M i k).set i (max (endK g M (endsN g M i) i k) (1 + (endsN g M i).getD k 0)) = longK g M i (k + 1) := by
 unfold longK
 rw [List.set_append_right _ _ (by rw [endsN_len]; exact Nat.le_refl _), endsN_len, Nat.sub_self, List.set_cons_zero, endK, if_pos (by simp only [Bool.and_eq_true, decide_eq_true_eq]; exact ⟨h1, h2⟩)]
theorem longK_keep (g : Goal) (M : List Event) {i k : Nat} (h : ¬ (0 < (endsN g M i).getD k 0 ∧ doFollowB g (M.getD k (U.dflt .event)) (M.getD i (U.dflt .event)) = true)) : longK g M i (k + 1) = longK g M i k := by
 unfold longK
 rw [endK, if_neg (by simp only [Bool.and_eq_true, decide_eq_true_eq]; exact h)]
theorem tgoOn (g kid : Goal) (ht : 1 ≤ g.times ∧ g.times ≤ 6) (hd : 0 ≤ g.days ∧ g.days ≤ 60) (hw : 0 ≤ g.within ∧ g.within ≤ 86400) (hfr : 0 ≤ g.from_ ∧ g.from_ ≤ 1000000) (hkr : (kid.rows.length : Int) ≤ 1000) (M : List Event) (hM : EvsOK M) (hMa : ∀ e ∈ M, 0 ≤ e.at_ ∧ e.at_ ≤ 1000000) (l : List Event) (now image m : Int) (hm : 0 ≤ m ∧ m ≤ 2000000) (hi : 0 ≤ image ∧ image ≤ 900000)
  (hseen : Meets Tryz.prog Dc 101 [worldA l now, goalA kid] [] (eS M) []) :
  Meets Tryz.prog Dc 74 [worldA l now, goalA g, .ptr 0 0, iS m] [shotH kid image] (finR (if (goN g kid M m M.length).1 < 0 then none else some (shotsN kid (goN g kid M m M.length).2 g.within image (g.times - (goN g kid M m M.length).1).toNat))) [shotH kid (if (goN g kid M m M.length).1 < 0 then image else image + (g.times - (goN g kid M m M.length).1).toNat)] := by
 have hl := hM.len
 have hc0 := tconsider g kid image (-1, 0) 0 m (g.from_ + 1440 * g.days) ht hw (by omega) (by omega)
 obtain ⟨G, hG⟩ : ∃ G, G = goN g kid M m := ⟨_, rfl⟩
 rw [← hG]
 refine meets_of_gx Ax tab_ok Tryz.func74 (c := _) rfl Tryz.call74 900 ?_
 (repeat' ((conv => whnf); first | (refine callh [some 2, some 3, some 4, some 5, some 0] hc0 rfl rfl ⟨rfl, rfl, rfl, rfl, rfl, trivial⟩ ?_) | refine dpC (hseen) ?_ | refine taC ?_ | refine saC ?_ | refine drawX_of mixed ?_))
 have hst : List.replicate ((M.length : Nat) : Int).toNat (Cd.dflt U.int) = longE g M 0 := by rw [longE_zero, Int.toNat_natCast]; rfl
 have hG0 : considerS g kid.to_ (-1, 0) 0 m (g.from_ + 1440 * g.days) = G 0 := by rw [hG]; rfl
 rw [hst, hG0]
 refine loop_upT [some 0, some 1, some 2, some 3, some 4, some 5, some 6] (fun q : Nat => [(43, iS q)]) (fun q => [(4, .vart none [iS (G q).1]), (5, .vart none [iS (G q).2]), (6, .rows U.int (longE g M q))]) (fun q => q ≤ M.length) (fun q => M.length - q) 0 (Nat.zero_le _) (by exact bkI) ?_
 rintro i hi K hK
 dsimp only at hK ⊢
 have hll := longE_len g M hi
 rcases Nat.lt_or_ge i M.length with hlt | hge
 ·have hgi := getD_some (d := Cd.dflt U.event) hlt
  have hbg := tbegin g (M.getD (i : Int).toNat (Cd.dflt U.event)) hfr hd
  cases hB : doBeginB g (M.getD (i : Int).toNat (Cd.dflt U.event)) with
  | true =>
   rw [hB] at hbg
   (repeat' ((conv => whnf); first | (exfalso; omega) | refine cpC (hbg) ?_ | refine spC (fun hb => ?_) fun hb => ?_ | refine saC ?_))
   refine loop_upT [some 0, some 1, some 2, some 3, some 4, some 5, some 6, some 7] (fun q : Nat × List Int => [(55, iS q.1)]) (fun q => [(6, .rows U.int q.2)]) (fun q => q.1 ≤ i ∧ q.2 = longK g M i q.1) (fun q => i - q.1) (0, (longE g M i).set (0 + (i : Int).toNat) 1) ⟨Nat.zero_le _, by dsimp only; rw [Nat.zero_add, Int.toNat_natCast]; exact longK_begin g M hlt hB⟩ (by exact bkI) ?_
   rintro ⟨k, J⟩ ⟨hk, hJ⟩ K2 hK2
   dsimp only at hk hJ hK2 ⊢
   have hJl : J.length = M.length := by rw [hJ]; exact longK_len g M hlt
   have hJi : J.getD (0 + (i : Int).toNat) (Cd.dflt U.int) = endK g M (endsN g M i) i k := by rw [Nat.zero_add, Int.toNat_natCast, hJ]; exact longK_at g M hlt
   have hbi := endK_bd g M (endsN g M i) i i (by omega) (endsN_bd g M i) k
   rcases Nat.lt_or_ge k i with hki | hki
   ·have hgk := getD_some (d := Cd.dflt U.event) (show k < M.length by omega)
    have hJk : J.getD (0 + (k : Int).toNat) (Cd.dflt U.int) = (endsN g M i).getD k 0 := by rw [Nat.zero_add, Int.toNat_natCast, hJ]; exact longK_far g M hki
    have hbk := endsN_bd g M i k
    have hfo := tfollow g (M.getD (k : Int).toNat (Cd.dflt U.event)) (M.getD (i : Int).toNat (Cd.dflt U.event)) (hM.i64 _ (List.mem_of_getElem? hgk)) (hM.i64 _ (List.mem_of_getElem? hgi)) hd
    by_cases hp : 0 < (endsN g M i).getD k 0
    ·cases hF : doFollowB g (M.getD (k : Int).toNat (Cd.dflt U.event)) (M.getD (i : Int).toNat (Cd.dflt U.event)) with
     | true =>
      rw [hF] at hfo
      have hn := longK_set g M hlt hki hp hF
      have he : J.set (0 + (i : Int).toNat) (max (J.getD (0 + (i : Int).toNat) (Cd.dflt U.int)) (1 + J.getD (0 + (k : Int).toNat) (Cd.dflt U.int))) = longK g M i (k + 1) := by
       rw [hJi, hJk, hJ, Nat.zero_add, Int.toNat_natCast]; exact hn
      (repeat' ((conv => whnf); first | (exfalso; omega) | refine dpC (hfo) ?_ | refine hK2 (k + 1, J.set (0 + (i : Int).toNat) (max (J.getD (0 + (i : Int).toNat) (Cd.dflt U.int)) (1 + J.getD (0 + (k : Int).toNat) (Cd.dflt U.int)))) [some 0, some 1, some 2, some 3, some 4, some 5, some 6, some 7] _ _ ⟨⟨by dsimp only; omega, he⟩⟩ ⟨by dsimp only; omega⟩ (by exact bkI) | refine spC (fun hb => ?_) fun hb => ?_ | refine taC ?_ | refine saC ?_ | refine drawX_of mixed ?_))
     | false =>
      rw [hF] at hfo
      have hn := longK_keep g M (i := i) (k := k) (fun h => by rw [show doFollowB g (M.getD k (U.dflt .event)) (M.getD i (U.dflt .event)) = false from hF] at h; cases h.2)
      (repeat' ((conv => whnf); first | (exfalso; omega) | refine dpC (hfo) ?_ | refine hK2 (k + 1, J) [some 0, some 1, some 2, some 3, some 4, some 5, some 6, some 7] _ _ ⟨⟨by dsimp only; omega, hJ.trans hn.symm⟩⟩ ⟨by dsimp only; omega⟩ (by exact bkI) | refine spC (fun hb => ?_) fun hb => ?_ | refine taC ?_ | refine saC ?_ | refine drawX_of mixed ?_))
    ·have hn := longK_keep g M (i := i) (k := k) (fun h => hp h.1)
     (repeat' ((conv => whnf); first | (exfalso; omega) | refine hK2 (k + 1, J) [some 0, some 1, some 2, some 3, some 4, some 5, some 6, some 7] _ _ ⟨⟨by dsimp only; omega, hJ.trans hn.symm⟩⟩ ⟨by dsimp only; omega⟩ (by exact bkI) | refine spC (fun hb => ?_) fun hb => ?_ | refine taC ?_ | refine saC ?_ | refine drawX_of mixed ?_))
   ·obtain rfl : k = i := by omega
    have hJs : J = longE g M (k + 1) := by rw [hJ]; exact longE_succ g M hlt
    have hee : endK g M (endsN g M k) k k = runI g M k := rfl
    rw [hee] at hJi hbi
    have hMk := hMa _ (List.mem_of_getElem? hgi)
    have hMk' : 0 ≤ (M.getD (k : Int).toNat (U.dflt .event)).at_ ∧ (M.getD (k : Int).toNat (U.dflt .event)).at_ ≤ 1000000 := hMk
    have hcn := tconsider g kid image (G k) (J.getD (0 + (k : Int).toNat) (Cd.dflt U.int)) (max m ((M.getD (k : Int).toNat (Cd.dflt U.event)).at_ + g.within)) ((M.getD (k : Int).toNat (Cd.dflt U.event)).at_ + 1440 * g.days) ht hw (by omega) (by omega)
    by_cases hp : 0 < runI g M k
    ·have hG1 : considerS g kid.to_ (G k) (J.getD (0 + (k : Int).toNat) (Cd.dflt U.int)) (max m ((M.getD (k : Int).toNat (Cd.dflt U.event)).at_ + g.within)) ((M.getD (k : Int).toNat (Cd.dflt U.event)).at_ + 1440 * g.days) = G (k + 1) := by
      rw [hJi, hG, goN, if_pos hp]; rfl
     rw [hG1] at hcn
     (repeat' ((conv => whnf); first | (exfalso; omega) | (refine dcallh [some 2, some 3, some 4, some 5, some 0] hcn rfl rfl ⟨rfl, rfl, rfl, rfl, rfl, trivial⟩ ?_) | refine hK (k + 1) [some 0, some 1, some 2, some 3, some 4, some 5, some 6] _ _ ⟨by omega⟩ ⟨by omega⟩ (by (rw [← hJs]; exact bkI)) | refine spC (fun hb => ?_) fun hb => ?_ | refine taC ?_ | refine saC ?_ | refine drawX_of mixed ?_))
    ·have hG1 : G (k + 1) = G k := by rw [hG, goN, if_neg hp]
     (repeat' ((conv => whnf); first | (exfalso; omega) | refine hK (k + 1) [some 0, some 1, some 2, some 3, some 4, some 5, some 6] _ _ ⟨by omega⟩ ⟨by omega⟩ (by (rw [← hJs, hG1]; exact bkI)) | refine spC (fun hb => ?_) fun hb => ?_ | refine saC ?_))
  | false =>
   rw [hB] at hbg
   (repeat' ((conv => whnf); first | (exfalso; omega) | refine cpC (hbg) ?_ | refine spC (fun hb => ?_) fun hb => ?_ | refine saC ?_))
   refine loop_upT [some 0, some 1, some 2, some 3, some 4, some 5, some 6, some 7] (fun q : Nat × List Int => [(55, iS q.1)]) (fun q => [(6, .rows U.int q.2)]) (fun q => q.1 ≤ i ∧ q.2 = longK g M i q.1) (fun q => i - q.1) (0, longE g M i) ⟨Nat.zero_le _, longK_nobegin g M hlt hB⟩ (by exact bkI) ?_
   rintro ⟨k, J⟩ ⟨hk, hJ⟩ K2 hK2
   dsimp only at hk hJ hK2 ⊢
   have hJl : J.length = M.length := by rw [hJ]; exact longK_len g M hlt
   have hJi : J.getD (0 + (i : Int).toNat) (Cd.dflt U.int) = endK g M (endsN g M i) i k := by rw [Nat.zero_add, Int.toNat_natCast, hJ]; exact longK_at g M hlt
   have hbi := endK_bd g M (endsN g M i) i i (by omega) (endsN_bd g M i) k
   rcases Nat.lt_or_ge k i with hki | hki
   ·have hgk := getD_some (d := Cd.dflt U.event) (show k < M.length by omega)
    have hJk : J.getD (0 + (k : Int).toNat) (Cd.dflt U.int) = (endsN g M i).getD k 0 := by rw [Nat.zero_add, Int.toNat_natCast, hJ]; exact longK_far g M hki
    have hbk := endsN_bd g M i k
    have hfo := tfollow g (M.getD (k : Int).toNat (Cd.dflt U.event)) (M.getD (i : Int).toNat (Cd.dflt U.event)) (hM.i64 _ (List.mem_of_getElem? hgk)) (hM.i64 _ (List.mem_of_getElem? hgi)) hd
    by_cases hp : 0 < (endsN g M i).getD k 0
    ·cases hF : doFollowB g (M.getD (k : Int).toNat (Cd.dflt U.event)) (M.getD (i : Int).toNat (Cd.dflt U.event)) with
     | true =>
      rw [hF] at hfo
      have hn := longK_set g M hlt hki hp hF
      have he : J.set (0 + (i : Int).toNat) (max (J.getD (0 + (i : Int).toNat) (Cd.dflt U.int)) (1 + J.getD (0 + (k : Int).toNat) (Cd.dflt U.int))) = longK g M i (k + 1) := by
       rw [hJi, hJk, hJ, Nat.zero_add, Int.toNat_natCast]; exact hn
      (repeat' ((conv => whnf); first | (exfalso; omega) | refine dpC (hfo) ?_ | refine hK2 (k + 1, J.set (0 + (i : Int).toNat) (max (J.getD (0 + (i : Int).toNat) (Cd.dflt U.int)) (1 + J.getD (0 + (k : Int).toNat) (Cd.dflt U.int)))) [some 0, some 1, some 2, some 3, some 4, some 5, some 6, some 7] _ _ ⟨⟨by dsimp only; omega, he⟩⟩ ⟨by dsimp only; omega⟩ (by exact bkI) | refine spC (fun hb => ?_) fun hb => ?_ | refine taC ?_ | refine saC ?_ | refine drawX_of mixed ?_))
     | false =>
      rw [hF] at hfo
      have hn := longK_keep g M (i := i) (k := k) (fun h => by rw [show doFollowB g (M.getD k (U.dflt .event)) (M.getD i (U.dflt .event)) = false from hF] at h; cases h.2)
      (repeat' ((conv => whnf); first | (exfalso; omega) | refine dpC (hfo) ?_ | refine hK2 (k + 1, J) [some 0, some 1, some 2, some 3, some 4, some 5, some 6, some 7] _ _ ⟨⟨by dsimp only; omega, hJ.trans hn.symm⟩⟩ ⟨by dsimp only; omega⟩ (by exact bkI) | refine spC (fun hb => ?_) fun hb => ?_ | refine taC ?_ | refine saC ?_ | refine drawX_of mixed ?_))
    ·have hn := longK_keep g M (i := i) (k := k) (fun h => hp h.1)
     (repeat' ((conv => whnf); first | (exfalso; omega) | refine hK2 (k + 1, J) [some 0, some 1, some 2, some 3, some 4, some 5, some 6, some 7] _ _ ⟨⟨by dsimp only; omega, hJ.trans hn.symm⟩⟩ ⟨by dsimp only; omega⟩ (by exact bkI) | refine spC (fun hb => ?_) fun hb => ?_ | refine taC ?_ | refine saC ?_ | refine drawX_of mixed ?_))
   ·obtain rfl : k = i := by omega
    have hJs : J = longE g M (k + 1) := by rw [hJ]; exact longE_succ g M hlt
    have hee : endK g M (endsN g M k) k k = runI g M k := rfl
    rw [hee] at hJi hbi
    have hMk := hMa _ (List.mem_of_getElem? hgi)
    have hMk' : 0 ≤ (M.getD (k : Int).toNat (U.dflt .event)).at_ ∧ (M.getD (k : Int).toNat (U.dflt .event)).at_ ≤ 1000000 := hMk
    have hcn := tconsider g kid image (G k) (J.getD (0 + (k : Int).toNat) (Cd.dflt U.int)) (max m ((M.getD (k : Int).toNat (Cd.dflt U.event)).at_ + g.within)) ((M.getD (k : Int).toNat (Cd.dflt U.event)).at_ + 1440 * g.days) ht hw (by omega) (by omega)
    by_cases hp : 0 < runI g M k
    ·have hG1 : considerS g kid.to_ (G k) (J.getD (0 + (k : Int).toNat) (Cd.dflt U.int)) (max m ((M.getD (k : Int).toNat (Cd.dflt U.event)).at_ + g.within)) ((M.getD (k : Int).toNat (Cd.dflt U.event)).at_ + 1440 * g.days) = G (k + 1) := by
      rw [hJi, hG, goN, if_pos hp]; rfl
     rw [hG1] at hcn
     (repeat' ((conv => whnf); first | (exfalso; omega) | (refine dcallh [some 2, some 3, some 4, some 5, some 0] hcn rfl rfl ⟨rfl, rfl, rfl, rfl, rfl, trivial⟩ ?_) | refine hK (k + 1) [some 0, some 1, some 2, some 3, some 4, some 5, some 6] _ _ ⟨by omega⟩ ⟨by omega⟩ (by (rw [← hJs]; exact bkI)) | refine spC (fun hb => ?_) fun hb => ?_ | refine taC ?_ | refine saC ?_ | refine drawX_of mixed ?_))
    ·have hG1 : G (k + 1) = G k := by rw [hG, goN, if_neg hp]
     (repeat' ((conv => whnf); first | (exfalso; omega) | refine hK (k + 1) [some 0, some 1, some 2, some 3, some 4, some 5, some 6] _ _ ⟨by omega⟩ ⟨by omega⟩ (by (rw [← hJs, hG1]; exact bkI)) | refine spC (fun hb => ?_) fun hb => ?_ | refine saC ?_))
 ·obtain rfl : i = M.length := by omega
  have hbd : -1 ≤ (G M.length).1 ∧ (G M.length).1 ≤ M.length := by rw [hG]; exact goN_bd g kid M m M.length
  have hab : 0 ≤ (G M.length).2 ∧ (G M.length).2 ≤ 2000000 := by rw [hG]; exact goN_at g kid M m hm hw hMa M.length (Nat.le_refl _)
  by_cases hneg : (G M.length).1 < 0
  ·rw [if_pos hneg, if_pos hneg]
   (repeat' ((conv => whnf); first | (exfalso; omega) | (refine end_fn [some 0] (.inr rfl) ?_ ?_ rfl rfl; (focus exact vwV); exact hsV) | refine spC (fun hb => ?_) fun hb => ?_))
  ·rw [if_neg hneg, if_neg hneg]
   generalize G M.length = r at *
   obtain ⟨b, a⟩ := r
   dsimp only at hneg hbd hab ⊢
   obtain ⟨N, hN⟩ : ∃ N : Nat, N = (g.times - b).toNat := ⟨_, rfl⟩
   rw [← hN]
   (repeat' ((conv => whnf); first | (exfalso; omega) | refine spC (fun hb => ?_) fun hb => ?_ | refine saC ?_))
   refine loop_upT [some 0, some 1, some 2, some 3, some 4, some 5, some 6, none] (fun q : Nat × Int × Int × List Event => [(115, iS q.1), (19, .slice 7 0 7 0 q.2.2.2.length)]) (fun q => [(0, shotH kid q.2.1), (5, .vart none [iS q.2.2.1]), (7, .rows U.event q.2.2.2)]) (fun q => q.1 ≤ N ∧ q.2.1 = image + q.1 ∧ q.2.2.1 = a + q.1 * g.within ∧ q.2.2.2 = shotsN kid a g.within image q.1) (fun q => N - q.1) (0, image, a, []) ⟨Nat.zero_le _, by dsimp only; omega, by dsimp only; simp, rfl⟩ (by exact bkI) ?_
   rintro ⟨j, im, at_, out⟩ ⟨hj, him, hat_, hout⟩ K hK
   dsimp only at hj him hat_ hout hK ⊢
   have hjw : 0 ≤ (j : Int) * g.within ∧ (j : Int) * g.within ≤ 7 * 86400 := by
    have h1 : (j : Int) * g.within ≤ 7 * g.within := Int.mul_le_mul_of_nonneg_right (by omega) hw.1
    exact ⟨Int.mul_nonneg (by omega) hw.1, by omega⟩
   have hol : out.length = j := by rw [hout]; exact shotsN_len _ _ _ _ _
   rcases Nat.lt_or_ge j N with hjN | hjN
   ·have hat := tat kid hkr im at_ 0 (by omega)
    have hW : List.take out.length out ++ List.take 1 (List.drop 0 [shotE kid at_ im 0]) = shotsN kid a g.within image (j + 1) := by rw [shotsN, ← hout, List.take_length, ← him, ← hat_]; rfl
    have hsu : at_ + g.within = a + ((j + 1 : Nat) : Int) * g.within := by rw [hat_, Int.natCast_add, Int.add_mul]; simp; omega
    (repeat' ((conv => whnf); first | (exfalso; omega) | (refine callh [some 0] hat rfl rfl ⟨rfl, trivial⟩ ?_) | (refine frz_op [some 0, some 1, some 2, some 3, some 4, some 5, some 6, some 7, none] [(120, evA (shotE kid at_ im 0))] [(8, .rows U.int [])] (by exact bkV) ?_) | refine hK (j + 1, im + 1, at_ + g.within, List.take out.length out ++ List.take 1 (List.drop 0 [shotE kid at_ im 0])) [some 0, some 1, some 2, some 3, some 4, some 5, some 6, some 10] _ _ ⟨⟨by dsimp only; omega, by dsimp only; omega, hsu, hW⟩⟩ ⟨by dsimp only; omega⟩ (by exact bkI) | refine spC (fun hb => ?_) fun hb => ?_ | refine saC ?_))
   ·obtain rfl : j = N := by omega
    rw [← hout, ← him]
    (repeat' ((conv => whnf); first | (exfalso; omega) | (refine end_fn [some 0] (.inr rfl) ?_ ?_ rfl rfl; (focus exact vwV); exact hsV) | refine spC (fun hb => ?_) fun hb => ?_))
end Go.SX
