/-
  Walks: Bm4, Bq0, Bq2: what single functions of the program compute.
-/
import Derived.Test.YtbonljpjndcnaaaSxBm0
namespace Go.SX
open Go.Proofs
set_option linter.unusedSimpArgs false
set_option linter.unusedVariables false
set_option maxHeartbeats 4000000
set_option maxRecDepth 100000
/-- every subject is one of six -/
def SubOK (xs : List Posting) : Prop := ∀ p ∈ xs, 0 ≤ p.subject ∧ p.subject < 6
theorem subOK_app {xs : List Posting} {p : Posting} (h : SubOK xs) (hp : 0 ≤ p.subject ∧ p.subject < 6) : SubOK (xs ++ [p]) := by
  intro q hq
  rcases List.mem_append.1 hq with hq | hq
  · exact h q hq
  · rw [List.mem_singleton.1 hq]; exact hp
theorem postS_sub {b b' : Book} {p : Posting} (h : postS b p = some b') (hs : SubOK b.postings) (hp : 0 ≤ p.subject ∧ p.subject < 6) : SubOK b'.postings := by
  rw [postS_eq] at h
  split at h
  · injection h with h; subst h; exact subOK_app hs hp
  · cases h
theorem dispS_sub {b b' : Book} {i d a : Int} (h : dispS b i d a = some b') (hs : SubOK b.postings) : SubOK b'.postings := by
  rw [dispS_eq] at h
  split at h
  · rename_i hc
    simp at hc
    have hq := hs _ (getD_mem (xs := b.postings) (j := i.toNat) (by omega))
    cases h1 : postS b (backOf (b.postings.getD i.toNat posting0) i d) with
    | none => rw [h1] at h; cases h
    | some b1 =>
      have s1 := postS_sub h1 hs hq
      rw [h1, Option.bind_some] at h
      split at h
      · injection h with h; subst h; exact s1
      · exact postS_sub h s1 hq
  · cases h
theorem madeNext_sub {b b' : Book} {d : Int} {x : A5} (h : madeNext b d x = some b') (hs : SubOK b.postings) : SubOK b'.postings := by
  unfold madeNext at h
  split at h
  · exact dispS_sub h hs
  · split at h
    · unfold closeS at h
      split at h
      · injection h with h; subst h; exact hs
      · cases h
    · exact postS_sub h hs (pickS_bound x.e 6 (by omega))
theorem madeSt_sub (accounts : Int) (l : List A5) : ∀ i, SubOK (madeSt accounts l i).1.postings
  | 0 => by intro p hp; simp [madeSt] at hp
  | i + 1 => by
    by_cases h : i < l.length
    · rw [madeSt_succ _ _ _ h]
      show SubOK ((madeNext _ _ _).getD _).postings
      cases hn : madeNext (madeSt accounts l i).1 (min 359 ((madeSt accounts l i).2 + pickS (l.getD i arr50).b 20)) (l.getD i arr50) with
      | none => exact madeSt_sub accounts l i
      | some b' => exact madeNext_sub hn (madeSt_sub accounts l i)
    · have : madeSt accounts l (i + 1) = madeSt accounts l i := by
        unfold madeSt; rw [List.take_of_length_le (by omega), List.take_of_length_le (by omega)]
      rw [this]; exact madeSt_sub accounts l i
theorem madeS_sub (accounts : Int) (l : List A5) : SubOK (madeS accounts l).postings := madeSt_sub accounts l _
theorem madeS_valid (accounts : Int) (l : List A5) : validB (madeS accounts l) = true := (madeSt_ok accounts l _).v
theorem stmtS_some {b : Book} (h : validB b = true) {m : Int} (hm : 0 ≤ m ∧ m < 12) : stmtS b m = some (stmtL b m b.accounts.toNat) := by
  unfold stmtS; rw [h, isInB_iff.2 ⟨hm.1, by omega⟩]; rfl
theorem owedS_some {b : Book} (h : validB b = true) {m : Int} (hm : 0 ≤ m ∧ m < 6) : owedS b m = some (owedL b.postings m b.accounts.toNat b.postings.length) := by
  unfold owedS; rw [h, isInB_iff.2 ⟨hm.1, by omega⟩]; rfl
theorem balS_some {b : Book} (h : validB b = true) {t m : Int} (ht : 0 ≤ t ∧ t < b.accounts) (hm : 0 ≤ m ∧ m < 12) : balS b t m = some (balL b.postings t m) := by
  unfold balS; rw [h, isInB_iff.2 ⟨ht.1, by omega⟩, isInB_iff.2 ⟨hm.1, by omega⟩]; rfl
end Go.SX

namespace Go.SX
open Go.Proofs
set_option linter.unusedSimpArgs false
set_option linter.unusedVariables false
set_option maxHeartbeats 4000000
set_option maxRecDepth 100000
/-- what a deed may make of a book -/
structure Keeps (b c : Book) : Prop where
  v : validB c = true
  acc : c.accounts = b.accounts
  cl : b.closed ≤ c.closed
  ext : ∃ ex : List Posting, c.postings = b.postings ++ ex ∧ ex.length ≤ 2 ∧ ∀ p ∈ ex, 30 * b.closed ≤ p.day
theorem postS_keeps {b c : Book} {p : Posting} (h : postS b p = some c) : Keeps b c ∧ c.postings = b.postings ++ [p] ∧ c.closed = b.closed ∧ 30 * b.closed ≤ p.day := by
  have hv := postS_valid h
  rw [postS_eq] at h
  split at h
  · rename_i hc
    injection h with h
    subst h
    simp only [Bool.and_eq_true, Bool.not_eq_true', decide_eq_false_iff_not, Int.not_lt] at hc
    exact ⟨⟨hv, rfl, Int.le_refl _, [p], rfl, by simp, by simpa using hc.2⟩, rfl, rfl, hc.2⟩
  · cases h
theorem dispS_keeps {b c : Book} {i d a : Int} (h : dispS b i d a = some c) : Keeps b c := by
  rw [dispS_eq] at h
  split at h
  · cases h1 : postS b (backOf (b.postings.getD i.toNat posting0) i d) with
    | none => rw [h1] at h; cases h
    | some b1 =>
      obtain ⟨k1, e1, e2, e3⟩ := postS_keeps h1
      rw [h1, Option.bind_some] at h
      split at h
      · injection h with h; subst h; exact k1
      · obtain ⟨k2, f1, f2, f3⟩ := postS_keeps h
        refine ⟨k2.v, k2.acc.trans k1.acc, by rw [← e2]; exact k2.cl, _, by rw [f1, e1, List.append_assoc], by simp, ?_⟩
        intro p hp
        simp only [List.mem_append, List.mem_singleton] at hp
        rw [e2] at f3
        rcases hp with rfl | rfl
        · exact e3
        · exact f3
  · cases h
theorem closeS_keeps {b c : Book} {m : Int} (h : closeS b m = some c) : Keeps b c ∧ c.postings = b.postings := by
  have hv := closeS_valid h
  unfold closeS at h
  split at h
  · rename_i hc
    simp only [Bool.and_eq_true, decide_eq_true_eq] at hc
    injection h with h
    subst h
    refine ⟨⟨hv, rfl, ?_, [], by simp, by simp, by simp⟩, rfl⟩
    show b.closed ≤ m + 1
    omega
  · cases h
theorem keeps_stmt {b c : Book} (h : Keeps b c) {m : Int} (h0 : 0 ≤ m) (hm : m < b.closed) (n : Nat) : stmtL c m n = stmtL b m n := by
  obtain ⟨ex, e, _, hd⟩ := h.ext
  unfold stmtL
  apply List.map_congr_left
  intro t _
  rw [e]
  unfold balL
  rw [List.map_append, List.sum_append]
  have : ((ex.map (entry (t : Int) m))).sum = 0 := by
    refine sum_zero_of _ fun p hp => ?_
    have h1 := hd p hp
    have h2 : (30 * (m + 1)) ≤ p.day := by omega
    have h3 : p.day.tdiv 30 ≠ m := by
      rw [Int.tdiv_eq_ediv_of_nonneg (by omega)]; omega
    unfold entry
    rw [if_neg h3]
  rw [this, Int.add_zero]
end Go.SX

namespace Go.SX
open Go.Proofs
set_option linter.unusedSimpArgs false
set_option linter.unusedVariables false
set_option maxHeartbeats 4000000
set_option maxRecDepth 100000
/-- a posting is taken back -/
def anyOf (xs : List Posting) (i : Int) : Bool := xs.any fun p => decide (p.of_ = i)
theorem openS_isSome {b : Book} (h : validB b = true) : ∃ bk, openS b = some bk := by
  unfold validB at h; simp only [Bool.and_eq_true] at h
  exact Option.isSome_iff_exists.1 h.1
theorem backAt_any {b : Book} (h : ValidBook b) (i : Nat) : backAt b.postings i = anyOf b.postings i := by
  rw [Bool.eq_iff_iff]
  simp only [backAt, anyOf, List.any_eq_true, Bool.and_eq_true, decide_eq_true_eq]
  constructor
  · rintro ⟨p, hp, _, ho⟩; exact ⟨p, hp, ho⟩
  · rintro ⟨p, hp, ho⟩
    refine ⟨p, hp, ?_, ho⟩
    rcases (h.formed p hp).kind with hk | hk | hk
    · omega
    · omega
    · exact hk.1
theorem back_any {b : Book} {bk : List Bool} (h : openS b = some bk) (hV : ValidBook b) (i : Nat) : bk.getD i false = anyOf b.postings i := by
  rw [← backAt_any hV]
  have h1 := bkRun_back b.postings [] bk0 bk h List.length_replicate (fun i => by show bk0.getD i false = false; rw [bk0, List.getD_eq_getElem?_getD, List.getElem?_replicate]; split <;> rfl) i
  rwa [List.nil_append] at h1
theorem notBack_any {b : Book} (h : validB b = true) (i : Nat) : notBack b.postings i b.postings.length = !anyOf b.postings i := by
  obtain ⟨bk, hb⟩ := openS_isSome h
  have hV := validBook_of h
  have h1 := back_notBack hb hV i
  rw [back_any hb hV] at h1
  rw [h1, Bool.not_not]
/-- a dispute that can't be -/
theorem dispS_no {b : Book} {i : Nat} {d a : Int} (h : validB b = true) (hi : i < b.postings.length) (hd : d ≤ 359) (hn : (b.postings.getD i posting0).kind = 3 ∨ anyOf b.postings i = true ∨ b.closed = 12) : dispS b i d a = none := by
  obtain ⟨bk, hb⟩ := openS_isSome h
  have hV := validBook_of h
  unfold dispS
  rw [hb]
  dsimp only
  rw [Int.toNat_natCast]
  split
  · rw [if_neg]
    intro hp
    unfold postB at hp
    simp only [Bool.and_eq_true, decide_eq_true_eq] at hp
    obtain ⟨h1, h2⟩ := hp
    have h3 := takesB_back h2 rfl
    rcases hn with hn | hn | hn
    · have := (delta_back h3.2 0).1
      simp only [backOf, Int.toNat_natCast] at this
      exact this hn
    · have := h3.1
      simp only [backOf, Int.toNat_natCast] at this
      rw [back_any hb hV, hn] at this
      cases this
    · have h4 : (backOf (b.postings.getD i posting0) (i : Int) d).day = d := rfl
      rw [h4] at h1
      omega
  · rfl
theorem isFormedB_of {p : Posting} {acc : Int} (h : Formed p acc) (h1 : 2 ≤ acc) (h2 : acc ≤ 16) : isFormedB p acc = true := by
  have hd := h.day
  have he := h.deb
  have hc := h.cre
  have hn := h.ne
  have ha := h.amt
  have hs := h.sub
  have hk := h.kind
  unfold isFormedB
  rw [w64_of (by omega) (by omega), isInB_iff.2 hd, isInB_iff.2 he, isInB_iff.2 hc, isInB_iff.2 ha, isInB_iff.2 hs, decide_eq_false hn]
  simp only [Bool.not_false, Bool.and_self, if_true]
  rcases hk with hk | hk | hk
  · simp [hk.1, hk.2]
  · simp [hk.1, hk.2]
  · simp [hk.1, isInB_iff.2 hk.2]
theorem getD_last {xs : List Posting} (p : Posting) : (xs ++ [p]).getD xs.length posting0 = p := by simp
theorem getD_left {xs ys : List Posting} {j : Nat} (h : j < xs.length) : (xs ++ ys).getD j posting0 = xs.getD j posting0 := by
  simp [List.getD_eq_getElem?_getD, List.getElem?_append_left h]
/-- what a dispute makes -/
def dispOf (b : Book) (i : Nat) (d a : Int) : Book :=
  ⟨b.accounts, b.postings ++ [backOf (b.postings.getD i posting0) i d] ++ (if 0 < a then [againOf (b.postings.getD i posting0) d a] else []), b.closed⟩
theorem takesB_yes {acc : Int} {xs : List Posting} {bk : List Bool} {p : Posting} (h1 : xs.length < 200) (h2 : isFormedB p acc = true) (h3 : 0 < xs.length → (xs.getD (xs.length - 1) posting0).day ≤ p.day)
    (h4 : p.kind = 3 → p.of_ < xs.length ∧ bk.getD p.of_.toNat false = false ∧ isBackB p (xs.getD p.of_.toNat posting0) = true) : takesB acc xs bk p = true := by
  have hl : lateB xs p = false := by
    unfold lateB
    simp only [Bool.and_eq_false_iff, decide_eq_false_iff_not]
    by_cases h0 : 0 < xs.length
    · right
      have e : ((xs.length : Int) - 1).toNat = xs.length - 1 := by omega
      rw [e]
      have := h3 h0; omega
    · left; omega
  unfold takesB
  rw [h2, hl, decide_eq_false (by omega)]
  simp only [Bool.not_true, Bool.or_self, Bool.false_eq_true, if_false]
  by_cases hk : p.kind = 3
  · obtain ⟨a1, a2, a3⟩ := h4 hk
    rw [decide_eq_true hk, a2, a3, decide_eq_false (by omega)]
    rfl
  · rw [decide_eq_false hk]; rfl
theorem dispS_yes {b : Book} {i : Nat} {d a : Int} (h : validB b = true) (hi : i < b.postings.length) (hlen : b.postings.length ≤ 198) (hd : d ≤ 359) (hc : 30 * b.closed ≤ d) (hlast : (b.postings.getD (b.postings.length - 1) posting0).day ≤ d)
    (ha : 0 ≤ a ∧ a ≤ 1000) (hk : (b.postings.getD i posting0).kind ≠ 3) (hb : anyOf b.postings i = false) : dispS b i d a = some (dispOf b i d a) := by
  obtain ⟨bk, hbk⟩ := openS_isSome h
  have hV := validBook_of h
  have hacc := hV.acc
  have hcl := hV.closed
  have hF := formed_at hV hi
  have hFd := hF.day
  have hFa := hF.amt
  have hFk := hF.kind
  unfold dispS
  rw [hbk]
  dsimp only
  rw [Int.toNat_natCast]
  have hw : ((isInB b.accounts 2 16 && isInB b.closed 0 12) && !decide ((i : Int) < 0) && !decide ((b.postings.length : Int) ≤ (i : Int)) && isInB a 0 1000000000000) = true := by
    rw [isInB_iff.2 hacc, isInB_iff.2 hcl, isInB_iff.2 ⟨ha.1, by omega⟩, decide_eq_false (by omega), decide_eq_false (by omega)]; rfl
  rw [if_pos hw]
  have hd0 : 0 ≤ d := by omega
  have f1 : Formed (backOf (b.postings.getD i posting0) (i : Int) d) b.accounts :=
    ⟨⟨hd0, hd⟩, hF.cre, hF.deb, fun e => hF.ne e.symm, hF.amt, hF.sub, .inr (.inr ⟨rfl, by show 0 ≤ (i : Int) ∧ (i : Int) ≤ 199; omega⟩)⟩
  have hp1 : postB b.accounts b.closed b.postings bk (backOf (b.postings.getD i posting0) (i : Int) d) = true := by
    unfold postB
    rw [decide_eq_true (show 30 * b.closed ≤ (backOf (b.postings.getD i posting0) (i : Int) d).day from hc), Bool.true_and]
    refine takesB_yes (by omega) (isFormedB_of f1 hacc.1 hacc.2) (fun _ => hlast) fun _ => ⟨by show (i : Int) < _; omega, ?_, ?_⟩
    · show bk.getD (i : Int).toNat false = false
      rw [Int.toNat_natCast, back_any hbk hV, hb]
    · show isBackB _ (b.postings.getD (i : Int).toNat posting0) = true
      rw [Int.toNat_natCast]
      simp [isBackB, backOf]
      exact hk
  rw [if_pos hp1]
  by_cases h0 : 0 < a
  · rw [if_pos (decide_eq_true h0)]
    have f2 : Formed (againOf (b.postings.getD i posting0) d a) b.accounts :=
      ⟨⟨hd0, hd⟩, hF.deb, hF.cre, hF.ne, by show 1 ≤ a ∧ a ≤ _; omega, hF.sub, hFk⟩
    have hp2 : postB b.accounts b.closed (b.postings ++ [backOf (b.postings.getD i posting0) (i : Int) d]) (newBk bk (backOf (b.postings.getD i posting0) (i : Int) d)) (againOf (b.postings.getD i posting0) d a) = true := by
      unfold postB
      rw [decide_eq_true (show 30 * b.closed ≤ (againOf (b.postings.getD i posting0) d a).day from hc), Bool.true_and]
      refine takesB_yes (by simp; omega) (isFormedB_of f2 hacc.1 hacc.2) (fun _ => ?_) fun h3 => absurd h3 hk
      have e : (b.postings ++ [backOf (b.postings.getD i posting0) (i : Int) d]).length - 1 = b.postings.length := by simp
      rw [e, getD_last]
      exact Int.le_refl _
    rw [if_pos hp2]
    simp [dispOf, h0]
  · rw [if_neg (by simpa using h0)]
    simp [dispOf, h0]
theorem dispOf_again {b : Book} {i : Nat} {d a : Int} (h : validB (dispOf b i d a) = true) (hi : i < b.postings.length) (hd : d ≤ 359) (d' a' : Int) (hd' : d' ≤ 359) : dispS (dispOf b i d a) i d' a' = none := by
  refine dispS_no h (by simp [dispOf]; omega) hd' (.inr (.inl ?_))
  simp [anyOf, dispOf, backOf]
/-- what stands of a subject, one posting after another -/
theorem owedP_left {xs ys : List Posting} {s t : Int} (q : Posting) : ∀ i, i ≤ xs.length → (∀ j, j < xs.length → standsB ys s j = standsB xs s j) → (∀ j, j < xs.length → ys.getD j posting0 = xs.getD j posting0) → owedP ys s t i = owedP xs s t i
  | 0, _, _, _ => rfl
  | i + 1, hi, h1, h2 => by
    simp only [owedP]
    rw [owedP_left q i (by omega) h1 h2, h1 i hi, h2 i hi]
theorem owedP_but {xs ys : List Posting} {s t : Int} (k : Nat) (hk : k < xs.length) (h1 : ∀ j, j < xs.length → j ≠ k → standsB ys s j = standsB xs s j) (h2 : ∀ j, j < xs.length → ys.getD j posting0 = xs.getD j posting0)
    (h3 : standsB ys s k = false) : ∀ i, i ≤ xs.length → owedP ys s t i = owedP xs s t i - (if k < i then (if standsB xs s k then delta (xs.getD k posting0) t else 0) else 0)
  | 0, _ => by simp [owedP]
  | i + 1, hi => by
    simp only [owedP]
    rw [owedP_but k hk h1 h2 h3 i (by omega)]
    by_cases e : i = k
    · subst e
      rw [h3, if_neg (Nat.lt_irrefl _), if_pos (Nat.lt_succ_self _)]
      simp only [Bool.false_eq_true, if_false]
      omega
    · rw [h1 i hi e, h2 i hi]
      generalize (if standsB xs s i = true then delta (xs.getD i posting0) t else 0) = z1
      generalize (if standsB xs s k = true then delta (xs.getD k posting0) t else 0) = z2
      by_cases h4 : k < i
      · rw [if_pos h4, if_pos (by omega)]; omega
      · rw [if_neg h4, if_neg (by omega)]; omega
theorem anyOf_append (xs ys : List Posting) (i : Int) : anyOf (xs ++ ys) i = (anyOf xs i || anyOf ys i) := by simp [anyOf]
theorem standsB_eq {b : Book} (h : validB b = true) (s : Int) (i : Nat) : standsB b.postings s i = (!decide ((b.postings.getD i posting0).kind = 3) && decide ((b.postings.getD i posting0).subject = s) && !anyOf b.postings i) := by
  unfold standsB; rw [notBack_any h]
theorem anyOf_large {b : Book} (h : validB b = true) {i : Nat} (hi : b.postings.length ≤ i) : anyOf b.postings i = false := by
  obtain ⟨bk, hb⟩ := openS_isSome h
  have hV := validBook_of h
  cases hc : anyOf b.postings i with
  | false => rfl
  | true =>
    simp only [anyOf, List.any_eq_true, decide_eq_true_eq] at hc
    obtain ⟨p, hp, ho⟩ := hc
    obtain ⟨j, hj, e⟩ := List.getElem_of_mem hp
    have e' : b.postings.getD j posting0 = p := by simp [hj, e]
    have hk : p.kind = 3 := by
      rcases (hV.formed p hp).kind with hk | hk | hk
      · omega
      · omega
      · exact hk.1
    have := bkRun_of b.postings [] bk0 bk hb j hj (by rw [e']; exact hk)
    rw [e', ho] at this
    simp at this; omega
end Go.SX
