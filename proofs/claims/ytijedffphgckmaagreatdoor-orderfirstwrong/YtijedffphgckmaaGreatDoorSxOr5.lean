/-
  Plain: what is read is written so.
-/
import Derived.Test.YtijedffphgckmaaGreatDoorSxUf5
import Derived.Test.YtijedffphgckmaaGreatDoorSxTd7
set_option linter.unusedVariables false
set_option linter.unusedSimpArgs false
namespace Go.SX
def GotG (ws : List Wd) (sub : Int → Int → Rs Goal) (of_ d : Int) : Prop := ∀ (a m : Int) (g : Goal) (a' m' : Int), 0 ≤ a → a ≤ ws.length → 0 ≤ m → sub a m = .ok g a' m' → Reads ws a (goalW g) a' ∧ (1 ≤ g.kind ∧ g.kind ≤ lastK of_) ∧ 0 ≤ m' ∧ sizeG g d = some (m - m' + 1)
theorem ok_see (rows : List Int) (f t lo hi : Int) (c : Bool) (h1 : areaB rows = true) (h2 : rows.any (fun r => decide (r ≠ 0)) = true) (h3 : 0 ≤ f ∧ f ≤ 1000000) (h4 : f + 1 ≤ t ∧ t ≤ 1000000) (h5 : 0 ≤ lo ∧ lo ≤ 90) (h6 : lo ≤ hi ∧ hi ≤ 90) : okB ⟨1, rows, f, t, lo, hi, c, 0, 0, 0, [], []⟩ = true := by
 unfold okB plainB restG limB partsB manyB centsB
 simp only [h1, h2]
 simp [inB_iff]
 omega
theorem ok_pair (lo wi : Int) (k : Goal) (h1 : 1 ≤ lo ∧ lo ≤ 8) (h2 : 1 ≤ wi ∧ wi ≤ 1000000) (hk : k.kind ≤ 1) : okB ⟨2, [], 0, 0, lo, 0, false, 0, 0, wi, [], [k]⟩ = true := by
 unfold okB plainB restG limB partsB manyB centsB lastK
 simp [inB_iff]
 omega
theorem ok_every (f d t wi : Int) (k : Goal) (h1 : 1 ≤ d ∧ d ≤ 60) (h2 : 1 ≤ t ∧ t ≤ 6) (h3 : 0 ≤ wi ∧ wi ≤ 1440 * d) (h4 : 0 ≤ f ∧ f ≤ 1000000) (hk : k.kind ≤ 1) : okB ⟨3, [], f, 0, 0, 0, false, d, t, wi, [], [k]⟩ = true := by
 unfold okB plainB restG limB partsB manyB centsB lastK
 simp [inB_iff]
 omega
theorem ok_del (wi : Int) (k : Goal) (h1 : 0 ≤ wi ∧ wi ≤ 1000000) (hk : k.kind ≤ 3) : okB ⟨4, [], 0, 0, 0, 0, false, 0, 0, wi, [], [k]⟩ = true := by
 unfold okB plainB restG limB partsB manyB centsB lastK
 simp [inB_iff]
 omega
theorem ok_many (k : Int) (hk : k = 5 ∨ k = 6) (cs : List Int) (l : List Goal) (h1 : 2 ≤ l.length ∧ l.length ≤ 4) (h2 : ∀ x ∈ l, x.kind ≤ 6) (h3 : k = 6 → cs.length = l.length ∧ ∀ c ∈ cs, 0 ≤ c ∧ c ≤ 1000000000) (h4 : k = 5 → cs = []) : okB ⟨k, [], 0, 0, 0, 0, false, 0, 0, 0, cs, l⟩ = true := by
 have hl : lastK k = 6 := by unfold lastK; rw [if_neg (by omega), if_neg (by omega)]
 have e1 : partsB ⟨k, [], 0, 0, 0, 0, false, 0, 0, 0, cs, l⟩ = true := by
  simp only [partsB, Bool.and_eq_true, Bool.or_eq_true, decide_eq_true_eq, Bool.not_eq_true', List.any_eq_false, hl]
  refine ⟨⟨⟨?_, ?_⟩, .inr rfl⟩, fun x hx => by have := h2 x hx; omega⟩
  ·unfold manyB; rw [if_neg (show ¬ k = 1 by omega), if_pos hk, inB_iff]; show (2 : Int) ≤ (l.length : Int) ∧ (l.length : Int) ≤ 4; omega
  ·unfold centsB
   split
   ·rename_i h6
    obtain ⟨x1, x2⟩ := h3 h6
    simp only [Bool.and_eq_true, decide_eq_true_eq, Bool.not_eq_true', List.any_eq_false]
    exact ⟨by omega, fun c hc => by simpa [inB_iff] using x2 c hc⟩
   ·rename_i h6
    have : k = 5 := by simp only at h6; omega
    rw [h4 this]; rfl
 have e2 : limB ⟨k, [], 0, 0, 0, 0, false, 0, 0, 0, cs, l⟩ = true := by
  unfold limB; rw [if_neg (by simp only; omega), if_neg (by simp only; omega), if_neg (by simp only; omega), if_neg (by simp only; omega)]
 have e3 : restG ⟨k, [], 0, 0, 0, 0, false, 0, 0, 0, cs, l⟩ = ⟨k, [], 0, 0, 0, 0, false, 0, 0, 0, [], []⟩ := by
  unfold restG; rw [if_neg (by simp only; omega), if_neg (by simp only; omega), if_neg (by simp only; omega), if_neg (by simp only; omega)]
 unfold okB
 rw [e1, e2, e3]
 simp only [Bool.and_true, Bool.and_eq_true]
 exact ⟨(inB_iff _ _ _).2 (by show 1 ≤ k ∧ k ≤ 6; omega), by simp [plainB]⟩
theorem size_one {g k : Goal} {d n : Int} (hok : okB g = true) (hd : d ≤ 4) (hg : g.kids = [k]) (hn : sizeG k (d + 1) = some n) : sizeG g d = some (1 + n) := by
 rw [sizeG_eq, hok, hg, if_neg (by simp; omega), sizeL, hn, sizeL]
 simp
theorem size_none {g : Goal} {d : Int} (hok : okB g = true) (hd : d ≤ 4) (hg : g.kids = []) : sizeG g d = some 1 := by
 rw [sizeG_eq, hok, hg, if_neg (by simp; omega), sizeL]
 simp
theorem see_ok2 {ws : List Wd} {a m a' m' : Int} {g : Goal} {d : Int} (hd : d ≤ 4) (h0 : 0 ≤ a) (h1 : a ≤ ws.length) (h : seeP ws a m = .ok g a' m') : ∃ l, goalW g = w_see :: l ∧ Reads ws a l a' ∧ g.kind = 1 ∧ m' = m ∧ sizeG g d = some 1 := by
 unfold seeP at h
 replace h := bind_ok h
 obtain ⟨rows, a1, m1, h2, h⟩ := h
 obtain ⟨L, k1, k2, r1, rfl, rfl⟩ := area_ok 1200 0 0 _ _ _ _ _ _ h0 h1 h2
 have hne : L ≠ [] := fun e => by have := k2 e; omega
 obtain ⟨p1, p2, p3⟩ := area_read k1
 replace h := bind_ok h
 obtain ⟨_, a2, m2, h2, h⟩ := h
 obtain ⟨r2, rfl⟩ := must_ok [w_from] (by decide) r1.lo' r1.hi h2
 replace h := bind_ok h
 obtain ⟨f, a3, m3, h2, h⟩ := h
 obtain ⟨r3, rfl, b1, b2⟩ := num_ok r2.lo' r2.hi h2
 replace h := bind_ok h
 obtain ⟨_, a4, m4, h2, h⟩ := h
 obtain ⟨r4, rfl⟩ := must_ok [w_to] (by decide) r3.lo' r3.hi h2
 replace h := bind_ok h
 obtain ⟨t, a5, m5, h2, h⟩ := h
 obtain ⟨r5, rfl, b3, b4⟩ := num_ok r4.lo' r4.hi h2
 replace h := bind_ok h
 obtain ⟨_, a6, m6, h2, h⟩ := h
 obtain ⟨r6, rfl⟩ := must_ok [w_sun] (by decide) r5.lo' r5.hi h2
 replace h := bind_ok h
 obtain ⟨lo, a7, m7, h2, h⟩ := h
 obtain ⟨r7, rfl, b5, b6⟩ := num_ok r6.lo' r6.hi h2
 replace h := bind_ok h
 obtain ⟨_, a8, m8, h2, h⟩ := h
 obtain ⟨r8, rfl⟩ := must_ok [w_to] (by decide) r7.lo' r7.hi h2
 replace h := bind_ok h
 obtain ⟨hi, a9, m9, h2, h⟩ := h
 obtain ⟨r9, rfl, b7, b8⟩ := num_ok r8.lo' r8.hi h2
 replace h := bind_ok h
 obtain ⟨c, a10, m10, h2, h⟩ := h
 obtain ⟨r10, rfl⟩ := word_ok (by decide) (by decide) r9.lo' r9.hi h2
 injection h with e1 e2 e3
 subst e1 e2 e3
 refine ⟨_, ?_, r1.app (r2.app (r3.app (r4.app (r5.app (r6.app (r7.app (r8.app (r9.app r10)))))))), rfl, rfl, size_none (ok_see _ _ _ _ _ _ p2 (p3 hne) (by omega) (by omega) (by omega) (by omega)) hd rfl⟩
 rw [goalW_eq, if_pos rfl, seeW, p1]
 rfl
theorem pair_ok {ws : List Wd} {sub : Int → Int → Rs Goal} {d : Int} (hd : d + 1 ≤ 4) (ih : GotG ws sub 2 (d + 1)) {a m a' m' : Int} {g : Goal} (h0 : 0 ≤ a) (h1 : a ≤ ws.length) (hm : 0 ≤ m) (h : pairP ws sub a m = .ok g a' m') : ∃ l, goalW g = w_pair :: l ∧ Reads ws a l a' ∧ g.kind = 2 ∧ 0 ≤ m' ∧ sizeG g d = some (m - m' + 2) := by
 unfold pairP at h
 replace h := bind_ok h
 obtain ⟨_, a2, m2, h2, h⟩ := h
 obtain ⟨r2, rfl⟩ := must_ok [w_looks] (by decide) h0 h1 h2
 replace h := bind_ok h
 obtain ⟨lo, a3, m3, h2, h⟩ := h
 obtain ⟨r3, rfl, b1, b2⟩ := num_ok r2.lo' r2.hi h2
 replace h := bind_ok h
 obtain ⟨_, a4, m4, h2, h⟩ := h
 obtain ⟨r4, rfl⟩ := must_ok [w_within] (by decide) r3.lo' r3.hi h2
 replace h := bind_ok h
 obtain ⟨wi, a5, m5, h2, h⟩ := h
 obtain ⟨r5, rfl, b3, b4⟩ := num_ok r4.lo' r4.hi h2
 replace h := bind_ok h
 obtain ⟨_, a6, m6, h2, h⟩ := h
 obtain ⟨r6, rfl⟩ := must_ok [w_of] (by decide) r5.lo' r5.hi h2
 replace h := bind_ok h
 obtain ⟨k, a7, m7, h2, h⟩ := h
 obtain ⟨r7, hk, hm7, hs⟩ := ih _ _ _ _ _ r6.lo' r6.hi hm h2
 injection h with e1 e2 e3
 subst e1 e2 e3
 refine ⟨_, ?_, r2.app (r3.app (r4.app (r5.app (r6.app r7)))), rfl, hm7, ?_⟩
 ·rw [goalW_eq, if_neg (by simp), if_pos (.inl rfl), firstW, headW, if_pos rfl]
  rfl
 ·rw [size_one (ok_pair _ _ _ (by omega) (by omega) hk.2) (by omega) rfl hs]
  congr 1; omega
theorem every_ok {ws : List Wd} {sub : Int → Int → Rs Goal} {d : Int} (hd : d + 1 ≤ 4) (ih : GotG ws sub 3 (d + 1)) {a m a' m' : Int} {g : Goal} (h0 : 0 ≤ a) (h1 : a ≤ ws.length) (hm : 0 ≤ m) (h : everyP ws sub a m = .ok g a' m') : ∃ l, goalW g = w_every :: l ∧ Reads ws a l a' ∧ g.kind = 3 ∧ 0 ≤ m' ∧ sizeG g d = some (m - m' + 2) := by
 unfold everyP at h
 replace h := bind_ok h
 obtain ⟨dy, a1, m1, h2, h⟩ := h
 obtain ⟨r1, rfl, b1, b2⟩ := num_ok h0 h1 h2
 replace h := bind_ok h
 obtain ⟨_, a2, m2, h2, h⟩ := h
 obtain ⟨r2, rfl⟩ := must_ok [w_days] (by decide) r1.lo' r1.hi h2
 replace h := bind_ok h
 obtain ⟨ti, a3, m3, h2, h⟩ := h
 obtain ⟨r3, rfl, b3, b4⟩ := num_ok r2.lo' r2.hi h2
 replace h := bind_ok h
 obtain ⟨_, a4, m4, h2, h⟩ := h
 obtain ⟨r4, rfl⟩ := must_ok [w_times, w_apart] (by decide) r3.lo' r3.hi h2
 replace h := bind_ok h
 obtain ⟨wi, a5, m5, h2, h⟩ := h
 obtain ⟨r5, rfl, b5, b6⟩ := num_ok r4.lo' r4.hi h2
 replace h := bind_ok h
 obtain ⟨_, a6, m6, h2, h⟩ := h
 obtain ⟨r6, rfl⟩ := must_ok [w_from] (by decide) r5.lo' r5.hi h2
 replace h := bind_ok h
 obtain ⟨f, a7, m7, h2, h⟩ := h
 obtain ⟨r7, rfl, b7, b8⟩ := num_ok r6.lo' r6.hi h2
 replace h := bind_ok h
 obtain ⟨_, a8, m8, h2, h⟩ := h
 obtain ⟨r8, rfl⟩ := must_ok [w_of] (by decide) r7.lo' r7.hi h2
 replace h := bind_ok h
 obtain ⟨k, a9, m9, h2, h⟩ := h
 obtain ⟨r9, hk, hm9, hs⟩ := ih _ _ _ _ _ r8.lo' r8.hi hm h2
 injection h with e1 e2 e3
 subst e1 e2 e3
 refine ⟨_, ?_, r1.app (r2.app (r3.app (r4.app (r5.app (r6.app (r7.app (r8.app r9))))))), rfl, hm9, ?_⟩
 ·rw [goalW_eq, if_neg (by simp), if_pos (.inr (.inl rfl)), firstW, headW, if_neg (by simp), if_pos rfl]
  rfl
 ·rw [size_one (ok_every _ _ _ _ _ (by omega) (by omega) (by omega) (by omega) hk.2) (by omega) rfl hs]
  congr 1; omega
theorem del_ok {ws : List Wd} {sub : Int → Int → Rs Goal} {d : Int} (hd : d + 1 ≤ 4) (ih : GotG ws sub 4 (d + 1)) {a m a' m' : Int} {g : Goal} (h0 : 0 ≤ a) (h1 : a ≤ ws.length) (hm : 0 ≤ m) (h : delP ws sub a m = .ok g a' m') : ∃ l, goalW g = w_deliver :: l ∧ Reads ws a l a' ∧ g.kind = 4 ∧ 0 ≤ m' ∧ sizeG g d = some (m - m' + 2) := by
 unfold delP at h
 replace h := bind_ok h
 obtain ⟨_, a2, m2, h2, h⟩ := h
 obtain ⟨r2, rfl⟩ := must_ok [w_within] (by decide) h0 h1 h2
 replace h := bind_ok h
 obtain ⟨wi, a3, m3, h2, h⟩ := h
 obtain ⟨r3, rfl, b1, b2⟩ := num_ok r2.lo' r2.hi h2
 replace h := bind_ok h
 obtain ⟨_, a6, m6, h2, h⟩ := h
 obtain ⟨r6, rfl⟩ := must_ok [w_of] (by decide) r3.lo' r3.hi h2
 replace h := bind_ok h
 obtain ⟨k, a7, m7, h2, h⟩ := h
 obtain ⟨r7, hk, hm7, hs⟩ := ih _ _ _ _ _ r6.lo' r6.hi hm h2
 injection h with e1 e2 e3
 subst e1 e2 e3
 refine ⟨_, ?_, r2.app (r3.app (r6.app r7)), rfl, hm7, ?_⟩
 ·rw [goalW_eq, if_neg (by simp), if_pos (.inr (.inr rfl)), firstW, headW, if_neg (by simp), if_neg (by simp)]
  rfl
 ·rw [size_one (ok_del _ _ (by omega) hk.2) (by omega) rfl hs]
  congr 1; omega
theorem parts_ok {ws : List Wd} {sub : Int → Int → Rs Goal} {d k : Int} (hk : k = 5 ∨ k = 6) (ih : GotG ws sub k d) : ∀ (fuel : Nat) (cents : List Int) (kids : List Goal) (a m a' m' : Int) (g : Goal), 0 ≤ a → a ≤ ws.length → 0 ≤ m → kids.length ≤ 3 → partsP ws sub k fuel cents kids a m = .ok g a' m' →
  ∃ x l cs n, g = ⟨k, [], 0, 0, 0, 0, false, 0, 0, 0, cents ++ cs, kids ++ x :: l⟩ ∧ Reads ws a ((if k = 6 then [itoaW (cs.headD 0)] else []) ++ goalW x ++ kidsW (decide (k = 6)) false cs.tail l ++ [w_close]) a' ∧ (∀ z ∈ x :: l, z.kind ≤ 6) ∧ sizeL (x :: l) d = some n ∧ m' = m - (n - 1 - (if kids = [] then 1 else 0)) ∧ 0 ≤ m' ∧ (k = 6 → cs.length = l.length + 1 ∧ ∀ c ∈ cs, 0 ≤ c ∧ c ≤ 1000000000) ∧ (k = 5 → cs = []) ∧ 2 ≤ kids.length + 1 + l.length ∧ kids.length + 1 + l.length ≤ 4
 | 0, cents, kids, a, m, a', m', g, _, _, _, _, h => by rw [partsP] at h; cases h
 | fuel + 1, cents, kids, a, m, a', m', g, h0, h1, hm, hl, h => by
  have hlk : lastK k = 6 := by unfold lastK; rw [if_neg (by omega), if_neg (by omega)]
  rw [partsP] at h
  replace h := bind_ok h
  obtain ⟨cents1, a1, m1, h2, h⟩ := h
  obtain ⟨cs1, e1, r1, e2, c6, c5⟩ : ∃ cs1 : List Int, cents1 = cents ++ cs1 ∧ Reads ws a (if k = 6 then [itoaW (cs1.headD 0)] else []) a1 ∧ m1 = m ∧ (k = 6 → ∃ c, cs1 = [c] ∧ 0 ≤ c ∧ c ≤ 1000000000) ∧ (k = 5 → cs1 = []) := by
   split at h2
   ·rename_i h6
    replace h2 := bind_ok h2
    obtain ⟨c, a2, m2, h3, h2⟩ := h2
    obtain ⟨r, e, b1, b2⟩ := num_ok h0 h1 h3
    injection h2 with e1 e2 e3
    subst e1 e2 e3
    exact ⟨[c], rfl, by rw [if_pos h6]; exact r, e, fun _ => ⟨c, rfl, b1, b2⟩, fun h => by omega⟩
   ·rename_i h6
    injection h2 with e1 e2 e3
    subst e1 e2 e3
    exact ⟨[], by simp, by rw [if_neg h6]; exact .nil h0 h1, rfl, fun h => absurd h h6, fun _ => rfl⟩
  subst e1 e2
  replace h := bind_ok h
  obtain ⟨x, a2, m2, h2, h⟩ := h
  obtain ⟨r2, hxk, hm2, hs⟩ := ih _ _ _ _ _ r1.lo' r1.hi hm h2
  rw [hlk] at hxk
  have hx := sizeG_pos hs
  have r12 := r1.app r2
  -- ends here?
  have done : ∀ (hkn : kids ≠ []), peekW ws a2 = w_close → (.ok ⟨k, [], 0, 0, 0, 0, false, 0, 0, 0, cents ++ cs1, kids ++ [x]⟩ (a2 + 1) m2 : Rs Goal) = .ok g a' m' → ∃ x l cs n, g = ⟨k, [], 0, 0, 0, 0, false, 0, 0, 0, cents ++ cs, kids ++ x :: l⟩ ∧ Reads ws a ((if k = 6 then [itoaW (cs.headD 0)] else []) ++ goalW x ++ kidsW (decide (k = 6)) false cs.tail l ++ [w_close]) a' ∧ (∀ z ∈ x :: l, z.kind ≤ 6) ∧ sizeL (x :: l) d = some n ∧ m' = m1 - (n - 1 - (if kids = [] then 1 else 0)) ∧ 0 ≤ m' ∧ (k = 6 → cs.length = l.length + 1 ∧ ∀ c ∈ cs, 0 ≤ c ∧ c ≤ 1000000000) ∧ (k = 5 → cs = []) ∧ 2 ≤ kids.length + 1 + l.length ∧ kids.length + 1 + l.length ≤ 4 := fun hkn hp h => by
   injection h with e1 e2 e3
   subst e1 e2 e3
   have r3 := Reads.one r12.lo' r12.hi hp (by decide)
   have hkl : 1 ≤ kids.length := by cases kids with | nil => exact absurd rfl hkn | cons _ _ => simp
   refine ⟨x, [], cs1, m1 - m2 + 1, rfl, ?_, fun z hz => by simp at hz; subst hz; exact hxk.2, by rw [sizeL, hs, sizeL]; simp, by rw [if_neg hkn]; omega, hm2, fun h => ?_, c5, by simp; omega, by simp; omega⟩
   ·rw [kidsW, List.append_nil]; exact r12.app r3
   ·obtain ⟨c, e, b1, b2⟩ := c6 h
    subst e
    exact ⟨rfl, fun z hz => by simp at hz; subst hz; exact ⟨b1, b2⟩⟩
  -- or goes on
  have more : ∀ (m3 : Int), 0 ≤ m3 → kids.length + 1 ≤ 3 → m3 = m2 - (if kids = [] then 0 else 1) → ((mustW ws [w_comma] a2 m3).bind fun _ a m => partsP ws sub k fuel (cents ++ cs1) (kids ++ [x]) a m) = .ok g a' m' → ∃ x l cs n, g = ⟨k, [], 0, 0, 0, 0, false, 0, 0, 0, cents ++ cs, kids ++ x :: l⟩ ∧ Reads ws a ((if k = 6 then [itoaW (cs.headD 0)] else []) ++ goalW x ++ kidsW (decide (k = 6)) false cs.tail l ++ [w_close]) a' ∧ (∀ z ∈ x :: l, z.kind ≤ 6) ∧ sizeL (x :: l) d = some n ∧ m' = m1 - (n - 1 - (if kids = [] then 1 else 0)) ∧ 0 ≤ m' ∧ (k = 6 → cs.length = l.length + 1 ∧ ∀ c ∈ cs, 0 ≤ c ∧ c ≤ 1000000000) ∧ (k = 5 → cs = []) ∧ 2 ≤ kids.length + 1 + l.length ∧ kids.length + 1 + l.length ≤ 4 := fun m3 hm3 hk3 e3 h => by
   replace h := bind_ok h
   obtain ⟨_, a4, m4, h2, h⟩ := h
   obtain ⟨r3, rfl⟩ := must_ok [w_comma] (by decide) r12.lo' r12.hi h2
   obtain ⟨x', l', cs', n', g1, g2, g3, g4, g5, g6, g7, g8, g9, g10⟩ := parts_ok hk ih fuel _ _ _ _ _ _ _ r3.lo' r3.hi hm3 (by simp; omega) h
   simp only [List.length_append, List.length_cons, List.length_nil] at g9 g10
   rw [if_neg (by simp)] at g5
   refine ⟨x, x' :: l', cs1 ++ cs', (m1 - m2 + 1) + n', by rw [g1]; simp, ?_, fun z hz => ?_, ?_, ?_, g6, fun h => ?_, fun h => ?_, by simp; omega, by simp; omega⟩
   ·have := (r12.app (r3.app g2))
    rw [kidsW]
    rcases hk with hk | hk
    ·rw [c5 hk, g8 hk]
     rw [c5 hk, g8 hk] at this
     simpa [hk, List.append_assoc] using this
    ·obtain ⟨c, e, _, _⟩ := c6 hk
     rw [e]
     rw [e] at this
     simpa [hk, List.append_assoc] using this
   ·rcases List.mem_cons.1 hz with rfl | hz
    ·exact hxk.2
    ·exact g3 z hz
   ·rw [sizeL, hs, g4]
   ·split at e3 <;> split <;> first | omega | contradiction
   ·obtain ⟨c, e, b1, b2⟩ := c6 h
    obtain ⟨q1, q2⟩ := g7 h
    subst e
    refine ⟨by simp [q1], fun z hz => ?_⟩
    rcases List.mem_append.1 hz with hz | hz
    ·simp at hz; subst hz; exact ⟨b1, b2⟩
    ·exact q2 z hz
   ·rw [c5 h, g8 h]; rfl
  by_cases hkn : kids = []
  ·have hkl : ¬ 1 < kids.length + 1 := by rw [hkn]; simp
   rw [if_neg hkl] at h
   exact more m2 hm2 (by rw [hkn]; simp) (by rw [if_pos hkn]; omega) h
  ·have hkl : 1 < kids.length + 1 := by cases kids with | nil => exact absurd rfl hkn | cons _ _ => simp
   rw [if_pos hkl] at h
   split at h
   ·rename_i hp
    exact done hkn hp h
   ·split at h
    ·cases h
    ·rename_i hc
     simp only [not_or] at hc
     exact more (m2 - 1) (by omega) (by omega) (by rw [if_neg hkn]) h
theorem form_some {w : Wd} {k n : Int} (h : formW w = some (k, n)) : (k = 1 ∧ n = 0 ∧ w = w_see) ∨ (k = 2 ∧ n = 1 ∧ w = w_pair) ∨ (k = 3 ∧ n = 1 ∧ w = w_every) ∨ (k = 4 ∧ n = 1 ∧ w = w_deliver) ∨ (k = 5 ∧ n = 2 ∧ w = w_all) ∨ (k = 6 ∧ n = 2 ∧ w = w_any) := by
 unfold formW at h
 repeat' split at h
 all_goals first
  | (cases h; done)
  | (injection h with h; injection h with h1 h2; subst h1 h2; simp_all; done)
theorem goal_ok (ws : List Wd) : ∀ (f : Nat) (of_ d : Int), (f : Int) + d = 5 → GotG ws (goalP ws f of_ d) of_ d
 | 0, of_, d, hfd => fun a m g a' m' _ _ _ h => by rw [goalP] at h; cases h
 | f + 1, of_, d, hfd => fun a m g a' m' h0 h1 hm h => by
  have ih := fun o => goal_ok ws f o (d + 1) (by omega)
  rw [goalP] at h
  split at h
  ·cases h
  ·rename_i k n hform
   split at h
   ·cases h
   ·rename_i hc
    simp only [not_or, not_and] at hc
    obtain ⟨c1, c2, c3⟩ := hc
    have hone : ∀ {w : Wd}, peekW ws a = w → w ≠ [32] → Reads ws a [w] (a + 1) := fun e hw => .one h0 h1 e hw
    rcases form_some hform with ⟨rfl, rfl, hw⟩ | ⟨rfl, rfl, hw⟩ | ⟨rfl, rfl, hw⟩ | ⟨rfl, rfl, hw⟩ | ⟨rfl, rfl, hw⟩ | ⟨rfl, rfl, hw⟩
    ·rw [if_pos rfl] at h
     have r := hone hw (by decide)
     obtain ⟨l, e, r2, hk, em, hs⟩ := see_ok2 (d := d) (by omega) r.lo' r.hi h
     rw [e, hk]
     exact ⟨r.app r2, ⟨by omega, by omega⟩, by omega, by rw [hs]; congr 1; omega⟩
    ·rw [if_neg (by omega), if_pos rfl] at h
     have r := hone hw (by decide)
     obtain ⟨l, e, r2, hk, em, hs⟩ := pair_ok (by omega) (ih 2) r.lo' r.hi (by omega) h
     rw [e, hk]
     exact ⟨r.app r2, ⟨by omega, by omega⟩, em, by rw [hs]; congr 1; omega⟩
    ·rw [if_neg (by omega), if_neg (by omega), if_pos rfl] at h
     have r := hone hw (by decide)
     obtain ⟨l, e, r2, hk, em, hs⟩ := every_ok (by omega) (ih 3) r.lo' r.hi (by omega) h
     rw [e, hk]
     exact ⟨r.app r2, ⟨by omega, by omega⟩, em, by rw [hs]; congr 1; omega⟩
    ·rw [if_neg (by omega), if_neg (by omega), if_neg (by omega), if_pos rfl] at h
     have r := hone hw (by decide)
     obtain ⟨l, e, r2, hk, em, hs⟩ := del_ok (by omega) (ih 4) r.lo' r.hi (by omega) h
     rw [e, hk]
     exact ⟨r.app r2, ⟨by omega, by omega⟩, em, by rw [hs]; congr 1; omega⟩
    ·rw [if_neg (by omega), if_neg (by omega), if_neg (by omega), if_neg (by omega)] at h
     have r := hone hw (by decide)
     unfold listP at h
     replace h := bind_ok h
     obtain ⟨_, a2, m2, h2, h⟩ := h
     obtain ⟨r2, rfl⟩ := must_ok [w_open] (by decide) r.lo' r.hi h2
     obtain ⟨x, l, cs, n, g1, g2, g3, g4, g5, g6, g7, g8, g9, g10⟩ := parts_ok (.inl rfl) (ih 5) _ _ _ _ _ _ _ _ r2.lo' r2.hi (by omega) (by simp) h
     simp only [List.nil_append, List.length_nil, Nat.zero_add] at g1 g9 g10
     subst g1
     have hok := ok_many 5 (.inl rfl) cs (x :: l) (by simp; omega) g3 (fun h => by omega) g8
     refine ⟨?_, ⟨by show (1 : Int) ≤ 5; omega, by show (5 : Int) ≤ _; omega⟩, g6, ?_⟩
     ·have := r.app (r2.app g2)
      rw [goalW_eq, if_neg (by simp), if_neg (by simp), kidsW]
      simpa using this
     ·rw [sizeG_eq, hok, if_neg (by simp; omega), g4]
      simp at g5 ⊢; omega
    ·rw [if_neg (by omega), if_neg (by omega), if_neg (by omega), if_neg (by omega)] at h
     have r := hone hw (by decide)
     unfold listP at h
     replace h := bind_ok h
     obtain ⟨_, a2, m2, h2, h⟩ := h
     obtain ⟨r2, rfl⟩ := must_ok [w_open] (by decide) r.lo' r.hi h2
     obtain ⟨x, l, cs, n, g1, g2, g3, g4, g5, g6, g7, g8, g9, g10⟩ := parts_ok (.inr rfl) (ih 6) _ _ _ _ _ _ _ _ r2.lo' r2.hi (by omega) (by simp) h
     simp only [List.nil_append, List.length_nil, Nat.zero_add] at g1 g9 g10
     subst g1
     have hok := ok_many 6 (.inr rfl) cs (x :: l) (by simp; omega) g3 (fun h => by simpa using g7 h) g8
     refine ⟨?_, ⟨by show (1 : Int) ≤ 6; omega, by show (6 : Int) ≤ _; omega⟩, g6, ?_⟩
     ·have := r.app (r2.app g2)
      rw [goalW_eq, if_neg (by simp), if_neg (by simp), kidsW]
      simpa using this
     ·rw [sizeG_eq, hok, if_neg (by simp; omega), g4]
      simp at g5 ⊢; omega
end Go.SX

/-
 Plain: orders are read as they are written; what is read is written so.
-/
namespace Go.SX
/-- an order is read as it is written -/
theorem order_at {o : Order} (h : ordB o = true) (ws : List Wd) (hws : ws = orderW o) : orderP ws 0 11 = .ok o (ws.length : Int) (12 - manyG o.goal) := by
 simp only [ordB, Bool.and_eq_true, inB_iff] at h
 obtain ⟨⟨⟨⟨⟨⟨b1, b2⟩, b3⟩, b4⟩, b5⟩, b6⟩, b7⟩ := h
 obtain ⟨v1, v2, v3⟩ := (valid_law _).1 b7
 have hsz : sizeG o.goal 1 = some (manyG o.goal) := by rw [size_law, if_pos ⟨v1, by omega⟩]
 have hkind := (okG (by rw [allOK_eq, Bool.and_eq_true] at v1; exact v1.1)).kind
 have hlen : ws.length = 15 + (goalW o.goal).length := by rw [hws]; exact orderW_len o
 have d0 : ws.drop 0 = frontW o ++ (goalW o.goal ++ [w_dot]) := by rw [hws, orderW_eq, List.append_assoc]; rfl
 have d1 := tail_at d0
 have d2 := tail_at d1
 have d3 := tail_at d2
 have d4 := tail_at d3
 have d5 := tail_at d4
 have d6 := tail_at d5
 have d7 := tail_at d6
 have d8 := tail_at d7
 have d9 := tail_at d8
 have d10 := tail_at d9
 have d11 := tail_at d10
 have d12 := tail_at d11
 have d13 := tail_at d12
 have d14 : ws.drop 14 = goalW o.goal ++ [w_dot] := tail_at d13
 have d15 : ws.drop (14 + (goalW o.goal).length) = [w_dot] := drop_app d14
 unfold orderP
 rw [show (0 : Int) = ((0 : Nat) : Int) from rfl, must1 d0]
 dsimp only [Rs.bind]
 rw [num_at d1 (by omega) (by omega) (by omega) (by omega)]
 dsimp only
 rw [must1 d2]
 dsimp only
 rw [num_at d3 (by omega) (by omega) (by omega) (by omega)]
 dsimp only
 rw [must1 d4]
 dsimp only
 rw [num_at d5 (by omega) (by omega) (by omega) (by omega)]
 dsimp only
 rw [must1 d6]
 dsimp only
 have hgr : groupP ws ((0 + 1 + 1 + 1 + 1 + 1 + 1 + 1 : Nat) : Int) 11 = .ok o.group ((8 : Nat) : Int) 11 := by
  unfold groupP
  rw [peek_at d7]
  by_cases hg : o.group < 0
  ·rw [if_pos hg, if_pos rfl]
   have : o.group = -1 := by omega
   rw [this]; rfl
  ·rw [if_neg hg] at d7 ⊢
   have hn : itoaW o.group ≠ w_none := fun e => by
    have h1 := numW_itoa (n := o.group) (by omega) (by omega)
    rw [e] at h1
    have h2 : numW w_none = none := by decide
    rw [h2] at h1; cases h1
   rw [if_neg hn, num_at d7 (by omega) (by omega) (by omega) (by omega)]
 rw [hgr]
 dsimp only
 rw [word_at (by decide) d8]
 dsimp only
 rw [must1 d9]
 dsimp only
 rw [num_at d10 (by omega) (by omega) (by omega) (by omega)]
 dsimp only
 rw [must1 d11]
 dsimp only
 rw [num_at d12 (by omega) (by omega) (by omega) (by omega)]
 dsimp only
 rw [must1 d13]
 dsimp only
 rw [goal_at ws 4 1 (by omega) o.goal 5 (manyG o.goal) 14 11 [w_dot] hsz (by show o.goal.kind ≤ 6; omega) (by omega) d14]
 dsimp only
 rw [must1 d15]
 dsimp only
 rw [if_neg (by omega)]
 congr 1
 ·omega
 ·omega
theorem group_ok {ws : List Wd} {a m a' m' n : Int} (h0 : 0 ≤ a) (h1 : a ≤ ws.length) (h : groupP ws a m = .ok n a' m') : Reads ws a [if n < 0 then w_none else itoaW n] a' ∧ m' = m ∧ -1 ≤ n ∧ n ≤ 15 := by
 unfold groupP at h
 split at h
 ·rename_i e
  injection h with e1 e2 e3
  subst e1 e2 e3
  exact ⟨.one h0 h1 e (by decide), rfl, by omega, by omega⟩
 ·obtain ⟨r, e, b1, b2⟩ := num_ok h0 h1 h
  rw [if_neg (by omega)]
  exact ⟨r, e, by omega, b2⟩
/-- what is read as an order is written so -/
theorem order_ok {ws : List Wd} {o : Order} {a' m' : Int} (h : orderP ws 0 11 = .ok o a' m') : ws = orderW o ∧ ordB o = true ∧ a' = ws.length := by
 unfold orderP at h
 replace h := bind_ok h
 obtain ⟨_, a1, m1, h2, h⟩ := h
 obtain ⟨r1, rfl⟩ := must_ok [w_order] (by decide) (by omega) (by omega) h2
 replace h := bind_ok h
 obtain ⟨id, a2, m2, h2, h⟩ := h
 obtain ⟨r2, rfl, b1, b2⟩ := num_ok r1.lo' r1.hi h2
 replace h := bind_ok h
 obtain ⟨_, a3, m3, h2, h⟩ := h
 obtain ⟨r3, rfl⟩ := must_ok [w_by] (by decide) r2.lo' r2.hi h2
 replace h := bind_ok h
 obtain ⟨ow, a4, m4, h2, h⟩ := h
 obtain ⟨r4, rfl, b3, b4⟩ := num_ok r3.lo' r3.hi h2
 replace h := bind_ok h
 obtain ⟨_, a5, m5, h2, h⟩ := h
 obtain ⟨r5, rfl⟩ := must_ok [w_for] (by decide) r4.lo' r4.hi h2
 replace h := bind_ok h
 obtain ⟨pr, a6, m6, h2, h⟩ := h
 obtain ⟨r6, rfl, b5, b6⟩ := num_ok r5.lo' r5.hi h2
 replace h := bind_ok h
 obtain ⟨_, a7, m7, h2, h⟩ := h
 obtain ⟨r7, rfl⟩ := must_ok [w_group] (by decide) r6.lo' r6.hi h2
 replace h := bind_ok h
 obtain ⟨gr, a8, m8, h2, h⟩ := h
 obtain ⟨r8, rfl, b7, b8⟩ := group_ok r7.lo' r7.hi h2
 replace h := bind_ok h
 obtain ⟨ur, a9, m9, h2, h⟩ := h
 obtain ⟨r9, rfl⟩ := word_ok (by decide) (by decide) r8.lo' r8.hi h2
 replace h := bind_ok h
 obtain ⟨_, a10, m10, h2, h⟩ := h
 obtain ⟨r10, rfl⟩ := must_ok [w_known] (by decide) r9.lo' r9.hi h2
 replace h := bind_ok h
 obtain ⟨kn, a11, m11, h2, h⟩ := h
 obtain ⟨r11, rfl, b9, b10⟩ := num_ok r10.lo' r10.hi h2
 replace h := bind_ok h
 obtain ⟨_, a12, m12, h2, h⟩ := h
 obtain ⟨r12, rfl⟩ := must_ok [w_due] (by decide) r11.lo' r11.hi h2
 replace h := bind_ok h
 obtain ⟨du, a13, m13, h2, h⟩ := h
 obtain ⟨r13, rfl, b11, b12⟩ := num_ok r12.lo' r12.hi h2
 replace h := bind_ok h
 obtain ⟨_, a14, m14, h2, h⟩ := h
 obtain ⟨r14, rfl⟩ := must_ok [w_colon] (by decide) r13.lo' r13.hi h2
 replace h := bind_ok h
 obtain ⟨g, a15, m15, h2, h⟩ := h
 obtain ⟨r15, hk, hm15, hs⟩ := goal_ok ws 4 5 1 (by omega) _ _ _ _ _ r14.lo' r14.hi (by omega) h2
 replace h := bind_ok h
 obtain ⟨_, a16, m16, h2, h⟩ := h
 obtain ⟨r16, rfl⟩ := must_ok [w_dot] (by decide) r15.lo' r15.hi h2
 split at h
 ·cases h
 ·rename_i hlt
  injection h with e1 e2 e3
  subst e1 e2 e3
  have hend : a16 = ws.length := by have := r16.hi; omega
  have r := r1.app (r2.app (r3.app (r4.app (r5.app (r6.app (r7.app (r8.app (r9.app (r10.app (r11.app (r12.app (r13.app (r14.app (r15.app r16))))))))))))))
  have hd := r.eq
  rw [hend, show ((ws.length : Nat) : Int).toNat = ws.length from rfl, List.drop_length, List.append_nil] at hd
  refine ⟨?_, ?_, hend⟩
  ·rw [show ws = ws.drop (0 : Int).toNat from rfl, hd, orderW_eq]
   rfl
  ·simp only [ordB, Bool.and_eq_true, inB_iff]
   refine ⟨⟨⟨⟨⟨⟨⟨b1, b2⟩, ⟨b3, b4⟩⟩, ⟨b5, b6⟩⟩, ⟨b7, b8⟩⟩, ⟨b9, by omega⟩⟩, ⟨b11, b12⟩⟩, ?_⟩
   unfold validG
   rw [hs]
   simp; omega
/-- the text of an order is read as this order -/
theorem parse_print {o : Order} (h : ordB o = true) (hl : (joinW (orderW o)).length ≤ 20000) : parseS (joinW (orderW o)) = (o, ((orderW o).length : Int), 0) := by
 unfold parseS
 rw [if_neg (by omega), tokens_join, order_at h _ rfl]
/-- what is read as an order is the text of this order -/
theorem print_parse {s : Wd} {o : Order} {n e : Int} (h : parseS s = (o, n, e)) (he : e = 0) : ordB o = true ∧ printS o = (s, 0) ∧ n = (tokensW s).length := by
 subst he
 unfold parseS at h
 split at h
 ·simp at h
 ·split at h
  ·rename_i o' a m hp
   injection h with e1 e2
   injection e2 with e2 _
   subst e1 e2
   obtain ⟨h1, h2, h3⟩ := order_ok hp
   refine ⟨h2, ?_, h3⟩
   unfold printS
   rw [if_pos h2, ← h1, join_tokens]
  ·simp at h
/-- what is not read as an order -/
theorem parse_bad {s : Wd} {o : Order} {n e : Int} (h : parseS s = (o, n, e)) (he : e ≠ 0) : o = zeroO ∧ e = 130 := by
 unfold parseS at h
 split at h
 ·injection h with e1 e2; injection e2 with e2 e3; exact ⟨e1.symm, e3.symm⟩
 ·split at h
  ·injection h with e1 e2; injection e2 with e2 e3; exact absurd e3.symm he
  ·injection h with e1 e2; injection e2 with e2 e3; exact ⟨e1.symm, e3.symm⟩
end Go.SX

/-
 Plain: what is read depends on the words up to where it ends alone.
-/
namespace Go.SX
def endR {α : Type} : Rs α → Int
 | .ok _ a _ => a
 | .no a _ => a
/-- texts that are alike up to n; and at n, or the second one ends there -/
structure Alike (ws ws' : List Wd) (n : Int) : Prop where
 below : ∀ i : Int, 0 ≤ i → i < n → peekW ws' i = peekW ws i
 here : peekW ws' n = peekW ws n ∨ peekW ws' n = [32]
theorem Alike.cases {ws ws' : List Wd} {n a : Int} (h : Alike ws ws' n) (h0 : 0 ≤ a) (h1 : a ≤ n) : peekW ws' a = peekW ws a ∨ (a = n ∧ peekW ws' a = [32]) := by
 rcases Int.lt_or_eq_of_le h1 with h2 | h2
 ·exact .inl (h.below a h0 h2)
 ·subst h2
  rcases h.here with h3 | h3
  ·exact .inl h3
  ·exact .inr ⟨rfl, h3⟩
/-- reads on, and alike where the texts are alike -/
def Lk {α : Type} (n : Int) (P P' : Int → Int → Rs α) : Prop := ∀ a m, 0 ≤ a → a ≤ endR (P a m) ∧ (endR (P a m) ≤ n → P' a m = P a m)
theorem lk_ok {α : Type} {n : Int} (x : α) : Lk n (fun a m => (.ok x a m : Rs α)) (fun a m => .ok x a m) := fun a m _ => ⟨Int.le_refl _, fun _ => rfl⟩
theorem lk_no {α : Type} {n : Int} : Lk n (fun a m => (.no a m : Rs α)) (fun a m => .no a m) := fun a m _ => ⟨Int.le_refl _, fun _ => rfl⟩
theorem lk_bindQ {α β : Type} {n : Int} {P P' : Int → Int → Rs α} {K K' : α → Int → Int → Rs β} (Q : α → Prop) (hP : Lk n P P') (hQ : ∀ a m y b k, P a m = .ok y b k → Q y) (hK : ∀ y, Q y → Lk n (K y) (K' y)) : Lk n (fun a m => (P a m).bind (K · · ·)) (fun a m => (P' a m).bind (K' · · ·)) := fun a m h0 => by
 obtain ⟨h1, h2⟩ := hP a m h0
 cases hp : P a m with
 | no b k =>
  rw [hp] at h1 h2
  refine ⟨by simp only [hp]; exact h1, fun h => ?_⟩
  simp only [hp] at h ⊢
  rw [h2 h]
 | ok y b k =>
  rw [hp] at h1 h2
  have hb : a ≤ b := h1
  obtain ⟨h3, h4⟩ := hK y (hQ a m y b k hp) b k (by omega)
  refine ⟨by simp only [hp]; show a ≤ endR (K y b k); omega, fun h => ?_⟩
  simp only [hp] at h ⊢
  have h : endR (K y b k) ≤ n := h
  rw [h2 (by show b ≤ n; omega)]
  exact h4 h
theorem lk_bind {α β : Type} {n : Int} {P P' : Int → Int → Rs α} {K K' : α → Int → Int → Rs β} (hP : Lk n P P') (hK : ∀ y, Lk n (K y) (K' y)) : Lk n (fun a m => (P a m).bind (K · · ·)) (fun a m => (P' a m).bind (K' · · ·)) := lk_bindQ (fun _ => True) hP (fun _ _ _ _ _ _ => trivial) fun y _ => hK y
theorem lk_must {ws ws' : List Wd} {n : Int} (h : Alike ws ws' n) : ∀ (l : List Wd), (∀ s ∈ l, s ≠ [32]) → Lk n (mustW ws l) (mustW ws' l)
 | [], _ => fun a m _ => ⟨Int.le_refl _, fun _ => rfl⟩
 | s :: l, hl => fun a m h0 => by
  have ih := lk_must h l (fun x hx => hl x (List.mem_cons_of_mem _ hx)) (a + 1) m (by omega)
  rw [mustW, mustW]
  by_cases hp : peekW ws a = s
  ·rw [if_pos hp]
   refine ⟨by omega, fun he => ?_⟩
   rw [h.below a h0 (by omega), if_pos hp]
   exact ih.2 he
  ·rw [if_neg hp]
   refine ⟨Int.le_refl _, fun he => ?_⟩
   rw [if_neg]
   rcases h.cases h0 he with h1 | h1
   ·rw [h1]; exact hp
   ·rw [h1.2]; exact fun e => hl s (by simp) e.symm
theorem lk_num {ws ws' : List Wd} {n : Int} (h : Alike ws ws' n) (lo hi : Int) : Lk n (numP ws lo hi) (numP ws' lo hi) := fun a m h0 => by
 have hno : endR (numP ws lo hi a m) ≤ n → numP ws lo hi a m = .no a m → numP ws' lo hi a m = .no a m := fun he hn => by
  rw [hn] at he
  rcases h.cases h0 he with h1 | h1
  ·unfold numP at hn ⊢; rw [h1]; exact hn
  ·unfold numP; rw [h1.2, numW_blank]
 cases hw : numW (peekW ws a) with
 | none =>
  have e : numP ws lo hi a m = .no a m := by unfold numP; rw [hw]
  exact ⟨by rw [e]; exact Int.le_refl _, fun he => by rw [e]; exact hno he e⟩
 | some k =>
  by_cases hb : lo ≤ k ∧ k ≤ hi
  ·have e : numP ws lo hi a m = .ok k (a + 1) m := by unfold numP; rw [hw]; simp only; rw [if_pos hb]
   refine ⟨by rw [e]; show a ≤ a + 1; omega, fun he => ?_⟩
   rw [e] at he
   have he : a + 1 ≤ n := he
   unfold numP
   rw [h.below a h0 (by omega)]
  ·have e : numP ws lo hi a m = .no a m := by unfold numP; rw [hw]; simp only; rw [if_neg hb]
   exact ⟨by rw [e]; exact Int.le_refl _, fun he => by rw [e]; exact hno he e⟩
theorem lk_word {ws ws' : List Wd} {n : Int} (h : Alike ws ws' n) (s t : Wd) (hs : s ≠ [32]) (ht : t ≠ [32]) : Lk n (wordP ws s t) (wordP ws' s t) := fun a m h0 => by
 unfold wordP
 by_cases h1 : peekW ws a = s
 ·rw [if_pos h1]
  refine ⟨by show a ≤ a + 1; omega, fun he => ?_⟩
  have he : a + 1 ≤ n := he
  rw [h.below a h0 (by omega), if_pos h1]
 ·rw [if_neg h1]
  by_cases h2 : peekW ws a = t
  ·rw [if_pos h2]
   refine ⟨by show a ≤ a + 1; omega, fun he => ?_⟩
   have he : a + 1 ≤ n := he
   rw [h.below a h0 (by omega), if_neg h1, if_pos h2]
  ·rw [if_neg h2]
   refine ⟨Int.le_refl _, fun he => ?_⟩
   rcases h.cases h0 he with h3 | h3
   ·rw [h3, if_neg h1, if_neg h2]
   ·rw [h3.2, if_neg (Ne.symm hs), if_neg (Ne.symm ht)]
/-- goes on at a word, or ends -/
theorem lk_peek {α : Type} {ws ws' : List Wd} {n : Int} (h : Alike ws ws' n) (s : Wd) (hs : s ≠ [32]) {P P' : Int → Int → Rs α} {R R' : Int → Int → Rs α} (hP : Lk n P P') (hR : Lk n R R') (hx : ∀ a m, 0 ≤ a → peekW ws a = s → endR (P a m) ≤ a → R a m = P a m) : Lk n (fun a m => if peekW ws a = s then P a m else R a m) (fun a m => if peekW ws' a = s then P' a m else R' a m) := fun a m h0 => by
 by_cases h1 : peekW ws a = s
 ·simp only [if_pos h1]
  obtain ⟨p1, p2⟩ := hP a m h0
  refine ⟨p1, fun he => ?_⟩
  rcases h.cases h0 (by omega) with h2 | h2
  ·rw [h2, if_pos h1]; exact p2 he
  ·rw [h2.2, if_neg (Ne.symm hs)]
   have e := hx a m h0 h1 (by omega)
   obtain ⟨_, r2⟩ := hR a m h0
   rw [e] at r2
   exact r2 he
 ·simp only [if_neg h1]
  obtain ⟨p1, p2⟩ := hR a m h0
  refine ⟨p1, fun he => ?_⟩
  rw [if_neg, p2 he]
  rcases h.cases h0 (by omega) with h2 | h2
  ·rw [h2]; exact h1
  ·rw [h2.2]; exact Ne.symm hs
theorem num_bd {ws : List Wd} {lo hi a m n b k : Int} (h : numP ws lo hi a m = .ok n b k) : lo ≤ n ∧ n ≤ hi := by
 unfold numP at h
 split at h
 ·split at h
  ·rename_i hb; injection h with h; subst h; exact hb
  ·cases h
 ·cases h
/-! reads on -/
def Mn {α : Type} (P : Int → Int → Rs α) : Prop := ∀ a m, a ≤ endR (P a m)
theorem mn_bind {α β : Type} {P : Int → Int → Rs α} {K : α → Int → Int → Rs β} (hP : Mn P) (hK : ∀ y, Mn (K y)) : Mn (fun a m => (P a m).bind (K · · ·)) := fun a m => by
 have h := hP a m
 cases hp : P a m with
 | no b k => rw [hp] at h; simp only [hp]; exact h
 | ok y b k =>
  rw [hp] at h
  have h1 : a ≤ b := h
  have h2 := hK y b k
  simp only [hp]
  show a ≤ endR (K y b k)
  omega
theorem mn_must (ws : List Wd) : ∀ l, Mn (mustW ws l)
 | [] => fun a m => Int.le_refl _
 | s :: l => fun a m => by
  rw [mustW]
  split
  ·have := mn_must ws l (a + 1) m; omega
  ·exact Int.le_refl _
theorem mn_num (ws : List Wd) (lo hi : Int) : Mn (numP ws lo hi) := fun a m => by
 unfold numP
 split
 ·split
  ·show a ≤ a + 1; omega
  ·exact Int.le_refl _
 ·exact Int.le_refl _
theorem mn_if {α : Type} {ws : List Wd} {s : Wd} {P R : Int → Int → Rs α} (hP : Mn P) (hR : Mn R) : Mn (fun a m => if peekW ws a = s then P a m else R a m) := fun a m => by
 simp only
 split
 ·exact hP a m
 ·exact hR a m
theorem mn_area (ws : List Wd) : ∀ (fuel : Nat) (y c : Int) (rows : List Int), Mn (areaP ws fuel y c rows)
 | 0, y, c, rows => fun a m => Int.le_refl _
 | fuel + 1, y, c, rows => by
  show Mn (fun a m => areaP ws (fuel + 1) y c rows a m)
  simp only [areaP]
  by_cases hc : 48 ≤ c ∧ y = 23
  ·simp only [if_pos hc]; exact fun a m => Int.le_refl _
  ·simp only [if_neg hc]
   exact mn_bind (mn_must ws _) fun _ => mn_bind (mn_num ws _ _) fun row => mn_bind (mn_num ws _ _) fun x => mn_bind (mn_num ws _ _) fun z => mn_if (mn_area ws fuel row (z + 2) _) fun a m => Int.le_refl _
theorem area_strict {ws : List Wd} {fuel : Nat} {y c : Int} {rows : List Int} {a m : Int} (hc : ¬ (48 ≤ c ∧ y = 23)) (hp : peekW ws a = w_at) : a + 1 ≤ endR (areaP ws (fuel + 1) y c rows a m) := by
 rw [areaP, if_neg hc, mustW, if_pos hp, mustW]
 exact (mn_bind (mn_num ws _ _) fun row => mn_bind (mn_num ws _ _) fun x => mn_bind (mn_num ws _ _) fun z => mn_if (mn_area ws fuel row (z + 2) _) fun a m => Int.le_refl _) (a + 1) m
theorem lk_area {ws ws' : List Wd} {n : Int} (h : Alike ws ws' n) : ∀ (fuel : Nat) (y c : Int) (rows : List Int), 0 ≤ y → y ≤ 23 → 0 ≤ c → c ≤ 49 → (23 - y) * 25 + (49 - c) / 2 + 1 ≤ fuel → Lk n (areaP ws fuel y c rows) (areaP ws' fuel y c rows)
 | 0, y, c, rows, h1, h2, h3, h4, hf => by exfalso; omega
 | fuel + 1, y, c, rows, h1, h2, h3, h4, hf => by
  show Lk n (fun a m => areaP ws (fuel + 1) y c rows a m) (fun a m => areaP ws' (fuel + 1) y c rows a m)
  simp only [areaP]
  by_cases hc : 48 ≤ c ∧ y = 23
  ·simp only [if_pos hc]; exact lk_ok rows
  ·simp only [if_neg hc]
   refine lk_bind (lk_must h [w_at] (by decide)) fun _ => ?_
   refine lk_bindQ (fun row => y ≤ row ∧ row ≤ 23 ∧ (48 ≤ c → y < row)) (lk_num h _ _) (fun a m row b k e => ?_) fun row hrow => ?_
   ·have := num_bd e
    split at this <;> omega
   refine lk_bindQ (fun x => 0 ≤ x ∧ (row = y → c ≤ x)) (lk_num h _ _) (fun a m x b k e => ?_) fun x hx => ?_
   ·have hb := num_bd e
    refine ⟨?_, fun e => ?_⟩
    ·split at hb <;> omega
    ·subst e
     by_cases h48 : 48 ≤ c
     ·have := hrow.2.2 h48; omega
     ·rw [if_neg h48, if_neg (by omega)] at hb; omega
   refine lk_bindQ (fun z => x ≤ z ∧ z ≤ 47) (lk_num h _ _) (fun a m z b k e => num_bd e) fun z hz => ?_
   refine lk_peek h w_at (by decide) (lk_area h fuel row (z + 2) _ (by omega) (by omega) (by omega) (by omega) ?_) (lk_ok _) ?_
   ·rcases Int.lt_or_eq_of_le hrow.1 with hr | hr
    ·omega
    ·have := hx.2 hr.symm; omega
   ·intro a m h0 hp he
    cases fuel with
    | zero => exfalso; rcases Int.lt_or_eq_of_le hrow.1 with hr | hr; omega; have := hx.2 hr.symm; omega
    | succ fuel =>
     by_cases hc2 : 48 ≤ z + 2 ∧ row = 23
     ·rw [areaP, if_pos hc2]
     ·have := area_strict (fuel := fuel) (rows := rows.set row.toNat (bitop .or .i64 (rows.getD row.toNat 0) (maskW x z))) (m := m) hc2 hp
      omega
theorem lk_see {ws ws' : List Wd} {n : Int} (h : Alike ws ws' n) : Lk n (seeP ws) (seeP ws') := by
 refine lk_bind (lk_area h 1200 0 0 _ (by omega) (by omega) (by omega) (by omega) (by omega)) fun rows => ?_
 refine lk_bind (lk_must h [w_from] (by decide)) fun _ => lk_bind (lk_num h _ _) fun f => ?_
 refine lk_bind (lk_must h [w_to] (by decide)) fun _ => lk_bind (lk_num h _ _) fun t => ?_
 refine lk_bind (lk_must h [w_sun] (by decide)) fun _ => lk_bind (lk_num h _ _) fun lo => ?_
 refine lk_bind (lk_must h [w_to] (by decide)) fun _ => lk_bind (lk_num h _ _) fun hi => ?_
 exact lk_bind (lk_word h _ _ (by decide) (by decide)) fun c => lk_ok _
theorem lk_pair {ws ws' : List Wd} {n : Int} (h : Alike ws ws' n) {sub sub' : Int → Int → Rs Goal} (hs : Lk n sub sub') : Lk n (pairP ws sub) (pairP ws' sub') := by
 refine lk_bind (lk_must h [w_looks] (by decide)) fun _ => lk_bind (lk_num h _ _) fun f => ?_
 refine lk_bind (lk_must h [w_within] (by decide)) fun _ => lk_bind (lk_num h _ _) fun t => ?_
 exact lk_bind (lk_must h [w_of] (by decide)) fun _ => lk_bind hs fun k => lk_ok _
theorem lk_every {ws ws' : List Wd} {n : Int} (h : Alike ws ws' n) {sub sub' : Int → Int → Rs Goal} (hs : Lk n sub sub') : Lk n (everyP ws sub) (everyP ws' sub') := by
 refine lk_bind (lk_num h _ _) fun d => lk_bind (lk_must h [w_days] (by decide)) fun _ => lk_bind (lk_num h _ _) fun t => ?_
 refine lk_bind (lk_must h [w_times, w_apart] (by decide)) fun _ => lk_bind (lk_num h _ _) fun wi => ?_
 refine lk_bind (lk_must h [w_from] (by decide)) fun _ => lk_bind (lk_num h _ _) fun f => ?_
 exact lk_bind (lk_must h [w_of] (by decide)) fun _ => lk_bind hs fun k => lk_ok _
theorem lk_del {ws ws' : List Wd} {n : Int} (h : Alike ws ws' n) {sub sub' : Int → Int → Rs Goal} (hs : Lk n sub sub') : Lk n (delP ws sub) (delP ws' sub') := by
 refine lk_bind (lk_must h [w_within] (by decide)) fun _ => lk_bind (lk_num h _ _) fun t => ?_
 exact lk_bind (lk_must h [w_of] (by decide)) fun _ => lk_bind hs fun k => lk_ok _
theorem lk_step {α : Type} {n : Int} {P P' : Int → Int → Rs α} (hP : Lk n P P') : ∀ a m, 0 ≤ a → a + 1 ≤ endR (P (a + 1) m) ∧ (endR (P (a + 1) m) ≤ n → P' (a + 1) m = P (a + 1) m) := fun a m h0 => hP (a + 1) m (by omega)
theorem lk_parts {ws ws' : List Wd} {n : Int} (h : Alike ws ws' n) {sub sub' : Int → Int → Rs Goal} (hs : Lk n sub sub') (k : Int) : ∀ (fuel : Nat) (cents : List Int) (kids : List Goal), Lk n (partsP ws sub k fuel cents kids) (partsP ws' sub' k fuel cents kids)
 | 0, cents, kids => lk_no
 | fuel + 1, cents, kids => by
  show Lk n (fun a m => partsP ws sub k (fuel + 1) cents kids a m) (fun a m => partsP ws' sub' k (fuel + 1) cents kids a m)
  simp only [partsP]
  have hc : Lk n (fun a m => (if k = 6 then (numP ws 0 1000000000 a m).bind fun c a m => .ok (cents ++ [c]) a m else .ok cents a m : Rs (List Int))) (fun a m => if k = 6 then (numP ws' 0 1000000000 a m).bind fun c a m => .ok (cents ++ [c]) a m else .ok cents a m) := by
   by_cases hk : k = 6
   ·simp only [if_pos hk]; exact lk_bind (lk_num h _ _) fun c => lk_ok _
   ·simp only [if_neg hk]; exact lk_ok _
  refine lk_bind hc fun cents1 => lk_bind hs fun g => ?_
  have more : ∀ kids', Lk n (fun a m => (mustW ws [w_comma] a m).bind fun _ a m => partsP ws sub k fuel cents1 kids' a m) (fun a m => (mustW ws' [w_comma] a m).bind fun _ a m => partsP ws' sub' k fuel cents1 kids' a m) := fun kids' => lk_bind (lk_must h [w_comma] (by decide)) fun _ => lk_parts h hs k fuel cents1 kids'
  by_cases hl : 1 < kids.length + 1
  ·simp only [if_pos hl]
   intro a m h0
   by_cases hp : peekW ws a = w_close
   ·simp only [if_pos hp]
    refine ⟨by show a ≤ a + 1; omega, fun he => ?_⟩
    have he : a + 1 ≤ n := he
    rw [h.below a h0 (by omega), if_pos hp]
   ·simp only [if_neg hp]
    have hnc : a ≤ n → ¬ peekW ws' a = w_close := fun he => by
     rcases h.cases h0 he with h2 | h2
     ·rw [h2]; exact hp
     ·rw [h2.2]; decide
    by_cases hc : kids.length + 1 = 4 ∨ m = 0
    ·simp only [if_pos hc]
     refine ⟨Int.le_refl _, fun he => ?_⟩
     rw [if_neg (hnc he)]
    ·simp only [if_neg hc]
     obtain ⟨p1, p2⟩ := more (kids ++ [g]) a (m - 1) h0
     refine ⟨p1, fun he => ?_⟩
     rw [if_neg (hnc (Int.le_trans p1 he))]
     exact p2 he
  ·simp only [if_neg hl]
   exact more _
theorem lk_list {ws ws' : List Wd} {n : Int} (h : Alike ws ws' n) {sub sub' : Int → Int → Rs Goal} (hs : Lk n sub sub') (k : Int) : Lk n (listP ws sub k) (listP ws' sub' k) :=
 lk_bind (lk_must h [w_open] (by decide)) fun _ => lk_parts h hs k 5 [] []
theorem lk_goal {ws ws' : List Wd} {n : Int} (h : Alike ws ws' n) : ∀ (f : Nat) (of_ d : Int), Lk n (goalP ws f of_ d) (goalP ws' f of_ d)
 | 0, of_, d => lk_no
 | f + 1, of_, d => fun a m h0 => by
  have ih := fun o => lk_goal h f o (d + 1)
  rw [goalP, goalP]
  have hno : a ≤ n → (formW (peekW ws a) = none → formW (peekW ws' a) = none) := fun he hn => by
   rcases h.cases h0 he with h1 | h1
   ·rw [h1]; exact hn
   ·rw [h1.2]; rfl
  cases hf : formW (peekW ws a) with
  | none =>
   refine ⟨Int.le_refl _, fun he => ?_⟩
   rw [hno he hf]
  | some p =>
   obtain ⟨k, needs⟩ := p
   simp only
   by_cases hc : lastK of_ < k ∨ m < needs ∨ (0 < needs ∧ d = 4)
   ·simp only [if_pos hc]
    refine ⟨Int.le_refl _, fun he => ?_⟩
    rcases h.cases h0 he with h1 | h1
    ·rw [h1, hf]; simp only [if_pos hc]
    ·rw [h1.2]; rfl
   ·simp only [if_neg hc]
    have key : ∀ {P P' : Int → Int → Rs Goal}, Lk n P P' → a ≤ endR (P (a + 1) (m - needs)) ∧ (endR (P (a + 1) (m - needs)) ≤ n → P' (a + 1) (m - needs) = P (a + 1) (m - needs) ∧ formW (peekW ws' a) = some (k, needs)) := fun hP => by
     obtain ⟨p1, p2⟩ := hP (a + 1) (m - needs) (by omega)
     exact ⟨by omega, fun he => ⟨p2 he, by rw [h.below a h0 (by omega)]; exact hf⟩⟩
    by_cases k1 : k = 1
    ·simp only [if_pos k1]
     obtain ⟨p1, p2⟩ := key (lk_see h)
     exact ⟨p1, fun he => by rw [(p2 he).2]; simp only [if_neg hc, if_pos k1]; exact (p2 he).1⟩
    ·simp only [if_neg k1]
     by_cases k2 : k = 2
     ·simp only [if_pos k2]
      obtain ⟨p1, p2⟩ := key (lk_pair h (ih 2))
      exact ⟨p1, fun he => by rw [(p2 he).2]; simp only [if_neg hc, if_neg k1, if_pos k2]; exact (p2 he).1⟩
     ·simp only [if_neg k2]
      by_cases k3 : k = 3
      ·simp only [if_pos k3]
       obtain ⟨p1, p2⟩ := key (lk_every h (ih 3))
       exact ⟨p1, fun he => by rw [(p2 he).2]; simp only [if_neg hc, if_neg k1, if_neg k2, if_pos k3]; exact (p2 he).1⟩
      ·simp only [if_neg k3]
       by_cases k4 : k = 4
       ·simp only [if_pos k4]
        obtain ⟨p1, p2⟩ := key (lk_del h (ih 4))
        exact ⟨p1, fun he => by rw [(p2 he).2]; simp only [if_neg hc, if_neg k1, if_neg k2, if_neg k3, if_pos k4]; exact (p2 he).1⟩
       ·simp only [if_neg k4]
        obtain ⟨p1, p2⟩ := key (lk_list h (ih k) k)
        exact ⟨p1, fun he => by rw [(p2 he).2]; simp only [if_neg hc, if_neg k1, if_neg k2, if_neg k3, if_neg k4]; exact (p2 he).1⟩
theorem lk_group {ws ws' : List Wd} {n : Int} (h : Alike ws ws' n) : Lk n (groupP ws) (groupP ws') := fun a m h0 => by
 obtain ⟨p1, p2⟩ := lk_num h 0 15 a m h0
 unfold groupP
 by_cases hp : peekW ws a = w_none
 ·simp only [if_pos hp]
  refine ⟨by show a ≤ a + 1; omega, fun he => ?_⟩
  have he : a + 1 ≤ n := he
  rw [h.below a h0 (by omega), if_pos hp]
 ·simp only [if_neg hp]
  refine ⟨p1, fun he => ?_⟩
  rw [if_neg, p2 he]
  rcases h.cases h0 (by omega) with h2 | h2
  ·rw [h2]; exact hp
  ·rw [h2.2]; decide
/-- an order, and what follows it -/
def orderC (ws : List Wd) (T : Order → Int → Int → Rs Order) (a m : Int) : Rs Order :=
 (mustW ws [w_order] a m).bind fun _ a m => (numP ws 0 63 a m).bind fun id a m =>
 (mustW ws [w_by] a m).bind fun _ a m => (numP ws 0 15 a m).bind fun owner a m =>
 (mustW ws [w_for] a m).bind fun _ a m => (numP ws 0 1000000000 a m).bind fun price a m =>
 (mustW ws [w_group] a m).bind fun _ a m => (groupP ws a m).bind fun group a m =>
 (wordP ws w_urgent w_plain a m).bind fun urgent a m =>
 (mustW ws [w_known] a m).bind fun _ a m => (numP ws 0 999999 a m).bind fun known a m =>
 (mustW ws [w_due] a m).bind fun _ a m => (numP ws (known + 1) 1000000 a m).bind fun due a m =>
 (mustW ws [w_colon] a m).bind fun _ a m => (goalP ws 4 5 1 a m).bind fun goal a m =>
 (mustW ws [w_dot] a m).bind fun _ a m => T ⟨id, owner, goal, price, group, urgent, known, due⟩ a m
def endP (ws : List Wd) (o : Order) (a m : Int) : Rs Order := if a < ws.length then .no a m else .ok o a m
theorem orderP_eq (ws : List Wd) (a m : Int) : orderP ws a m = orderC ws (endP ws) a m := rfl
theorem bind_assoc {α β γ : Type} (x : Rs α) (f : α → Int → Int → Rs β) (g : β → Int → Int → Rs γ) : (x.bind f).bind g = x.bind fun y a m => (f y a m).bind g := by cases x <;> rfl
theorem orderC_bind (ws : List Wd) (T : Order → Int → Int → Rs Order) (a m : Int) : orderC ws T a m = (orderC ws (fun o a m => .ok o a m) a m).bind T := by
 simp only [orderC, bind_assoc]
theorem lk_order {ws ws' : List Wd} {n : Int} (h : Alike ws ws' n) {T T' : Order → Int → Int → Rs Order} (hT : ∀ o, Lk n (T o) (T' o)) : Lk n (orderC ws T) (orderC ws' T') := by
 refine lk_bind (lk_must h [w_order] (by decide)) fun _ => lk_bind (lk_num h _ _) fun id => ?_
 refine lk_bind (lk_must h [w_by] (by decide)) fun _ => lk_bind (lk_num h _ _) fun owner => ?_
 refine lk_bind (lk_must h [w_for] (by decide)) fun _ => lk_bind (lk_num h _ _) fun price => ?_
 refine lk_bind (lk_must h [w_group] (by decide)) fun _ => lk_bind (lk_group h) fun group => ?_
 refine lk_bind (lk_word h _ _ (by decide) (by decide)) fun urgent => ?_
 refine lk_bind (lk_must h [w_known] (by decide)) fun _ => lk_bind (lk_num h _ _) fun known => ?_
 refine lk_bind (lk_must h [w_due] (by decide)) fun _ => lk_bind (lk_num h _ _) fun due => ?_
 refine lk_bind (lk_must h [w_colon] (by decide)) fun _ => lk_bind (lk_goal h 4 5 1) fun goal => ?_
 exact lk_bind (lk_must h [w_dot] (by decide)) fun _ => hT _
end Go.SX

/-
 Plain: what stands after the first wrong word plays no part; a text that is cut off before it is wrong where it ends.
-/
namespace Go.SX
/-! the words of an order, but for its end -/
def WordsAre (Q : Wd → Prop) (l : List Wd) : Prop := ∀ w ∈ l, Q w
theorem WordsAre.nil {Q : Wd → Prop} : WordsAre Q [] := fun w h => by cases h
theorem WordsAre.cons {Q : Wd → Prop} {w : Wd} {l : List Wd} (h : Q w) (hl : WordsAre Q l) : WordsAre Q (w :: l) := fun x hx => by
 rcases List.mem_cons.1 hx with rfl | hx
 ·exact h
 ·exact hl x hx
theorem WordsAre.app {Q : Wd → Prop} {a b : List Wd} (h : WordsAre Q a) (h' : WordsAre Q b) : WordsAre Q (a ++ b) := fun x hx => by
 rcases List.mem_append.1 hx with hx | hx
 ·exact h x hx
 ·exact h' x hx
/-- the fixed words, but for the last one -/
def litW : List Wd := [w_order, w_by, w_for, w_group, w_none, w_plain, w_urgent, w_known, w_due, w_colon, w_see, w_at, w_from, w_to, w_sun, w_clear, w_any, w_pair, w_looks, w_within, w_of, w_every, w_days, w_times, w_apart, w_deliver, w_all, w_open, w_close, w_comma]
structure QW (Q : Wd → Prop) : Prop where
 num : ∀ n, Q (itoaW n)
 lit : ∀ w ∈ litW, Q w
theorem runW_q {Q : Wd → Prop} (q : QW Q) (y : Nat) (p : Nat × Nat) : WordsAre Q (runW y p) := .cons (q.lit _ (by decide)) (.cons (q.num _) (.cons (q.num _) (.cons (q.num _) .nil)))
theorem flat_q {Q : Wd → Prop} {α : Type} (f : α → List Wd) (h : ∀ a, WordsAre Q (f a)) : ∀ l : List α, WordsAre Q (l.flatMap f)
 | [] => .nil
 | a :: l => by rw [List.flatMap_cons]; exact (h a).app (flat_q f h l)
theorem rowsW_q {Q : Wd → Prop} (q : QW Q) : ∀ (y : Nat) (l : List Int), WordsAre Q (rowsW y l)
 | _, [] => .nil
 | y, r :: l => (flat_q _ (runW_q q y) _).app (rowsW_q q (y + 1) l)
theorem seeW_q {Q : Wd → Prop} (q : QW Q) (g : Goal) : WordsAre Q (seeW g) := by
 unfold seeW
 refine .app (.cons (q.lit _ (by decide)) (rowsW_q q _ _)) (.cons (q.lit _ (by decide)) (.cons (q.num _) (.cons (q.lit _ (by decide)) (.cons (q.num _) (.cons (q.lit _ (by decide)) (.cons (q.num _) (.cons (q.lit _ (by decide)) (.cons (q.num _) (.cons ?_ .nil)))))))))
 split
 ·exact q.lit _ (by decide)
 ·exact q.lit _ (by decide)
theorem headW_q {Q : Wd → Prop} (q : QW Q) (g : Goal) : WordsAre Q (headW g) := by
 unfold headW
 split
 ·exact .cons (q.lit _ (by decide)) (.cons (q.lit _ (by decide)) (.cons (q.num _) (.cons (q.lit _ (by decide)) (.cons (q.num _) (.cons (q.lit _ (by decide)) .nil)))))
 ·split
  ·exact .cons (q.lit _ (by decide)) (.cons (q.num _) (.cons (q.lit _ (by decide)) (.cons (q.num _) (.cons (q.lit _ (by decide)) (.cons (q.lit _ (by decide)) (.cons (q.num _) (.cons (q.lit _ (by decide)) (.cons (q.num _) (.cons (q.lit _ (by decide)) .nil)))))))))
  ·exact .cons (q.lit _ (by decide)) (.cons (q.lit _ (by decide)) (.cons (q.num _) (.cons (q.lit _ (by decide)) .nil)))
mutual
theorem goalW_q {Q : Wd → Prop} (q : QW Q) : ∀ g : Goal, WordsAre Q (goalW g)
 | ⟨kind, rows, from_, to_, low, high, clear, days, times, within, cents, kids⟩ => by
  rw [goalW]
  split
  ·exact seeW_q q _
  ·split
   ·exact (headW_q q _).app (firstW_q q kids)
   ·refine .app (.app (.cons ?_ (.cons (q.lit _ (by decide)) .nil)) (kidsW_q q _ _ _ kids)) (.cons (q.lit _ (by decide)) .nil)
    split
    ·exact q.lit _ (by decide)
    ·exact q.lit _ (by decide)
theorem firstW_q {Q : Wd → Prop} (q : QW Q) : ∀ l : List Goal, WordsAre Q (firstW l)
 | [] => .nil
 | k :: _ => by rw [firstW]; exact goalW_q q k
theorem kidsW_q {Q : Wd → Prop} (q : QW Q) : ∀ (any first : Bool) (cents : List Int) (l : List Goal), WordsAre Q (kidsW any first cents l)
 | _, _, _, [] => by rw [kidsW]; exact .nil
 | any, first, cents, k :: l => by
  rw [kidsW]
  refine .app (.app (.app ?_ ?_) (goalW_q q k)) (kidsW_q q _ _ _ l)
  ·split
   ·exact .nil
   ·exact .cons (q.lit _ (by decide)) .nil
  ·split
   ·exact .cons (q.num _) .nil
   ·exact .nil
end
theorem frontW_q {Q : Wd → Prop} (q : QW Q) (o : Order) : WordsAre Q (frontW o) := by
 unfold frontW
 refine .cons (q.lit _ (by decide)) (.cons (q.num _) (.cons (q.lit _ (by decide)) (.cons (q.num _) (.cons (q.lit _ (by decide)) (.cons (q.num _) (.cons (q.lit _ (by decide)) (.cons ?_ (.cons ?_ (.cons (q.lit _ (by decide)) (.cons (q.num _) (.cons (q.lit _ (by decide)) (.cons (q.num _) (.cons (q.lit _ (by decide)) .nil)))))))))))))
 ·split
  ·exact q.lit _ (by decide)
  ·exact q.num _
 ·split
  ·exact q.lit _ (by decide)
  ·exact q.lit _ (by decide)
theorem dot_q : QW (fun w => w ≠ w_dot) := by
 refine ⟨fun n e => ?_, by decide⟩
 have h : ∀ f k : Nat, (46 : UInt8) ∉ itoaF f k := by
  intro f
  induction f with
  | zero => intro k; simp [itoaF]
  | succ f ih =>
   intro k
   have hd : ∀ k : Nat, k < 10 → (46 : UInt8) ≠ UInt8.ofNat (48 + k) := by decide
   unfold itoaF
   split
   ·rename_i h
    simp only [List.mem_singleton]
    exact hd k h
   ·simp only [List.mem_append, List.mem_singleton, not_or]
    exact ⟨ih _, hd _ (Nat.mod_lt _ (by omega))⟩
 have h2 : (46 : UInt8) ∉ itoaW n := by
  unfold itoaW
  split
  ·simp only [List.mem_cons, not_or]; exact ⟨by decide, h _ _⟩
  ·exact h _ _
 rw [e] at h2
 exact h2 (by decide)
/-! peeks -/
theorem peek_nat {ws : List Wd} {i : Nat} (h : i < ws.length) : peekW ws i = ws.getD i [] := by
 unfold peekW; rw [if_neg (by omega)]; rfl
theorem peek_take {ws : List Wd} {n i : Nat} (h : i < n) (hn : n ≤ ws.length) : peekW (ws.take n) i = peekW ws i := by
 rw [peek_nat (by rw [List.length_take]; omega), peek_nat (by omega), List.getD_eq_getElem?_getD, List.getElem?_take, if_pos h, ← List.getD_eq_getElem?_getD]
theorem alike_cut {ws : List Wd} {n : Nat} (hn : n ≤ ws.length) : Alike ws (ws.take n) n := by
 refine ⟨fun i h0 h1 => ?_, .inr ?_⟩
 ·obtain ⟨i, rfl⟩ := Int.eq_ofNat_of_zero_le h0
  exact peek_take (by omega) hn
 ·unfold peekW; rw [if_pos (by rw [List.length_take]; omega)]
theorem alike_more {ws r : List Wd} {n : Nat} (hn : n < ws.length) : Alike ws (ws.take (n + 1) ++ r) n := by
 have key : ∀ i : Nat, i ≤ n → peekW (ws.take (n + 1) ++ r) i = peekW ws i := fun i hi => by
  rw [peek_nat (by rw [List.length_append, List.length_take]; omega), peek_nat (by omega), List.getD_eq_getElem?_getD, List.getElem?_append_left (by rw [List.length_take]; omega), List.getElem?_take, if_pos (by omega), ← List.getD_eq_getElem?_getD]
 refine ⟨fun i h0 h1 => ?_, .inl (key n (Nat.le_refl _))⟩
 obtain ⟨i, rfl⟩ := Int.eq_ofNat_of_zero_le h0
 exact key i (by omega)
theorem lk_end {ws ws' : List Wd} {n : Int} (h1 : n < ws.length) (h2 : n < ws'.length) (o : Order) : Lk n (endP ws o) (endP ws' o) := fun a m h0 => by
 unfold endP
 by_cases h : a < ws.length
 ·rw [if_pos h]
  refine ⟨Int.le_refl _, fun he => ?_⟩
  have he : a ≤ n := he
  rw [if_pos (by omega)]
 ·rw [if_neg h]
  exact ⟨Int.le_refl _, fun he => by exfalso; have he : a ≤ n := he; omega⟩
/-- a longer text is wrong at the same word -/
theorem wrong_more {ws r : List Wd} {n : Nat} {m : Int} (h : orderP ws 0 11 = .no n m) (hn : n < ws.length) : orderP (ws.take (n + 1) ++ r) 0 11 = .no n m := by
 rw [orderP_eq] at h ⊢
 have := (lk_order (alike_more (r := r) hn) (fun o => lk_end (ws := ws) (ws' := ws.take (n + 1) ++ r) (by omega) (by rw [List.length_append, List.length_take]; omega) o) 0 11 (Int.le_refl _)).2
 rw [h] at this
 exact this (Int.le_refl _)
/-- a text that is cut off there is wrong at its end, unless it is a whole order -/
theorem wrong_cut {ws : List Wd} {n : Nat} {m : Int} (h : orderP ws 0 11 = .no n m) (hn : n ≤ ws.length) (hw : ∀ o, ws.take n = orderW o → ordB o = true → n = ws.length) : orderP (ws.take n) 0 11 = .no n m := by
 rcases Nat.lt_or_eq_of_le hn with hlt | heq
 ·rw [orderP_eq, orderC_bind] at h ⊢
  have hlk := (lk_order (alike_cut hn) (fun o => lk_ok (n := (n : Int)) o) 0 11 (Int.le_refl _)).2
  have hlen : (ws.take n).length = n := by rw [List.length_take]; omega
  cases hc : orderC ws (fun o a m => .ok o a m) 0 11 with
  | no b k =>
   rw [hc] at h hlk
   injection h with e1 e2
   subst e1 e2
   rw [hlk (Int.le_refl _)]
  | ok o b k =>
   rw [hc] at h hlk
   have h : endP ws o b k = .no n m := h
   unfold endP at h
   split at h
   ·injection h with e1 e2
    subst e1 e2
    exfalso
    have e := hlk (Int.le_refl _)
    have hp : orderP (ws.take n) 0 11 = .ok o n k := by
     rw [orderP_eq, orderC_bind, e]
     show endP (ws.take n) o n k = _
     unfold endP
     rw [if_neg (by rw [hlen]; omega)]
    obtain ⟨q1, q2, q3⟩ := order_ok hp
    have := hw o q1 q2
    omega
   ·cases h
 ·rw [heq, List.take_length]; rw [heq] at h; exact h
/-- an order in which a word is replaced does not begin with another order -/
theorem no_begin {o o' : Order} {i n : Nat} {v : Wd} (ho : ordB o = true) (ho' : ordB o' = true) (h : ((orderW o).set i v).take n = orderW o') (hn : n ≤ (orderW o).length) : n = (orderW o).length := by
 have hlen : (orderW o').length = n := by rw [← h, List.length_take, List.length_set]; omega
 have hL := orderW_len o'
 have hL0 := orderW_len o
 rcases Nat.lt_or_eq_of_le hn with hlt | heq
 ·exfalso
  -- the last word of the beginning is the replaced one
  have hdot : ((orderW o).set i v)[n - 1]? = some w_dot := by
   have h1 : (orderW o')[n - 1]? = some w_dot := by
    rw [orderW_eq, List.getElem?_append_right (by rw [List.length_append, frontW_len]; omega)]
    rw [List.length_append, frontW_len, show n - 1 - (14 + (goalW o'.goal).length) = 0 by omega]; rfl
   rw [← h, List.getElem?_take, if_pos (by omega)] at h1
   exact h1
  have hi : i = n - 1 := by
   apply Classical.byContradiction
   intro hne
   rw [List.getElem?_set_ne hne, orderW_eq, List.getElem?_append_left (by rw [List.length_append, frontW_len]; omega)] at hdot
   have hm := List.mem_of_getElem? hdot
   exact (((frontW_q dot_q o).app (goalW_q dot_q o.goal)) _ hm) rfl
  subst hi
  -- so what is ahead of it is unchanged
  have hbeg : (orderW o).take (n - 1) = frontW o' ++ goalW o'.goal := by
   have h1 := congrArg (List.take (n - 1)) h
   rw [List.take_take, Nat.min_eq_left (by omega), List.take_set_of_le (Nat.le_refl _), orderW_eq o', List.take_left' (by rw [List.length_append, frontW_len]; omega)] at h1
   exact h1
  have hws : orderW o = frontW o' ++ goalW o'.goal ++ (orderW o).drop (n - 1) := by rw [← hbeg, List.take_append_drop]
  simp only [ordB, Bool.and_eq_true, inB_iff] at ho ho'
  obtain ⟨v1, v2, v3⟩ := (valid_law _).1 ho.2
  obtain ⟨u1, u2, u3⟩ := (valid_law _).1 ho'.2
  have hs1 : sizeG o.goal 1 = some (manyG o.goal) := by rw [size_law, if_pos ⟨v1, by omega⟩]
  have hs2 : sizeG o'.goal 1 = some (manyG o'.goal) := by rw [size_law, if_pos ⟨u1, by omega⟩]
  have k1 := (okG (by rw [allOK_eq, Bool.and_eq_true] at v1; exact v1.1)).kind
  have k2 := (okG (by rw [allOK_eq, Bool.and_eq_true] at u1; exact u1.1)).kind
  have d1 : (orderW o).drop 14 = goalW o.goal ++ [w_dot] := by
   rw [orderW_eq, List.append_assoc]; exact List.drop_left' (frontW_len o)
  have d2 : (orderW o).drop 14 = goalW o'.goal ++ (orderW o).drop (n - 1) := by
   have := congrArg (List.drop 14) hws
   rw [List.append_assoc, List.drop_left' (frontW_len o')] at this
   exact this
  have g1 := goal_at (orderW o) 4 1 (by omega) o.goal 5 (manyG o.goal) 14 11 _ hs1 (by show o.goal.kind ≤ 6; omega) (by omega) d1
  have g2 := goal_at (orderW o) 4 1 (by omega) o'.goal 5 (manyG o'.goal) 14 11 _ hs2 (by show o'.goal.kind ≤ 6; omega) (by omega) d2
  rw [g1] at g2
  injection g2 with e1 e2 e3
  omega
 ·exact heq
/-! texts -/
theorem splitW_nb : ∀ s : Wd, NB (splitW s)
 | [] => .cons (by simp) .nil
 | c :: s => by
  have ih := splitW_nb s
  rw [splitW]
  split
  ·exact .cons (by simp) ih
  ·rename_i hc
   cases hs : splitW s with
   | nil => exact absurd hs (splitW_ne s)
   | cons t l =>
    rw [hs] at ih
    refine .cons ?_ fun x hx => ih x (List.mem_cons_of_mem _ hx)
    have := ih t (by simp)
    simp only [List.mem_cons, not_or]
    exact ⟨Ne.symm hc, this⟩
theorem joinTail_app (a b : List Wd) : Go.Lib.joinTail [32] (a ++ b) = Go.Lib.joinTail [32] a ++ Go.Lib.joinTail [32] b := by
 unfold Go.Lib.joinTail
 rw [List.map_append, List.flatten_append]
theorem joinW_app (w x : Wd) (l m : List Wd) : joinW (w :: l ++ x :: m) = joinW (w :: l) ++ 32 :: joinW (x :: m) := by
 unfold joinW
 rw [List.cons_append, Go.Lib.join_cons, Go.Lib.join_cons, Go.Lib.join_cons, joinTail_app, List.append_assoc]
 rfl
theorem tokens_many {w : Wd} {l : List Wd} (h : NB (w :: l)) (hw : w ≠ [] ∨ l ≠ []) : tokensW (joinW (w :: l)) = w :: l := by
 have e : joinW (w :: l) = w ++ Go.Lib.joinTail [32] l := Go.Lib.join_cons _ _ _
 have hne : joinW (w :: l) ≠ [] := by
  rw [e]
  rcases hw with hw | hw
  ·simp [hw]
  ·cases l with
   | nil => exact absurd rfl hw
   | cons x l =>
    show w ++ (32 :: x ++ Go.Lib.joinTail [32] l) ≠ []
    simp
 unfold tokensW
 rw [if_neg hne, e, splitW_joinTail l w h]
theorem first_word {ws : List Wd} {n : Nat} {m : Int} (h : orderP ws 0 11 = .no n m) (hn : 1 ≤ n) : peekW ws 0 = w_order := by
 apply Classical.byContradiction
 intro hp
 unfold orderP at h
 rw [mustW, if_neg hp] at h
 injection h with h1 h2
 omega
/-- what OrderFirstWrong says -/
theorem first_wrong {o : Order} {y : List A5} (hg : o.goal = goalS y) (ho : ordB o = true) (i : Nat) (v : Wd) (hv : v ∈ orderW o) (ws : List Wd) (hws : ws = (orderW o).set i v) (q : Order) (n e : Int) (hbd : (orderP ws 0 11).Bd ws 0 11) (hp : parseS (joinW ws) = (q, n, e)) :
    (e = 0 → n = ws.length) ∧ (e ≠ 0 → e = 130 ∧ 0 ≤ n ∧ n ≤ ws.length ∧ parseS (joinW (ws.take n.toNat)) = (zeroO, n, 130) ∧ (n < ws.length → ∀ s : Wd, s.length ≤ 60 → parseS (joinW (ws.take (n.toNat + 1)) ++ 32 :: s) = (zeroO, n, 130))) := by
  obtain ⟨l1, l2⟩ := made_len hg
  have hL := orderW_len o
  have hwl : ws.length = (orderW o).length := by rw [hws, List.length_set]
  have hmem : ∀ w ∈ ws, w ∈ orderW o := fun w hw => by
    rw [hws] at hw
    rcases List.mem_or_eq_of_mem_set hw with h | h
    · exact h
    · rw [h]; exact hv
  have hnb : NB ws := fun w hw => orderW_nb o w (hmem w hw)
  have hsh : Sh ws := fun w hw => orderW_sh o w (hmem w hw)
  obtain ⟨w, x, l, hwx⟩ : ∃ w x l, ws = w :: x :: l := by
    match ws, hwl with
    | [], h => simp at h; omega
    | [a], h => simp at h; omega
    | a :: b :: c, _ => exact ⟨a, b, c, rfl⟩
  have htok : tokensW (joinW ws) = ws := by
    rw [hwx] at hnb ⊢
    exact tokens_many hnb (.inr (by simp))
  have hjl := joinW_len hsh
  unfold parseS at hp
  rw [if_neg (by omega), htok] at hp
  cases hr : orderP ws 0 11 with
  | ok o' a m =>
    rw [hr] at hp
    injection hp with e1 e2
    injection e2 with e2 e3
    obtain ⟨_, _, h3⟩ := order_ok hr
    exact ⟨fun _ => by omega, fun h => absurd e3.symm h⟩
  | no a m =>
    rw [hr] at hp
    injection hp with e1 e2
    injection e2 with e2 e3
    subst e2 e3
    rw [hr] at hbd
    have ha0 : 0 ≤ a := hbd.at1
    have ha1 : a ≤ ws.length := hbd.at2
    obtain ⟨n, rfl⟩ := Int.eq_ofNat_of_zero_le ha0
    have hsub : ∀ k, NB (ws.take k) := fun k w hw => hnb w (List.mem_of_mem_take hw)
    have hsub2 : ∀ k, Sh (ws.take k) := fun k w hw => hsh w (List.mem_of_mem_take hw)
    have htk : ∀ k, (joinW (ws.take k)).length ≤ 22 * 555 := fun k => by
      have := joinW_len (hsub2 k)
      rw [List.length_take] at this
      omega
    have hhead : 1 ≤ n → w = w_order := fun h1 => by
      have := first_word hr h1
      rw [hwx] at this
      exact this
    refine ⟨fun h => absurd h (by decide), fun _ => ⟨rfl, ha0, ha1, ?_, fun hlt s hs => ?_⟩⟩
    · have hcut := wrong_cut hr (by omega) (fun o' h1 h2 => by
        rw [hws] at h1
        have := no_begin ho h2 h1 (by omega)
        omega)
      have ht : tokensW (joinW (ws.take n)) = ws.take n := by
        rcases Nat.eq_zero_or_pos n with h0 | h0
        · rw [h0, List.take_zero]; rfl
        · obtain ⟨k, rfl⟩ : ∃ k, n = k + 1 := ⟨n - 1, by omega⟩
          have hN := hsub (k + 1)
          rw [hwx, List.take_succ_cons] at hN ⊢
          exact tokens_many hN (.inl (by rw [hhead h0]; decide))
      show parseS (joinW (ws.take n)) = _
      unfold parseS
      have := htk n
      rw [if_neg (by omega), ht, hcut]
    · have hmore := wrong_more (r := splitW s) hr (by omega)
      show parseS (joinW (ws.take (n + 1)) ++ 32 :: s) = _
      have hN := hsub (n + 1)
      have hj := htk (n + 1)
      have hT : ws.take (n + 1) = w :: (x :: l).take n := by rw [hwx, List.take_succ_cons]
      obtain ⟨t, r, hs1⟩ : ∃ t r, splitW s = t :: r := by
        cases h : splitW s with
        | nil => exact absurd h (splitW_ne s)
        | cons t r => exact ⟨t, r, rfl⟩
      have hjs : joinW (ws.take (n + 1)) ++ 32 :: s = joinW (ws.take (n + 1) ++ splitW s) := by
        rw [hT, hs1, joinW_app, ← hs1, join_split]
      have ht : tokensW (joinW (ws.take (n + 1) ++ splitW s)) = ws.take (n + 1) ++ splitW s := by
        have hNN := hN.app (splitW_nb s)
        rw [hT, List.cons_append] at hNN ⊢
        exact tokens_many hNN (.inr (by rw [hs1]; simp))
      unfold parseS
      rw [if_neg (by rw [List.length_append, List.length_cons]; omega), hjs, ht, hmore]
end Go.SX

namespace Go.SX
open Go.Proofs
set_option maxHeartbeats 4000000
set_option maxRecDepth 100000
theorem joinW_snoc (l : List Wd) (i : Nat) (h : i < l.length) : joinW (l.take (i + 1)) = joinW (l.take i) ++ (if i = 0 then [] else [32]) ++ l.getD (i : Int).toNat (Cd.dflt U.str) := by
 rw [take_getD (d := Cd.dflt U.str) h]
 show joinW (l.take i ++ [l.getD i (Cd.dflt U.str)]) = joinW (l.take i) ++ _ ++ l.getD i (Cd.dflt U.str)
 cases i with
 | zero =>
  rw [List.take_zero, List.nil_append, if_pos rfl]
  unfold joinW
  rw [Go.Lib.join_nil, Go.Lib.join_cons]
  show _ ++ Go.Lib.joinTail [32] [] = _
  unfold Go.Lib.joinTail
  simp
 | succ i =>
  rw [if_neg (by omega)]
  cases l with
  | nil => simp at h
  | cons w l =>
   rw [List.take_succ_cons]
   unfold joinW
   rw [List.cons_append, Go.Lib.join_cons, Go.Lib.join_cons, joinTail_app, List.append_assoc, List.append_assoc]
   congr 2
   unfold Go.Lib.joinTail
   simp
theorem rfjoin (l : List Wd) (hsh : Sh l) (hl : l.length ≤ 1000) : Meets Tryz.prog Dc 31 [wsS l] [] (wS (joinW l)) [] := by
 have hlen : ∀ i, (joinW (l.take i)).length ≤ 22000 := fun i => by
  have := joinW_len (l := l.take i) (fun w hw => hsh w (List.mem_of_mem_take hw))
  rw [List.length_take] at this
  omega
 have hs := joinW_snoc l
 have h0 : joinW (l.take 0) = [] := by rw [List.take_zero]; exact Go.Lib.join_nil _
 have hw : ∀ i, i < l.length → (l.getD (i : Int).toNat (Cd.dflt U.str)).length ≤ 21 := fun i h => hsh _ (List.mem_of_getElem? (getD_some (d := Cd.dflt U.str) h))
 generalize hJ : (fun i => joinW (l.take i)) = J
 have e : ∀ i, joinW (l.take i) = J i := fun i => by rw [← hJ]
 have hall : joinW l = J l.length := by rw [← e, List.take_length]
 simp only [e] at hlen hs h0
 rw [hall]
 clear hall e hJ hsh
 refine meets_of_gx Ax tab_ok Tryz.func31 (c := _) rfl Tryz.call31 100 ?_
 (repeat' ((conv => whnf); first | (exfalso; omega) | refine x0C ?_ | refine spC (fun hb => ?_) fun hb => ?_ | refine nilC (fun hb => ?_) ?_ | refine taC ?_ | refine saC ?_ | exact sdV | refine side_and ?_ ?_ | refine drawX_of mixed ?_))
 refine loop_up (fun q : Nat × Wd => [(3, wS q.2), (4, iS q.1)]) (fun _ => []) (fun q => q.1 ≤ l.length ∧ q.2 = J q.1) (fun q => l.length - q.1) (0, []) ⟨Nat.zero_le _, h0.symm⟩ (by exact bkI) ?_
 rintro ⟨i, B⟩ ⟨hi, hB⟩ K hK
 dsimp only at hi hB hK ⊢
 have hBl := hlen i
 rw [← hB] at hBl
 rcases Nat.lt_or_ge i l.length with hlt | hge
 ·have hsi := hs i hlt
  have hwi := hw i hlt
  rw [← hB] at hsi
  clear hs hw hlen
  rcases Nat.eq_zero_or_pos i with hi0 | hi0
  ·rw [if_pos hi0, List.append_nil] at hsi
   (repeat' ((conv => whnf); first | (exfalso; omega) | refine hK (i + 1, B ++ l.getD (i : Int).toNat (Cd.dflt U.str)) [] _ _ ⟨⟨by dsimp only; omega, hsi.symm⟩⟩ ⟨by dsimp only; omega⟩ (by exact bkI) | refine x0C ?_ | refine spC (fun hb => ?_) fun hb => ?_ | refine nilC (fun hb => ?_) ?_ | refine taC ?_ | refine saC ?_ | exact sdV | refine side_and ?_ ?_ | refine drawX_of mixed ?_))
  ·rw [if_neg (by omega)] at hsi
   have hX : (B ++ (⟨#[32]⟩ : ByteArray).data.toList).length = B.length + 1 := by simp
   (repeat' ((conv => whnf); first | (exfalso; omega) | refine hK (i + 1, B ++ [32] ++ l.getD (i : Int).toNat (Cd.dflt U.str)) [] _ _ ⟨⟨by dsimp only; omega, hsi.symm⟩⟩ ⟨by dsimp only; omega⟩ (by exact bkI) | refine x0C ?_ | refine spC (fun hb => ?_) fun hb => ?_ | refine nilC (fun hb => ?_) ?_ | refine taC ?_ | refine saC ?_ | exact sdV | refine side_and ?_ ?_ | refine drawX_of mixed ?_))
 ·have hil : i = l.length := by omega
  rw [← hil, ← hB]
  (repeat' ((conv => whnf); first | (exfalso; omega) | (refine end_fn [] (.inr rfl) ?_ ?_ rfl rfl; (focus exact vwV); exact hsV) | refine x0C ?_ | refine spC (fun hb => ?_) fun hb => ?_ | refine nilC (fun hb => ?_) ?_ | refine taC ?_ | refine saC ?_ | exact sdV | refine side_and ?_ ?_ | refine drawX_of mixed ?_))
@[reducible] def wrS (n : Nat) : SV Cd := .slice 0 0 1 0 n
theorem lwrong (l : List Int) (hl : l.length = 7) (hz : ∀ z ∈ l, I64 z) (y : List A5) (hy : ∀ z ∈ y, A5OK z) (hyl : (y.length : Int) ≤ 9223372036854775807) (at_ : Int) (hat : I64 at_) (ot : Int) (hot : I64 ot) (s : Wd) (hsl : (s.length : Int) ≤ 9223372036854775807) : Meets Tryz.prog Dc 6 [a7A l, a5S y, iS at_, iS ot, wS s] [] (bS true) [] := by
 have hs := lsane
 have hm := lmade l hl hz y hy hyl
 have ho := made_ord l y
 have hgo : (madeS l y).goal = goalS y := rfl
 obtain ⟨hw1, hw2⟩ := made_len (o := madeS l y) (y := y) rfl
 generalize madeS l y = o at *
 have hL := orderW_len o
 have hwd := rfwords o ho
 have hnb := orderW_nb o
 have hsh := orderW_sh o
 have hfw := fun i v hv ws hws q n e => first_wrong (y := y) hgo ho i v hv ws hws q n e
 generalize hW : orderW o = W at *
 have hp1 := pickL at_ W.length (by unfold I64 at hat; omega) (by omega)
 have hp2 := pickL ot W.length (by unfold I64 at hot; omega) (by omega)
 have b1 := pickS_bd (c := at_) (n := W.length) (by omega)
 have b2 := pickS_bd (c := ot) (n := W.length) (by omega)
 refine meets_of_gx Ax tab_ok Tryz.func6 (c := _) rfl Tryz.call6 600 ?_
 (repeat' ((conv => whnf); first | (exfalso; omega) | refine cpC (hs) ?_ | refine dpC (hs) ?_ | refine cpC (hm) ?_ | refine dpC (hm) ?_ | (refine callh [] hwd rfl rfl trivial ?_) | refine cpC (hp1) ?_ | refine dpC (hp1) ?_ | refine cpC (hp2) ?_ | refine dpC (hp2) ?_ | refine x0C ?_ | refine spC (fun hb => ?_) fun hb => ?_ | refine nilC (fun hb => ?_) ?_ | refine taC ?_ | refine saC ?_ | exact sdV | refine side_and ?_ ?_ | refine drawX_of mixed ?_))
 have hv : W.getD (0 + (pickS ot W.length).toNat) (Cd.dflt U.str) ∈ W := List.mem_of_getElem? (getD_some (d := Cd.dflt U.str) (by omega))
 generalize hws : W.set (0 + (pickS at_ W.length).toNat) (W.getD (0 + (pickS ot W.length).toNat) (Cd.dflt U.str)) = ws
 have hfw := fun q n e => hfw _ _ hv ws hws.symm q n e (orderP_bd ⟨by omega, by omega, by omega, by omega⟩)
 have hwl : ws.length = W.length := by rw [← hws, List.length_set]
 have hwsh : Sh ws := fun w hw => by
  rw [← hws] at hw
  rcases List.mem_or_eq_of_mem_set hw with h | h
  ·exact hsh w h
  ·rw [h]; exact hsh _ hv
 clear hs hm hwd hp1 hp2 hws hv
 have hT : List.take W.length (List.drop 0 ws) = ws := by rw [List.drop_zero, List.take_of_length_le (by omega)]
 have hj : Meets Tryz.prog Dc 31 [wsS (List.take W.length (List.drop 0 ws))] [] (wS (joinW ws)) [] := by
  rw [hT]; exact rfjoin ws hwsh (by omega)
 have hjl := joinW_len hwsh
 obtain ⟨q, n, e, hpq⟩ : ∃ q n e, parseS (joinW ws) = (q, n, e) := ⟨_, _, _, rfl⟩
 obtain ⟨hf0, hf1⟩ := hfw q n e hpq
 have hpa := oparse (joinW ws) (by omega)
 unfold retP at hpa
 rw [hpq] at hpa
 dsimp only at hpa
 by_cases he : e = 0
 ·have hn := hf0 he
  subst he
  (repeat' ((conv => whnf); first | refine x0C (eB ?_ rfl) | (exfalso; omega) | (refine rdC hj ?_) | refine cpC (hpa) ?_ | refine dpC (hpa) ?_ | refine x0C ?_ | refine spC (fun hb => ?_) fun hb => ?_ | refine nilC (fun hb => ?_) ?_ | refine taC ?_ | refine saC ?_ | exact sdV | refine side_and ?_ ?_ | refine drawX_of mixed ?_))
  all_goals exact decide_eq_true (by omega)
 ·obtain ⟨rfl, hn0, hn1, hcut, hmore⟩ := hf1 he
  have htl : (joinW (ws.take n.toNat)).length ≤ 22 * 555 := by
   have := joinW_len (l := ws.take n.toNat) fun w hw => hwsh w (List.mem_of_mem_take hw)
   rw [List.length_take] at this
   omega
  have htl2 : (joinW (ws.take (n.toNat + 1))).length ≤ 22 * 555 := by
   have := joinW_len (l := ws.take (n.toNat + 1)) fun w hw => hwsh w (List.mem_of_mem_take hw)
   rw [List.length_take] at this
   omega
  have hpb := oparse (joinW (ws.take n.toNat)) (by omega)
  unfold retP at hpb
  rw [hcut] at hpb
  dsimp only at hpb
  have hj2 := rfjoin (ws.take n.toNat) (fun w hw => hwsh w (List.mem_of_mem_take hw)) (by rw [List.length_take]; omega)
  by_cases hnl : n = W.length
  ·clear hmore hfw
   (repeat' ((conv => whnf); first | refine x0C (eB ?_ rfl) | (exfalso; omega) | (refine rdC hj ?_) | refine cpC (hpa) ?_ | refine dpC (hpa) ?_ | (refine rdC hj2 ?_) | refine cpC (hpb) ?_ | refine dpC (hpb) ?_ | refine x0C ?_ | refine spC (fun hb => ?_) fun hb => ?_ | refine nilC (fun hb => ?_) ?_ | refine taC ?_ | refine saC ?_ | exact sdV | refine side_and ?_ ?_ | refine drawX_of mixed ?_))
   all_goals rfl
  ·have hTl : (List.drop (Int.toNat 0) (List.take (min (s.length : Int) 60).toNat s)).length ≤ 60 := by rw [List.length_drop, List.length_take]; omega
   have hmore := hmore (by omega) _ hTl
   rw [show joinW (ws.take (n.toNat + 1)) ++ 32 :: List.drop (Int.toNat 0) (List.take (min (s.length : Int) 60).toNat s) = joinW (ws.take (n.toNat + 1)) ++ [32] ++ List.drop (Int.toNat 0) (List.take (min (s.length : Int) 60).toNat s) by simp] at hmore
   have hj3 : Meets Tryz.prog Dc 31 [wsS (ws.take (n + 1).toNat)] [] (wS (joinW (ws.take (n.toNat + 1)))) [] := by
    rw [show (n + 1).toNat = n.toNat + 1 by omega]
    exact rfjoin (ws.take (n.toNat + 1)) (fun w hw => hwsh w (List.mem_of_mem_take hw)) (by rw [List.length_take]; omega)
   have hX : (joinW (ws.take (n.toNat + 1)) ++ (⟨#[32]⟩ : ByteArray).data.toList).length = (joinW (ws.take (n.toNat + 1))).length + 1 := by simp
   have hpc := oparse (joinW (ws.take (n.toNat + 1)) ++ [32] ++ List.drop (Int.toNat 0) (List.take (min (s.length : Int) 60).toNat s)) (by rw [List.length_append, List.length_append, List.length_singleton]; omega)
   unfold retP at hpc
   rw [hmore] at hpc
   dsimp only at hpc
   clear hmore hfw
   have jm : Meets Tryz.prog Dc 31 [.slice 0 0 1 (0 + Int.toNat 0) ((n + 1).toNat - Int.toNat 0)] [.rows U.str ws] (wS (joinW (ws.take (n.toNat + 1)))) [.rows U.str ws] :=
    mownC hj3 ⟨⟨fzV rfl rfl rfl (by simp; omega) (by simp) rfl, trivial⟩⟩ rfl
   (repeat' ((conv => whnf); first | refine x0C (eB ?_ rfl) | (exfalso; omega) | (refine rdC hj ?_) | refine cpC (hpa) ?_ | refine dpC (hpa) ?_ | (refine rdC hj2 ?_) | refine cpC (hpb) ?_ | refine dpC (hpb) ?_ | (refine dcallh [some 1] jm rfl rfl ⟨rfl, trivial⟩ ?_) | refine cpC (hpc) ?_ | refine dpC (hpc) ?_ | refine x0C ?_ | refine spC (fun hb => ?_) fun hb => ?_ | refine nilC (fun hb => ?_) ?_ | refine taC ?_ | refine saC ?_ | exact sdV | refine side_and ?_ ?_ | refine drawX_of mixed ?_))
   all_goals rfl
end Go.SX
