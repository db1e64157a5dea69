/-
  Plain: goals and orders are read as they are written; what is read is written so.
-/
import Derived.Test.YtijedffphgckmaaGreatDoorSxUd3
import Derived.Test.YtijedffphgckmaaGreatDoorSxUb9
import Derived.Test.YtijedffphgckmaaGreatDoorSxTq0
set_option linter.unusedVariables false
set_option linter.unusedSimpArgs false
namespace Go.SX
/-! forms -/
theorem sizeG_pos {g : Goal} {d n : Int} (h : sizeG g d = some n) : 1 ≤ n := (goalW_len g d n h).2
end Go.SX

/-
 Plain: what is read is written so.
-/
namespace Go.SX
def GotG (ws : List Wd) (sub : Int → Int → Rs Goal) (of_ d : Int) : Prop := ∀ (a m : Int) (g : Goal) (a' m' : Int), 0 ≤ a → a ≤ ws.length → 0 ≤ m → sub a m = .ok g a' m' → Reads ws a (goalW g) a' ∧ (1 ≤ g.kind ∧ g.kind ≤ lastK of_) ∧ 0 ≤ m' ∧ sizeG g d = some (m - m' + 1)
theorem ok_see (rows : List Int) (f t lo hi : Int) (c : Bool) (h1 : areaB rows = true) (h2 : rows.any (fun r => decide (r ≠ 0)) = true) (h3 : 0 ≤ f ∧ f ≤ 1000000) (h4 : f + 1 ≤ t ∧ t ≤ 1000000) (h5 : 0 ≤ lo ∧ lo ≤ 90) (h6 : lo ≤ hi ∧ hi ≤ 90) : okB ⟨1, rows, f, t, lo, hi, c, 0, 0, 0, [], []⟩ = true := by
 unfold okB plainB restG limB partsB manyB centsB
 simp only [h1, h2]
 simp [inB_iff]
 omega
theorem ok_pair (lo wi : Int) (k : Goal) (h1 : 1 ≤ lo ∧ lo ≤ 8) (h2 : 1 ≤ wi ∧ wi ≤ 1000000) (hk : k.kind ≤ 1) : okB ⟨2, [], 0, 0, lo, 0, false, 0, 0, wi, [], [k]⟩ = true := by
 unfold okB plainB restG limB partsB manyB centsB lastK
 simp [inB_iff]
 omega
theorem ok_every (f d t wi : Int) (k : Goal) (h1 : 1 ≤ d ∧ d ≤ 60) (h2 : 1 ≤ t ∧ t ≤ 6) (h3 : 0 ≤ wi ∧ wi ≤ 1440 * d) (h4 : 0 ≤ f ∧ f ≤ 1000000) (hk : k.kind ≤ 1) : okB ⟨3, [], f, 0, 0, 0, false, d, t, wi, [], [k]⟩ = true := by
 unfold okB plainB restG limB partsB manyB centsB lastK
 simp [inB_iff]
 omega
theorem ok_del (wi : Int) (k : Goal) (h1 : 0 ≤ wi ∧ wi ≤ 1000000) (hk : k.kind ≤ 3) : okB ⟨4, [], 0, 0, 0, 0, false, 0, 0, wi, [], [k]⟩ = true := by
 unfold okB plainB restG limB partsB manyB centsB lastK
 simp [inB_iff]
 omega
theorem ok_many (k : Int) (hk : k = 5 ∨ k = 6) (cs : List Int) (l : List Goal) (h1 : 2 ≤ l.length ∧ l.length ≤ 4) (h2 : ∀ x ∈ l, x.kind ≤ 6) (h3 : k = 6 → cs.length = l.length ∧ ∀ c ∈ cs, 0 ≤ c ∧ c ≤ 1000000000) (h4 : k = 5 → cs = []) : okB ⟨k, [], 0, 0, 0, 0, false, 0, 0, 0, cs, l⟩ = true := by
 have hl : lastK k = 6 := by unfold lastK; rw [if_neg (by omega), if_neg (by omega)]
 have e1 : partsB ⟨k, [], 0, 0, 0, 0, false, 0, 0, 0, cs, l⟩ = true := by
  simp only [partsB, Bool.and_eq_true, Bool.or_eq_true, decide_eq_true_eq, Bool.not_eq_true', List.any_eq_false, hl]
  refine ⟨⟨⟨?_, ?_⟩, .inr rfl⟩, fun x hx => by have := h2 x hx; omega⟩
  ·unfold manyB; rw [if_neg (show ¬ k = 1 by omega), if_pos hk, inB_iff]; show (2 : Int) ≤ (l.length : Int) ∧ (l.length : Int) ≤ 4; omega
  ·unfold centsB
   split
   ·rename_i h6
    obtain ⟨x1, x2⟩ := h3 h6
    simp only [Bool.and_eq_true, decide_eq_true_eq, Bool.not_eq_true', List.any_eq_false]
    exact ⟨by omega, fun c hc => by simpa [inB_iff] using x2 c hc⟩
   ·rename_i h6
    have : k = 5 := by simp only at h6; omega
    rw [h4 this]; rfl
 have e2 : limB ⟨k, [], 0, 0, 0, 0, false, 0, 0, 0, cs, l⟩ = true := by
  unfold limB; rw [if_neg (by simp only; omega), if_neg (by simp only; omega), if_neg (by simp only; omega), if_neg (by simp only; omega)]
 have e3 : restG ⟨k, [], 0, 0, 0, 0, false, 0, 0, 0, cs, l⟩ = ⟨k, [], 0, 0, 0, 0, false, 0, 0, 0, [], []⟩ := by
  unfold restG; rw [if_neg (by simp only; omega), if_neg (by simp only; omega), if_neg (by simp only; omega), if_neg (by simp only; omega)]
 unfold okB
 rw [e1, e2, e3]
 simp only [Bool.and_true, Bool.and_eq_true]
 exact ⟨(inB_iff _ _ _).2 (by show 1 ≤ k ∧ k ≤ 6; omega), by simp [plainB]⟩
theorem size_one {g k : Goal} {d n : Int} (hok : okB g = true) (hd : d ≤ 4) (hg : g.kids = [k]) (hn : sizeG k (d + 1) = some n) : sizeG g d = some (1 + n) := by
 rw [sizeG_eq, hok, hg, if_neg (by simp; omega), sizeL, hn, sizeL]
 simp
theorem size_none {g : Goal} {d : Int} (hok : okB g = true) (hd : d ≤ 4) (hg : g.kids = []) : sizeG g d = some 1 := by
 rw [sizeG_eq, hok, hg, if_neg (by simp; omega), sizeL]
 simp
theorem see_ok2 {ws : List Wd} {a m a' m' : Int} {g : Goal} {d : Int} (hd : d ≤ 4) (h0 : 0 ≤ a) (h1 : a ≤ ws.length) (h : seeP ws a m = .ok g a' m') : ∃ l, goalW g = w_see :: l ∧ Reads ws a l a' ∧ g.kind = 1 ∧ m' = m ∧ sizeG g d = some 1 := by
 unfold seeP at h
 replace h := bind_ok h
 obtain ⟨rows, a1, m1, h2, h⟩ := h
 obtain ⟨L, k1, k2, r1, rfl, rfl⟩ := area_ok 1200 0 0 _ _ _ _ _ _ h0 h1 h2
 have hne : L ≠ [] := fun e => by have := k2 e; omega
 obtain ⟨p1, p2, p3⟩ := area_read k1
 replace h := bind_ok h
 obtain ⟨_, a2, m2, h2, h⟩ := h
 obtain ⟨r2, rfl⟩ := must_ok [w_from] (by decide) r1.lo' r1.hi h2
 replace h := bind_ok h
 obtain ⟨f, a3, m3, h2, h⟩ := h
 obtain ⟨r3, rfl, b1, b2⟩ := num_ok r2.lo' r2.hi h2
 replace h := bind_ok h
 obtain ⟨_, a4, m4, h2, h⟩ := h
 obtain ⟨r4, rfl⟩ := must_ok [w_to] (by decide) r3.lo' r3.hi h2
 replace h := bind_ok h
 obtain ⟨t, a5, m5, h2, h⟩ := h
 obtain ⟨r5, rfl, b3, b4⟩ := num_ok r4.lo' r4.hi h2
 replace h := bind_ok h
 obtain ⟨_, a6, m6, h2, h⟩ := h
 obtain ⟨r6, rfl⟩ := must_ok [w_sun] (by decide) r5.lo' r5.hi h2
 replace h := bind_ok h
 obtain ⟨lo, a7, m7, h2, h⟩ := h
 obtain ⟨r7, rfl, b5, b6⟩ := num_ok r6.lo' r6.hi h2
 replace h := bind_ok h
 obtain ⟨_, a8, m8, h2, h⟩ := h
 obtain ⟨r8, rfl⟩ := must_ok [w_to] (by decide) r7.lo' r7.hi h2
 replace h := bind_ok h
 obtain ⟨hi, a9, m9, h2, h⟩ := h
 obtain ⟨r9, rfl, b7, b8⟩ := num_ok r8.lo' r8.hi h2
 replace h := bind_ok h
 obtain ⟨c, a10, m10, h2, h⟩ := h
 obtain ⟨r10, rfl⟩ := word_ok (by decide) (by decide) r9.lo' r9.hi h2
 injection h with e1 e2 e3
 subst e1 e2 e3
 refine ⟨_, ?_, r1.app (r2.app (r3.app (r4.app (r5.app (r6.app (r7.app (r8.app (r9.app r10)))))))), rfl, rfl, size_none (ok_see _ _ _ _ _ _ p2 (p3 hne) (by omega) (by omega) (by omega) (by omega)) hd rfl⟩
 rw [goalW_eq, if_pos rfl, seeW, p1]
 rfl
theorem pair_ok {ws : List Wd} {sub : Int → Int → Rs Goal} {d : Int} (hd : d + 1 ≤ 4) (ih : GotG ws sub 2 (d + 1)) {a m a' m' : Int} {g : Goal} (h0 : 0 ≤ a) (h1 : a ≤ ws.length) (hm : 0 ≤ m) (h : pairP ws sub a m = .ok g a' m') : ∃ l, goalW g = w_pair :: l ∧ Reads ws a l a' ∧ g.kind = 2 ∧ 0 ≤ m' ∧ sizeG g d = some (m - m' + 2) := by
 unfold pairP at h
 replace h := bind_ok h
 obtain ⟨_, a2, m2, h2, h⟩ := h
 obtain ⟨r2, rfl⟩ := must_ok [w_looks] (by decide) h0 h1 h2
 replace h := bind_ok h
 obtain ⟨lo, a3, m3, h2, h⟩ := h
 obtain ⟨r3, rfl, b1, b2⟩ := num_ok r2.lo' r2.hi h2
 replace h := bind_ok h
 obtain ⟨_, a4, m4, h2, h⟩ := h
 obtain ⟨r4, rfl⟩ := must_ok [w_within] (by decide) r3.lo' r3.hi h2
 replace h := bind_ok h
 obtain ⟨wi, a5, m5, h2, h⟩ := h
 obtain ⟨r5, rfl, b3, b4⟩ := num_ok r4.lo' r4.hi h2
 replace h := bind_ok h
 obtain ⟨_, a6, m6, h2, h⟩ := h
 obtain ⟨r6, rfl⟩ := must_ok [w_of] (by decide) r5.lo' r5.hi h2
 replace h := bind_ok h
 obtain ⟨k, a7, m7, h2, h⟩ := h
 obtain ⟨r7, hk, hm7, hs⟩ := ih _ _ _ _ _ r6.lo' r6.hi hm h2
 injection h with e1 e2 e3
 subst e1 e2 e3
 refine ⟨_, ?_, r2.app (r3.app (r4.app (r5.app (r6.app r7)))), rfl, hm7, ?_⟩
 ·rw [goalW_eq, if_neg (by simp), if_pos (.inl rfl), firstW, headW, if_pos rfl]
  rfl
 ·rw [size_one (ok_pair _ _ _ (by omega) (by omega) hk.2) (by omega) rfl hs]
  congr 1; omega
theorem every_ok {ws : List Wd} {sub : Int → Int → Rs Goal} {d : Int} (hd : d + 1 ≤ 4) (ih : GotG ws sub 3 (d + 1)) {a m a' m' : Int} {g : Goal} (h0 : 0 ≤ a) (h1 : a ≤ ws.length) (hm : 0 ≤ m) (h : everyP ws sub a m = .ok g a' m') : ∃ l, goalW g = w_every :: l ∧ Reads ws a l a' ∧ g.kind = 3 ∧ 0 ≤ m' ∧ sizeG g d = some (m - m' + 2) := by
 unfold everyP at h
 replace h := bind_ok h
 obtain ⟨dy, a1, m1, h2, h⟩ := h
 obtain ⟨r1, rfl, b1, b2⟩ := num_ok h0 h1 h2
 replace h := bind_ok h
 obtain ⟨_, a2, m2, h2, h⟩ := h
 obtain ⟨r2, rfl⟩ := must_ok [w_days] (by decide) r1.lo' r1.hi h2
 replace h := bind_ok h
 obtain ⟨ti, a3, m3, h2, h⟩ := h
 obtain ⟨r3, rfl, b3, b4⟩ := num_ok r2.lo' r2.hi h2
 replace h := bind_ok h
 obtain ⟨_, a4, m4, h2, h⟩ := h
 obtain ⟨r4, rfl⟩ := must_ok [w_times, w_apart] (by decide) r3.lo' r3.hi h2
 replace h := bind_ok h
 obtain ⟨wi, a5, m5, h2, h⟩ := h
 obtain ⟨r5, rfl, b5, b6⟩ := num_ok r4.lo' r4.hi h2
 replace h := bind_ok h
 obtain ⟨_, a6, m6, h2, h⟩ := h
 obtain ⟨r6, rfl⟩ := must_ok [w_from] (by decide) r5.lo' r5.hi h2
 replace h := bind_ok h
 obtain ⟨f, a7, m7, h2, h⟩ := h
 obtain ⟨r7, rfl, b7, b8⟩ := num_ok r6.lo' r6.hi h2
 replace h := bind_ok h
 obtain ⟨_, a8, m8, h2, h⟩ := h
 obtain ⟨r8, rfl⟩ := must_ok [w_of] (by decide) r7.lo' r7.hi h2
 replace h := bind_ok h
 obtain ⟨k, a9, m9, h2, h⟩ := h
 obtain ⟨r9, hk, hm9, hs⟩ := ih _ _ _ _ _ r8.lo' r8.hi hm h2
 injection h with e1 e2 e3
 subst e1 e2 e3
 refine ⟨_, ?_, r1.app (r2.app (r3.app (r4.app (r5.app (r6.app (r7.app (r8.app r9))))))), rfl, hm9, ?_⟩
 ·rw [goalW_eq, if_neg (by simp), if_pos (.inr (.inl rfl)), firstW, headW, if_neg (by simp), if_pos rfl]
  rfl
 ·rw [size_one (ok_every _ _ _ _ _ (by omega) (by omega) (by omega) (by omega) hk.2) (by omega) rfl hs]
  congr 1; omega
theorem del_ok {ws : List Wd} {sub : Int → Int → Rs Goal} {d : Int} (hd : d + 1 ≤ 4) (ih : GotG ws sub 4 (d + 1)) {a m a' m' : Int} {g : Goal} (h0 : 0 ≤ a) (h1 : a ≤ ws.length) (hm : 0 ≤ m) (h : delP ws sub a m = .ok g a' m') : ∃ l, goalW g = w_deliver :: l ∧ Reads ws a l a' ∧ g.kind = 4 ∧ 0 ≤ m' ∧ sizeG g d = some (m - m' + 2) := by
 unfold delP at h
 replace h := bind_ok h
 obtain ⟨_, a2, m2, h2, h⟩ := h
 obtain ⟨r2, rfl⟩ := must_ok [w_within] (by decide) h0 h1 h2
 replace h := bind_ok h
 obtain ⟨wi, a3, m3, h2, h⟩ := h
 obtain ⟨r3, rfl, b1, b2⟩ := num_ok r2.lo' r2.hi h2
 replace h := bind_ok h
 obtain ⟨_, a6, m6, h2, h⟩ := h
 obtain ⟨r6, rfl⟩ := must_ok [w_of] (by decide) r3.lo' r3.hi h2
 replace h := bind_ok h
 obtain ⟨k, a7, m7, h2, h⟩ := h
 obtain ⟨r7, hk, hm7, hs⟩ := ih _ _ _ _ _ r6.lo' r6.hi hm h2
 injection h with e1 e2 e3
 subst e1 e2 e3
 refine ⟨_, ?_, r2.app (r3.app (r6.app r7)), rfl, hm7, ?_⟩
 ·rw [goalW_eq, if_neg (by simp), if_pos (.inr (.inr rfl)), firstW, headW, if_neg (by simp), if_neg (by simp)]
  rfl
 ·rw [size_one (ok_del _ _ (by omega) hk.2) (by omega) rfl hs]
  congr 1; omega
theorem parts_ok {ws : List Wd} {sub : Int → Int → Rs Goal} {d k : Int} (hk : k = 5 ∨ k = 6) (ih : GotG ws sub k d) : ∀ (fuel : Nat) (cents : List Int) (kids : List Goal) (a m a' m' : Int) (g : Goal), 0 ≤ a → a ≤ ws.length → 0 ≤ m → kids.length ≤ 3 → partsP ws sub k fuel cents kids a m = .ok g a' m' →
  ∃ x l cs n, g = ⟨k, [], 0, 0, 0, 0, false, 0, 0, 0, cents ++ cs, kids ++ x :: l⟩ ∧ Reads ws a ((if k = 6 then [itoaW (cs.headD 0)] else []) ++ goalW x ++ kidsW (decide (k = 6)) false cs.tail l ++ [w_close]) a' ∧ (∀ z ∈ x :: l, z.kind ≤ 6) ∧ sizeL (x :: l) d = some n ∧ m' = m - (n - 1 - (if kids = [] then 1 else 0)) ∧ 0 ≤ m' ∧ (k = 6 → cs.length = l.length + 1 ∧ ∀ c ∈ cs, 0 ≤ c ∧ c ≤ 1000000000) ∧ (k = 5 → cs = []) ∧ 2 ≤ kids.length + 1 + l.length ∧ kids.length + 1 + l.length ≤ 4
 | 0, cents, kids, a, m, a', m', g, _, _, _, _, h => by rw [partsP] at h; cases h
 | fuel + 1, cents, kids, a, m, a', m', g, h0, h1, hm, hl, h => by
  have hlk : lastK k = 6 := by unfold lastK; rw [if_neg (by omega), if_neg (by omega)]
  rw [partsP] at h
  replace h := bind_ok h
  obtain ⟨cents1, a1, m1, h2, h⟩ := h
  obtain ⟨cs1, e1, r1, e2, c6, c5⟩ : ∃ cs1 : List Int, cents1 = cents ++ cs1 ∧ Reads ws a (if k = 6 then [itoaW (cs1.headD 0)] else []) a1 ∧ m1 = m ∧ (k = 6 → ∃ c, cs1 = [c] ∧ 0 ≤ c ∧ c ≤ 1000000000) ∧ (k = 5 → cs1 = []) := by
   split at h2
   ·rename_i h6
    replace h2 := bind_ok h2
    obtain ⟨c, a2, m2, h3, h2⟩ := h2
    obtain ⟨r, e, b1, b2⟩ := num_ok h0 h1 h3
    injection h2 with e1 e2 e3
    subst e1 e2 e3
    exact ⟨[c], rfl, by rw [if_pos h6]; exact r, e, fun _ => ⟨c, rfl, b1, b2⟩, fun h => by omega⟩
   ·rename_i h6
    injection h2 with e1 e2 e3
    subst e1 e2 e3
    exact ⟨[], by simp, by rw [if_neg h6]; exact .nil h0 h1, rfl, fun h => absurd h h6, fun _ => rfl⟩
  subst e1 e2
  replace h := bind_ok h
  obtain ⟨x, a2, m2, h2, h⟩ := h
  obtain ⟨r2, hxk, hm2, hs⟩ := ih _ _ _ _ _ r1.lo' r1.hi hm h2
  rw [hlk] at hxk
  have hx := sizeG_pos hs
  have r12 := r1.app r2
  -- ends here?
  have done : ∀ (hkn : kids ≠ []), peekW ws a2 = w_close → (.ok ⟨k, [], 0, 0, 0, 0, false, 0, 0, 0, cents ++ cs1, kids ++ [x]⟩ (a2 + 1) m2 : Rs Goal) = .ok g a' m' → ∃ x l cs n, g = ⟨k, [], 0, 0, 0, 0, false, 0, 0, 0, cents ++ cs, kids ++ x :: l⟩ ∧ Reads ws a ((if k = 6 then [itoaW (cs.headD 0)] else []) ++ goalW x ++ kidsW (decide (k = 6)) false cs.tail l ++ [w_close]) a' ∧ (∀ z ∈ x :: l, z.kind ≤ 6) ∧ sizeL (x :: l) d = some n ∧ m' = m1 - (n - 1 - (if kids = [] then 1 else 0)) ∧ 0 ≤ m' ∧ (k = 6 → cs.length = l.length + 1 ∧ ∀ c ∈ cs, 0 ≤ c ∧ c ≤ 1000000000) ∧ (k = 5 → cs = []) ∧ 2 ≤ kids.length + 1 + l.length ∧ kids.length + 1 + l.length ≤ 4 := fun hkn hp h => by
   injection h with e1 e2 e3
   subst e1 e2 e3
   have r3 := Reads.one r12.lo' r12.hi hp (by decide)
   have hkl : 1 ≤ kids.length := by cases kids with | nil => exact absurd rfl hkn | cons _ _ => simp
   refine ⟨x, [], cs1, m1 - m2 + 1, rfl, ?_, fun z hz => by simp at hz; subst hz; exact hxk.2, by rw [sizeL, hs, sizeL]; simp, by rw [if_neg hkn]; omega, hm2, fun h => ?_, c5, by simp; omega, by simp; omega⟩
   ·rw [kidsW, List.append_nil]; exact r12.app r3
   ·obtain ⟨c, e, b1, b2⟩ := c6 h
    subst e
    exact ⟨rfl, fun z hz => by simp at hz; subst hz; exact ⟨b1, b2⟩⟩
  -- or goes on
  have more : ∀ (m3 : Int), 0 ≤ m3 → kids.length + 1 ≤ 3 → m3 = m2 - (if kids = [] then 0 else 1) → ((mustW ws [w_comma] a2 m3).bind fun _ a m => partsP ws sub k fuel (cents ++ cs1) (kids ++ [x]) a m) = .ok g a' m' → ∃ x l cs n, g = ⟨k, [], 0, 0, 0, 0, false, 0, 0, 0, cents ++ cs, kids ++ x :: l⟩ ∧ Reads ws a ((if k = 6 then [itoaW (cs.headD 0)] else []) ++ goalW x ++ kidsW (decide (k = 6)) false cs.tail l ++ [w_close]) a' ∧ (∀ z ∈ x :: l, z.kind ≤ 6) ∧ sizeL (x :: l) d = some n ∧ m' = m1 - (n - 1 - (if kids = [] then 1 else 0)) ∧ 0 ≤ m' ∧ (k = 6 → cs.length = l.length + 1 ∧ ∀ c ∈ cs, 0 ≤ c ∧ c ≤ 1000000000) ∧ (k = 5 → cs = []) ∧ 2 ≤ kids.length + 1 + l.length ∧ kids.length + 1 + l.length ≤ 4 := fun m3 hm3 hk3 e3 h => by
   replace h := bind_ok h
   obtain ⟨_, a4, m4, h2, h⟩ := h
   obtain ⟨r3, rfl⟩ := must_ok [w_comma] (by decide) r12.lo' r12.hi h2
   obtain ⟨x', l', cs', n', g1, g2, g3, g4, g5, g6, g7, g8, g9, g10⟩ := parts_ok hk ih fuel _ _ _ _ _ _ _ r3.lo' r3.hi hm3 (by simp; omega) h
   simp only [List.length_append, List.length_cons, List.length_nil] at g9 g10
   rw [if_neg (by simp)] at g5
   refine ⟨x, x' :: l', cs1 ++ cs', (m1 - m2 + 1) + n', by rw [g1]; simp, ?_, fun z hz => ?_, ?_, ?_, g6, fun h => ?_, fun h => ?_, by simp; omega, by simp; omega⟩
   ·have := (r12.app (r3.app g2))
    rw [kidsW]
    rcases hk with hk | hk
    ·rw [c5 hk, g8 hk]
     rw [c5 hk, g8 hk] at this
     simpa [hk, List.append_assoc] using this
    ·obtain ⟨c, e, _, _⟩ := c6 hk
     rw [e]
     rw [e] at this
     simpa [hk, List.append_assoc] using this
   ·rcases List.mem_cons.1 hz with rfl | hz
    ·exact hxk.2
    ·exact g3 z hz
   ·rw [sizeL, hs, g4]
   ·split at e3 <;> split <;> first | omega | contradiction
   ·obtain ⟨c, e, b1, b2⟩ := c6 h
    obtain ⟨q1, q2⟩ := g7 h
    subst e
    refine ⟨by simp [q1], fun z hz => ?_⟩
    rcases List.mem_append.1 hz with hz | hz
    ·simp at hz; subst hz; exact ⟨b1, b2⟩
    ·exact q2 z hz
   ·rw [c5 h, g8 h]; rfl
  by_cases hkn : kids = []
  ·have hkl : ¬ 1 < kids.length + 1 := by rw [hkn]; simp
   rw [if_neg hkl] at h
   exact more m2 hm2 (by rw [hkn]; simp) (by rw [if_pos hkn]; omega) h
  ·have hkl : 1 < kids.length + 1 := by cases kids with | nil => exact absurd rfl hkn | cons _ _ => simp
   rw [if_pos hkl] at h
   split at h
   ·rename_i hp
    exact done hkn hp h
   ·split at h
    ·cases h
    ·rename_i hc
     simp only [not_or] at hc
     exact more (m2 - 1) (by omega) (by omega) (by rw [if_neg hkn]) h
theorem form_some {w : Wd} {k n : Int} (h : formW w = some (k, n)) : (k = 1 ∧ n = 0 ∧ w = w_see) ∨ (k = 2 ∧ n = 1 ∧ w = w_pair) ∨ (k = 3 ∧ n = 1 ∧ w = w_every) ∨ (k = 4 ∧ n = 1 ∧ w = w_deliver) ∨ (k = 5 ∧ n = 2 ∧ w = w_all) ∨ (k = 6 ∧ n = 2 ∧ w = w_any) := by
 unfold formW at h
 repeat' split at h
 all_goals first
  | (cases h; done)
  | (injection h with h; injection h with h1 h2; subst h1 h2; simp_all; done)
theorem goal_ok (ws : List Wd) : ∀ (f : Nat) (of_ d : Int), (f : Int) + d = 5 → GotG ws (goalP ws f of_ d) of_ d
 | 0, of_, d, hfd => fun a m g a' m' _ _ _ h => by rw [goalP] at h; cases h
 | f + 1, of_, d, hfd => fun a m g a' m' h0 h1 hm h => by
  have ih := fun o => goal_ok ws f o (d + 1) (by omega)
  rw [goalP] at h
  split at h
  ·cases h
  ·rename_i k n hform
   split at h
   ·cases h
   ·rename_i hc
    simp only [not_or, not_and] at hc
    obtain ⟨c1, c2, c3⟩ := hc
    have hone : ∀ {w : Wd}, peekW ws a = w → w ≠ [32] → Reads ws a [w] (a + 1) := fun e hw => .one h0 h1 e hw
    rcases form_some hform with ⟨rfl, rfl, hw⟩ | ⟨rfl, rfl, hw⟩ | ⟨rfl, rfl, hw⟩ | ⟨rfl, rfl, hw⟩ | ⟨rfl, rfl, hw⟩ | ⟨rfl, rfl, hw⟩
    ·rw [if_pos rfl] at h
     have r := hone hw (by decide)
     obtain ⟨l, e, r2, hk, em, hs⟩ := see_ok2 (d := d) (by omega) r.lo' r.hi h
     rw [e, hk]
     exact ⟨r.app r2, ⟨by omega, by omega⟩, by omega, by rw [hs]; congr 1; omega⟩
    ·rw [if_neg (by omega), if_pos rfl] at h
     have r := hone hw (by decide)
     obtain ⟨l, e, r2, hk, em, hs⟩ := pair_ok (by omega) (ih 2) r.lo' r.hi (by omega) h
     rw [e, hk]
     exact ⟨r.app r2, ⟨by omega, by omega⟩, em, by rw [hs]; congr 1; omega⟩
    ·rw [if_neg (by omega), if_neg (by omega), if_pos rfl] at h
     have r := hone hw (by decide)
     obtain ⟨l, e, r2, hk, em, hs⟩ := every_ok (by omega) (ih 3) r.lo' r.hi (by omega) h
     rw [e, hk]
     exact ⟨r.app r2, ⟨by omega, by omega⟩, em, by rw [hs]; congr 1; omega⟩
    ·rw [if_neg (by omega), if_neg (by omega), if_neg (by omega), if_pos rfl] at h
     have r := hone hw (by decide)
     obtain ⟨l, e, r2, hk, em, hs⟩ := del_ok (by omega) (ih 4) r.lo' r.hi (by omega) h
     rw [e, hk]
     exact ⟨r.app r2, ⟨by omega, by omega⟩, em, by rw [hs]; congr 1; omega⟩
    ·rw [if_neg (by omega), if_neg (by omega), if_neg (by omega), if_neg (by omega)] at h
     have r := hone hw (by decide)
     unfold listP at h
     replace h := bind_ok h
     obtain ⟨_, a2, m2, h2, h⟩ := h
     obtain ⟨r2, rfl⟩ := must_ok [w_open] (by decide) r.lo' r.hi h2
     obtain ⟨x, l, cs, n, g1, g2, g3, g4, g5, g6, g7, g8, g9, g10⟩ := parts_ok (.inl rfl) (ih 5) _ _ _ _ _ _ _ _ r2.lo' r2.hi (by omega) (by simp) h
     simp only [List.nil_append, List.length_nil, Nat.zero_add] at g1 g9 g10
     subst g1
     have hok := ok_many 5 (.inl rfl) cs (x :: l) (by simp; omega) g3 (fun h => by omega) g8
     refine ⟨?_, ⟨by show (1 : Int) ≤ 5; omega, by show (5 : Int) ≤ _; omega⟩, g6, ?_⟩
     ·have := r.app (r2.app g2)
      rw [goalW_eq, if_neg (by simp), if_neg (by simp), kidsW]
      simpa using this
     ·rw [sizeG_eq, hok, if_neg (by simp; omega), g4]
      simp at g5 ⊢; omega
    ·rw [if_neg (by omega), if_neg (by omega), if_neg (by omega), if_neg (by omega)] at h
     have r := hone hw (by decide)
     unfold listP at h
     replace h := bind_ok h
     obtain ⟨_, a2, m2, h2, h⟩ := h
     obtain ⟨r2, rfl⟩ := must_ok [w_open] (by decide) r.lo' r.hi h2
     obtain ⟨x, l, cs, n, g1, g2, g3, g4, g5, g6, g7, g8, g9, g10⟩ := parts_ok (.inr rfl) (ih 6) _ _ _ _ _ _ _ _ r2.lo' r2.hi (by omega) (by simp) h
     simp only [List.nil_append, List.length_nil, Nat.zero_add] at g1 g9 g10
     subst g1
     have hok := ok_many 6 (.inr rfl) cs (x :: l) (by simp; omega) g3 (fun h => by simpa using g7 h) g8
     refine ⟨?_, ⟨by show (1 : Int) ≤ 6; omega, by show (6 : Int) ≤ _; omega⟩, g6, ?_⟩
     ·have := r.app (r2.app g2)
      rw [goalW_eq, if_neg (by simp), if_neg (by simp), kidsW]
      simpa using this
     ·rw [sizeG_eq, hok, if_neg (by simp; omega), g4]
      simp at g5 ⊢; omega
end Go.SX

/-
 Plain: orders are read as they are written; what is read is written so.
-/
namespace Go.SX
theorem group_ok {ws : List Wd} {a m a' m' n : Int} (h0 : 0 ≤ a) (h1 : a ≤ ws.length) (h : groupP ws a m = .ok n a' m') : Reads ws a [if n < 0 then w_none else itoaW n] a' ∧ m' = m ∧ -1 ≤ n ∧ n ≤ 15 := by
 unfold groupP at h
 split at h
 ·rename_i e
  injection h with e1 e2 e3
  subst e1 e2 e3
  exact ⟨.one h0 h1 e (by decide), rfl, by omega, by omega⟩
 ·obtain ⟨r, e, b1, b2⟩ := num_ok h0 h1 h
  rw [if_neg (by omega)]
  exact ⟨r, e, by omega, b2⟩
/-- what is read as an order is written so -/
theorem order_ok {ws : List Wd} {o : Order} {a' m' : Int} (h : orderP ws 0 11 = .ok o a' m') : ws = orderW o ∧ ordB o = true ∧ a' = ws.length := by
 unfold orderP at h
 replace h := bind_ok h
 obtain ⟨_, a1, m1, h2, h⟩ := h
 obtain ⟨r1, rfl⟩ := must_ok [w_order] (by decide) (by omega) (by omega) h2
 replace h := bind_ok h
 obtain ⟨id, a2, m2, h2, h⟩ := h
 obtain ⟨r2, rfl, b1, b2⟩ := num_ok r1.lo' r1.hi h2
 replace h := bind_ok h
 obtain ⟨_, a3, m3, h2, h⟩ := h
 obtain ⟨r3, rfl⟩ := must_ok [w_by] (by decide) r2.lo' r2.hi h2
 replace h := bind_ok h
 obtain ⟨ow, a4, m4, h2, h⟩ := h
 obtain ⟨r4, rfl, b3, b4⟩ := num_ok r3.lo' r3.hi h2
 replace h := bind_ok h
 obtain ⟨_, a5, m5, h2, h⟩ := h
 obtain ⟨r5, rfl⟩ := must_ok [w_for] (by decide) r4.lo' r4.hi h2
 replace h := bind_ok h
 obtain ⟨pr, a6, m6, h2, h⟩ := h
 obtain ⟨r6, rfl, b5, b6⟩ := num_ok r5.lo' r5.hi h2
 replace h := bind_ok h
 obtain ⟨_, a7, m7, h2, h⟩ := h
 obtain ⟨r7, rfl⟩ := must_ok [w_group] (by decide) r6.lo' r6.hi h2
 replace h := bind_ok h
 obtain ⟨gr, a8, m8, h2, h⟩ := h
 obtain ⟨r8, rfl, b7, b8⟩ := group_ok r7.lo' r7.hi h2
 replace h := bind_ok h
 obtain ⟨ur, a9, m9, h2, h⟩ := h
 obtain ⟨r9, rfl⟩ := word_ok (by decide) (by decide) r8.lo' r8.hi h2
 replace h := bind_ok h
 obtain ⟨_, a10, m10, h2, h⟩ := h
 obtain ⟨r10, rfl⟩ := must_ok [w_known] (by decide) r9.lo' r9.hi h2
 replace h := bind_ok h
 obtain ⟨kn, a11, m11, h2, h⟩ := h
 obtain ⟨r11, rfl, b9, b10⟩ := num_ok r10.lo' r10.hi h2
 replace h := bind_ok h
 obtain ⟨_, a12, m12, h2, h⟩ := h
 obtain ⟨r12, rfl⟩ := must_ok [w_due] (by decide) r11.lo' r11.hi h2
 replace h := bind_ok h
 obtain ⟨du, a13, m13, h2, h⟩ := h
 obtain ⟨r13, rfl, b11, b12⟩ := num_ok r12.lo' r12.hi h2
 replace h := bind_ok h
 obtain ⟨_, a14, m14, h2, h⟩ := h
 obtain ⟨r14, rfl⟩ := must_ok [w_colon] (by decide) r13.lo' r13.hi h2
 replace h := bind_ok h
 obtain ⟨g, a15, m15, h2, h⟩ := h
 obtain ⟨r15, hk, hm15, hs⟩ := goal_ok ws 4 5 1 (by omega) _ _ _ _ _ r14.lo' r14.hi (by omega) h2
 replace h := bind_ok h
 obtain ⟨_, a16, m16, h2, h⟩ := h
 obtain ⟨r16, rfl⟩ := must_ok [w_dot] (by decide) r15.lo' r15.hi h2
 split at h
 ·cases h
 ·rename_i hlt
  injection h with e1 e2 e3
  subst e1 e2 e3
  have hend : a16 = ws.length := by have := r16.hi; omega
  have r := r1.app (r2.app (r3.app (r4.app (r5.app (r6.app (r7.app (r8.app (r9.app (r10.app (r11.app (r12.app (r13.app (r14.app (r15.app r16))))))))))))))
  have hd := r.eq
  rw [hend, show ((ws.length : Nat) : Int).toNat = ws.length from rfl, List.drop_length, List.append_nil] at hd
  refine ⟨?_, ?_, hend⟩
  ·rw [show ws = ws.drop (0 : Int).toNat from rfl, hd, orderW_eq]
   rfl
  ·simp only [ordB, Bool.and_eq_true, inB_iff]
   refine ⟨⟨⟨⟨⟨⟨⟨b1, b2⟩, ⟨b3, b4⟩⟩, ⟨b5, b6⟩⟩, ⟨b7, b8⟩⟩, ⟨b9, by omega⟩⟩, ⟨b11, b12⟩⟩, ?_⟩
   unfold validG
   rw [hs]
   simp; omega
/-- what is read as an order is the text of this order -/
theorem print_parse {s : Wd} {o : Order} {n e : Int} (h : parseS s = (o, n, e)) (he : e = 0) : ordB o = true ∧ printS o = (s, 0) ∧ n = (tokensW s).length := by
 subst he
 unfold parseS at h
 split at h
 ·simp at h
 ·split at h
  ·rename_i o' a m hp
   injection h with e1 e2
   injection e2 with e2 _
   subst e1 e2
   obtain ⟨h1, h2, h3⟩ := order_ok hp
   refine ⟨h2, ?_, h3⟩
   unfold printS
   rw [if_pos h2, ← h1, join_tokens]
  ·simp at h
/-- what is not read as an order -/
theorem parse_bad {s : Wd} {o : Order} {n e : Int} (h : parseS s = (o, n, e)) (he : e ≠ 0) : o = zeroO ∧ e = 130 := by
 unfold parseS at h
 split at h
 ·injection h with e1 e2; injection e2 with e2 e3; exact ⟨e1.symm, e3.symm⟩
 ·split at h
  ·injection h with e1 e2; injection e2 with e2 e3; exact absurd e3.symm he
  ·injection h with e1 e2; injection e2 with e2 e3; exact ⟨e1.symm, e3.symm⟩
end Go.SX

/-
 Plain: what is read depends on the words up to where it ends alone.
-/
namespace Go.SX
def endR {α : Type} : Rs α → Int
 | .ok _ a _ => a
 | .no a _ => a
/-- texts that are alike up to n; and at n, or the second one ends there -/
structure Alike (ws ws' : List Wd) (n : Int) : Prop where
 below : ∀ i : Int, 0 ≤ i → i < n → peekW ws' i = peekW ws i
 here : peekW ws' n = peekW ws n ∨ peekW ws' n = [32]
theorem Alike.cases {ws ws' : List Wd} {n a : Int} (h : Alike ws ws' n) (h0 : 0 ≤ a) (h1 : a ≤ n) : peekW ws' a = peekW ws a ∨ (a = n ∧ peekW ws' a = [32]) := by
 rcases Int.lt_or_eq_of_le h1 with h2 | h2
 ·exact .inl (h.below a h0 h2)
 ·subst h2
  rcases h.here with h3 | h3
  ·exact .inl h3
  ·exact .inr ⟨rfl, h3⟩
theorem num_bd {ws : List Wd} {lo hi a m n b k : Int} (h : numP ws lo hi a m = .ok n b k) : lo ≤ n ∧ n ≤ hi := by
 unfold numP at h
 split at h
 ·split at h
  ·rename_i hb; injection h with h; subst h; exact hb
  ·cases h
 ·cases h
/-! reads on -/
/-- an order, and what follows it -/
def orderC (ws : List Wd) (T : Order → Int → Int → Rs Order) (a m : Int) : Rs Order :=
 (mustW ws [w_order] a m).bind fun _ a m => (numP ws 0 63 a m).bind fun id a m =>
 (mustW ws [w_by] a m).bind fun _ a m => (numP ws 0 15 a m).bind fun owner a m =>
 (mustW ws [w_for] a m).bind fun _ a m => (numP ws 0 1000000000 a m).bind fun price a m =>
 (mustW ws [w_group] a m).bind fun _ a m => (groupP ws a m).bind fun group a m =>
 (wordP ws w_urgent w_plain a m).bind fun urgent a m =>
 (mustW ws [w_known] a m).bind fun _ a m => (numP ws 0 999999 a m).bind fun known a m =>
 (mustW ws [w_due] a m).bind fun _ a m => (numP ws (known + 1) 1000000 a m).bind fun due a m =>
 (mustW ws [w_colon] a m).bind fun _ a m => (goalP ws 4 5 1 a m).bind fun goal a m =>
 (mustW ws [w_dot] a m).bind fun _ a m => T ⟨id, owner, goal, price, group, urgent, known, due⟩ a m
def endP (ws : List Wd) (o : Order) (a m : Int) : Rs Order := if a < ws.length then .no a m else .ok o a m
theorem orderP_eq (ws : List Wd) (a m : Int) : orderP ws a m = orderC ws (endP ws) a m := rfl
theorem bind_assoc {α β γ : Type} (x : Rs α) (f : α → Int → Int → Rs β) (g : β → Int → Int → Rs γ) : (x.bind f).bind g = x.bind fun y a m => (f y a m).bind g := by cases x <;> rfl
theorem orderC_bind (ws : List Wd) (T : Order → Int → Int → Rs Order) (a m : Int) : orderC ws T a m = (orderC ws (fun o a m => .ok o a m) a m).bind T := by
 simp only [orderC, bind_assoc]
end Go.SX

/-
 Plain: how the reference reads orders: it goes on after the first wrong word, but reads nothing any more.
-/
namespace Go.SX
/-- a value, the place, whether a word was wrong, the room -/
abbrev Xr (α : Type) := α × Int × Bool × Int
abbrev XP (α : Type) := Int → Bool → Int → Xr α
@[reducible] def Xr.bind {α β : Type} (x : Xr α) (k : α → XP β) : Xr β := k x.1 x.2.1 x.2.2.1 x.2.2.2
def xNext (ws : List Wd) (s : Wd) (a : Int) (w : Bool) : Bool := !w && decide (a < ws.length) && decide (ws.getD a.toNat [] = s)
def xIs (ws : List Wd) (s : Wd) : XP Bool := fun a w m => if xNext ws s a w then (true, a + 1, w, m) else (false, a, w, m)
def xMust (ws : List Wd) : List Wd → XP Unit
 | [] => fun a w m => ((), a, w, m)
 | s :: l => fun a w m => if xNext ws s a w then xMust ws l (a + 1) w m else xMust ws l a true m
/-- the number that a word is; -1 if it is none, or has more than 10 digits -/
def digS : Int → Wd → Int
 | n, [] => n
 | n, c :: s => if c.toNat < 48 ∨ 57 < c.toNat then -1 else digS (10 * n + ((c.toNat : Int) - 48)) s
def valS (s : Wd) : Int := if s.length = 0 ∨ 10 < s.length ∨ (s.getD 0 0 = 48 ∧ 1 < s.length) then -1 else digS 0 s
def xNum (ws : List Wd) (lo hi : Int) : XP Int := fun a w m =>
 if w = true ∨ (ws.length : Int) ≤ a ∨ ¬ (lo ≤ valS (ws.getD a.toNat []) ∧ valS (ws.getD a.toNat []) ≤ hi) then (0, a, true, m) else (valS (ws.getD a.toNat []), a + 1, w, m)
def xNeed (ws : List Wd) (s : Wd) (goals deep : Int) : XP Bool := fun a w m =>
 if xNext ws s a w then (if m < goals ∨ (0 < goals ∧ 4 ≤ deep) then (true, a, true, m) else (true, a + 1, w, m - goals)) else (false, a, w, m)
def xRunsL (ws : List Wd) : Nat → Int → Int → List Int → XP (List Int)
 | 0, _, _, rows => fun a w m => (rows, a, w, m)
 | n + 1, y, last, rows => fun a w m =>
  if xNext ws w_at a w || (decide (y = 0) && decide (last = -2) && !w) then
   if ¬ last + 2 < 48 ∧ y = 23 then (rows, a, true, m) else
   (xMust ws [w_at] a w m).bind fun _ a w m =>
   (xNum ws (if last + 2 < 48 then y else y + 1) 23 a w m).bind fun y' a w m =>
   (xNum ws (if y' = y then last + 2 else 0) 47 a w m).bind fun first a w m =>
   (xNum ws first 47 a w m).bind fun last' a w m =>
   xRunsL ws n y' last' (if w then rows else rows.set y'.toNat (bitop .or .i64 (rows.getD y'.toNat 0) (maskW first last'))) a w m
  else (rows, a, w, m)
def xRuns (ws : List Wd) : XP (List Int) := xRunsL ws 1200 0 (-2) (List.replicate 24 0)
def zeroG : Goal := ⟨0, [], 0, 0, 0, 0, false, 0, 0, 0, [], []⟩
/-- one of two words -/
def xWord (ws : List Wd) (s t : Wd) : XP Bool := fun a w m => (xIs ws s a w m).bind fun c a w m => ((if c then fun a w m => ((), a, w, m) else xMust ws [t] : XP Unit) a w m).bind fun _ a w m => (c, a, w, m)
def xSee (ws : List Wd) : XP Goal := fun a w m =>
 (xRuns ws a w m).bind fun rows a w m =>
 (xMust ws [w_from] a w m).bind fun _ a w m => (xNum ws 0 999999 a w m).bind fun f a w m =>
 (xMust ws [w_to] a w m).bind fun _ a w m => (xNum ws (f + 1) 1000000 a w m).bind fun t a w m =>
 (xMust ws [w_sun] a w m).bind fun _ a w m => (xNum ws 0 90 a w m).bind fun lo a w m =>
 (xMust ws [w_to] a w m).bind fun _ a w m => (xNum ws lo 90 a w m).bind fun hi a w m =>
 (xWord ws w_clear w_any a w m).bind fun c a w m => (⟨1, rows, f, t, lo, hi, c, 0, 0, 0, [], []⟩, a, w, m)
def xPair (ws : List Wd) (sub : XP Goal) : XP Goal := fun a w m =>
 (xMust ws [w_looks] a w m).bind fun _ a w m => (xNum ws 1 8 a w m).bind fun lo a w m =>
 (xMust ws [w_within] a w m).bind fun _ a w m => (xNum ws 1 1000000 a w m).bind fun wi a w m =>
 (xMust ws [w_of] a w m).bind fun _ a w m => (sub a w m).bind fun k a w m => (⟨2, [], 0, 0, lo, 0, false, 0, 0, wi, [], [k]⟩, a, w, m)
def xEvery (ws : List Wd) (sub : XP Goal) : XP Goal := fun a w m =>
 (xNum ws 1 60 a w m).bind fun d a w m => (xMust ws [w_days] a w m).bind fun _ a w m => (xNum ws 1 6 a w m).bind fun t a w m =>
 (xMust ws [w_times, w_apart] a w m).bind fun _ a w m => (xNum ws 0 (1440 * d) a w m).bind fun wi a w m =>
 (xMust ws [w_from] a w m).bind fun _ a w m => (xNum ws 0 1000000 a w m).bind fun f a w m =>
 (xMust ws [w_of] a w m).bind fun _ a w m => (sub a w m).bind fun k a w m => (⟨3, [], f, 0, 0, 0, false, d, t, wi, [], [k]⟩, a, w, m)
def xDel (ws : List Wd) (sub : XP Goal) : XP Goal := fun a w m =>
 (xMust ws [w_within] a w m).bind fun _ a w m => (xNum ws 0 1000000 a w m).bind fun wi a w m =>
 (xMust ws [w_of] a w m).bind fun _ a w m => (sub a w m).bind fun k a w m => (⟨4, [], 0, 0, 0, 0, false, 0, 0, wi, [], [k]⟩, a, w, m)
def xPartsL (ws : List Wd) (sub : XP Goal) (k : Int) : Nat → List Int → List Goal → XP (List Int × List Goal)
 | 0, cents, kids => fun a w m => ((cents, kids), a, w, m)
 | n + 1, cents, kids => fun a w m =>
  if w then ((cents, kids), a, w, m) else
  ((if k = 6 then fun a w m => (xNum ws 0 1000000000 a w m).bind fun c a w m => (cents ++ [c], a, w, m) else fun a w m => (cents, a, w, m) : XP (List Int)) a w m).bind fun cents a w m =>
  (sub a w m).bind fun g a w m =>
  if kids.length + 1 = 1 then (xMust ws [w_comma] a w m).bind fun _ a w m => xPartsL ws sub k n cents (kids ++ [g]) a w m
  else (xIs ws w_close a w m).bind fun b a w m =>
   if b then ((cents, kids ++ [g]), a, w, m)
   else if kids.length + 1 = 4 ∨ m = 0 then ((cents, kids ++ [g]), a, true, m)
   else (xMust ws [w_comma] a w (m - 1)).bind fun _ a w m => xPartsL ws sub k n cents (kids ++ [g]) a w m
def xList (ws : List Wd) (sub : XP Goal) (k : Int) : XP Goal := fun a w m =>
 (xMust ws [w_open] a w m).bind fun _ a w m => (xPartsL ws sub k 5 [] [] a w m).bind fun r a w m => (⟨k, [], 0, 0, 0, 0, false, 0, 0, 0, r.1, r.2⟩, a, w, m)
def xGoal (ws : List Wd) : Nat → Int → Int → XP Goal
 | 0, _, _ => fun a _ m => (zeroG, a, true, m)
 | f + 1, most, deep => fun a w m =>
  if (xNeed ws w_see 0 deep a w m).1 then (xNeed ws w_see 0 deep a w m).bind fun _ => xSee ws
  else if 2 ≤ most ∧ (xNeed ws w_pair 1 deep a w m).1 = true then (xNeed ws w_pair 1 deep a w m).bind fun _ => xPair ws (xGoal ws f 1 (deep + 1))
  else if 3 ≤ most ∧ (xNeed ws w_every 1 deep a w m).1 = true then (xNeed ws w_every 1 deep a w m).bind fun _ => xEvery ws (xGoal ws f 1 (deep + 1))
  else if 4 ≤ most ∧ (xNeed ws w_deliver 1 deep a w m).1 = true then (xNeed ws w_deliver 1 deep a w m).bind fun _ => xDel ws (xGoal ws f 3 (deep + 1))
  else if 5 ≤ most ∧ (xNeed ws w_all 2 deep a w m).1 = true then (xNeed ws w_all 2 deep a w m).bind fun _ => xList ws (xGoal ws f 6 (deep + 1)) 5
  else if 6 ≤ most ∧ (xNeed ws w_any 2 deep a w m).1 = true then (xNeed ws w_any 2 deep a w m).bind fun _ => xList ws (xGoal ws f 6 (deep + 1)) 6
  else (zeroG, a, true, m)
def xGroup (ws : List Wd) : XP Int := fun a w m => (xIs ws w_none a w m).bind fun b a w m => if b then (-1, a, w, m) else xNum ws 0 15 a w m
def xOrder (ws : List Wd) : XP Order := fun a w m =>
 (xMust ws [w_order] a w m).bind fun _ a w m => (xNum ws 0 63 a w m).bind fun id a w m =>
 (xMust ws [w_by] a w m).bind fun _ a w m => (xNum ws 0 15 a w m).bind fun owner a w m =>
 (xMust ws [w_for] a w m).bind fun _ a w m => (xNum ws 0 1000000000 a w m).bind fun price a w m =>
 (xMust ws [w_group] a w m).bind fun _ a w m => (xGroup ws a w m).bind fun group a w m =>
 (xWord ws w_urgent w_plain a w m).bind fun urgent a w m =>
 (xMust ws [w_known] a w m).bind fun _ a w m => (xNum ws 0 999999 a w m).bind fun known a w m =>
 (xMust ws [w_due] a w m).bind fun _ a w m => (xNum ws (known + 1) 1000000 a w m).bind fun due a w m =>
 (xMust ws [w_colon] a w m).bind fun _ a w m => (xGoal ws 5 6 1 a w m).bind fun goal a w m =>
 (xMust ws [w_dot] a w m).bind fun _ a w m => (⟨id, owner, goal, price, group, urgent, known, due⟩, a, w, m)
end Go.SX

/-
 Plain: the orders that integers determine have short texts.
-/
namespace Go.SX
def pcF : Nat → Nat → Nat
 | 0, _ => 0
 | f + 1, n => n % 2 + pcF f (n / 2)
theorem pcF_zero : ∀ f, pcF f 0 = 0
 | 0 => rfl
 | f + 1 => by rw [pcF]; simp [pcF_zero f]
theorem pcF_or : ∀ (f n k : Nat), pcF f (n ||| 2 ^ k) ≤ pcF f n + 1
 | 0, n, k => by simp [pcF]
 | f + 1, n, 0 => by
  have e : (n ||| 2 ^ 0) / 2 = n / 2 := by rw [Nat.or_div_two]; simp
  rw [pcF, pcF, e]
  have := Nat.mod_lt (n ||| 2 ^ 0) (show 0 < 2 by omega)
  omega
 | f + 1, n, k + 1 => by
  have hp : 2 ^ (k + 1) = 2 * 2 ^ k := by rw [Nat.pow_succ, Nat.mul_comm]
  have e : (n ||| 2 ^ (k + 1)) / 2 = n / 2 ||| 2 ^ k := by rw [Nat.or_div_two, hp, Nat.mul_div_cancel_left _ (by omega)]
  have e2 : (n ||| 2 ^ (k + 1)) % 2 = n % 2 := by
   have h1 := Nat.testBit_or n (2 ^ (k + 1)) 0
   rw [Nat.testBit_two_pow, Nat.testBit_zero, Nat.testBit_zero, show decide (k + 1 = 0) = false from rfl, Bool.or_false, decide_eq_decide] at h1
   have h3 := Nat.mod_two_eq_zero_or_one n
   have h4 := Nat.mod_two_eq_zero_or_one (n ||| 2 ^ (k + 1))
   generalize (n ||| 2 ^ (k + 1)) = N at *
   omega
  rw [pcF, pcF, e, e2]
  have := pcF_or f (n / 2) k
  omega
theorem pc_runs : ∀ (f c : Nat) (l : List Run) (N : Nat), RC c l → (∀ q ∈ l, N.testBit q.1 = true) → c + f = 48 → l.length ≤ pcF f (N / 2 ^ c)
 | f, c, [], N, _, _, _ => by simp
 | 0, c, p :: l, N, h, _, hc => by have := h.1; have := h.2.1; have := h.2.2.1; omega
 | f + 1, c, p :: l, N, h, hN, hc => by
  have e : N / 2 ^ c / 2 = N / 2 ^ (c + 1) := by rw [Nat.pow_succ, Nat.div_div_eq_div_mul]
  rw [pcF, e]
  rcases Nat.lt_or_eq_of_le h.1 with h1 | h1
  ·have := pc_runs f (c + 1) (p :: l) N ⟨h1, h.2.1, h.2.2.1, h.2.2.2⟩ hN (by omega)
   omega
  ·have hb := hN p (by simp)
   rw [← h1, Nat.testBit_eq_decide_div_mod_eq] at hb
   have hb : N / 2 ^ c % 2 = 1 := by simpa using hb
   have := pc_runs f (c + 1) l N (h.2.2.2.mono (by have := h.2.1; omega)) (fun q hq => hN q (List.mem_cons_of_mem _ hq)) (by omega)
   rw [List.length_cons]; omega
theorem val_bit : ∀ {l : List Run} {c : Nat}, RC c l → ∀ q ∈ l, (val l).testBit q.1 = true
 | [], c, _, q, hq => by cases hq
 | p :: l, c, h, q, hq => by
  obtain ⟨k, hk⟩ := val_dvd h.2.2.2
  have h1 := mk_add h.2.1
  have h2 : 2 ^ (p.2 + 1) ≤ 2 ^ (p.2 + 2) := Nat.pow_le_pow_right (by omega) (by omega)
  have h3 := Nat.two_pow_pos p.1
  have hlt : mk p < 2 ^ (p.2 + 2) := by omega
  have e : val (p :: l) = 2 ^ (p.2 + 2) * k + mk p := by rw [val, hk, Nat.add_comm]
  rcases List.mem_cons.1 hq with rfl | hq
  ·rw [e, Nat.testBit_two_pow_mul_add _ hlt, if_pos (by have := h.2.1; omega)]
   unfold mk
   rw [Nat.testBit_two_pow_mul]
   simp
  ·have ih := val_bit h.2.2.2 q hq
   have hq2 : p.2 + 2 ≤ q.1 := by
    have : ∀ {l : List Run} {c : Nat}, RC c l → ∀ q ∈ l, c ≤ q.1 := by
     intro l
     induction l with
     | nil => intro c _ q hq; cases hq
     | cons a l ih =>
      intro c h q hq
      rcases List.mem_cons.1 hq with rfl | hq
      ·exact h.1
      ·have := ih h.2.2.2 q hq; have := h.1; have := h.2.1; omega
    exact this h.2.2.2 q hq
   rw [hk, Nat.testBit_two_pow_mul] at ih
   rw [e, Nat.testBit_two_pow_mul_add _ hlt, if_neg (by omega)]
   simp only [Bool.and_eq_true] at ih
   exact ih.2
theorem runs_pc {n : Nat} (h : n < 2 ^ 48) : (runsN n).length ≤ pcF 48 n := by
 obtain ⟨h1, h2⟩ := runsN_rc h
 have := pc_runs 48 0 (runsN n) n h1 (fun q hq => by have := val_bit h1 q hq; rwa [h2] at this) rfl
 simpa using this
/-! rows -/
def pcL : List Int → Nat
 | [] => 0
 | r :: l => pcF 48 r.toNat + pcL l
theorem rowsW_pc : ∀ (y : Nat) (l : List Int), (∀ r ∈ l, 0 ≤ r ∧ r ≤ 281474976710655) → (rowsW y l).length ≤ 4 * pcL l
 | y, [], _ => by simp [rowsW]
 | y, r :: l, h => by
  have h1 := h r (by simp)
  have h2 := rowsW_pc (y + 1) l fun x hx => h x (List.mem_cons_of_mem _ hx)
  have h3 := runs_pc (n := r.toNat) (by omega)
  rw [rowsW, List.length_append, show runsF r.toNat r.toNat = runsN r.toNat from rfl, flat_run_len, pcL]
  omega
def sumL (f : Int → Nat) : List Int → Nat
 | [] => 0
 | r :: l => f r + sumL f l
theorem sumL_set (f : Int → Nat) (k : Nat) (v : Int) : ∀ (l : List Int) (y : Nat), f v ≤ f (l.getD y 0) + k → sumL f (l.set y v) ≤ sumL f l + k
 | [], y, _ => by simp [sumL]
 | r :: l, 0, h => by
  rw [List.getD_cons_zero] at h
  rw [List.set_cons_zero, sumL, sumL]
  omega
 | r :: l, y + 1, h => by
  rw [List.getD_cons_succ] at h
  have := sumL_set f k v l y h
  rw [List.set_cons_succ, sumL, sumL]
  omega
theorem pcL_sum : ∀ l : List Int, pcL l = sumL (fun r => pcF 48 r.toNat) l
 | [] => rfl
 | r :: l => by rw [pcL, sumL, pcL_sum l]
theorem pcL_set (l : List Int) (y : Nat) (v : Int) (k : Nat) (h : pcF 48 v.toNat ≤ pcF 48 (l.getD y 0).toNat + k) : pcL (l.set y v) ≤ pcL l + k := by
 rw [pcL_sum, pcL_sum]
 exact sumL_set (fun r => pcF 48 r.toNat) k v l y h
theorem orAt_pc {rows : List Int} (h : RowsOK rows) {y : Nat} (hy : y < 24) {x : Int} (hx : 0 ≤ x ∧ x < 48) : pcL (orAt rows y x) ≤ pcL rows + 1 := by
 have hg : rows.getD y 0 ∈ rows := by
  rw [List.getD_eq_getElem?_getD, List.getElem?_eq_getElem (by rw [h.len]; exact hy)]
  exact List.getElem_mem _
 have hb := h.ok _ hg
 unfold orAt
 refine pcL_set rows y _ 1 ?_
 generalize rows.getD y 0 = a at hb ⊢
 obtain ⟨n, rfl⟩ : ∃ n : Nat, a = n := ⟨a.toNat, by omega⟩
 obtain ⟨k, rfl⟩ : ∃ k : Nat, x = k := ⟨x.toNat, by omega⟩
 have hk : k < 48 := by omega
 rw [shl_one hk, or_nat (by omega) (Nat.pow_lt_pow_right (by omega) hk)]
 exact pcF_or 48 n k
theorem cellS_pc (x : A5) (y k : Nat) {rows : List Int} (h : RowsOK rows) : pcL (cellS x y k rows) ≤ pcL rows + 1 := by
 have b1 := pickS_bd (c := x.b) (n := 24) (by omega)
 have b2 := pickS_bd (c := x.a) (n := 48) (by omega)
 unfold cellS
 refine orAt_pc h (by omega) ?_
 rw [Int.tmod_eq_emod_of_nonneg (by omega)]
 omega
theorem rowsK_pc (x : A5) (y : Nat) : ∀ (k : Nat) (r : List Int), RowsOK r → pcL (rowsK x y k r) ≤ pcL r + k
 | 0, r, h => Nat.le_refl _
 | k + 1, r, h => by
  rw [rowsK_succ]
  have := cellS_pc x y k (rowsK_ok x y k r h).1
  have := rowsK_pc x y k r h
  omega
theorem pcL_zero : ∀ n, pcL (List.replicate n 0) = 0
 | 0 => rfl
 | n + 1 => by rw [List.replicate_succ, pcL, pcL_zero n]; simp [pcF_zero]
theorem rowsY_pc (x : A5) (n : Nat) (hn : 0 < n) : ∀ y : Nat, pcL (rowsY x n y) ≤ y * n
 | 0 => by
  show pcL (List.replicate 24 0) ≤ _
  rw [pcL_zero]; omega
 | y + 1 => by
  rw [rowsY_succ]
  have := rowsK_pc x y n _ (rowsY_ok x n hn y).1
  have := rowsY_pc x n hn y
  rw [Nat.succ_mul]; omega
theorem seeRows_pc (x : A5) : pcL (seeRows x) ≤ 10 := by
 have b1 := pickS_bd (c := x.b.tdiv 24) (n := 3) (by omega)
 have b2 := pickS_bd (c := x.a.tdiv 48) (n := 3) (by omega)
 have b3 := pickS_bd (c := x.b) (n := 24) (by omega)
 have b4 := pickS_bd (c := x.c) (n := 48) (by omega)
 obtain ⟨n, hn⟩ : ∃ n, (pickS (x.a.tdiv 48) 3 + 1).toNat = n := ⟨_, rfl⟩
 obtain ⟨y, hy⟩ : ∃ y, (pickS (x.b.tdiv 24) 3 + 1).toNat = y := ⟨_, rfl⟩
 have h := rowsY_ok x n (by omega) y
 have hp := rowsY_pc x n (by omega) y
 have hm : y * n ≤ 3 * 3 := Nat.mul_le_mul (by omega) (by omega)
 unfold seeRows
 rw [hn, hy]
 split
 ·have := orAt_pc h.1 (y := (pickS x.b 24).toNat) (by omega) (x := pickS x.c 48) (by omega)
  omega
 ·omega
theorem seeS_len (x : A5) : (seeW (seeS x)).length ≤ 50 := by
 have h1 := rowsW_pc 0 (seeRows x) (seeRows_ok x).1.ok
 have h2 := seeRows_pc x
 have : (seeS x).rows = seeRows x := rfl
 simp only [seeW, this, List.length_append, List.length_cons, List.length_nil]
 omega
/-! goals -/
theorem kidsN_sees {rec : Int → Int → Goal × Int × Int} (hr : ∀ a m, ∀ s ∈ seesG (rec a m).1, ∃ x, s = seeS x) (y : A5) (at_ most : Int) : ∀ i, ∀ s ∈ seesL (kidsN rec y at_ most i).kids, ∃ x, s = seeS x
 | 0, s, h => by simp [kidsN, seesL] at h
 | i + 1, s, h => by
  simp only [kidsN] at h
  rw [seesL_snoc] at h
  rcases List.mem_append.1 h with h | h
  ·exact kidsN_sees hr y at_ most i s h
  ·exact hr _ _ s h
theorem sees_one (z : A5) : seesG (seeS z) = [seeS z] := by rw [seesG_eq]; exact if_pos rfl
theorem goals_sees : ∀ (j : Nat) (x : List A5) (at_ most : Int), ∀ s ∈ seesG (goalsS j x at_ most).1, ∃ z, s = seeS z
 | 0, x, at_, most, s, h => by
  rw [goalsS] at h
  replace h : s ∈ seesG (seeS (y5 x at_)) := h
  rw [sees_one] at h
  exact ⟨_, List.mem_singleton.1 h⟩
 | j + 1, x, at_, most, s, h => by
  have one : ∀ z : A5, s ∈ seesG (seeS z) → ∃ z, s = seeS z := fun z h => by
   rw [sees_one] at h
   exact ⟨_, List.mem_singleton.1 h⟩
  rw [goalsS] at h
  dsimp only at h
  split at h
  ·rw [seesG, if_neg (by omega), seesL, seesL, List.append_nil] at h
   exact one _ h
  ·split at h
   ·rw [seesG, if_neg (by omega), seesL, seesL, List.append_nil] at h
    exact one _ h
   ·split at h
    ·rw [seesG, if_neg (by omega), seesL, seesL, List.append_nil] at h
     exact one _ h
    ·split at h
     ·rename_i e
      rw [seesG, if_neg (by omega)] at h
      exact kidsN_sees (goals_sees j x) _ _ _ _ s h
     ·exact one _ h
mutual
theorem goalW_len2 : ∀ (g : Goal) (d n : Int), sizeG g d = some n → (∀ s ∈ seesG g, (seeW s).length ≤ 50) → ((goalW g).length : Int) ≤ 60 * n ∧ 1 ≤ n
 | ⟨kind, rows, from_, to_, low, high, clear, days, times, within, cents, kids⟩, d, n, h, hs => by
  obtain ⟨_, hok, m, hm, rfl⟩ := sizeG_parts h
  have hO := okG hok
  rw [seesG] at hs
  rw [goalW]
  by_cases h1 : kind = 1
  ·rw [if_pos h1] at hs ⊢
   have := hs _ (List.mem_singleton_self _)
   have := (goalW_len _ d _ h).2
   omega
  ·rw [if_neg h1] at hs ⊢
   have ih := kidsW_len2 kids (d + 1) m hm hs
   have hkind := hO.kind
   by_cases h2 : kind = 2 ∨ kind = 3 ∨ kind = 4
   ·rw [if_pos h2, List.length_append]
    have := headW_len ⟨kind, rows, from_, to_, low, high, clear, days, times, within, cents, kids⟩
    have := ih.2.1
    omega
   ·rw [if_neg h2]
    have := ih.1 (decide (kind = 6)) true cents
    have := (hO.many (show kind = 5 ∨ kind = 6 by have : (⟨kind, rows, from_, to_, low, high, clear, days, times, within, cents, kids⟩ : Goal).kind = kind := rfl; omega)).2.1
    have : kids.length ≤ 4 := this
    simp only [List.length_append, List.length_cons, List.length_nil]
    omega
theorem kidsW_len2 : ∀ (l : List Goal) (d m : Int), sizeL l d = some m → (∀ s ∈ seesL l, (seeW s).length ≤ 50) → (∀ (any first : Bool) (c : List Int), ((kidsW any first c l).length : Int) ≤ 60 * m + 2 * l.length) ∧ ((firstW l).length : Int) ≤ 60 * m ∧ 0 ≤ m
 | [], d, m, h, _ => by
  simp [sizeL] at h
  subst h
  refine ⟨fun a f c => by rw [kidsW]; simp, by rw [firstW]; simp, by omega⟩
 | k :: l, d, m, h, hs => by
  rw [sizeL] at h
  rw [seesL] at hs
  cases ha : sizeG k d with
  | none => rw [ha] at h; cases h
  | some x =>
   rw [ha] at h
   cases hl : sizeL l d with
   | none => rw [hl] at h; cases h
   | some y =>
    rw [hl] at h
    injection h with h
    subst h
    have h1 := goalW_len2 k d x ha fun s hm => hs s (List.mem_append_left _ hm)
    have h2 := kidsW_len2 l d y hl fun s hm => hs s (List.mem_append_right _ hm)
    refine ⟨fun a f c => ?_, by rw [firstW]; omega, by omega⟩
    rw [kidsW]
    have := h2.1 a false c.tail
    have e1 : (if f = true then ([] : List Wd) else [w_comma]).length ≤ 1 := by split <;> simp
    have e2 : (if a = true then [itoaW (c.headD 0)] else []).length ≤ 1 := by split <;> simp
    simp only [List.length_append, List.length_cons]
    omega
end
theorem goalS_len (y : List A5) : (goalW (goalS y)).length ≤ 540 := by
 have h := goals_ok 3 y 0 9 (by omega) (by omega)
 have hs := h.size
 have hl := h.le
 have := (goalW_len2 _ _ _ hs fun s hm => by
  obtain ⟨x, rfl⟩ := goals_sees 3 y 0 9 s hm
  exact seeS_len x).1
 unfold goalS
 omega
theorem made_len {o : Order} {y : List A5} (h : o.goal = goalS y) : (orderW o).length ≤ 555 ∧ (joinW (orderW o)).length ≤ 12210 := by
 have h1 := goalS_len y
 rw [← h] at h1
 have h2 := orderW_len o
 have h3 := joinW_len (orderW_sh o)
 exact ⟨by omega, by omega⟩
end Go.SX

/-
 Plain: numbers by their digits; the runs of a row by its bits.
-/
namespace Go.SX
theorem itoaF_fuel : ∀ (f g u : Nat), u < 10 ^ (f + 1) → u < 10 ^ (g + 1) → itoaF (f + 1) u = itoaF (g + 1) u := fun f g u h h' => by rw [itoaF_eq f u h, itoaF_eq g u h']
theorem itoaW_dig {n : Int} (h0 : 0 ≤ n) (h : n < 10) : itoaW n = [UInt8.ofNat (48 + n.toNat)] := by
 unfold itoaW
 rw [if_neg (by omega)]
 show itoaF (19 + 1) _ = _
 rw [itoaF, if_pos (by omega)]
theorem itoaW_step {n : Int} (h0 : 10 ≤ n) (h : n < 1000000000000000) : itoaW n = itoaW (n.tdiv 10) ++ itoaW (n.tmod 10) := by
 have e1 : n.tdiv 10 = n / 10 := Int.tdiv_eq_ediv_of_nonneg (by omega)
 have e2 : n.tmod 10 = n % 10 := Int.tmod_eq_emod_of_nonneg (by omega)
 rw [e1, e2, itoaW_dig (n := n % 10) (by omega) (by omega)]
 unfold itoaW
 rw [if_neg (by omega), if_neg (by omega)]
 have h1 : itoaF 20 n.toNat = itoaF 19 (n.toNat / 10) ++ [UInt8.ofNat (48 + n.toNat % 10)] := by
  show itoaF (19 + 1) _ = _
  rw [itoaF, if_neg (by omega)]
 rw [h1, show (n / 10).toNat = n.toNat / 10 by omega, show (n % 10).toNat = n.toNat % 10 by omega, itoaF_fuel 18 19 (n.toNat / 10) (by omega) (by omega)]
/-! runs by bits -/
theorem mk_bit {p : Run} (h : p.1 ≤ p.2) (i : Nat) : (mk p).testBit i = (decide (p.1 ≤ i) && decide (i ≤ p.2)) := by
 unfold mk
 rw [Nat.testBit_two_pow_mul, Nat.testBit_two_pow_sub_one]
 by_cases h1 : p.1 ≤ i
 ·simp [h1]; omega
 ·simp [h1]
theorem rc_lo {l : List Run} : ∀ {c : Nat}, RC c l → ∀ q ∈ l, c ≤ q.1 ∧ q.1 ≤ q.2 ∧ q.2 ≤ 47 := by
 induction l with
 | nil => intro c _ q hq; cases hq
 | cons a l ih =>
  intro c h q hq
  rcases List.mem_cons.1 hq with rfl | hq
  ·exact ⟨h.1, h.2.1, h.2.2.1⟩
  ·have := ih h.2.2.2 q hq; have := h.1; have := h.2.1; omega
theorem val_bits : ∀ {l : List Run} {c : Nat}, RC c l → ∀ i, (val l).testBit i = true ↔ ∃ q ∈ l, q.1 ≤ i ∧ i ≤ q.2
 | [], c, _, i => by simp [val]
 | p :: l, c, h, i => by
  obtain ⟨k, hk⟩ := val_dvd h.2.2.2
  have h1 := mk_add h.2.1
  have h2 : 2 ^ (p.2 + 1) ≤ 2 ^ (p.2 + 2) := Nat.pow_le_pow_right (by omega) (by omega)
  have h3 := Nat.two_pow_pos p.1
  have hlt : mk p < 2 ^ (p.2 + 2) := by omega
  have e : val (p :: l) = 2 ^ (p.2 + 2) * k + mk p := by rw [val, hk, Nat.add_comm]
  have ih := val_bits h.2.2.2 i
  rw [hk, Nat.testBit_two_pow_mul] at ih
  rw [e, Nat.testBit_two_pow_mul_add _ hlt]
  by_cases hi : i < p.2 + 2
  ·rw [if_pos hi, mk_bit h.2.1]
   simp only [Bool.and_eq_true, decide_eq_true_eq, List.mem_cons, exists_eq_or_imp]
   constructor
   ·intro h; exact .inl h
   ·rintro (h | ⟨q, hq, h4, h5⟩)
    ·exact h
    ·have := (rc_lo h.2.2.2 q hq).1; omega
  ·rw [if_neg hi]
   simp only [List.mem_cons, exists_eq_or_imp]
   simp only [Bool.and_eq_true, decide_eq_true_eq] at ih
   constructor
   ·intro h; exact .inr (ih.1 ⟨by omega, h⟩)
   ·rintro (h | h)
    ·omega
    ·exact (ih.2 h).2
/-- the runs that begin ahead of x -/
def ahead (x : Nat) (l : List Run) : List Run := l.filter fun p => decide (p.1 < x)
theorem ahead_zero (l : List Run) : ahead 0 l = [] := by unfold ahead; simp
theorem ahead_all {l : List Run} {c : Nat} (h : RC c l) : ahead 48 l = l := by
 unfold ahead
 rw [List.filter_eq_self]
 intro q hq
 have := rc_lo h q hq
 simp; omega
theorem ahead_none {l : List Run} {x : Nat} (h : ∀ q ∈ l, q.1 ≠ x) : ahead (x + 1) l = ahead x l := by
 unfold ahead
 refine List.filter_congr fun q hq => ?_
 have := h q hq
 simp; omega
theorem ahead_here : ∀ {l : List Run} {c x : Nat}, RC c l → ∀ p ∈ l, p.1 = x → ahead (x + 1) l = ahead x l ++ [p]
 | [], c, x, _, p, hp, _ => by cases hp
 | a :: l, c, x, h, p, hp, e => by
  rcases List.mem_cons.1 hp with rfl | hp
  ·have hn : ∀ z, z ≤ p.2 + 2 → ahead z l = [] := fun z hz => by
    unfold ahead
    rw [List.filter_eq_nil_iff]
    intro q hq
    have := (rc_lo h.2.2.2 q hq).1
    simp; omega
   have h21 := h.2.1
   have e1 := hn (x + 1) (by omega)
   have e2 := hn x (by omega)
   unfold ahead at e1 e2 ⊢
   rw [List.filter_cons_of_pos (by simp; omega), List.filter_cons_of_neg (by simp; omega), e1, e2]; rfl
  ·have ih := ahead_here h.2.2.2 p hp e
   have := (rc_lo h.2.2.2 p hp).1
   have h21 := h.2.1
   unfold ahead at ih ⊢
   rw [List.filter_cons_of_pos (by simp; omega), List.filter_cons_of_pos (by simp; omega), ih]; rfl
/-- does a run begin at x? -/
def begB (n x : Nat) : Bool := n.testBit x && (decide (x = 0) || !n.testBit (x - 1))
theorem rc_same : ∀ {l : List Run} {c : Nat}, RC c l → ∀ p ∈ l, ∀ q ∈ l, p.1 ≤ q.2 + 1 → q.1 ≤ p.2 + 1 → p = q
 | [], c, _, p, hp, _, _, _, _ => by cases hp
 | a :: l, c, h, p, hp, q, hq, h1, h2 => by
  have hlo := rc_lo h.2.2.2
  rcases List.mem_cons.1 hp with e | hp'
  ·rcases List.mem_cons.1 hq with e2 | hq'
   ·rw [e, e2]
   ·have := (hlo q hq').1; subst e; omega
  ·rcases List.mem_cons.1 hq with e2 | hq'
   ·have := (hlo p hp').1; subst e2; omega
   ·exact rc_same h.2.2.2 p hp' q hq' h1 h2
theorem beg_true {n x : Nat} (h : n < 2 ^ 48) (hb : begB n x = true) : ∃ p ∈ runsN n, p.1 = x ∧ x ≤ p.2 ∧ p.2 ≤ 47 ∧ (∀ i, x ≤ i → i ≤ p.2 → n.testBit i = true) ∧ n.testBit (p.2 + 1) = false := by
 obtain ⟨h1, h2⟩ := runsN_rc h
 have hB := val_bits h1
 rw [h2] at hB
 unfold begB at hb
 simp only [Bool.and_eq_true, Bool.or_eq_true, decide_eq_true_eq, Bool.not_eq_true'] at hb
 obtain ⟨p, hp, p1, p2⟩ := (hB x).1 hb.1
 have hlo := rc_lo h1 p hp
 have hpx : p.1 = x := by
  rcases Nat.lt_or_eq_of_le p1 with h3 | h3
  ·exfalso
   rcases hb.2 with h4 | h4
   ·omega
   ·have := (hB (x - 1)).2 ⟨p, hp, by omega, by omega⟩
    rw [h4] at this; cases this
  ·exact h3
 refine ⟨p, hp, hpx, p2, hlo.2.2, fun i hi hi2 => (hB i).2 ⟨p, hp, by omega, hi2⟩, ?_⟩
 cases hn : n.testBit (p.2 + 1) with
 | false => rfl
 | true =>
  obtain ⟨q, hq, q1, q2⟩ := (hB _).1 hn
  have := rc_same h1 p hp q hq (by omega) (by omega)
  subst this
  omega
theorem beg_false {n x : Nat} (h : n < 2 ^ 48) (hb : begB n x = false) : ∀ p ∈ runsN n, p.1 ≠ x := by
 obtain ⟨h1, h2⟩ := runsN_rc h
 have hB := val_bits h1
 rw [h2] at hB
 intro p hp e
 have hlo := rc_lo h1 p hp
 have e1 : n.testBit x = true := (hB x).2 ⟨p, hp, by omega, by omega⟩
 unfold begB at hb
 rw [e1, Bool.true_and] at hb
 simp only [Bool.or_eq_false_iff, decide_eq_false_iff_not, Bool.not_eq_false'] at hb
 obtain ⟨q, hq, q1, q2⟩ := (hB (x - 1)).1 hb.2
 have := rc_same h1 p hp q hq (by omega) (by omega)
 subst this
 omega
end Go.SX

/-
 Plain: the reference's numbers are those that are read.
-/
namespace Go.SX
def DG (s : Wd) : Prop := ∀ c ∈ s, 48 ≤ c.toNat ∧ c.toNat ≤ 57
theorem digS_bad : ∀ (s : Wd) (n : Int), ¬ DG s → digS n s = -1
 | [], n, h => absurd (fun c hc => by cases hc) h
 | c :: s, n, h => by
  rw [digS]
  by_cases hc : c.toNat < 48 ∨ 57 < c.toNat
  ·rw [if_pos hc]
  ·rw [if_neg hc]
   exact digS_bad s _ fun hd => h fun x hx => by
    rcases List.mem_cons.1 hx with rfl | hx
    ·omega
    ·exact hd x hx
theorem digS_snoc : ∀ (s : Wd) (n : Int) (c : UInt8), DG s → 48 ≤ c.toNat ∧ c.toNat ≤ 57 → digS n (s ++ [c]) = 10 * digS n s + ((c.toNat : Int) - 48)
 | [], n, c, _, hc => by
  rw [List.nil_append]
  show digS n [c] = 10 * n + _
  rw [digS, if_neg (by omega), digS]
 | d :: s, n, c, h, hc => by
  have hd := h d (by simp)
  rw [List.cons_append, digS, digS, if_neg (by omega), if_neg (by omega), digS_snoc s _ c (fun x hx => h x (List.mem_cons_of_mem _ hx)) hc]
theorem digS_hi : ∀ (s : Wd) (n : Int), DG s → 0 ≤ n → digS n s + 1 ≤ (n + 1) * 10 ^ s.length
 | [], n, _, _ => by simp [digS]
 | c :: s, n, h, h0 => by
  have hc := h c (by simp)
  rw [digS, if_neg (by omega), List.length_cons, Int.pow_succ]
  have h1 := digS_hi s (10 * n + ((c.toNat : Int) - 48)) (fun x hx => h x (List.mem_cons_of_mem _ hx)) (by omega)
  have h2 : (10 * n + ((c.toNat : Int) - 48) + 1) * 10 ^ s.length ≤ (10 * (n + 1)) * 10 ^ s.length := Int.mul_le_mul_of_nonneg_right (by omega) (Int.pow_nonneg (by omega))
  have h3 : (n + 1) * (10 ^ s.length * 10) = (10 * (n + 1)) * 10 ^ s.length := by rw [Int.mul_comm (10 ^ s.length) 10, ← Int.mul_assoc, Int.mul_comm (n + 1) 10]
  omega
/-- digits that begin with no 0 -/
theorem dig_itoa : ∀ (k : Nat) (s : Wd), s.length = k + 1 → k ≤ 10 → DG s → s.getD 0 0 ≠ 48 → 1 ≤ digS 0 s ∧ itoaW (digS 0 s) = s
 | 0, s, hl, _, h, h0 => by
  match s, hl with
  | [c], _ =>
   have hc := h c (by simp)
   have hne : c.toNat ≠ 48 := fun e => h0 (by
    show c = 48
    exact UInt8.toNat_inj.1 e)
   have e : digS 0 [c] = (c.toNat : Int) - 48 := by rw [digS, if_neg (by omega), digS]; omega
   rw [e]
   refine ⟨by omega, ?_⟩
   rw [itoaW_dig (by omega) (by omega)]
   congr 1
   refine UInt8.toNat_inj.1 ?_
   rw [UInt8.toNat_ofNat']
   omega
 | k + 1, s, hl, hk, h, h0 => by
  obtain ⟨t, c, rfl⟩ : ∃ t c, s = t ++ [c] := ⟨s.dropLast, s.getLast (by intro e; rw [e] at hl; simp at hl), (List.dropLast_concat_getLast _).symm⟩
  have htl : t.length = k + 1 := by simpa using hl
  have hc := h c (by simp)
  have ht : DG t := fun x hx => h x (by simp [hx])
  have ht0 : t.getD 0 0 ≠ 48 := by
   cases t with
   | nil => simp at htl
   | cons a t => exact h0
  obtain ⟨h1, h2⟩ := dig_itoa k t htl (by omega) ht ht0
  have hhi := digS_hi t 0 ht (by omega)
  rw [htl] at hhi
  have hpow : (10 : Int) ^ (k + 1) ≤ 10 ^ 10 := by
   have := Nat.pow_le_pow_right (n := 10) (by omega) (show k + 1 ≤ 10 by omega)
   exact_mod_cast this
  rw [digS_snoc t 0 c ht hc]
  refine ⟨by omega, ?_⟩
  have e1 : (10 * digS 0 t + ((c.toNat : Int) - 48)).tdiv 10 = digS 0 t := by rw [Int.tdiv_eq_ediv_of_nonneg (by omega)]; omega
  have e2 : (10 * digS 0 t + ((c.toNat : Int) - 48)).tmod 10 = (c.toNat : Int) - 48 := by rw [Int.tmod_eq_emod_of_nonneg (by omega)]; omega
  rw [itoaW_step (by omega) (by omega), e1, e2, h2, itoaW_dig (by omega) (by omega)]
  congr 2
  refine UInt8.toNat_inj.1 ?_
  rw [UInt8.toNat_ofNat']
  omega
theorem val_itoa {s : Wd} (h : 0 ≤ valS s) : itoaW (valS s) = s ∧ valS s < 10000000000 := by
 unfold valS at h ⊢
 split at h
 ·omega
 ·rename_i hc
  rw [if_neg hc]
  simp only [not_or, not_and] at hc
  obtain ⟨c1, c2, c3⟩ := hc
  have hd : DG s := by
   apply Classical.byContradiction
   intro hn
   rw [digS_bad s 0 hn] at h
   omega
  have hhi := digS_hi s 0 hd (by omega)
  have hpow : (10 : Int) ^ s.length ≤ 10 ^ 10 := by
   have := Nat.pow_le_pow_right (n := 10) (by omega) (show s.length ≤ 10 by omega)
   exact_mod_cast this
  refine ⟨?_, by omega⟩
  by_cases h0 : s.getD 0 0 = 48
  ·have h1 := c3 h0
   match s, c1, h1, h0 with
   | [c], _, _, h0 =>
    have h0 : c = 48 := h0
    subst h0
    decide
   | a :: b :: s, _, h1, _ => simp at h1
  ·exact (dig_itoa (s.length - 1) s (by omega) (by omega) hd h0).2
/-- the digits of a number -/
theorem itoa_dig : ∀ (f : Nat) (n : Int), 0 ≤ n → n < 10 ^ (f + 1) → n < 1000000000000 → DG (itoaW n) ∧ digS 0 (itoaW n) = n ∧ (itoaW n).length ≤ f + 1 ∧ 1 ≤ (itoaW n).length ∧ (1 ≤ n → (itoaW n).getD 0 0 ≠ 48) ∧ (n = 0 → (itoaW n).length = 1)
 | f, n, h0, h1, h2 => by
  by_cases h10 : n < 10
  ·rw [itoaW_dig h0 h10]
   have e : (UInt8.ofNat (48 + n.toNat)).toNat = 48 + n.toNat := by rw [UInt8.toNat_ofNat']; omega
   refine ⟨fun c hc => ?_, ?_, by simp, by simp, fun h => ?_, fun _ => rfl⟩
   ·rw [List.mem_singleton] at hc; rw [hc, e]; omega
   ·rw [digS, if_neg (by omega), digS]; omega
   ·intro e2
    have e2 : UInt8.ofNat (48 + n.toNat) = 48 := e2
    have := congrArg UInt8.toNat e2
    rw [e] at this
    have h48 : (48 : UInt8).toNat = 48 := rfl
    omega
  ·cases f with
   | zero => simp at h1; omega
   | succ f =>
    have e1 : n.tdiv 10 = n / 10 := Int.tdiv_eq_ediv_of_nonneg (by omega)
    have e2 : n.tmod 10 = n % 10 := Int.tmod_eq_emod_of_nonneg (by omega)
    rw [itoaW_step (by omega) (by omega), e1, e2]
    rw [Int.pow_succ] at h1
    obtain ⟨g1, g2, g3, g4, g5, g6⟩ := itoa_dig f (n / 10) (by omega) (by omega) (by omega)
    have e3 : (UInt8.ofNat (48 + (n % 10).toNat)).toNat = 48 + (n % 10).toNat := by rw [UInt8.toNat_ofNat']; omega
    rw [itoaW_dig (n := n % 10) (by omega) (by omega)]
    refine ⟨fun c hc => ?_, ?_, by simp; omega, by simp, fun _ => ?_, fun h => by omega⟩
    ·rcases List.mem_append.1 hc with hc | hc
     ·exact g1 c hc
     ·rw [List.mem_singleton] at hc; rw [hc, e3]; omega
    ·rw [digS_snoc _ _ _ g1 (by omega), g2, e3]; omega
    ·have := g5 (by omega)
     cases hq : itoaW (n / 10) with
     | nil => rw [hq] at g4; simp at g4
     | cons a l => rw [hq] at this; exact this
theorem val_of_itoa {n : Int} (h0 : 0 ≤ n) (h : n < 10000000000) : valS (itoaW n) = n := by
 obtain ⟨g1, g2, g3, g4, g5, g6⟩ := itoa_dig 9 n h0 (by omega) (by omega)
 unfold valS
 rw [if_neg, g2]
 simp only [not_or, not_and]
 refine ⟨by omega, by omega, fun e => ?_⟩
 by_cases hn : n = 0
 ·have := g6 hn; omega
 ·exact absurd e (g5 (by omega))
/-- within bounds, both read the same -/
theorem val_num {s : Wd} {lo hi : Int} (hlo : 0 ≤ lo) (hhi : hi < 10000000000) : (lo ≤ valS s ∧ valS s ≤ hi → numW s = some (valS s)) ∧ (∀ n, numW s = some n → lo ≤ n → n ≤ hi → valS s = n) := by
 constructor
 ·rintro ⟨h1, h2⟩
  obtain ⟨e, hb⟩ := val_itoa (s := s) (by omega)
  have := numW_itoa (n := valS s) (by omega) (by omega)
  rw [e] at this
  exact this
 ·intro n h h1 h2
  have := numW_some h
  rw [← this]
  exact val_of_itoa (by omega) (by omega)
end Go.SX

/-
 Plain: both readers read the same.
-/
namespace Go.SX
def Sim {α : Type} (p : Rs α) (x : Xr α) : Prop := match p with
 | .ok v a m => x = (v, a, false, m)
 | .no a _ => x.2.1 = a ∧ x.2.2.1 = true
/-- once a word was wrong, nothing is read -/
def Stay {α : Type} (K : XP α) : Prop := ∀ a m, (K a true m).2.1 = a ∧ (K a true m).2.2.1 = true
def SimP {α : Type} (ws : List Wd) (P : Int → Int → Rs α) (X : XP α) : Prop := ∀ a m : Int, 0 ≤ a → a ≤ (ws.length : Int) → Sim (P a m) (X a false m) ∧ ∀ v b k, P a m = .ok v b k → 0 ≤ b ∧ b ≤ ws.length
theorem stay_bind {α β : Type} {X : XP α} {K : α → XP β} (h : Stay X) (hk : ∀ v, Stay (K v)) : Stay (fun a w m => (X a w m).bind K) := fun a m => by
 obtain ⟨h1, h2⟩ := h a m
 have h3 := hk (X a true m).1 a (X a true m).2.2.2
 show (K (X a true m).1 (X a true m).2.1 (X a true m).2.2.1 (X a true m).2.2.2).2.1 = a ∧ (K (X a true m).1 (X a true m).2.1 (X a true m).2.2.1 (X a true m).2.2.2).2.2.1 = true
 rw [h1, h2]; exact h3
theorem stay_ret {α : Type} (v : α) : Stay (fun a w m => (v, a, w, m) : XP α) := fun a m => ⟨rfl, rfl⟩
theorem sim_ret {α : Type} {ws : List Wd} (v : α) : SimP ws (fun a m => .ok v a m) (fun a w m => (v, a, w, m)) := fun a m h0 h1 => ⟨rfl, fun v' b k e => by injection e with _ e _; subst e; exact ⟨h0, h1⟩⟩
theorem sim_bindQ {α β : Type} {ws : List Wd} {P : Int → Int → Rs α} {X : XP α} {k : α → Int → Int → Rs β} {K : α → XP β} (Q : α → Prop) (hP : SimP ws P X) (hQ : ∀ a m v b n, P a m = .ok v b n → Q v) (hK : ∀ v, Q v → SimP ws (k v) (K v)) (hS : ∀ v, Stay (K v)) : SimP ws (fun a m => (P a m).bind (k · · ·)) (fun a w m => (X a w m).bind K) := fun a m h0 h1 => by
 obtain ⟨h2, h3⟩ := hP a m h0 h1
 cases hp : P a m with
 | ok v b n =>
  rw [hp] at h2
  have h2 : X a false m = (v, b, false, n) := h2
  obtain ⟨g0, g1⟩ := h3 v b n hp
  obtain ⟨s1, s2⟩ := hK v (hQ a m v b n hp) b n g0 g1
  constructor
  ·show Sim ((P a m).bind (k · · ·)) ((X a false m).bind K)
   rw [hp, h2]; exact s1
  ·intro v' b' n' e
   have e : (P a m).bind (k · · ·) = .ok v' b' n' := e
   rw [hp] at e
   exact s2 v' b' n' e
 | no b n =>
  rw [hp] at h2
  have h2 : (X a false m).2.1 = b ∧ (X a false m).2.2.1 = true := h2
  constructor
  ·show Sim ((P a m).bind (k · · ·)) ((X a false m).bind K)
   rw [hp]
   show (K (X a false m).1 (X a false m).2.1 (X a false m).2.2.1 (X a false m).2.2.2).2.1 = b ∧ (K (X a false m).1 (X a false m).2.1 (X a false m).2.2.1 (X a false m).2.2.2).2.2.1 = true
   rw [h2.1, h2.2]
   exact hS _ b _
  ·intro v' b' n' e
   have e : (P a m).bind (k · · ·) = .ok v' b' n' := e
   rw [hp] at e
   cases e
theorem sim_bind {α β : Type} {ws : List Wd} {P : Int → Int → Rs α} {X : XP α} {k : α → Int → Int → Rs β} {K : α → XP β} (hP : SimP ws P X) (hK : ∀ v, SimP ws (k v) (K v)) (hS : ∀ v, Stay (K v)) : SimP ws (fun a m => (P a m).bind (k · · ·)) (fun a w m => (X a w m).bind K) := sim_bindQ (fun _ => True) hP (fun _ _ _ _ _ _ => trivial) (fun v _ => hK v) hS
/-! words -/
theorem next_wrong (ws : List Wd) (s : Wd) (a : Int) : xNext ws s a true = false := by unfold xNext; simp
theorem next_peek {ws : List Wd} {s : Wd} (hs : s ≠ [32]) {a : Int} (h0 : 0 ≤ a) (h1 : a ≤ ws.length) : xNext ws s a false = decide (peekW ws a = s) := by
 unfold xNext peekW
 by_cases h : a = ws.length
 ·rw [if_pos h, decide_eq_false (by omega), decide_eq_false (Ne.symm hs)]; rfl
 ·rw [if_neg h, decide_eq_true (show a < ws.length by omega)]; simp
theorem peek_in {ws : List Wd} {s : Wd} (hs : s ≠ [32]) {a : Int} (h1 : a ≤ ws.length) (h : peekW ws a = s) : a < ws.length := by
 rcases Int.lt_or_eq_of_le h1 with h2 | h2
 ·exact h2
 ·unfold peekW at h; rw [if_pos h2] at h; exact absurd h.symm hs
theorem stay_must (ws : List Wd) : ∀ l, Stay (xMust ws l)
 | [] => fun a m => ⟨rfl, rfl⟩
 | s :: l => fun a m => by
  show (if xNext ws s a true then xMust ws l (a + 1) true m else xMust ws l a true m).2.1 = a ∧ (if xNext ws s a true then xMust ws l (a + 1) true m else xMust ws l a true m).2.2.1 = true
  rw [next_wrong]
  exact stay_must ws l a m
theorem sim_must (ws : List Wd) : ∀ l, (∀ s ∈ l, s ≠ [32]) → SimP ws (mustW ws l) (xMust ws l)
 | [], _ => fun a m h0 h1 => ⟨rfl, fun v b k e => by rw [mustW] at e; injection e with _ e _; subst e; exact ⟨h0, h1⟩⟩
 | s :: l, hl => fun a m h0 h1 => by
  have hs := hl s (by simp)
  show Sim (mustW ws (s :: l) a m) (if xNext ws s a false then xMust ws l (a + 1) false m else xMust ws l a true m) ∧ _
  rw [mustW, next_peek hs h0 h1]
  by_cases hp : peekW ws a = s
  ·have hin := peek_in hs h1 hp
   rw [if_pos hp, decide_eq_true hp, if_pos rfl]
   exact sim_must ws l (fun x hx => hl x (List.mem_cons_of_mem _ hx)) (a + 1) m (by omega) (by omega)
  ·rw [if_neg hp, decide_eq_false hp]
   exact ⟨stay_must ws l a m, fun v b k e => by cases e⟩
theorem stay_num (ws : List Wd) (lo hi : Int) : Stay (xNum ws lo hi) := fun a m => by
 unfold xNum; rw [if_pos (.inl rfl)]; exact ⟨rfl, rfl⟩
theorem sim_num (ws : List Wd) {lo hi : Int} (hlo : 0 ≤ lo) (hhi : hi < 10000000000) : SimP ws (numP ws lo hi) (xNum ws lo hi) := fun a m h0 h1 => by
 unfold numP xNum
 obtain ⟨v1, v2⟩ := val_num (s := ws.getD a.toNat []) hlo hhi
 by_cases ha : a = ws.length
 ·rw [if_pos (.inr (.inl (by omega)))]
  have : peekW ws a = [32] := by unfold peekW; rw [if_pos ha]
  rw [this, numW_blank]
  exact ⟨⟨rfl, rfl⟩, fun v b k e => by cases e⟩
 ·have hp : peekW ws a = ws.getD a.toNat [] := by unfold peekW; rw [if_neg ha]
  rw [hp]
  by_cases hv : lo ≤ valS (ws.getD a.toNat []) ∧ valS (ws.getD a.toNat []) ≤ hi
  ·rw [if_neg (by simp only [not_or, Decidable.not_not]; exact ⟨by decide, by omega, hv⟩), v1 hv]
   simp only
   rw [if_pos hv]
   exact ⟨rfl, fun v b k e => by injection e with _ e _; subst e; omega⟩
  ·rw [if_pos (.inr (.inr hv))]
   cases hn : numW (ws.getD a.toNat []) with
   | none => exact ⟨⟨rfl, rfl⟩, fun v b k e => by cases e⟩
   | some n =>
    simp only
    rw [if_neg (fun hb => hv (by rw [v2 n hn hb.1 hb.2]; exact hb))]
    exact ⟨⟨rfl, rfl⟩, fun v b k e => by cases e⟩
theorem stay_is (ws : List Wd) (s : Wd) : Stay (xIs ws s) := fun a m => by unfold xIs; rw [next_wrong]; exact ⟨rfl, rfl⟩
theorem stay_word (ws : List Wd) (s t : Wd) : Stay (xWord ws s t) := by
 refine stay_bind (stay_is ws s) fun c => stay_bind ?_ fun _ => stay_ret c
 cases c
 ·exact stay_must ws [t]
 ·exact stay_ret ()
theorem sim_word (ws : List Wd) {s t : Wd} (hs : s ≠ [32]) (ht : t ≠ [32]) : SimP ws (wordP ws s t) (xWord ws s t) := fun a m h0 h1 => by
 unfold wordP xWord xIs
 rw [next_peek hs h0 h1]
 by_cases hp : peekW ws a = s
 ·have := peek_in hs h1 hp
  rw [if_pos hp, decide_eq_true hp]
  exact ⟨rfl, fun v b k e => by injection e with _ e _; subst e; omega⟩
 ·rw [if_neg hp, decide_eq_false hp]
  show Sim _ ((xMust ws [t] a false m).bind fun _ a w m => (false, a, w, m)) ∧ _
  show Sim _ ((if xNext ws t a false then ((), a + 1, false, m) else ((), a, true, m) : Xr Unit).bind fun _ a w m => (false, a, w, m)) ∧ _
  rw [next_peek ht h0 h1]
  by_cases hq : peekW ws a = t
  ·have := peek_in ht h1 hq
   rw [if_pos hq, decide_eq_true hq]
   exact ⟨rfl, fun v b k e => by injection e with _ e _; subst e; omega⟩
  ·rw [if_neg hq, decide_eq_false hq]
   exact ⟨⟨rfl, rfl⟩, fun v b k e => by cases e⟩
/-! areas -/
/-- as Sim; where the one reader stops at the end of the area ahead of 'at', the other one finds it wrong -/
def SimA (ws : List Wd) (p : Rs (List Int)) (x : Xr (List Int)) : Prop := match p with
 | .ok v a m => (x = (v, a, false, m) ∧ peekW ws a ≠ w_at ∨ peekW ws a = w_at ∧ x.2.1 = a ∧ x.2.2.1 = true) ∧ 0 ≤ a ∧ a ≤ ws.length
 | .no a _ => x.2.1 = a ∧ x.2.2.1 = true
def xBody (ws : List Wd) (n : Nat) (y last : Int) (rows : List Int) : XP (List Int) := fun a w m =>
 if ¬ last + 2 < 48 ∧ y = 23 then (rows, a, true, m) else
 (xMust ws [w_at] a w m).bind fun _ a w m =>
 (xNum ws (if last + 2 < 48 then y else y + 1) 23 a w m).bind fun y' a w m =>
 (xNum ws (if y' = y then last + 2 else 0) 47 a w m).bind fun first a w m =>
 (xNum ws first 47 a w m).bind fun last' a w m =>
 xRunsL ws n y' last' (if w then rows else rows.set y'.toNat (bitop .or .i64 (rows.getD y'.toNat 0) (maskW first last'))) a w m
theorem runs_succ (ws : List Wd) (n : Nat) (y last : Int) (rows : List Int) (a m : Int) (w : Bool) : xRunsL ws (n + 1) y last rows a w m = if xNext ws w_at a w || (decide (y = 0) && decide (last = -2) && !w) then xBody ws n y last rows a w m else (rows, a, w, m) := rfl
theorem stay_runs (ws : List Wd) : ∀ (n : Nat) (y last : Int) (rows : List Int), Stay (xRunsL ws n y last rows)
 | 0, y, last, rows => fun a m => ⟨rfl, rfl⟩
 | n + 1, y, last, rows => fun a m => by
  rw [runs_succ, next_wrong]
  simp
theorem simA_bind {α : Type} {ws : List Wd} {P : Rs α} {X : Xr α} {k : α → Int → Int → Rs (List Int)} {K : α → XP (List Int)} (hs : Sim P X) (hS : ∀ v, Stay (K v)) (hk : ∀ v b n, P = .ok v b n → SimA ws (k v b n) (K v b false n)) : SimA ws (P.bind k) (X.bind K) := by
 cases P with
 | ok v b n =>
  have hs : X = (v, b, false, n) := hs
  rw [hs]
  exact hk v b n rfl
 | no b n =>
  have hs : X.2.1 = b ∧ X.2.2.1 = true := hs
  show (K X.1 X.2.1 X.2.2.1 X.2.2.2).2.1 = b ∧ (K X.1 X.2.1 X.2.2.1 X.2.2.2).2.2.1 = true
  rw [hs.1, hs.2]
  exact hS _ b _
theorem sim_area (ws : List Wd) : ∀ (n : Nat) (y last : Int) (rows : List Int) (a m : Int), 0 ≤ a → a ≤ ws.length → 0 ≤ y → y ≤ 23 → -2 ≤ last → last ≤ 47 → (23 - y) * 25 + (47 - last) / 2 + 1 ≤ n + 1 → (peekW ws a = w_at ∨ ¬ (48 ≤ last + 2 ∧ y = 23)) → SimA ws (areaP ws (n + 1) y (last + 2) rows a m) (xBody ws n y last rows a false m)
 | n, y, last, rows, a, m, h0, h1, hy0, hy1, hl0, hl1, hn, hpre => by
  unfold xBody
  rw [areaP]
  by_cases hc : 48 ≤ last + 2 ∧ y = 23
  ·have hp : peekW ws a = w_at := by
    rcases hpre with h | h
    ·exact h
    ·exact absurd hc h
   rw [if_pos hc, if_pos (show ¬ last + 2 < 48 ∧ y = 23 from ⟨by omega, hc.2⟩)]
   exact ⟨.inr ⟨hp, rfl, rfl⟩, h0, h1⟩
  ·rw [if_neg hc, if_neg (show ¬ (¬ last + 2 < 48 ∧ y = 23) from fun h => hc ⟨by omega, h.2⟩)]
   have st4 : ∀ (y' first : Int) (v : Int), Stay (fun a w m => xRunsL ws n y' v (if w then rows else rows.set y'.toNat (bitop .or .i64 (rows.getD y'.toNat 0) (maskW first v))) a w m) := fun y' first v a m => stay_runs ws n y' v _ a m
   have st3 : ∀ y' first : Int, Stay (fun a w m => (xNum ws first 47 a w m).bind fun last' a w m => xRunsL ws n y' last' (if w then rows else rows.set y'.toNat (bitop .or .i64 (rows.getD y'.toNat 0) (maskW first last'))) a w m) := fun y' first => stay_bind (stay_num ws _ _) fun v => st4 y' first v
   have st2 : ∀ y' : Int, Stay (fun a w m => (xNum ws (if y' = y then last + 2 else 0) 47 a w m).bind fun first a w m => (xNum ws first 47 a w m).bind fun last' a w m => xRunsL ws n y' last' (if w then rows else rows.set y'.toNat (bitop .or .i64 (rows.getD y'.toNat 0) (maskW first last'))) a w m) := fun y' => stay_bind (stay_num ws _ _) fun first => st3 y' first
   have st1 : ∀ u : Unit, Stay (fun a w m => (xNum ws (if last + 2 < 48 then y else y + 1) 23 a w m).bind fun y' a w m => (xNum ws (if y' = y then last + 2 else 0) 47 a w m).bind fun first a w m => (xNum ws first 47 a w m).bind fun last' a w m => xRunsL ws n y' last' (if w then rows else rows.set y'.toNat (bitop .or .i64 (rows.getD y'.toNat 0) (maskW first last'))) a w m) := fun _ => stay_bind (stay_num ws _ _) fun y' => st2 y'
   obtain ⟨s1, b1⟩ := sim_must ws [w_at] (by decide) a m h0 h1
   refine simA_bind s1 st1 fun u a1 m1 hp1 => ?_
   obtain ⟨c0, c1⟩ := b1 u a1 m1 hp1
   have elo : (if 48 ≤ last + 2 then y + 1 else y) = (if last + 2 < 48 then y else y + 1) := by
    by_cases h : last + 2 < 48
    ·rw [if_pos h, if_neg (by omega)]
    ·rw [if_neg h, if_pos (by omega)]
   simp only [elo]
   obtain ⟨s2, b2⟩ := sim_num ws (lo := if last + 2 < 48 then y else y + 1) (hi := 23) (by split <;> omega) (by omega) a1 m1 c0 c1
   refine simA_bind s2 st2 fun y' a2 m2 hp2 => ?_
   obtain ⟨c2, c3⟩ := b2 y' a2 m2 hp2
   have hyb := num_bd hp2
   have hyy : y ≤ y' ∧ (48 ≤ last + 2 → y < y') := by split at hyb <;> omega
   have exlo : (if y' > (if last + 2 < 48 then y else y + 1) ∨ 48 ≤ last + 2 then (0 : Int) else last + 2) = (if y' = y then last + 2 else 0) := by
    by_cases h : last + 2 < 48
    ·rw [if_pos h]
     by_cases h2 : y' = y
     ·rw [if_pos h2, if_neg (by omega)]
     ·rw [if_neg h2, if_pos (by omega)]
    ·rw [if_pos (.inr (by omega)), if_neg (by omega)]
   simp only [exlo]
   obtain ⟨s3, b3⟩ := sim_num ws (lo := if y' = y then last + 2 else 0) (hi := 47) (by split <;> omega) (by omega) a2 m2 c2 c3
   refine simA_bind s3 (st3 y') fun x a3 m3 hp3 => ?_
   obtain ⟨c4, c5⟩ := b3 x a3 m3 hp3
   have hxb := num_bd hp3
   have hx0 : 0 ≤ x ∧ (y' = y → last + 2 ≤ x) := by
    by_cases h : y' = y
    ·rw [if_pos h] at hxb; omega
    ·rw [if_neg h] at hxb; omega
   obtain ⟨s4, b4⟩ := sim_num ws (lo := x) (hi := 47) (by omega) (by omega) a3 m3 c4 c5
   refine simA_bind s4 (st4 y' x) fun z a4 m4 hp4 => ?_
   obtain ⟨c6, c7⟩ := b4 z a4 m4 hp4
   have hzb := num_bd hp4
   have hn1 : (23 - y') * 25 + (47 - z) / 2 + 1 ≤ n := by
    rcases Int.lt_or_eq_of_le hyy.1 with h | h
    ·omega
    ·have := hx0.2 h.symm; omega
   obtain ⟨k, rfl⟩ : ∃ k, n = k + 1 := ⟨n - 1, by omega⟩
   have hy23 : y' ≤ 23 := hyb.2
   rw [runs_succ, next_peek (by decide) c6 c7, decide_eq_false (show ¬ z = -2 by omega)]
   by_cases hp : peekW ws a4 = w_at
   ·rw [if_pos hp, decide_eq_true hp, if_pos (by simp)]
    exact sim_area ws k y' z _ a4 m4 c6 c7 (by omega) hy23 (by omega) (by omega) (by omega) (.inl hp)
   ·rw [if_neg hp, decide_eq_false hp, if_neg (by simp)]
    exact ⟨.inl ⟨rfl, hp⟩, c6, c7⟩
end Go.SX
