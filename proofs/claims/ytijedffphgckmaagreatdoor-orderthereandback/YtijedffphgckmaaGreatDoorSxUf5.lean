/-
  Walks: Uf5, Or3, Or4, Or5, Or6, Ue4: what single functions of the program compute.
-/
import Derived.Test.YtijedffphgckmaaGreatDoorSxZ2
import Derived.ChangeMaps
import Derived.Test.YtijedffphgckmaaGreatDoorSxTd7
set_option linter.unusedVariables false
set_option linter.unusedSimpArgs false
namespace Go.SX
open Go.Proofs Go.Proofs.YtijedffphgckmaaGreatDoor Go.ChangeShapes Go.WideShapes Go.ChangeAt Go.RowKit
set_option maxHeartbeats 4000000
set_option maxRecDepth 100000
variable {H : Type} {enc : TypeId × Value → H} {W : World} {r : Reach} {b0' : Nat} {v : Value} {d : DataW H} {ps : List MemPlace}
theorem argStr (ho : Value.okWide Tryz.prog W r b0' 9 v) (h : DataW.Trod enc Tryz.prog W 0 (fun _ => true) true 9 v d ps) : ∃ s : Wd, Den Dc W (En W) (wS s) v ∧ (s.length : Int) ≤ 9223372036854775807 := by
 obtain ⟨s, rfl, _, _, hs⟩ := Go.ChangeMaps.open_string Tryz.underlying9 ho h
 have hm : maxLen = 9223372036854775807 := rfl
 refine ⟨s.data.toList, by simp only [wS, Den]; exact .str _, ?_⟩
 have : s.data.toList.length = s.size := Array.length_toList
 omega
theorem argByte (ho : Value.okWide Tryz.prog W r b0' 5 v) (h : DataW.Trod enc Tryz.prog W 0 (fun _ => true) true 5 v d ps) : ∃ n : Int, Den Dc W (En W) (.p (.int .u8 n)) v ∧ 0 ≤ n ∧ n ≤ 255 := by
 obtain ⟨n, rfl, _, _, hw⟩ := open_int Tryz.underlying5 ho h
 refine ⟨n, by simp only [Den]; exact .int _ _, ?_⟩
 simp only [Lit.wf, Bool.and_eq_true, decide_eq_true_eq] at hw
 exact ⟨hw.1, hw.2⟩
end Go.SX

/-
 Plain: goals are read as they are written.
-/
namespace Go.SX
theorem wordsR_cons (p : Nat × Run) (L : List (Nat × Run)) : wordsR (p :: L) = w_at :: itoaW p.1 :: itoaW p.2.1 :: itoaW p.2.2 :: wordsR L := rfl
theorem wordsR_len : ∀ L : List (Nat × Run), (wordsR L).length = 4 * L.length
 | [] => rfl
 | p :: L => by rw [wordsR_cons]; simp only [List.length_cons, wordsR_len L]; omega
theorem area_at {ws : List Wd} : ∀ (L : List (Nat × Run)) (y c fuel : Nat) (rows : List Int) (a : Nat) (m : Int) (w : Wd) (r : List Wd), L ≠ [] → Chain y c L → L.length ≤ fuel → ws.drop a = wordsR L ++ w :: r → w ≠ w_at → areaP ws fuel y c rows a m = .ok (build rows L) ((a + 4 * L.length : Nat) : Int) m
 | [], y, c, fuel, rows, a, m, w, r, h, _, _, _, _ => absurd rfl h
 | p :: L, y, c, 0, rows, a, m, w, r, _, _, hf, _, _ => by simp at hf
 | p :: L, y, c, fuel + 1, rows, a, m, w, r, _, hc, hf, hd, hw => by
  obtain ⟨c1, c2, c3, c4, c5, c6⟩ := hc
  rw [wordsR_cons] at hd
  have d1 := tail_at hd
  have d2 := tail_at d1
  have d3 := tail_at d2
  have d4 := tail_at d3
  rw [areaP, if_neg (by intro h; have := c3 (by omega); omega)]
  rw [must1 hd]
  dsimp only [Rs.bind]
  have q1 : (if (48 : Int) ≤ c then (y : Int) + 1 else y) ≤ p.1 := by
   by_cases h48 : (48 : Int) ≤ c
   ·rw [if_pos h48]
    rcases Nat.lt_or_eq_of_le c1 with h | h
    ·omega
    ·have := c3 h.symm; omega
   ·rw [if_neg h48]; omega
  have q2 : (if (p.1 : Int) > (if (48 : Int) ≤ c then (y : Int) + 1 else y) ∨ (48 : Int) ≤ c then (0 : Int) else c) ≤ p.2.1 := by
   by_cases h48 : (48 : Int) ≤ c
   ·rw [if_pos (.inr h48)]; omega
   ·rw [if_neg h48]
    by_cases hp : (p.1 : Int) > y
    ·rw [if_pos (.inl hp)]; omega
    ·rw [if_neg (by intro h; rcases h with h | h; exact hp h; exact h48 h)]
     have := c3 (by omega); omega
  rw [num_at d1 q1 (by omega) (by omega) (by omega)]
  dsimp only
  rw [num_at d2 q2 (by omega) (by omega) (by omega)]
  dsimp only
  rw [num_at d3 (by omega) (by omega) (by omega) (by omega)]
  dsimp only
  cases L with
  | nil =>
   rw [peek_at (w := w) (r := r) d4, if_neg hw]
   rfl
  | cons q L =>
   rw [wordsR_cons] at d4
   rw [peek_at (w := w_at) d4, if_pos rfl]
   have ih := area_at (q :: L) p.1 (p.2.2 + 2) fuel (orRun rows p) (a + 1 + 1 + 1 + 1) m w r (by simp) c6 (by simpa using hf) d4 hw
   rw [show a + 4 * (p :: q :: L).length = a + 1 + 1 + 1 + 1 + 4 * (q :: L).length by simp only [List.length_cons]; omega]
   exact ih
theorem area_ok {ws : List Wd} : ∀ (fuel y c : Nat) (rows rows' : List Int) (a m a' m' : Int), 0 ≤ a → a ≤ ws.length → areaP ws fuel y c rows a m = .ok rows' a' m' → ∃ L, Chain y c L ∧ (L = [] → 48 ≤ c) ∧ Reads ws a (wordsR L) a' ∧ m' = m ∧ rows' = build rows L
 | 0, y, c, rows, rows', a, m, a', m', h0, h1, h => by rw [areaP] at h; cases h
 | fuel + 1, y, c, rows, rows', a, m, a', m', h0, h1, h => by
  rw [areaP] at h
  split at h
  ·rename_i hc
   injection h with e1 e2 e3
   subst e1 e2 e3
   exact ⟨[], trivial, fun _ => by omega, .nil h0 h1, rfl, rfl⟩
  ·rename_i hc
   replace h := bind_ok h
   obtain ⟨_, a1, m1, h2, h⟩ := h
   obtain ⟨r1, rfl⟩ := must_ok [w_at] (by decide) h0 h1 h2
   replace h := bind_ok h
   obtain ⟨row, a2, m2, h2, h⟩ := h
   obtain ⟨r2, rfl, b1, b2⟩ := num_ok r1.lo' r1.hi h2
   replace h := bind_ok h
   obtain ⟨x, a3, m3, h2, h⟩ := h
   obtain ⟨r3, rfl, b3, b4⟩ := num_ok r2.lo' r2.hi h2
   replace h := bind_ok h
   obtain ⟨z, a4, m4, h2, h⟩ := h
   obtain ⟨r4, rfl, b5, b6⟩ := num_ok r3.lo' r3.hi h2
   have hrow : (y : Int) ≤ row := by split at b1 <;> omega
   obtain ⟨row, rfl⟩ := Int.eq_ofNat_of_zero_le (show 0 ≤ row by omega)
   have hx : 0 ≤ x := by split at b3 <;> omega
   obtain ⟨x, rfl⟩ := Int.eq_ofNat_of_zero_le hx
   obtain ⟨z, rfl⟩ := Int.eq_ofNat_of_zero_le (show 0 ≤ z by omega)
   have hcx : row = y → c ≤ x := fun e => by
    subst e
    have h48 : ¬ (48 : Int) ≤ c := fun h => by rw [if_pos h] at b1; omega
    rw [if_neg h48, if_neg (by omega)] at b3
    omega
   have rr := (r1.app (r2.app (r3.app r4)))
   split at h
   ·obtain ⟨L, k1, k2, k3, k4, k5⟩ := area_ok fuel row (z + 2) _ rows' a4 _ a' m' r4.lo' r4.hi h
    refine ⟨(row, (x, z)) :: L, ⟨by show y ≤ row; omega, by show row ≤ 23; omega, hcx, by show x ≤ z; omega, by show z ≤ 47; omega, k1⟩, (by simp), ?_, k4, k5⟩
    have := rr.app k3
    exact this
   ·injection h with e1 e2 e3
    subst e1 e2 e3
    refine ⟨[(row, (x, z))], ⟨by show y ≤ row; omega, by show row ≤ 23; omega, hcx, by show x ≤ z; omega, by show z ≤ 47; omega, trivial⟩, (by simp), ?_, rfl, rfl⟩
    exact rr
/-! see -/
theorem plain_see {g : Goal} (h : OkG g) (hk : g.kind = 1) : g = ⟨1, g.rows, g.from_, g.to_, g.low, g.high, g.clear, 0, 0, 0, [], []⟩ := by
 have h1 := plainB_iff.1 h.plain
 obtain ⟨_, _, _, _, _, k1, k2⟩ := h.see hk
 unfold restG at h1
 rw [if_pos hk] at h1
 cases g
 simp only at *
 simp [h1, k1, k2, hk]
theorem plain_one {g : Goal} (h : OkG g) (hk : g.kind = 2 ∨ g.kind = 3 ∨ g.kind = 4) : ∃ k, g.kids = [k] ∧ k.kind ≤ lastK g.kind ∧ g = (if g.kind = 2 then ⟨2, [], 0, 0, g.low, 0, false, 0, 0, g.within, [], [k]⟩ else if g.kind = 3 then ⟨3, [], g.from_, 0, 0, 0, false, g.days, g.times, g.within, [], [k]⟩ else ⟨4, [], 0, 0, 0, 0, false, 0, 0, g.within, [], [k]⟩) := by
 have h1 := plainB_iff.1 h.plain
 obtain ⟨k1, k2⟩ := h.one hk
 have h3 := h.parts
 simp only [partsB, Bool.and_eq_true, Bool.or_eq_true, decide_eq_true_eq, Bool.not_eq_true', List.any_eq_false] at h3
 obtain ⟨⟨⟨_, _⟩, h4⟩, h5⟩ := h3
 have hr : g.rows = [] := by
  rcases h4 with h4 | h4
  ·omega
  ·exact List.eq_nil_of_length_eq_zero (by omega)
 unfold restG at h1
 obtain ⟨k, hk1⟩ : ∃ k, g.kids = [k] := by
  match hg : g.kids, k1 with
  | [k], _ => exact ⟨k, rfl⟩
 have h6 := h5 k (by rw [hk1]; simp)
 refine ⟨k, hk1, by simpa using h6, ?_⟩
 rw [if_neg (by omega)] at h1
 cases g
 simp only at *
 subst hr hk1 k2
 rcases hk with hk | hk | hk <;> subst hk <;> simp at h1 ⊢ <;> simp [h1]
theorem plain_many {g : Goal} (h : OkG g) (hk : g.kind = 5 ∨ g.kind = 6) : (∀ k ∈ g.kids, k.kind ≤ 6) ∧ g = ⟨g.kind, [], 0, 0, 0, 0, false, 0, 0, 0, g.cents, g.kids⟩ := by
 have h1 := plainB_iff.1 h.plain
 have h3 := h.parts
 simp only [partsB, Bool.and_eq_true, Bool.or_eq_true, decide_eq_true_eq, Bool.not_eq_true', List.any_eq_false] at h3
 obtain ⟨⟨⟨_, _⟩, h4⟩, h5⟩ := h3
 have hr : g.rows = [] := by
  rcases h4 with h4 | h4
  ·omega
  ·exact List.eq_nil_of_length_eq_zero (by omega)
 have hl : lastK g.kind = 6 := by unfold lastK; rw [if_neg (by omega), if_neg (by omega)]
 refine ⟨fun k hk => ?_, ?_⟩
 ·have := h5 k hk
  rw [hl] at this
  simpa using this
 ·unfold restG at h1
  rw [if_neg (by omega), if_neg (by omega), if_neg (by omega), if_neg (by omega)] at h1
  cases g
  simp only at *
  subst hr
  simp [h1]
theorem see_at {ws r : List Wd} {g : Goal} (h : OkG g) (hk : g.kind = 1) {a : Nat} {m : Int} (hd : ws.drop a = goalW g ++ r) : seeP ws ((a + 1 : Nat) : Int) m = .ok g ((a + (goalW g).length : Nat) : Int) m := by
 obtain ⟨b1, b2, b3, b4, b5, _, _⟩ := h.see hk
 obtain ⟨L, l1, l2, l3⟩ := area_write b1
 have hne : L ≠ [] := fun e => by
  have h1 := h.lim
  unfold limB at h1
  rw [if_pos hk] at h1
  simp only [Bool.and_eq_true, List.any_eq_true, decide_eq_true_eq] at h1
  obtain ⟨x, hx, hx0⟩ := h1.1.1.1.1.2
  rw [← l3, e] at hx
  exact hx0 (List.mem_replicate.1 hx).2
 have hlen := rowsW_len 0 g.rows (by simp only [areaB, Bool.and_eq_true] at b1; exact b1.2)
 have hrl : g.rows.length = 24 := by simp only [areaB, Bool.and_eq_true, decide_eq_true_eq] at b1; omega
 rw [l2, wordsR_len] at hlen
 have eW : goalW g = w_see :: (wordsR L ++ [w_from, itoaW g.from_, w_to, itoaW g.to_, w_sun, itoaW g.low, w_to, itoaW g.high, if g.clear then w_clear else w_any]) := by
  rw [goalW_eq, if_pos hk, seeW, l2]; rfl
 have hlW : (goalW g).length = 1 + 4 * L.length + 9 := by rw [eW]; simp [wordsR_len]; omega
 rw [eW] at hd
 have d0 := tail_app hd
 rw [List.append_assoc] at d0
 have d1 := drop_app d0
 rw [wordsR_len] at d1
 have ha := area_at L 0 0 1200 (List.replicate 24 0) (a + 1) m w_from _ hne l1 (by omega) d0 (by decide)
 rw [l3] at ha
 unfold seeP
 rw [show areaP ws 1200 0 0 (List.replicate 24 0) ((a + 1 : Nat) : Int) m = _ from ha]
 dsimp only [Rs.bind]
 have d2 := tail_at d1
 have d3 := tail_at d2
 have d4 := tail_at d3
 have d5 := tail_at d4
 have d6 := tail_at d5
 have d7 := tail_at d6
 have d8 := tail_at d7
 have d9 := tail_at d8
 rw [must1 d1]
 dsimp only
 rw [num_at d2 (by omega) (by omega) (by omega) (by omega)]
 dsimp only
 rw [must1 d3]
 dsimp only
 rw [num_at d4 (by omega) (by omega) (by omega) (by omega)]
 dsimp only
 rw [must1 d5]
 dsimp only
 rw [num_at d6 (by omega) (by omega) (by omega) (by omega)]
 dsimp only
 rw [must1 d7]
 dsimp only
 rw [num_at d8 (by omega) (by omega) (by omega) (by omega)]
 dsimp only
 rw [word_at (by decide) d9]
 dsimp only
 rw [← plain_see h hk, hlW]
 congr 2
 omega
end Go.SX

/-
 Plain: goals and orders are read as they are written; what is read is written so.
-/
namespace Go.SX
/-! forms -/
theorem form_at (g : Goal) (h : OkG g) : ∃ w l, goalW g = w :: l ∧ formW w = some (g.kind, if g.kind = 1 then 0 else if g.kind = 5 ∨ g.kind = 6 then 2 else 1) := by
 have hk := h.kind
 rw [goalW_eq]
 by_cases h1 : g.kind = 1
 ·rw [if_pos h1, h1]
  exact ⟨w_see, _, rfl, rfl⟩
 ·rw [if_neg h1]
  by_cases h2 : g.kind = 2 ∨ g.kind = 3 ∨ g.kind = 4
  ·rw [if_pos h2]
   unfold headW
   rcases h2 with h2 | h2 | h2
   ·rw [if_pos h2, h2]; exact ⟨w_pair, _, rfl, rfl⟩
   ·rw [if_neg (by omega), if_pos h2, h2]; exact ⟨w_every, _, rfl, rfl⟩
   ·rw [if_neg (by omega), if_neg (by omega), h2]; exact ⟨w_deliver, _, rfl, rfl⟩
  ·rw [if_neg h2]
   rcases (show g.kind = 5 ∨ g.kind = 6 by omega) with h3 | h3
   ·rw [if_pos h3, h3]; exact ⟨w_all, _, rfl, rfl⟩
   ·rw [if_neg (by omega), h3]; exact ⟨w_any, _, rfl, rfl⟩
theorem sizeG_pos {g : Goal} {d n : Int} (h : sizeG g d = some n) : 1 ≤ n := (goalW_len g d n h).2
/-- a goal is read as it is written -/
def ReadG (ws : List Wd) (f : Nat) (d : Int) : Prop := ∀ (g : Goal) (of_ : Int) (n : Int) (a : Nat) (m : Int) (r : List Wd), sizeG g d = some n → g.kind ≤ lastK of_ → n - 1 ≤ m → ws.drop a = goalW g ++ r → goalP ws f of_ d a m = .ok g ((a + (goalW g).length : Nat) : Int) (m - (n - 1))
theorem pair_at {ws r : List Wd} {g k : Goal} {f : Nat} {d : Int} (ih : ReadG ws f (d + 1)) (h : OkG g) (hk : g.kind = 2) (hkid : g.kids = [k]) (hkk : k.kind ≤ lastK g.kind) (hg : g = ⟨2, [], 0, 0, g.low, 0, false, 0, 0, g.within, [], [k]⟩) {n : Int} (hn : sizeG k (d + 1) = some n) {a : Nat} {m : Int} (hm : n - 1 ≤ m) (hd : ws.drop a = goalW g ++ r) : pairP ws (goalP ws f 2 (d + 1)) ((a + 1 : Nat) : Int) m = .ok g ((a + (goalW g).length : Nat) : Int) (m - (n - 1)) := by
 obtain ⟨b1, b2⟩ := h.lim2 hk
 have eW : goalW g = [w_pair, w_looks, itoaW g.low, w_within, itoaW g.within, w_of] ++ goalW k := by
  rw [goalW_eq, if_neg (by omega), if_pos (.inl hk), hkid, firstW, headW, if_pos hk]
 rw [eW] at hd
 have d1 := tail_at hd
 have d2 := tail_at d1
 have d3 := tail_at d2
 have d4 := tail_at d3
 have d5 := tail_at d4
 have d6 := tail_at d5
 unfold pairP
 rw [must1 d1]
 dsimp only [Rs.bind]
 rw [num_at d2 (by omega) (by omega) (by omega) (by omega)]
 dsimp only
 rw [must1 d3]
 dsimp only
 rw [num_at d4 (by omega) (by omega) (by omega) (by omega)]
 dsimp only
 rw [must1 d5]
 dsimp only
 rw [ih k 2 n _ m r hn (by rw [hk] at hkk; exact hkk) hm d6]
 dsimp only
 rw [← hg, eW]
 congr 2
 simp only [List.length_append, List.length_cons, List.length_nil]
 omega
theorem every_at {ws r : List Wd} {g k : Goal} {f : Nat} {d : Int} (ih : ReadG ws f (d + 1)) (h : OkG g) (hk : g.kind = 3) (hkid : g.kids = [k]) (hkk : k.kind ≤ lastK g.kind) (hg : g = ⟨3, [], g.from_, 0, 0, 0, false, g.days, g.times, g.within, [], [k]⟩) {n : Int} (hn : sizeG k (d + 1) = some n) {a : Nat} {m : Int} (hm : n - 1 ≤ m) (hd : ws.drop a = goalW g ++ r) : everyP ws (goalP ws f 3 (d + 1)) ((a + 1 : Nat) : Int) m = .ok g ((a + (goalW g).length : Nat) : Int) (m - (n - 1)) := by
 obtain ⟨b1, b2, b3, b4⟩ := h.lim3 hk
 have eW : goalW g = [w_every, itoaW g.days, w_days, itoaW g.times, w_times, w_apart, itoaW g.within, w_from, itoaW g.from_, w_of] ++ goalW k := by
  rw [goalW_eq, if_neg (by omega), if_pos (.inr (.inl hk)), hkid, firstW, headW, if_neg (by omega), if_pos hk]
 rw [eW] at hd
 have d1 := tail_at hd
 have d2 := tail_at d1
 have d3 := tail_at d2
 have d4 := tail_at d3
 have d5 := tail_at d4
 have d6 := tail_at d5
 have d7 := tail_at d6
 have d8 := tail_at d7
 have d9 := tail_at d8
 have d10 := tail_at d9
 unfold everyP
 rw [num_at d1 (by omega) (by omega) (by omega) (by omega)]
 dsimp only [Rs.bind]
 rw [must1 d2]
 dsimp only
 rw [num_at d3 (by omega) (by omega) (by omega) (by omega)]
 dsimp only
 rw [must2 d4]
 dsimp only
 rw [num_at d6 (by omega) (by omega) (by omega) (by omega)]
 dsimp only
 rw [must1 d7]
 dsimp only
 rw [num_at d8 (by omega) (by omega) (by omega) (by omega)]
 dsimp only
 rw [must1 d9]
 dsimp only
 rw [ih k 3 n _ m r hn (by rw [hk] at hkk; exact hkk) hm d10]
 dsimp only
 rw [← hg, eW]
 congr 2
 simp only [List.length_append, List.length_cons, List.length_nil]
 omega
theorem del_at {ws r : List Wd} {g k : Goal} {f : Nat} {d : Int} (ih : ReadG ws f (d + 1)) (h : OkG g) (hk : g.kind = 4) (hkid : g.kids = [k]) (hkk : k.kind ≤ lastK g.kind) (hg : g = ⟨4, [], 0, 0, 0, 0, false, 0, 0, g.within, [], [k]⟩) {n : Int} (hn : sizeG k (d + 1) = some n) {a : Nat} {m : Int} (hm : n - 1 ≤ m) (hd : ws.drop a = goalW g ++ r) : delP ws (goalP ws f 4 (d + 1)) ((a + 1 : Nat) : Int) m = .ok g ((a + (goalW g).length : Nat) : Int) (m - (n - 1)) := by
 have b1 := h.lim4 hk
 have eW : goalW g = [w_deliver, w_within, itoaW g.within, w_of] ++ goalW k := by
  rw [goalW_eq, if_neg (by omega), if_pos (.inr (.inr hk)), hkid, firstW, headW, if_neg (by omega), if_neg (by omega)]
 rw [eW] at hd
 have d1 := tail_at hd
 have d2 := tail_at d1
 have d3 := tail_at d2
 have d4 := tail_at d3
 unfold delP
 rw [must1 d1]
 dsimp only [Rs.bind]
 rw [num_at d2 (by omega) (by omega) (by omega) (by omega)]
 dsimp only
 rw [must1 d3]
 dsimp only
 rw [ih k 4 n _ m r hn (by rw [hk] at hkk; exact hkk) hm d4]
 dsimp only
 rw [← hg, eW]
 congr 2
 simp only [List.length_append, List.length_cons, List.length_nil]
 omega
theorem sizeL_cons {k : Goal} {l : List Goal} {d n : Int} (h : sizeL (k :: l) d = some n) : ∃ x y, sizeG k d = some x ∧ sizeL l d = some y ∧ n = x + y := by
 rw [sizeL] at h
 cases ha : sizeG k d with
 | none => rw [ha] at h; cases h
 | some x =>
  rw [ha] at h
  cases hl : sizeL l d with
  | none => rw [hl] at h; cases h
  | some y => rw [hl] at h; injection h with h; exact ⟨x, y, rfl, rfl, h.symm⟩
theorem sizeL_len : ∀ {l : List Goal} {d n : Int}, sizeL l d = some n → (l.length : Int) ≤ n
 | [], d, n, h => by rw [sizeL] at h; injection h with h; subst h; simp
 | k :: l, d, n, h => by
  obtain ⟨x, y, h1, h2, rfl⟩ := sizeL_cons h
  have := sizeG_pos h1
  have := sizeL_len h2
  rw [List.length_cons]; omega
/-- the parts behind the first ones -/
theorem parts_at {ws : List Wd} {f : Nat} {d k : Int} (hk : k = 5 ∨ k = 6) (ih : ReadG ws f d) : ∀ (l : List Goal) (g : Goal) (fuel : Nat) (cents cs : List Int) (kids : List Goal) (a : Nat) (m n : Int) (r : List Wd),
  l.length < fuel → kids.length + 1 + l.length ≤ 4 → 2 ≤ kids.length + 1 + l.length → (∀ x ∈ g :: l, x.kind ≤ 6) → sizeL (g :: l) d = some n → n - 1 - (if kids = [] then 1 else 0) ≤ m → (k = 6 → cs.length = l.length + 1 ∧ ∀ c ∈ cs, 0 ≤ c ∧ c ≤ 1000000000) → (k = 5 → cs = []) →
  ws.drop a = (if k = 6 then [itoaW (cs.headD 0)] else []) ++ goalW g ++ kidsW (decide (k = 6)) false cs.tail l ++ w_close :: r →
  partsP ws (goalP ws f k d) k fuel cents kids a m = .ok ⟨k, [], 0, 0, 0, 0, false, 0, 0, 0, cents ++ cs, kids ++ g :: l⟩ ((a + ((if k = 6 then [itoaW (cs.headD 0)] else []) ++ goalW g ++ kidsW (decide (k = 6)) false cs.tail l).length + 1 : Nat) : Int) (m - (n - 1 - (if kids = [] then 1 else 0)))
 | l, g, 0, cents, cs, kids, a, m, n, r, hf, _, _, _, _, _, _, _, _ => by omega
 | l, g, fuel + 1, cents, cs, kids, a, m, n, r, hf, h4, h2, hkd, hn, hm, hc6, hc5, hd => by
  obtain ⟨x, y, n1, n2, rfl⟩ := sizeL_cons hn
  have hx := sizeG_pos n1
  have hy := sizeL_len n2
  have hlk : lastK k = 6 := by unfold lastK; rw [if_neg (by omega), if_neg (by omega)]
  have hi0 : (0 : Int) ≤ (if kids = [] then 1 else 0) ∧ (if kids = [] then (1 : Int) else 0) ≤ 1 := by split <;> omega
  -- the number ahead
  obtain ⟨b, hb, hbd, hbn⟩ : ∃ b : Nat, b = a + (if k = 6 then [itoaW (cs.headD 0)] else []).length ∧ ws.drop b = goalW g ++ (kidsW (decide (k = 6)) false cs.tail l ++ w_close :: r) ∧ (if k = 6 then (numP ws 0 1000000000 a m).bind fun c a m => .ok (cents ++ [c]) a m else .ok cents a m : Rs (List Int)) = .ok (cents ++ cs.take 1) b m := by
   refine ⟨_, rfl, ?_, ?_⟩
   ·rw [List.append_assoc, List.append_assoc] at hd
    exact drop_app hd
   ·rcases hk with hk | hk
    ·subst hk
     rw [if_neg (by decide), hc5 rfl]
     simp
    ·subst hk
     obtain ⟨c1, c2⟩ := hc6 rfl
     cases cs with
     | nil => simp at c1
     | cons c cs =>
      have := c2 c (by simp)
      simp only [if_pos, List.headD_cons, List.cons_append, List.nil_append] at hd
      rw [if_pos rfl, num_at hd (by omega) (by omega) (by omega) (by omega)]
      simp
  rw [partsP, hbn]
  dsimp only [Rs.bind]
  have hsub : x - 1 ≤ m := by
   by_cases hkn : kids = []
   ·rw [if_pos hkn] at hm
    have : kids.length = 0 := by rw [hkn]; rfl
    omega
   ·rw [if_neg hkn] at hm; omega
  rw [ih g k x b m _ n1 (by rw [hlk]; exact hkd g (by simp)) hsub hbd]
  dsimp only
  have d1 := drop_app hbd
  cases l with
  | nil =>
   have hy0 : y = 0 := by rw [sizeL] at n2; injection n2 with n2; exact n2.symm
   rw [kidsW, List.nil_append] at d1
   have hkn : kids ≠ [] := fun e => by rw [e] at h2; simp at h2
   have hkl : 1 < kids.length + 1 := by cases kids with | nil => exact absurd rfl hkn | cons _ _ => simp
   have hcs : cs.take 1 = cs := by
    rcases hk with hk | hk
    ·rw [hc5 hk]; rfl
    ·exact List.take_of_length_le (by have := (hc6 hk).1; simp at this; omega)
   rw [if_pos hkl, peek_at d1, if_pos rfl, if_neg hkn, hcs]
   rw [kidsW, List.append_nil, List.length_append, hb]
   congr 1
   ·show ((_ : Nat) : Int) + 1 = _
    omega
   ·omega
  | cons q l =>
   obtain ⟨x2, y2, n3, n4, rfl⟩ := sizeL_cons n2
   have hx2 := sizeG_pos n3
   have hy2 := sizeL_len n4
   rw [kidsW] at d1
   have d2 := tail_at d1
   have hnc : peekW ws ((b + (goalW g).length : Nat) : Int) = w_comma := peek_at d1
   have ihl := fun cents kids a m => parts_at hk ih l q fuel cents cs.tail kids a m (x2 + y2) r
   have hc6' : k = 6 → cs.tail.length = l.length + 1 ∧ ∀ c ∈ cs.tail, 0 ≤ c ∧ c ≤ 1000000000 := fun h => by
    obtain ⟨c1, c2⟩ := hc6 h
    exact ⟨by rw [List.length_tail, c1]; simp, fun c hc => c2 c (List.mem_of_mem_tail hc)⟩
   have hc5' : k = 5 → cs.tail = [] := fun h => by rw [hc5 h]; rfl
   have d3 : ws.drop (b + (goalW g).length + 1) = (if k = 6 then [itoaW (cs.tail.headD 0)] else []) ++ goalW q ++ kidsW (decide (k = 6)) false cs.tail.tail l ++ w_close :: r := by
    rw [d2]
    by_cases h6 : k = 6
    ·simp [h6, List.append_assoc]
    ·simp [h6, List.append_assoc]
   have hcs : cents ++ cs.take 1 ++ cs.tail = cents ++ cs := by rw [List.append_assoc]; congr 1; cases cs <;> simp
   have hks : kids ++ [g] ++ q :: l = kids ++ g :: q :: l := by simp
   have hlen : ((if k = 6 then [itoaW (cs.headD 0)] else []) ++ goalW g ++ kidsW (decide (k = 6)) false cs.tail (q :: l)).length = (if k = 6 then [itoaW (cs.headD 0)] else []).length + (goalW g).length + 1 + ((if k = 6 then [itoaW (cs.tail.headD 0)] else []) ++ goalW q ++ kidsW (decide (k = 6)) false cs.tail.tail l).length := by
    rw [kidsW]
    by_cases h6 : k = 6
    ·simp [h6]; omega
    ·simp [h6]; omega
   rw [List.length_cons] at h4 hf hy
   by_cases hkn : kids = []
   ·subst hkn
    rw [if_neg (by simp), must1 d1]
    dsimp only
    rw [ihl _ _ _ _ (by omega) (by simp; simp at h4; omega) (by simp) (fun z hz => hkd z (List.mem_cons_of_mem _ hz)) n2 (by simp at hm ⊢; omega) hc6' hc5' d3, hcs, hks, hlen, hb]
    congr 1
    ·congr 1; omega
    ·simp; omega
   ·have hkl : 1 < kids.length + 1 := by cases kids with | nil => exact absurd rfl hkn | cons _ _ => simp
    rw [if_neg hkn] at hm
    rw [if_pos hkl, hnc, if_neg (by decide), if_neg (by simp only [not_or]; constructor <;> omega), must1 d1]
    dsimp only
    rw [ihl _ _ _ _ (by omega) (by simp; omega) (by simp; omega) (fun z hz => hkd z (List.mem_cons_of_mem _ hz)) n2 (by simp; omega) hc6' hc5' d3, hcs, hks, hlen, hb]
    congr 1
    ·congr 1; omega
    ·simp [hkn]; omega
theorem goal_at (ws : List Wd) : ∀ (f : Nat) (d : Int), (f : Int) + d = 5 → ReadG ws f d
  | 0, d, hfd => fun g of_ n a m r hn _ _ _ => by have := (sizeG_parts hn).1; omega
  | f + 1, d, hfd => fun g of_ n a m r hn hk hm hd => by
    have ih := goal_at ws f (d + 1) (by omega)
    obtain ⟨hd4, hok, q, hq, rfl⟩ := sizeG_parts hn
    have hO := okG hok
    have hkind := hO.kind
    have hql := sizeL_len hq
    obtain ⟨w, l, e1, e2⟩ := form_at g hO
    have hpk : peekW ws a = w := peek_at (r := l ++ r) (by rw [hd, e1]; rfl)
    rw [goalP, hpk, e2]
    dsimp only
    by_cases h1 : g.kind = 1
    · rw [if_pos h1, if_neg (by omega), if_pos h1, show (a : Int) + 1 = ((a + 1 : Nat) : Int) from rfl, see_at hO h1 hd]
      have hk0 := (hO.see h1).2.2.2.2.2.1
      rw [hk0, sizeL] at hq
      injection hq with hq
      congr 1; omega
    · rw [if_neg h1]
      by_cases h2 : g.kind = 2 ∨ g.kind = 3 ∨ g.kind = 4
      · obtain ⟨k, hkid, hkk, hg⟩ := plain_one hO h2
        rw [hkid] at hq
        obtain ⟨x, y, n1, n2, rfl⟩ := sizeL_cons hq
        rw [sizeL] at n2
        injection n2 with n2
        subst n2
        have hx := sizeG_pos n1
        have hd3 := (sizeG_parts n1).1
        rw [if_neg (show ¬ (g.kind = 5 ∨ g.kind = 6) by omega), if_neg (by omega), if_neg h1, show (a : Int) + 1 = ((a + 1 : Nat) : Int) from rfl]
        have em : m - 1 - (x - 1) = m - (1 + (x + 0) - 1) := by omega
        rcases h2 with h2 | h2 | h2
        · rw [if_pos h2] at hg
          rw [if_pos h2, pair_at ih hO h2 hkid hkk hg n1 (by omega) hd, em]
        · rw [if_neg (by omega), if_pos h2] at hg
          rw [if_neg (by omega), if_pos h2, every_at ih hO h2 hkid hkk hg n1 (by omega) hd, em]
        · rw [if_neg (by omega), if_neg (by omega)] at hg
          rw [if_neg (by omega), if_neg (by omega), if_pos h2, del_at ih hO h2 hkid hkk hg n1 (by omega) hd, em]
      · have h5 : g.kind = 5 ∨ g.kind = 6 := by omega
        obtain ⟨c1, c2, c3, c4⟩ := hO.many h5
        obtain ⟨p1, p2⟩ := plain_many hO h5
        obtain ⟨k, l', hkl⟩ : ∃ k l', g.kids = k :: l' := by
          cases hg : g.kids with
          | nil => rw [hg] at c1; simp at c1
          | cons k l' => exact ⟨k, l', rfl⟩
        have hd3 : d + 1 ≤ 4 := by
          rw [hkl] at hq
          obtain ⟨x, y, n1, n2, rfl⟩ := sizeL_cons hq
          exact (sizeG_parts n1).1
        rw [if_pos h5, if_neg (by omega), if_neg h1, if_neg (by omega), if_neg (by omega), if_neg (by omega), show (a : Int) + 1 = ((a + 1 : Nat) : Int) from rfl]
        have eW : goalW g = [if g.kind = 5 then w_all else w_any, w_open] ++ ((if g.kind = 6 then [itoaW (g.cents.headD 0)] else []) ++ goalW k ++ kidsW (decide (g.kind = 6)) false g.cents.tail l') ++ [w_close] := by
          rw [goalW_eq, if_neg h1, if_neg h2, hkl, kidsW]
          by_cases h6 : g.kind = 6 <;> simp [h6]
        have hd' := hd
        rw [eW] at hd'
        have d1 : ws.drop (a + 1) = w_open :: (((if g.kind = 6 then [itoaW (g.cents.headD 0)] else []) ++ goalW k ++ kidsW (decide (g.kind = 6)) false g.cents.tail l') ++ w_close :: r) := by
          have := tail_at hd'
          rw [this]; simp
        have d2 := tail_at d1
        unfold listP
        rw [must1 d1]
        dsimp only [Rs.bind]
        rw [hkl] at hq c1 c2 p1
        have := parts_at h5 ih l' k 5 [] g.cents [] (a + 1 + 1) (m - 2) q r (by simp at c2; omega) (by simp at c2 ⊢; omega) (by simp at c1 ⊢; omega) p1 hq (by simp; omega) (fun h => by
          obtain ⟨x1, x2⟩ := c3 h
          exact ⟨by rw [x1, hkl]; rfl, x2⟩) c4 d2
        rw [List.nil_append, List.nil_append, ← hkl, ← p2] at this
        refine Eq.trans this ?_
        rw [eW]
        congr 1
        · simp only [List.length_append, List.length_cons, List.length_nil]; omega
        · simp; omega
end Go.SX

/-
 Plain: what is read is written so.
-/
namespace Go.SX
def GotG (ws : List Wd) (sub : Int → Int → Rs Goal) (of_ d : Int) : Prop := ∀ (a m : Int) (g : Goal) (a' m' : Int), 0 ≤ a → a ≤ ws.length → 0 ≤ m → sub a m = .ok g a' m' → Reads ws a (goalW g) a' ∧ (1 ≤ g.kind ∧ g.kind ≤ lastK of_) ∧ 0 ≤ m' ∧ sizeG g d = some (m - m' + 1)
theorem ok_see (rows : List Int) (f t lo hi : Int) (c : Bool) (h1 : areaB rows = true) (h2 : rows.any (fun r => decide (r ≠ 0)) = true) (h3 : 0 ≤ f ∧ f ≤ 1000000) (h4 : f + 1 ≤ t ∧ t ≤ 1000000) (h5 : 0 ≤ lo ∧ lo ≤ 90) (h6 : lo ≤ hi ∧ hi ≤ 90) : okB ⟨1, rows, f, t, lo, hi, c, 0, 0, 0, [], []⟩ = true := by
 unfold okB plainB restG limB partsB manyB centsB
 simp only [h1, h2]
 simp [inB_iff]
 omega
theorem ok_pair (lo wi : Int) (k : Goal) (h1 : 1 ≤ lo ∧ lo ≤ 8) (h2 : 1 ≤ wi ∧ wi ≤ 1000000) (hk : k.kind ≤ 1) : okB ⟨2, [], 0, 0, lo, 0, false, 0, 0, wi, [], [k]⟩ = true := by
 unfold okB plainB restG limB partsB manyB centsB lastK
 simp [inB_iff]
 omega
theorem ok_every (f d t wi : Int) (k : Goal) (h1 : 1 ≤ d ∧ d ≤ 60) (h2 : 1 ≤ t ∧ t ≤ 6) (h3 : 0 ≤ wi ∧ wi ≤ 1440 * d) (h4 : 0 ≤ f ∧ f ≤ 1000000) (hk : k.kind ≤ 1) : okB ⟨3, [], f, 0, 0, 0, false, d, t, wi, [], [k]⟩ = true := by
 unfold okB plainB restG limB partsB manyB centsB lastK
 simp [inB_iff]
 omega
theorem ok_del (wi : Int) (k : Goal) (h1 : 0 ≤ wi ∧ wi ≤ 1000000) (hk : k.kind ≤ 3) : okB ⟨4, [], 0, 0, 0, 0, false, 0, 0, wi, [], [k]⟩ = true := by
 unfold okB plainB restG limB partsB manyB centsB lastK
 simp [inB_iff]
 omega
theorem ok_many (k : Int) (hk : k = 5 ∨ k = 6) (cs : List Int) (l : List Goal) (h1 : 2 ≤ l.length ∧ l.length ≤ 4) (h2 : ∀ x ∈ l, x.kind ≤ 6) (h3 : k = 6 → cs.length = l.length ∧ ∀ c ∈ cs, 0 ≤ c ∧ c ≤ 1000000000) (h4 : k = 5 → cs = []) : okB ⟨k, [], 0, 0, 0, 0, false, 0, 0, 0, cs, l⟩ = true := by
 have hl : lastK k = 6 := by unfold lastK; rw [if_neg (by omega), if_neg (by omega)]
 have e1 : partsB ⟨k, [], 0, 0, 0, 0, false, 0, 0, 0, cs, l⟩ = true := by
  simp only [partsB, Bool.and_eq_true, Bool.or_eq_true, decide_eq_true_eq, Bool.not_eq_true', List.any_eq_false, hl]
  refine ⟨⟨⟨?_, ?_⟩, .inr rfl⟩, fun x hx => by have := h2 x hx; omega⟩
  ·unfold manyB; rw [if_neg (show ¬ k = 1 by omega), if_pos hk, inB_iff]; show (2 : Int) ≤ (l.length : Int) ∧ (l.length : Int) ≤ 4; omega
  ·unfold centsB
   split
   ·rename_i h6
    obtain ⟨x1, x2⟩ := h3 h6
    simp only [Bool.and_eq_true, decide_eq_true_eq, Bool.not_eq_true', List.any_eq_false]
    exact ⟨by omega, fun c hc => by simpa [inB_iff] using x2 c hc⟩
   ·rename_i h6
    have : k = 5 := by simp only at h6; omega
    rw [h4 this]; rfl
 have e2 : limB ⟨k, [], 0, 0, 0, 0, false, 0, 0, 0, cs, l⟩ = true := by
  unfold limB; rw [if_neg (by simp only; omega), if_neg (by simp only; omega), if_neg (by simp only; omega), if_neg (by simp only; omega)]
 have e3 : restG ⟨k, [], 0, 0, 0, 0, false, 0, 0, 0, cs, l⟩ = ⟨k, [], 0, 0, 0, 0, false, 0, 0, 0, [], []⟩ := by
  unfold restG; rw [if_neg (by simp only; omega), if_neg (by simp only; omega), if_neg (by simp only; omega), if_neg (by simp only; omega)]
 unfold okB
 rw [e1, e2, e3]
 simp only [Bool.and_true, Bool.and_eq_true]
 exact ⟨(inB_iff _ _ _).2 (by show 1 ≤ k ∧ k ≤ 6; omega), by simp [plainB]⟩
theorem size_one {g k : Goal} {d n : Int} (hok : okB g = true) (hd : d ≤ 4) (hg : g.kids = [k]) (hn : sizeG k (d + 1) = some n) : sizeG g d = some (1 + n) := by
 rw [sizeG_eq, hok, hg, if_neg (by simp; omega), sizeL, hn, sizeL]
 simp
theorem size_none {g : Goal} {d : Int} (hok : okB g = true) (hd : d ≤ 4) (hg : g.kids = []) : sizeG g d = some 1 := by
 rw [sizeG_eq, hok, hg, if_neg (by simp; omega), sizeL]
 simp
theorem see_ok2 {ws : List Wd} {a m a' m' : Int} {g : Goal} {d : Int} (hd : d ≤ 4) (h0 : 0 ≤ a) (h1 : a ≤ ws.length) (h : seeP ws a m = .ok g a' m') : ∃ l, goalW g = w_see :: l ∧ Reads ws a l a' ∧ g.kind = 1 ∧ m' = m ∧ sizeG g d = some 1 := by
 unfold seeP at h
 replace h := bind_ok h
 obtain ⟨rows, a1, m1, h2, h⟩ := h
 obtain ⟨L, k1, k2, r1, rfl, rfl⟩ := area_ok 1200 0 0 _ _ _ _ _ _ h0 h1 h2
 have hne : L ≠ [] := fun e => by have := k2 e; omega
 obtain ⟨p1, p2, p3⟩ := area_read k1
 replace h := bind_ok h
 obtain ⟨_, a2, m2, h2, h⟩ := h
 obtain ⟨r2, rfl⟩ := must_ok [w_from] (by decide) r1.lo' r1.hi h2
 replace h := bind_ok h
 obtain ⟨f, a3, m3, h2, h⟩ := h
 obtain ⟨r3, rfl, b1, b2⟩ := num_ok r2.lo' r2.hi h2
 replace h := bind_ok h
 obtain ⟨_, a4, m4, h2, h⟩ := h
 obtain ⟨r4, rfl⟩ := must_ok [w_to] (by decide) r3.lo' r3.hi h2
 replace h := bind_ok h
 obtain ⟨t, a5, m5, h2, h⟩ := h
 obtain ⟨r5, rfl, b3, b4⟩ := num_ok r4.lo' r4.hi h2
 replace h := bind_ok h
 obtain ⟨_, a6, m6, h2, h⟩ := h
 obtain ⟨r6, rfl⟩ := must_ok [w_sun] (by decide) r5.lo' r5.hi h2
 replace h := bind_ok h
 obtain ⟨lo, a7, m7, h2, h⟩ := h
 obtain ⟨r7, rfl, b5, b6⟩ := num_ok r6.lo' r6.hi h2
 replace h := bind_ok h
 obtain ⟨_, a8, m8, h2, h⟩ := h
 obtain ⟨r8, rfl⟩ := must_ok [w_to] (by decide) r7.lo' r7.hi h2
 replace h := bind_ok h
 obtain ⟨hi, a9, m9, h2, h⟩ := h
 obtain ⟨r9, rfl, b7, b8⟩ := num_ok r8.lo' r8.hi h2
 replace h := bind_ok h
 obtain ⟨c, a10, m10, h2, h⟩ := h
 obtain ⟨r10, rfl⟩ := word_ok (by decide) (by decide) r9.lo' r9.hi h2
 injection h with e1 e2 e3
 subst e1 e2 e3
 refine ⟨_, ?_, r1.app (r2.app (r3.app (r4.app (r5.app (r6.app (r7.app (r8.app (r9.app r10)))))))), rfl, rfl, size_none (ok_see _ _ _ _ _ _ p2 (p3 hne) (by omega) (by omega) (by omega) (by omega)) hd rfl⟩
 rw [goalW_eq, if_pos rfl, seeW, p1]
 rfl
theorem pair_ok {ws : List Wd} {sub : Int → Int → Rs Goal} {d : Int} (hd : d + 1 ≤ 4) (ih : GotG ws sub 2 (d + 1)) {a m a' m' : Int} {g : Goal} (h0 : 0 ≤ a) (h1 : a ≤ ws.length) (hm : 0 ≤ m) (h : pairP ws sub a m = .ok g a' m') : ∃ l, goalW g = w_pair :: l ∧ Reads ws a l a' ∧ g.kind = 2 ∧ 0 ≤ m' ∧ sizeG g d = some (m - m' + 2) := by
 unfold pairP at h
 replace h := bind_ok h
 obtain ⟨_, a2, m2, h2, h⟩ := h
 obtain ⟨r2, rfl⟩ := must_ok [w_looks] (by decide) h0 h1 h2
 replace h := bind_ok h
 obtain ⟨lo, a3, m3, h2, h⟩ := h
 obtain ⟨r3, rfl, b1, b2⟩ := num_ok r2.lo' r2.hi h2
 replace h := bind_ok h
 obtain ⟨_, a4, m4, h2, h⟩ := h
 obtain ⟨r4, rfl⟩ := must_ok [w_within] (by decide) r3.lo' r3.hi h2
 replace h := bind_ok h
 obtain ⟨wi, a5, m5, h2, h⟩ := h
 obtain ⟨r5, rfl, b3, b4⟩ := num_ok r4.lo' r4.hi h2
 replace h := bind_ok h
 obtain ⟨_, a6, m6, h2, h⟩ := h
 obtain ⟨r6, rfl⟩ := must_ok [w_of] (by decide) r5.lo' r5.hi h2
 replace h := bind_ok h
 obtain ⟨k, a7, m7, h2, h⟩ := h
 obtain ⟨r7, hk, hm7, hs⟩ := ih _ _ _ _ _ r6.lo' r6.hi hm h2
 injection h with e1 e2 e3
 subst e1 e2 e3
 refine ⟨_, ?_, r2.app (r3.app (r4.app (r5.app (r6.app r7)))), rfl, hm7, ?_⟩
 ·rw [goalW_eq, if_neg (by simp), if_pos (.inl rfl), firstW, headW, if_pos rfl]
  rfl
 ·rw [size_one (ok_pair _ _ _ (by omega) (by omega) hk.2) (by omega) rfl hs]
  congr 1; omega
theorem every_ok {ws : List Wd} {sub : Int → Int → Rs Goal} {d : Int} (hd : d + 1 ≤ 4) (ih : GotG ws sub 3 (d + 1)) {a m a' m' : Int} {g : Goal} (h0 : 0 ≤ a) (h1 : a ≤ ws.length) (hm : 0 ≤ m) (h : everyP ws sub a m = .ok g a' m') : ∃ l, goalW g = w_every :: l ∧ Reads ws a l a' ∧ g.kind = 3 ∧ 0 ≤ m' ∧ sizeG g d = some (m - m' + 2) := by
 unfold everyP at h
 replace h := bind_ok h
 obtain ⟨dy, a1, m1, h2, h⟩ := h
 obtain ⟨r1, rfl, b1, b2⟩ := num_ok h0 h1 h2
 replace h := bind_ok h
 obtain ⟨_, a2, m2, h2, h⟩ := h
 obtain ⟨r2, rfl⟩ := must_ok [w_days] (by decide) r1.lo' r1.hi h2
 replace h := bind_ok h
 obtain ⟨ti, a3, m3, h2, h⟩ := h
 obtain ⟨r3, rfl, b3, b4⟩ := num_ok r2.lo' r2.hi h2
 replace h := bind_ok h
 obtain ⟨_, a4, m4, h2, h⟩ := h
 obtain ⟨r4, rfl⟩ := must_ok [w_times, w_apart] (by decide) r3.lo' r3.hi h2
 replace h := bind_ok h
 obtain ⟨wi, a5, m5, h2, h⟩ := h
 obtain ⟨r5, rfl, b5, b6⟩ := num_ok r4.lo' r4.hi h2
 replace h := bind_ok h
 obtain ⟨_, a6, m6, h2, h⟩ := h
 obtain ⟨r6, rfl⟩ := must_ok [w_from] (by decide) r5.lo' r5.hi h2
 replace h := bind_ok h
 obtain ⟨f, a7, m7, h2, h⟩ := h
 obtain ⟨r7, rfl, b7, b8⟩ := num_ok r6.lo' r6.hi h2
 replace h := bind_ok h
 obtain ⟨_, a8, m8, h2, h⟩ := h
 obtain ⟨r8, rfl⟩ := must_ok [w_of] (by decide) r7.lo' r7.hi h2
 replace h := bind_ok h
 obtain ⟨k, a9, m9, h2, h⟩ := h
 obtain ⟨r9, hk, hm9, hs⟩ := ih _ _ _ _ _ r8.lo' r8.hi hm h2
 injection h with e1 e2 e3
 subst e1 e2 e3
 refine ⟨_, ?_, r1.app (r2.app (r3.app (r4.app (r5.app (r6.app (r7.app (r8.app r9))))))), rfl, hm9, ?_⟩
 ·rw [goalW_eq, if_neg (by simp), if_pos (.inr (.inl rfl)), firstW, headW, if_neg (by simp), if_pos rfl]
  rfl
 ·rw [size_one (ok_every _ _ _ _ _ (by omega) (by omega) (by omega) (by omega) hk.2) (by omega) rfl hs]
  congr 1; omega
theorem del_ok {ws : List Wd} {sub : Int → Int → Rs Goal} {d : Int} (hd : d + 1 ≤ 4) (ih : GotG ws sub 4 (d + 1)) {a m a' m' : Int} {g : Goal} (h0 : 0 ≤ a) (h1 : a ≤ ws.length) (hm : 0 ≤ m) (h : delP ws sub a m = .ok g a' m') : ∃ l, goalW g = w_deliver :: l ∧ Reads ws a l a' ∧ g.kind = 4 ∧ 0 ≤ m' ∧ sizeG g d = some (m - m' + 2) := by
 unfold delP at h
 replace h := bind_ok h
 obtain ⟨_, a2, m2, h2, h⟩ := h
 obtain ⟨r2, rfl⟩ := must_ok [w_within] (by decide) h0 h1 h2
 replace h := bind_ok h
 obtain ⟨wi, a3, m3, h2, h⟩ := h
 obtain ⟨r3, rfl, b1, b2⟩ := num_ok r2.lo' r2.hi h2
 replace h := bind_ok h
 obtain ⟨_, a6, m6, h2, h⟩ := h
 obtain ⟨r6, rfl⟩ := must_ok [w_of] (by decide) r3.lo' r3.hi h2
 replace h := bind_ok h
 obtain ⟨k, a7, m7, h2, h⟩ := h
 obtain ⟨r7, hk, hm7, hs⟩ := ih _ _ _ _ _ r6.lo' r6.hi hm h2
 injection h with e1 e2 e3
 subst e1 e2 e3
 refine ⟨_, ?_, r2.app (r3.app (r6.app r7)), rfl, hm7, ?_⟩
 ·rw [goalW_eq, if_neg (by simp), if_pos (.inr (.inr rfl)), firstW, headW, if_neg (by simp), if_neg (by simp)]
  rfl
 ·rw [size_one (ok_del _ _ (by omega) hk.2) (by omega) rfl hs]
  congr 1; omega
theorem parts_ok {ws : List Wd} {sub : Int → Int → Rs Goal} {d k : Int} (hk : k = 5 ∨ k = 6) (ih : GotG ws sub k d) : ∀ (fuel : Nat) (cents : List Int) (kids : List Goal) (a m a' m' : Int) (g : Goal), 0 ≤ a → a ≤ ws.length → 0 ≤ m → kids.length ≤ 3 → partsP ws sub k fuel cents kids a m = .ok g a' m' →
  ∃ x l cs n, g = ⟨k, [], 0, 0, 0, 0, false, 0, 0, 0, cents ++ cs, kids ++ x :: l⟩ ∧ Reads ws a ((if k = 6 then [itoaW (cs.headD 0)] else []) ++ goalW x ++ kidsW (decide (k = 6)) false cs.tail l ++ [w_close]) a' ∧ (∀ z ∈ x :: l, z.kind ≤ 6) ∧ sizeL (x :: l) d = some n ∧ m' = m - (n - 1 - (if kids = [] then 1 else 0)) ∧ 0 ≤ m' ∧ (k = 6 → cs.length = l.length + 1 ∧ ∀ c ∈ cs, 0 ≤ c ∧ c ≤ 1000000000) ∧ (k = 5 → cs = []) ∧ 2 ≤ kids.length + 1 + l.length ∧ kids.length + 1 + l.length ≤ 4
 | 0, cents, kids, a, m, a', m', g, _, _, _, _, h => by rw [partsP] at h; cases h
 | fuel + 1, cents, kids, a, m, a', m', g, h0, h1, hm, hl, h => by
  have hlk : lastK k = 6 := by unfold lastK; rw [if_neg (by omega), if_neg (by omega)]
  rw [partsP] at h
  replace h := bind_ok h
  obtain ⟨cents1, a1, m1, h2, h⟩ := h
  obtain ⟨cs1, e1, r1, e2, c6, c5⟩ : ∃ cs1 : List Int, cents1 = cents ++ cs1 ∧ Reads ws a (if k = 6 then [itoaW (cs1.headD 0)] else []) a1 ∧ m1 = m ∧ (k = 6 → ∃ c, cs1 = [c] ∧ 0 ≤ c ∧ c ≤ 1000000000) ∧ (k = 5 → cs1 = []) := by
   split at h2
   ·rename_i h6
    replace h2 := bind_ok h2
    obtain ⟨c, a2, m2, h3, h2⟩ := h2
    obtain ⟨r, e, b1, b2⟩ := num_ok h0 h1 h3
    injection h2 with e1 e2 e3
    subst e1 e2 e3
    exact ⟨[c], rfl, by rw [if_pos h6]; exact r, e, fun _ => ⟨c, rfl, b1, b2⟩, fun h => by omega⟩
   ·rename_i h6
    injection h2 with e1 e2 e3
    subst e1 e2 e3
    exact ⟨[], by simp, by rw [if_neg h6]; exact .nil h0 h1, rfl, fun h => absurd h h6, fun _ => rfl⟩
  subst e1 e2
  replace h := bind_ok h
  obtain ⟨x, a2, m2, h2, h⟩ := h
  obtain ⟨r2, hxk, hm2, hs⟩ := ih _ _ _ _ _ r1.lo' r1.hi hm h2
  rw [hlk] at hxk
  have hx := sizeG_pos hs
  have r12 := r1.app r2
  -- ends here?
  have done : ∀ (hkn : kids ≠ []), peekW ws a2 = w_close → (.ok ⟨k, [], 0, 0, 0, 0, false, 0, 0, 0, cents ++ cs1, kids ++ [x]⟩ (a2 + 1) m2 : Rs Goal) = .ok g a' m' → ∃ x l cs n, g = ⟨k, [], 0, 0, 0, 0, false, 0, 0, 0, cents ++ cs, kids ++ x :: l⟩ ∧ Reads ws a ((if k = 6 then [itoaW (cs.headD 0)] else []) ++ goalW x ++ kidsW (decide (k = 6)) false cs.tail l ++ [w_close]) a' ∧ (∀ z ∈ x :: l, z.kind ≤ 6) ∧ sizeL (x :: l) d = some n ∧ m' = m1 - (n - 1 - (if kids = [] then 1 else 0)) ∧ 0 ≤ m' ∧ (k = 6 → cs.length = l.length + 1 ∧ ∀ c ∈ cs, 0 ≤ c ∧ c ≤ 1000000000) ∧ (k = 5 → cs = []) ∧ 2 ≤ kids.length + 1 + l.length ∧ kids.length + 1 + l.length ≤ 4 := fun hkn hp h => by
   injection h with e1 e2 e3
   subst e1 e2 e3
   have r3 := Reads.one r12.lo' r12.hi hp (by decide)
   have hkl : 1 ≤ kids.length := by cases kids with | nil => exact absurd rfl hkn | cons _ _ => simp
   refine ⟨x, [], cs1, m1 - m2 + 1, rfl, ?_, fun z hz => by simp at hz; subst hz; exact hxk.2, by rw [sizeL, hs, sizeL]; simp, by rw [if_neg hkn]; omega, hm2, fun h => ?_, c5, by simp; omega, by simp; omega⟩
   ·rw [kidsW, List.append_nil]; exact r12.app r3
   ·obtain ⟨c, e, b1, b2⟩ := c6 h
    subst e
    exact ⟨rfl, fun z hz => by simp at hz; subst hz; exact ⟨b1, b2⟩⟩
  -- or goes on
  have more : ∀ (m3 : Int), 0 ≤ m3 → kids.length + 1 ≤ 3 → m3 = m2 - (if kids = [] then 0 else 1) → ((mustW ws [w_comma] a2 m3).bind fun _ a m => partsP ws sub k fuel (cents ++ cs1) (kids ++ [x]) a m) = .ok g a' m' → ∃ x l cs n, g = ⟨k, [], 0, 0, 0, 0, false, 0, 0, 0, cents ++ cs, kids ++ x :: l⟩ ∧ Reads ws a ((if k = 6 then [itoaW (cs.headD 0)] else []) ++ goalW x ++ kidsW (decide (k = 6)) false cs.tail l ++ [w_close]) a' ∧ (∀ z ∈ x :: l, z.kind ≤ 6) ∧ sizeL (x :: l) d = some n ∧ m' = m1 - (n - 1 - (if kids = [] then 1 else 0)) ∧ 0 ≤ m' ∧ (k = 6 → cs.length = l.length + 1 ∧ ∀ c ∈ cs, 0 ≤ c ∧ c ≤ 1000000000) ∧ (k = 5 → cs = []) ∧ 2 ≤ kids.length + 1 + l.length ∧ kids.length + 1 + l.length ≤ 4 := fun m3 hm3 hk3 e3 h => by
   replace h := bind_ok h
   obtain ⟨_, a4, m4, h2, h⟩ := h
   obtain ⟨r3, rfl⟩ := must_ok [w_comma] (by decide) r12.lo' r12.hi h2
   obtain ⟨x', l', cs', n', g1, g2, g3, g4, g5, g6, g7, g8, g9, g10⟩ := parts_ok hk ih fuel _ _ _ _ _ _ _ r3.lo' r3.hi hm3 (by simp; omega) h
   simp only [List.length_append, List.length_cons, List.length_nil] at g9 g10
   rw [if_neg (by simp)] at g5
   refine ⟨x, x' :: l', cs1 ++ cs', (m1 - m2 + 1) + n', by rw [g1]; simp, ?_, fun z hz => ?_, ?_, ?_, g6, fun h => ?_, fun h => ?_, by simp; omega, by simp; omega⟩
   ·have := (r12.app (r3.app g2))
    rw [kidsW]
    rcases hk with hk | hk
    ·rw [c5 hk, g8 hk]
     rw [c5 hk, g8 hk] at this
     simpa [hk, List.append_assoc] using this
    ·obtain ⟨c, e, _, _⟩ := c6 hk
     rw [e]
     rw [e] at this
     simpa [hk, List.append_assoc] using this
   ·rcases List.mem_cons.1 hz with rfl | hz
    ·exact hxk.2
    ·exact g3 z hz
   ·rw [sizeL, hs, g4]
   ·split at e3 <;> split <;> first | omega | contradiction
   ·obtain ⟨c, e, b1, b2⟩ := c6 h
    obtain ⟨q1, q2⟩ := g7 h
    subst e
    refine ⟨by simp [q1], fun z hz => ?_⟩
    rcases List.mem_append.1 hz with hz | hz
    ·simp at hz; subst hz; exact ⟨b1, b2⟩
    ·exact q2 z hz
   ·rw [c5 h, g8 h]; rfl
  by_cases hkn : kids = []
  ·have hkl : ¬ 1 < kids.length + 1 := by rw [hkn]; simp
   rw [if_neg hkl] at h
   exact more m2 hm2 (by rw [hkn]; simp) (by rw [if_pos hkn]; omega) h
  ·have hkl : 1 < kids.length + 1 := by cases kids with | nil => exact absurd rfl hkn | cons _ _ => simp
   rw [if_pos hkl] at h
   split at h
   ·rename_i hp
    exact done hkn hp h
   ·split at h
    ·cases h
    ·rename_i hc
     simp only [not_or] at hc
     exact more (m2 - 1) (by omega) (by omega) (by rw [if_neg hkn]) h
theorem form_some {w : Wd} {k n : Int} (h : formW w = some (k, n)) : (k = 1 ∧ n = 0 ∧ w = w_see) ∨ (k = 2 ∧ n = 1 ∧ w = w_pair) ∨ (k = 3 ∧ n = 1 ∧ w = w_every) ∨ (k = 4 ∧ n = 1 ∧ w = w_deliver) ∨ (k = 5 ∧ n = 2 ∧ w = w_all) ∨ (k = 6 ∧ n = 2 ∧ w = w_any) := by
 unfold formW at h
 repeat' split at h
 all_goals first
  | (cases h; done)
  | (injection h with h; injection h with h1 h2; subst h1 h2; simp_all; done)
theorem goal_ok (ws : List Wd) : ∀ (f : Nat) (of_ d : Int), (f : Int) + d = 5 → GotG ws (goalP ws f of_ d) of_ d
 | 0, of_, d, hfd => fun a m g a' m' _ _ _ h => by rw [goalP] at h; cases h
 | f + 1, of_, d, hfd => fun a m g a' m' h0 h1 hm h => by
  have ih := fun o => goal_ok ws f o (d + 1) (by omega)
  rw [goalP] at h
  split at h
  ·cases h
  ·rename_i k n hform
   split at h
   ·cases h
   ·rename_i hc
    simp only [not_or, not_and] at hc
    obtain ⟨c1, c2, c3⟩ := hc
    have hone : ∀ {w : Wd}, peekW ws a = w → w ≠ [32] → Reads ws a [w] (a + 1) := fun e hw => .one h0 h1 e hw
    rcases form_some hform with ⟨rfl, rfl, hw⟩ | ⟨rfl, rfl, hw⟩ | ⟨rfl, rfl, hw⟩ | ⟨rfl, rfl, hw⟩ | ⟨rfl, rfl, hw⟩ | ⟨rfl, rfl, hw⟩
    ·rw [if_pos rfl] at h
     have r := hone hw (by decide)
     obtain ⟨l, e, r2, hk, em, hs⟩ := see_ok2 (d := d) (by omega) r.lo' r.hi h
     rw [e, hk]
     exact ⟨r.app r2, ⟨by omega, by omega⟩, by omega, by rw [hs]; congr 1; omega⟩
    ·rw [if_neg (by omega), if_pos rfl] at h
     have r := hone hw (by decide)
     obtain ⟨l, e, r2, hk, em, hs⟩ := pair_ok (by omega) (ih 2) r.lo' r.hi (by omega) h
     rw [e, hk]
     exact ⟨r.app r2, ⟨by omega, by omega⟩, em, by rw [hs]; congr 1; omega⟩
    ·rw [if_neg (by omega), if_neg (by omega), if_pos rfl] at h
     have r := hone hw (by decide)
     obtain ⟨l, e, r2, hk, em, hs⟩ := every_ok (by omega) (ih 3) r.lo' r.hi (by omega) h
     rw [e, hk]
     exact ⟨r.app r2, ⟨by omega, by omega⟩, em, by rw [hs]; congr 1; omega⟩
    ·rw [if_neg (by omega), if_neg (by omega), if_neg (by omega), if_pos rfl] at h
     have r := hone hw (by decide)
     obtain ⟨l, e, r2, hk, em, hs⟩ := del_ok (by omega) (ih 4) r.lo' r.hi (by omega) h
     rw [e, hk]
     exact ⟨r.app r2, ⟨by omega, by omega⟩, em, by rw [hs]; congr 1; omega⟩
    ·rw [if_neg (by omega), if_neg (by omega), if_neg (by omega), if_neg (by omega)] at h
     have r := hone hw (by decide)
     unfold listP at h
     replace h := bind_ok h
     obtain ⟨_, a2, m2, h2, h⟩ := h
     obtain ⟨r2, rfl⟩ := must_ok [w_open] (by decide) r.lo' r.hi h2
     obtain ⟨x, l, cs, n, g1, g2, g3, g4, g5, g6, g7, g8, g9, g10⟩ := parts_ok (.inl rfl) (ih 5) _ _ _ _ _ _ _ _ r2.lo' r2.hi (by omega) (by simp) h
     simp only [List.nil_append, List.length_nil, Nat.zero_add] at g1 g9 g10
     subst g1
     have hok := ok_many 5 (.inl rfl) cs (x :: l) (by simp; omega) g3 (fun h => by omega) g8
     refine ⟨?_, ⟨by show (1 : Int) ≤ 5; omega, by show (5 : Int) ≤ _; omega⟩, g6, ?_⟩
     ·have := r.app (r2.app g2)
      rw [goalW_eq, if_neg (by simp), if_neg (by simp), kidsW]
      simpa using this
     ·rw [sizeG_eq, hok, if_neg (by simp; omega), g4]
      simp at g5 ⊢; omega
    ·rw [if_neg (by omega), if_neg (by omega), if_neg (by omega), if_neg (by omega)] at h
     have r := hone hw (by decide)
     unfold listP at h
     replace h := bind_ok h
     obtain ⟨_, a2, m2, h2, h⟩ := h
     obtain ⟨r2, rfl⟩ := must_ok [w_open] (by decide) r.lo' r.hi h2
     obtain ⟨x, l, cs, n, g1, g2, g3, g4, g5, g6, g7, g8, g9, g10⟩ := parts_ok (.inr rfl) (ih 6) _ _ _ _ _ _ _ _ r2.lo' r2.hi (by omega) (by simp) h
     simp only [List.nil_append, List.length_nil, Nat.zero_add] at g1 g9 g10
     subst g1
     have hok := ok_many 6 (.inr rfl) cs (x :: l) (by simp; omega) g3 (fun h => by simpa using g7 h) g8
     refine ⟨?_, ⟨by show (1 : Int) ≤ 6; omega, by show (6 : Int) ≤ _; omega⟩, g6, ?_⟩
     ·have := r.app (r2.app g2)
      rw [goalW_eq, if_neg (by simp), if_neg (by simp), kidsW]
      simpa using this
     ·rw [sizeG_eq, hok, if_neg (by simp; omega), g4]
      simp at g5 ⊢; omega
end Go.SX

/-
 Plain: orders are read as they are written; what is read is written so.
-/
namespace Go.SX
/-- an order is read as it is written -/
theorem order_at {o : Order} (h : ordB o = true) (ws : List Wd) (hws : ws = orderW o) : orderP ws 0 11 = .ok o (ws.length : Int) (12 - manyG o.goal) := by
 simp only [ordB, Bool.and_eq_true, inB_iff] at h
 obtain ⟨⟨⟨⟨⟨⟨b1, b2⟩, b3⟩, b4⟩, b5⟩, b6⟩, b7⟩ := h
 obtain ⟨v1, v2, v3⟩ := (valid_law _).1 b7
 have hsz : sizeG o.goal 1 = some (manyG o.goal) := by rw [size_law, if_pos ⟨v1, by omega⟩]
 have hkind := (okG (by rw [allOK_eq, Bool.and_eq_true] at v1; exact v1.1)).kind
 have hlen : ws.length = 15 + (goalW o.goal).length := by rw [hws]; exact orderW_len o
 have d0 : ws.drop 0 = frontW o ++ (goalW o.goal ++ [w_dot]) := by rw [hws, orderW_eq, List.append_assoc]; rfl
 have d1 := tail_at d0
 have d2 := tail_at d1
 have d3 := tail_at d2
 have d4 := tail_at d3
 have d5 := tail_at d4
 have d6 := tail_at d5
 have d7 := tail_at d6
 have d8 := tail_at d7
 have d9 := tail_at d8
 have d10 := tail_at d9
 have d11 := tail_at d10
 have d12 := tail_at d11
 have d13 := tail_at d12
 have d14 : ws.drop 14 = goalW o.goal ++ [w_dot] := tail_at d13
 have d15 : ws.drop (14 + (goalW o.goal).length) = [w_dot] := drop_app d14
 unfold orderP
 rw [show (0 : Int) = ((0 : Nat) : Int) from rfl, must1 d0]
 dsimp only [Rs.bind]
 rw [num_at d1 (by omega) (by omega) (by omega) (by omega)]
 dsimp only
 rw [must1 d2]
 dsimp only
 rw [num_at d3 (by omega) (by omega) (by omega) (by omega)]
 dsimp only
 rw [must1 d4]
 dsimp only
 rw [num_at d5 (by omega) (by omega) (by omega) (by omega)]
 dsimp only
 rw [must1 d6]
 dsimp only
 have hgr : groupP ws ((0 + 1 + 1 + 1 + 1 + 1 + 1 + 1 : Nat) : Int) 11 = .ok o.group ((8 : Nat) : Int) 11 := by
  unfold groupP
  rw [peek_at d7]
  by_cases hg : o.group < 0
  ·rw [if_pos hg, if_pos rfl]
   have : o.group = -1 := by omega
   rw [this]; rfl
  ·rw [if_neg hg] at d7 ⊢
   have hn : itoaW o.group ≠ w_none := fun e => by
    have h1 := numW_itoa (n := o.group) (by omega) (by omega)
    rw [e] at h1
    have h2 : numW w_none = none := by decide
    rw [h2] at h1; cases h1
   rw [if_neg hn, num_at d7 (by omega) (by omega) (by omega) (by omega)]
 rw [hgr]
 dsimp only
 rw [word_at (by decide) d8]
 dsimp only
 rw [must1 d9]
 dsimp only
 rw [num_at d10 (by omega) (by omega) (by omega) (by omega)]
 dsimp only
 rw [must1 d11]
 dsimp only
 rw [num_at d12 (by omega) (by omega) (by omega) (by omega)]
 dsimp only
 rw [must1 d13]
 dsimp only
 rw [goal_at ws 4 1 (by omega) o.goal 5 (manyG o.goal) 14 11 [w_dot] hsz (by show o.goal.kind ≤ 6; omega) (by omega) d14]
 dsimp only
 rw [must1 d15]
 dsimp only
 rw [if_neg (by omega)]
 congr 1
 ·omega
 ·omega
theorem group_ok {ws : List Wd} {a m a' m' n : Int} (h0 : 0 ≤ a) (h1 : a ≤ ws.length) (h : groupP ws a m = .ok n a' m') : Reads ws a [if n < 0 then w_none else itoaW n] a' ∧ m' = m ∧ -1 ≤ n ∧ n ≤ 15 := by
 unfold groupP at h
 split at h
 ·rename_i e
  injection h with e1 e2 e3
  subst e1 e2 e3
  exact ⟨.one h0 h1 e (by decide), rfl, by omega, by omega⟩
 ·obtain ⟨r, e, b1, b2⟩ := num_ok h0 h1 h
  rw [if_neg (by omega)]
  exact ⟨r, e, by omega, b2⟩
/-- what is read as an order is written so -/
theorem order_ok {ws : List Wd} {o : Order} {a' m' : Int} (h : orderP ws 0 11 = .ok o a' m') : ws = orderW o ∧ ordB o = true ∧ a' = ws.length := by
 unfold orderP at h
 replace h := bind_ok h
 obtain ⟨_, a1, m1, h2, h⟩ := h
 obtain ⟨r1, rfl⟩ := must_ok [w_order] (by decide) (by omega) (by omega) h2
 replace h := bind_ok h
 obtain ⟨id, a2, m2, h2, h⟩ := h
 obtain ⟨r2, rfl, b1, b2⟩ := num_ok r1.lo' r1.hi h2
 replace h := bind_ok h
 obtain ⟨_, a3, m3, h2, h⟩ := h
 obtain ⟨r3, rfl⟩ := must_ok [w_by] (by decide) r2.lo' r2.hi h2
 replace h := bind_ok h
 obtain ⟨ow, a4, m4, h2, h⟩ := h
 obtain ⟨r4, rfl, b3, b4⟩ := num_ok r3.lo' r3.hi h2
 replace h := bind_ok h
 obtain ⟨_, a5, m5, h2, h⟩ := h
 obtain ⟨r5, rfl⟩ := must_ok [w_for] (by decide) r4.lo' r4.hi h2
 replace h := bind_ok h
 obtain ⟨pr, a6, m6, h2, h⟩ := h
 obtain ⟨r6, rfl, b5, b6⟩ := num_ok r5.lo' r5.hi h2
 replace h := bind_ok h
 obtain ⟨_, a7, m7, h2, h⟩ := h
 obtain ⟨r7, rfl⟩ := must_ok [w_group] (by decide) r6.lo' r6.hi h2
 replace h := bind_ok h
 obtain ⟨gr, a8, m8, h2, h⟩ := h
 obtain ⟨r8, rfl, b7, b8⟩ := group_ok r7.lo' r7.hi h2
 replace h := bind_ok h
 obtain ⟨ur, a9, m9, h2, h⟩ := h
 obtain ⟨r9, rfl⟩ := word_ok (by decide) (by decide) r8.lo' r8.hi h2
 replace h := bind_ok h
 obtain ⟨_, a10, m10, h2, h⟩ := h
 obtain ⟨r10, rfl⟩ := must_ok [w_known] (by decide) r9.lo' r9.hi h2
 replace h := bind_ok h
 obtain ⟨kn, a11, m11, h2, h⟩ := h
 obtain ⟨r11, rfl, b9, b10⟩ := num_ok r10.lo' r10.hi h2
 replace h := bind_ok h
 obtain ⟨_, a12, m12, h2, h⟩ := h
 obtain ⟨r12, rfl⟩ := must_ok [w_due] (by decide) r11.lo' r11.hi h2
 replace h := bind_ok h
 obtain ⟨du, a13, m13, h2, h⟩ := h
 obtain ⟨r13, rfl, b11, b12⟩ := num_ok r12.lo' r12.hi h2
 replace h := bind_ok h
 obtain ⟨_, a14, m14, h2, h⟩ := h
 obtain ⟨r14, rfl⟩ := must_ok [w_colon] (by decide) r13.lo' r13.hi h2
 replace h := bind_ok h
 obtain ⟨g, a15, m15, h2, h⟩ := h
 obtain ⟨r15, hk, hm15, hs⟩ := goal_ok ws 4 5 1 (by omega) _ _ _ _ _ r14.lo' r14.hi (by omega) h2
 replace h := bind_ok h
 obtain ⟨_, a16, m16, h2, h⟩ := h
 obtain ⟨r16, rfl⟩ := must_ok [w_dot] (by decide) r15.lo' r15.hi h2
 split at h
 ·cases h
 ·rename_i hlt
  injection h with e1 e2 e3
  subst e1 e2 e3
  have hend : a16 = ws.length := by have := r16.hi; omega
  have r := r1.app (r2.app (r3.app (r4.app (r5.app (r6.app (r7.app (r8.app (r9.app (r10.app (r11.app (r12.app (r13.app (r14.app (r15.app r16))))))))))))))
  have hd := r.eq
  rw [hend, show ((ws.length : Nat) : Int).toNat = ws.length from rfl, List.drop_length, List.append_nil] at hd
  refine ⟨?_, ?_, hend⟩
  ·rw [show ws = ws.drop (0 : Int).toNat from rfl, hd, orderW_eq]
   rfl
  ·simp only [ordB, Bool.and_eq_true, inB_iff]
   refine ⟨⟨⟨⟨⟨⟨⟨b1, b2⟩, ⟨b3, b4⟩⟩, ⟨b5, b6⟩⟩, ⟨b7, b8⟩⟩, ⟨b9, by omega⟩⟩, ⟨b11, b12⟩⟩, ?_⟩
   unfold validG
   rw [hs]
   simp; omega
/-- the text of an order is read as this order -/
theorem parse_print {o : Order} (h : ordB o = true) (hl : (joinW (orderW o)).length ≤ 20000) : parseS (joinW (orderW o)) = (o, ((orderW o).length : Int), 0) := by
 unfold parseS
 rw [if_neg (by omega), tokens_join, order_at h _ rfl]
/-- what is read as an order is the text of this order -/
theorem print_parse {s : Wd} {o : Order} {n e : Int} (h : parseS s = (o, n, e)) (he : e = 0) : ordB o = true ∧ printS o = (s, 0) ∧ n = (tokensW s).length := by
 subst he
 unfold parseS at h
 split at h
 ·simp at h
 ·split at h
  ·rename_i o' a m hp
   injection h with e1 e2
   injection e2 with e2 _
   subst e1 e2
   obtain ⟨h1, h2, h3⟩ := order_ok hp
   refine ⟨h2, ?_, h3⟩
   unfold printS
   rw [if_pos h2, ← h1, join_tokens]
  ·simp at h
/-- what is not read as an order -/
theorem parse_bad {s : Wd} {o : Order} {n e : Int} (h : parseS s = (o, n, e)) (he : e ≠ 0) : o = zeroO ∧ e = 130 := by
 unfold parseS at h
 split at h
 ·injection h with e1 e2; injection e2 with e2 e3; exact ⟨e1.symm, e3.symm⟩
 ·split at h
  ·injection h with e1 e2; injection e2 with e2 e3; exact absurd e3.symm he
  ·injection h with e1 e2; injection e2 with e2 e3; exact ⟨e1.symm, e3.symm⟩
end Go.SX

namespace Go.SX
open Go.Proofs
set_option maxHeartbeats 4000000
set_option maxRecDepth 100000
/-- what comes of a text -/
structure ParseT (o : Order) (p t : Wd) (q : Order) (n e : Int) : Prop where
 parse : parseS t = (q, n, e)
 ok : e = 0 → printS q = (t, 0) ∧ n = (tokensW t).length ∧ sameO q o = decide (t = p)
 bad : e ≠ 0 → e = 130 ∧ printS q = ([], 130) ∧ 0 ≤ n ∧ n ≤ (tokensW t).length
 gall : GAll q.goal
theorem parse_t {o : Order} (ho : ordB o = true) (hl : (joinW (orderW o)).length ≤ 20000) (t : Wd) : ∃ q n e, ParseT o (joinW (orderW o)) t q n e := by
 obtain ⟨q, n, e, h⟩ : ∃ q n e, parseS t = (q, n, e) := ⟨_, _, _, rfl⟩
 refine ⟨q, n, e, h, fun he => ?_, fun he => ?_, ?_⟩
 ·obtain ⟨h1, h2, h3⟩ := print_parse h he
  refine ⟨h2, h3, ?_⟩
  rw [Bool.eq_iff_iff, sameO_iff, decide_eq_true_eq]
  rw [print_eq h1] at h2
  injection h2 with h2 _
  constructor
  ·intro h4; rw [← h4, h2]
  ·intro h4
   have h5 := parse_print ho hl
   rw [← h4, h] at h5
   injection h5
 ·obtain ⟨h1, h2⟩ := parse_bad h he
  refine ⟨h2, by rw [h1]; unfold printS; rw [ex_ord0]; rfl, ?_⟩
  unfold parseS at h
  split at h
  ·injection h with _ h; injection h with h _; omega
  ·have hb := orderP_bd (ws := tokensW t) (a := 0) (m := 11) ⟨by omega, by omega, by omega, by omega⟩
   split at h
   ·rename_i hr
    injection h with _ h; injection h with _ h; exact absurd h.symm he
   ·rename_i a m hr
    rw [hr] at hb
    injection h with _ h; injection h with h _
    have := hb.at1
    have := hb.at2
    omega
 ·by_cases he : e = 0
  ·obtain ⟨h1, _⟩ := print_parse h he
   exact valid_gall ((ordB_iff q).1 h1).goal
  ·rw [(parse_bad h he).1]; exact gall_zero
def bytesI (p : Wd) : List Int := p.map fun c => (c.toNat : Int)
theorem bytesI_len (p : Wd) : (bytesI p).length = p.length := List.length_map ..
def bentS (p : Wd) (at_ b : Int) : Wd := ((bytesI p).set (0 + (pickS at_ (bytesI p).length).toNat) b).map fun n => UInt8.ofNat n.toNat
theorem bent_len (p : Wd) (at_ b : Int) : (bentS p at_ b).length = p.length := by unfold bentS; simp [bytesI_len]
theorem lback (l : List Int) (hl : l.length = 7) (hz : ∀ z ∈ l, I64 z) (y : List A5) (hy : ∀ z ∈ y, A5OK z) (hyl : (y.length : Int) ≤ 9223372036854775807) (s : Wd) (hsl : (s.length : Int) ≤ 9223372036854775807) (at_ : Int) (hat : I64 at_) (b : Int) (hb : 0 ≤ b ∧ b ≤ 255) : Meets Tryz.prog Dc 5 [a7A l, a5S y, wS s, iS at_, .p (.int .u8 b)] [] (bS true) [] := by
 have hs := lsane
 have hm := lmade l hl hz y hy hyl
 have ho := made_ord l y
 obtain ⟨hw1, hw2⟩ := made_len (o := madeS l y) (y := y) rfl
 generalize madeS l y = o at *
 have hv : validG o.goal = true := ((ordB_iff o).1 ho).goal
 have hG := valid_gall hv
 have hp := oprint o hG
 rw [print_eq ho] at hp
 dsimp only at hp
 have hpa := oparse (joinW (orderW o)) (by omega)
 unfold retP at hpa
 rw [parse_print ho (by omega)] at hpa
 dsimp only at hpa
 have ht := otokens (joinW (orderW o)) (by omega)
 rw [tokens_join] at ht
 have hsame := rsameO o o hG hG
 rw [(sameO_iff o o).2 rfl] at hsame
 have hP := parse_t ho (by omega)
 have hpos : 0 < (joinW (orderW o)).length := by
  cases hj : joinW (orderW o) with
  | nil =>
   have h1 := tokens_join o
   rw [hj] at h1
   have h2 := orderW_len o
   rw [← h1] at h2
   have h3 : (tokensW []).length = 0 := rfl
   omega
  | cons a l => simp
 generalize joinW (orderW o) = p at *
 have hpk := pickL at_ (bytesI p).length (by unfold I64 at hat; omega) (by rw [bytesI_len]; omega)
 have hpb := pickS_bd (c := at_) (n := (bytesI p).length) (by rw [bytesI_len]; omega)
 have hpc : 0 + (pickS at_ (bytesI p).length).toNat < (bytesI p).length := by omega
 refine meets_of_gx Ax tab_ok Tryz.func5 (c := _) rfl Tryz.call5 900 ?_
 (repeat' ((conv => whnf); first | (exfalso; omega) | exact ⟨⟨hpb.1, hpb.2, rfl⟩⟩ | exact ⟨⟨hpc, rfl⟩⟩ | refine cpC (hs) ?_ | refine dpC (hs) ?_ | refine cpC (hm) ?_ | refine dpC (hm) ?_ | refine cpC (hp) ?_ | refine dpC (hp) ?_ | refine cpC (hpa) ?_ | refine dpC (hpa) ?_ | refine cpC (ht) ?_ | refine dpC (ht) ?_ | refine cpC (hsame) ?_ | refine dpC (hsame) ?_ | refine cpC (hpk) ?_ | refine dpC (hpk) ?_ | refine x0C ?_ | refine spC (fun hb => ?_) fun hb => ?_ | refine nilC (fun hb => ?_) ?_ | refine taC ?_ | refine saC ?_ | exact sdV | refine side_and ?_ ?_ | refine drawX_of mixed ?_))
 have hs0 : (List.drop (Int.toNat 0) (List.take (min (s.length : Int) 400).toNat s)).length ≤ 12210 := by rw [List.length_drop, List.length_take]; omega
 have hs1 : (List.map (fun n : Int => UInt8.ofNat n.toNat) (List.take (List.map (fun b : UInt8 => (b.toNat : Int)) p).length (List.drop 0 ((List.map (fun b : UInt8 => (b.toNat : Int)) p).set (0 + (pickS at_ (bytesI p).length).toNat) b)))).length ≤ 12210 := by simp; omega
 generalize List.drop (Int.toNat 0) (List.take (min (s.length : Int) 400).toNat s) = t0 at *
 generalize List.map (fun n : Int => UInt8.ofNat n.toNat) (List.take (List.map (fun b : UInt8 => (b.toNat : Int)) p).length (List.drop 0 ((List.map (fun b : UInt8 => (b.toNat : Int)) p).set (0 + (pickS at_ (bytesI p).length).toNat) b))) = t1 at *
 conv => whnf
 refine loop_up (fun i : Nat => [(83, iS i)]) (fun _ => []) (fun i => i ≤ 2) (fun i => 2 - i) 0 (Nat.zero_le _) (by exact bkI) ?_
 clear hs hm hp hpa ht hsame hpk hpb
 rintro i hi K hK
 rcases Nat.lt_or_ge i 2 with hik | hik
 ·have hT : ([t0, t1].getD (0 + (i : Int).toNat) (Cd.dflt U.str)).length ≤ 12210 := by
   match i, hik with
   | 0, _ => exact hs0
   | 1, _ => exact hs1
  obtain ⟨q, n, e, hq⟩ := hP ([t0, t1].getD (0 + (i : Int).toNat) (Cd.dflt U.str))
  have hpa := oparse ([t0, t1].getD (0 + (i : Int).toNat) (Cd.dflt U.str)) (by omega)
  unfold retP at hpa
  rw [hq.parse] at hpa
  dsimp only at hpa
  have hpr := oprint q hq.gall
  have htk := otokens ([t0, t1].getD (0 + (i : Int).toNat) (Cd.dflt U.str)) (by omega)
  have hsm := rsameO q o hq.gall hG
  by_cases he : e = 0
  ·obtain ⟨h1, h2, h3⟩ := hq.ok he
   subst he
   subst h2
   rw [h1] at hpr
   dsimp only at hpr
   rw [h3] at hsm
   by_cases htp : [t0, t1].getD (0 + (i : Int).toNat) (Cd.dflt U.str) = p
   ·rw [decide_eq_true htp] at hsm
    clear hP hq h1 h3
    (repeat' ((conv => whnf); first | (exfalso; omega) | refine cpC (hpa) ?_ | refine dpC (hpa) ?_ | refine cpC (hpr) ?_ | refine dpC (hpr) ?_ | refine cpC (htk) ?_ | refine dpC (htk) ?_ | refine cpC (hsm) ?_ | refine dpC (hsm) ?_ | (exact absurd rfl hb) | (rw [decide_eq_true htp] at hb; exact absurd hb (by decide)) | refine hK (i + 1) [some 0, some 1, some 2, some 3, some 4] _ _ ⟨by omega⟩ ⟨by omega⟩ (by exact bkI) | refine x0C ?_ | refine spC (fun hb => ?_) fun hb => ?_ | refine nilC (fun hb => ?_) ?_ | refine taC ?_ | refine saC ?_ | exact sdV | refine side_and ?_ ?_ | refine drawX_of mixed ?_))
   ·rw [decide_eq_false htp] at hsm
    clear hP hq h1 h3
    (repeat' ((conv => whnf); first | (exfalso; omega) | refine cpC (hpa) ?_ | refine dpC (hpa) ?_ | refine cpC (hpr) ?_ | refine dpC (hpr) ?_ | refine cpC (htk) ?_ | refine dpC (htk) ?_ | refine cpC (hsm) ?_ | refine dpC (hsm) ?_ | (exact absurd rfl hb) | (rw [decide_eq_false htp] at hb; exact absurd hb (by decide)) | refine hK (i + 1) [some 0, some 1, some 2, some 3, some 4] _ _ ⟨by omega⟩ ⟨by omega⟩ (by exact bkI) | refine x0C ?_ | refine spC (fun hb => ?_) fun hb => ?_ | refine nilC (fun hb => ?_) ?_ | refine taC ?_ | refine saC ?_ | exact sdV | refine side_and ?_ ?_ | refine drawX_of mixed ?_))
  ·obtain ⟨rfl, h2, h3, h4⟩ := hq.bad he
   rw [h2] at hpr
   dsimp only at hpr
   clear hP hq h2 hsm
   (repeat' ((conv => whnf); first | (exfalso; omega) | refine cpC (hpa) ?_ | refine dpC (hpa) ?_ | refine cpC (hpr) ?_ | refine dpC (hpr) ?_ | refine cpC (htk) ?_ | refine dpC (htk) ?_ | refine hK (i + 1) [some 0, some 1, some 2, some 3, some 4] _ _ ⟨by omega⟩ ⟨by omega⟩ (by exact bkI) | refine x0C ?_ | refine spC (fun hb => ?_) fun hb => ?_ | refine nilC (fun hb => ?_) ?_ | refine taC ?_ | refine saC ?_ | exact sdV | refine side_and ?_ ?_ | refine drawX_of mixed ?_))
 ·(repeat' ((conv => whnf); first | (exfalso; omega) | (refine end_fn [] (.inr rfl) ?_ ?_ rfl rfl; (focus exact vwV); exact hsV) | refine x0C ?_ | refine spC (fun hb => ?_) fun hb => ?_ | refine nilC (fun hb => ?_) ?_ | refine taC ?_ | refine saC ?_ | exact sdV | refine side_and ?_ ?_ | refine drawX_of mixed ?_))
end Go.SX
