/-
  Plain: the words see of an order's text are those of the exposures of its goal, in their order.
-/
import Derived.Test.YtijedffphgckmaaGreatDoorSxTd7
import Derived.Test.YtijedffphgckmaaGreatDoorSxUd1
set_option linter.unusedVariables false
set_option linter.unusedSimpArgs false
namespace Go.SX
/-- where a word see stands, the words of the next goal stand -/
def SeesAt : List Wd → List Goal → Prop
 | [], gs => gs = []
 | w :: W, gs => if w = w_see then ∃ g r, gs = g :: r ∧ (w :: W).take (goalW g).length = goalW g ∧ SeesAt W r else SeesAt W gs
def SeesIn (A : List Wd) (gs : List Goal) : Prop := ∀ (B : List Wd) (hs : List Goal), SeesAt B hs → SeesAt (A ++ B) (gs ++ hs)
theorem SeesIn.nil : SeesIn [] [] := fun _ _ h => h
theorem SeesIn.app {A A' : List Wd} {g g' : List Goal} (h : SeesIn A g) (h' : SeesIn A' g') : SeesIn (A ++ A') (g ++ g') := fun B hs hb => by
 rw [List.append_assoc, List.append_assoc]
 exact h _ _ (h' _ _ hb)
/-- words among which there is no see -/
def NS (l : List Wd) : Prop := ∀ w ∈ l, w ≠ w_see
theorem NS.nil : NS [] := fun w h => by cases h
theorem NS.cons {w : Wd} {l : List Wd} (h : w ≠ w_see) (hl : NS l) : NS (w :: l) := fun x hx => by
 rcases List.mem_cons.1 hx with rfl | hx
 ·exact h
 ·exact hl x hx
theorem NS.app {a b : List Wd} (h : NS a) (h' : NS b) : NS (a ++ b) := fun x hx => by
 rcases List.mem_append.1 hx with hx | hx
 ·exact h x hx
 ·exact h' x hx
theorem NS.sees : ∀ {A : List Wd}, NS A → SeesIn A []
 | [], _ => .nil
 | w :: A, h => fun B hs hb => by
  show SeesAt (w :: (A ++ B)) hs
  rw [SeesAt, if_neg (h w (by simp))]
  exact (NS.sees (A := A) fun x hx => h x (List.mem_cons_of_mem _ hx)) B hs hb
theorem itoaF_ns : ∀ f n : Nat, (115 : UInt8) ∉ itoaF f n
 | 0, n => by simp [itoaF]
 | f + 1, n => by
  have hd : ∀ k : Nat, k < 10 → (115 : UInt8) ≠ UInt8.ofNat (48 + k) := by decide
  unfold itoaF
  split
  ·rename_i h
   simp only [List.mem_singleton]
   exact hd n h
  ·simp only [List.mem_append, List.mem_singleton, not_or]
   exact ⟨itoaF_ns f _, hd _ (Nat.mod_lt _ (by omega))⟩
theorem itoaW_ns (n : Int) : itoaW n ≠ w_see := by
 have h : (115 : UInt8) ∉ itoaW n := by
  unfold itoaW
  split
  ·simp only [List.mem_cons, not_or]; exact ⟨by decide, itoaF_ns _ _⟩
  ·exact itoaF_ns _ _
 intro e
 rw [e] at h
 exact h (by decide)
theorem runW_ns (y : Nat) (p : Nat × Nat) : NS (runW y p) := .cons (by decide) (.cons (itoaW_ns _) (.cons (itoaW_ns _) (.cons (itoaW_ns _) .nil)))
theorem flat_ns {α : Type} (f : α → List Wd) (h : ∀ a, NS (f a)) : ∀ l : List α, NS (l.flatMap f)
 | [] => .nil
 | a :: l => by rw [List.flatMap_cons]; exact (h a).app (flat_ns f h l)
theorem rowsW_ns : ∀ (y : Nat) (l : List Int), NS (rowsW y l)
 | _, [] => .nil
 | y, r :: l => (flat_ns _ (runW_ns y) _).app (rowsW_ns (y + 1) l)
theorem see_sees (g : Goal) (hk : g.kind = 1) : SeesIn (goalW g) [g] := fun B hs hb => by
 have e : goalW g = seeW g := by rw [goalW_eq, if_pos hk]
 obtain ⟨A, hA⟩ : ∃ A, A = rowsW 0 g.rows ++ [w_from, itoaW g.from_, w_to, itoaW g.to_, w_sun, itoaW g.low, w_to, itoaW g.high, if g.clear then w_clear else w_any] := ⟨_, rfl⟩
 have e2 : seeW g = w_see :: A := by rw [hA]; rfl
 have hns : NS A := by
  rw [hA]
  refine (rowsW_ns _ _).app (.cons (by decide) (.cons (itoaW_ns _) (.cons (by decide) (.cons (itoaW_ns _) (.cons (by decide) (.cons (itoaW_ns _) (.cons (by decide) (.cons (itoaW_ns _) (.cons ?_ .nil)))))))))
  split <;> decide
 rw [e, e2]
 show SeesAt (w_see :: (A ++ B)) (g :: hs)
 rw [SeesAt, if_pos rfl]
 refine ⟨g, hs, rfl, ?_, hns.sees B hs hb⟩
 rw [e, e2, show w_see :: (A ++ B) = (w_see :: A) ++ B from rfl, List.take_left]
theorem headW_ns (g : Goal) : NS (headW g) := by
 unfold headW
 split
 ·exact .cons (by decide) (.cons (by decide) (.cons (itoaW_ns _) (.cons (by decide) (.cons (itoaW_ns _) (.cons (by decide) .nil)))))
 ·split
  ·exact .cons (by decide) (.cons (itoaW_ns _) (.cons (by decide) (.cons (itoaW_ns _) (.cons (by decide) (.cons (by decide) (.cons (itoaW_ns _) (.cons (by decide) (.cons (itoaW_ns _) (.cons (by decide) .nil)))))))))
  ·exact .cons (by decide) (.cons (by decide) (.cons (itoaW_ns _) (.cons (by decide) .nil)))
mutual
theorem goal_sees : ∀ g : Goal, allOK g = true → SeesIn (goalW g) (seesG g) ∧ seesG g ≠ []
 | ⟨kind, rows, from_, to_, low, high, clear, days, times, within, cents, kids⟩, h => by
  rw [allOK, Bool.and_eq_true] at h
  have hO := okG h.1
  have hkind := hO.kind
  by_cases h1 : kind = 1
  ·have e : seesG ⟨kind, rows, from_, to_, low, high, clear, days, times, within, cents, kids⟩ = [⟨kind, rows, from_, to_, low, high, clear, days, times, within, cents, kids⟩] := by rw [seesG, if_pos h1]
   rw [e]
   exact ⟨see_sees _ h1, by simp⟩
  ·rw [seesG, if_neg h1, goalW, if_neg h1]
   by_cases h2 : kind = 2 ∨ kind = 3 ∨ kind = 4
   ·rw [if_pos h2]
    have hl := (hO.one h2).1
    obtain ⟨f1, f2⟩ := first_sees kids h.2 hl
    refine ⟨?_, f2⟩
    have := SeesIn.app (headW_ns ⟨kind, rows, from_, to_, low, high, clear, days, times, within, cents, kids⟩).sees f1
    simpa using this
   ·rw [if_neg h2]
    have hm := (hO.many (show kind = 5 ∨ kind = 6 by have : (⟨kind, rows, from_, to_, low, high, clear, days, times, within, cents, kids⟩ : Goal).kind = kind := rfl; omega)).1
    obtain ⟨f1, f2⟩ := kids_sees kids h.2 (decide (kind = 6)) true cents
    refine ⟨?_, f2 (by intro e; rw [e] at hm; simp at hm)⟩
    have ho : NS [if kind = 5 then w_all else w_any, w_open] := .cons (by split <;> decide) (.cons (by decide) .nil)
    have hc : NS [w_close] := .cons (by decide) .nil
    have := (ho.sees.app f1).app hc.sees
    simpa using this
theorem first_sees : ∀ l : List Goal, allOKL l = true → l.length = 1 → SeesIn (firstW l) (seesL l) ∧ seesL l ≠ []
 | [], _, hl => by simp at hl
 | [k], h, _ => by
  rw [allOKL, Bool.and_eq_true] at h
  have := goal_sees k h.1
  rw [firstW, seesL, seesL, List.append_nil]
  exact this
 | _ :: _ :: _, _, hl => by simp at hl
theorem kids_sees : ∀ (l : List Goal), allOKL l = true → ∀ (any first : Bool) (c : List Int), SeesIn (kidsW any first c l) (seesL l) ∧ (l ≠ [] → seesL l ≠ [])
 | [], _, any, first, c => by
  rw [kidsW, seesL]
  exact ⟨.nil, fun h => absurd rfl h⟩
 | k :: l, h, any, first, c => by
  rw [allOKL, Bool.and_eq_true] at h
  obtain ⟨f1, f2⟩ := goal_sees k h.1
  obtain ⟨f3, _⟩ := kids_sees l h.2 any false c.tail
  rw [kidsW, seesL]
  refine ⟨?_, fun _ e => f2 (by simp at e; exact e.1)⟩
  have h1 : NS (if first = true then [] else [w_comma]) := by split; exact .nil; exact .cons (by decide) .nil
  have h2 : NS (if any = true then [itoaW (c.headD 0)] else []) := by split; exact .cons (itoaW_ns _) .nil; exact .nil
  have := ((h1.sees.app h2.sees).app f1).app f3
  simpa using this
end
theorem frontW_ns (o : Order) : NS (frontW o) := by
 unfold frontW
 refine .cons (by decide) (.cons (itoaW_ns _) (.cons (by decide) (.cons (itoaW_ns _) (.cons (by decide) (.cons (itoaW_ns _) (.cons (by decide) (.cons ?_ (.cons ?_ (.cons (by decide) (.cons (itoaW_ns _) (.cons (by decide) (.cons (itoaW_ns _) (.cons (by decide) .nil)))))))))))))
 ·split
  ·decide
  ·exact itoaW_ns _
 ·split <;> decide
theorem order_sees (o : Order) (h : validG o.goal = true) : SeesAt (orderW o) (seesG o.goal) ∧ seesG o.goal ≠ [] := by
 obtain ⟨a1, _, _⟩ := (valid_law o.goal).1 h
 obtain ⟨f1, f2⟩ := goal_sees o.goal a1
 refine ⟨?_, f2⟩
 rw [orderW_eq]
 have hd : NS [w_dot] := .cons (by decide) .nil
 have := ((frontW_ns o).sees.app f1).app hd.sees [] [] (by rw [SeesAt])
 simpa using this
end Go.SX

/-
 Plain: goals are read as they are written.
-/
namespace Go.SX
theorem wordsR_cons (p : Nat × Run) (L : List (Nat × Run)) : wordsR (p :: L) = w_at :: itoaW p.1 :: itoaW p.2.1 :: itoaW p.2.2 :: wordsR L := rfl
theorem wordsR_len : ∀ L : List (Nat × Run), (wordsR L).length = 4 * L.length
 | [] => rfl
 | p :: L => by rw [wordsR_cons]; simp only [List.length_cons, wordsR_len L]; omega
theorem area_at {ws : List Wd} : ∀ (L : List (Nat × Run)) (y c fuel : Nat) (rows : List Int) (a : Nat) (m : Int) (w : Wd) (r : List Wd), L ≠ [] → Chain y c L → L.length ≤ fuel → ws.drop a = wordsR L ++ w :: r → w ≠ w_at → areaP ws fuel y c rows a m = .ok (build rows L) ((a + 4 * L.length : Nat) : Int) m
 | [], y, c, fuel, rows, a, m, w, r, h, _, _, _, _ => absurd rfl h
 | p :: L, y, c, 0, rows, a, m, w, r, _, _, hf, _, _ => by simp at hf
 | p :: L, y, c, fuel + 1, rows, a, m, w, r, _, hc, hf, hd, hw => by
  obtain ⟨c1, c2, c3, c4, c5, c6⟩ := hc
  rw [wordsR_cons] at hd
  have d1 := tail_at hd
  have d2 := tail_at d1
  have d3 := tail_at d2
  have d4 := tail_at d3
  rw [areaP, if_neg (by intro h; have := c3 (by omega); omega)]
  rw [must1 hd]
  dsimp only [Rs.bind]
  have q1 : (if (48 : Int) ≤ c then (y : Int) + 1 else y) ≤ p.1 := by
   by_cases h48 : (48 : Int) ≤ c
   ·rw [if_pos h48]
    rcases Nat.lt_or_eq_of_le c1 with h | h
    ·omega
    ·have := c3 h.symm; omega
   ·rw [if_neg h48]; omega
  have q2 : (if (p.1 : Int) > (if (48 : Int) ≤ c then (y : Int) + 1 else y) ∨ (48 : Int) ≤ c then (0 : Int) else c) ≤ p.2.1 := by
   by_cases h48 : (48 : Int) ≤ c
   ·rw [if_pos (.inr h48)]; omega
   ·rw [if_neg h48]
    by_cases hp : (p.1 : Int) > y
    ·rw [if_pos (.inl hp)]; omega
    ·rw [if_neg (by intro h; rcases h with h | h; exact hp h; exact h48 h)]
     have := c3 (by omega); omega
  rw [num_at d1 q1 (by omega) (by omega) (by omega)]
  dsimp only
  rw [num_at d2 q2 (by omega) (by omega) (by omega)]
  dsimp only
  rw [num_at d3 (by omega) (by omega) (by omega) (by omega)]
  dsimp only
  cases L with
  | nil =>
   rw [peek_at (w := w) (r := r) d4, if_neg hw]
   rfl
  | cons q L =>
   rw [wordsR_cons] at d4
   rw [peek_at (w := w_at) d4, if_pos rfl]
   have ih := area_at (q :: L) p.1 (p.2.2 + 2) fuel (orRun rows p) (a + 1 + 1 + 1 + 1) m w r (by simp) c6 (by simpa using hf) d4 hw
   rw [show a + 4 * (p :: q :: L).length = a + 1 + 1 + 1 + 1 + 4 * (q :: L).length by simp only [List.length_cons]; omega]
   exact ih
theorem area_ok {ws : List Wd} : ∀ (fuel y c : Nat) (rows rows' : List Int) (a m a' m' : Int), 0 ≤ a → a ≤ ws.length → areaP ws fuel y c rows a m = .ok rows' a' m' → ∃ L, Chain y c L ∧ (L = [] → 48 ≤ c) ∧ Reads ws a (wordsR L) a' ∧ m' = m ∧ rows' = build rows L
 | 0, y, c, rows, rows', a, m, a', m', h0, h1, h => by rw [areaP] at h; cases h
 | fuel + 1, y, c, rows, rows', a, m, a', m', h0, h1, h => by
  rw [areaP] at h
  split at h
  ·rename_i hc
   injection h with e1 e2 e3
   subst e1 e2 e3
   exact ⟨[], trivial, fun _ => by omega, .nil h0 h1, rfl, rfl⟩
  ·rename_i hc
   replace h := bind_ok h
   obtain ⟨_, a1, m1, h2, h⟩ := h
   obtain ⟨r1, rfl⟩ := must_ok [w_at] (by decide) h0 h1 h2
   replace h := bind_ok h
   obtain ⟨row, a2, m2, h2, h⟩ := h
   obtain ⟨r2, rfl, b1, b2⟩ := num_ok r1.lo' r1.hi h2
   replace h := bind_ok h
   obtain ⟨x, a3, m3, h2, h⟩ := h
   obtain ⟨r3, rfl, b3, b4⟩ := num_ok r2.lo' r2.hi h2
   replace h := bind_ok h
   obtain ⟨z, a4, m4, h2, h⟩ := h
   obtain ⟨r4, rfl, b5, b6⟩ := num_ok r3.lo' r3.hi h2
   have hrow : (y : Int) ≤ row := by split at b1 <;> omega
   obtain ⟨row, rfl⟩ := Int.eq_ofNat_of_zero_le (show 0 ≤ row by omega)
   have hx : 0 ≤ x := by split at b3 <;> omega
   obtain ⟨x, rfl⟩ := Int.eq_ofNat_of_zero_le hx
   obtain ⟨z, rfl⟩ := Int.eq_ofNat_of_zero_le (show 0 ≤ z by omega)
   have hcx : row = y → c ≤ x := fun e => by
    subst e
    have h48 : ¬ (48 : Int) ≤ c := fun h => by rw [if_pos h] at b1; omega
    rw [if_neg h48, if_neg (by omega)] at b3
    omega
   have rr := (r1.app (r2.app (r3.app r4)))
   split at h
   ·obtain ⟨L, k1, k2, k3, k4, k5⟩ := area_ok fuel row (z + 2) _ rows' a4 _ a' m' r4.lo' r4.hi h
    refine ⟨(row, (x, z)) :: L, ⟨by show y ≤ row; omega, by show row ≤ 23; omega, hcx, by show x ≤ z; omega, by show z ≤ 47; omega, k1⟩, (by simp), ?_, k4, k5⟩
    have := rr.app k3
    exact this
   ·injection h with e1 e2 e3
    subst e1 e2 e3
    refine ⟨[(row, (x, z))], ⟨by show y ≤ row; omega, by show row ≤ 23; omega, hcx, by show x ≤ z; omega, by show z ≤ 47; omega, trivial⟩, (by simp), ?_, rfl, rfl⟩
    exact rr
/-! see -/
theorem plain_see {g : Goal} (h : OkG g) (hk : g.kind = 1) : g = ⟨1, g.rows, g.from_, g.to_, g.low, g.high, g.clear, 0, 0, 0, [], []⟩ := by
 have h1 := plainB_iff.1 h.plain
 obtain ⟨_, _, _, _, _, k1, k2⟩ := h.see hk
 unfold restG at h1
 rw [if_pos hk] at h1
 cases g
 simp only at *
 simp [h1, k1, k2, hk]
theorem plain_one {g : Goal} (h : OkG g) (hk : g.kind = 2 ∨ g.kind = 3 ∨ g.kind = 4) : ∃ k, g.kids = [k] ∧ k.kind ≤ lastK g.kind ∧ g = (if g.kind = 2 then ⟨2, [], 0, 0, g.low, 0, false, 0, 0, g.within, [], [k]⟩ else if g.kind = 3 then ⟨3, [], g.from_, 0, 0, 0, false, g.days, g.times, g.within, [], [k]⟩ else ⟨4, [], 0, 0, 0, 0, false, 0, 0, g.within, [], [k]⟩) := by
 have h1 := plainB_iff.1 h.plain
 obtain ⟨k1, k2⟩ := h.one hk
 have h3 := h.parts
 simp only [partsB, Bool.and_eq_true, Bool.or_eq_true, decide_eq_true_eq, Bool.not_eq_true', List.any_eq_false] at h3
 obtain ⟨⟨⟨_, _⟩, h4⟩, h5⟩ := h3
 have hr : g.rows = [] := by
  rcases h4 with h4 | h4
  ·omega
  ·exact List.eq_nil_of_length_eq_zero (by omega)
 unfold restG at h1
 obtain ⟨k, hk1⟩ : ∃ k, g.kids = [k] := by
  match hg : g.kids, k1 with
  | [k], _ => exact ⟨k, rfl⟩
 have h6 := h5 k (by rw [hk1]; simp)
 refine ⟨k, hk1, by simpa using h6, ?_⟩
 rw [if_neg (by omega)] at h1
 cases g
 simp only at *
 subst hr hk1 k2
 rcases hk with hk | hk | hk <;> subst hk <;> simp at h1 ⊢ <;> simp [h1]
theorem plain_many {g : Goal} (h : OkG g) (hk : g.kind = 5 ∨ g.kind = 6) : (∀ k ∈ g.kids, k.kind ≤ 6) ∧ g = ⟨g.kind, [], 0, 0, 0, 0, false, 0, 0, 0, g.cents, g.kids⟩ := by
 have h1 := plainB_iff.1 h.plain
 have h3 := h.parts
 simp only [partsB, Bool.and_eq_true, Bool.or_eq_true, decide_eq_true_eq, Bool.not_eq_true', List.any_eq_false] at h3
 obtain ⟨⟨⟨_, _⟩, h4⟩, h5⟩ := h3
 have hr : g.rows = [] := by
  rcases h4 with h4 | h4
  ·omega
  ·exact List.eq_nil_of_length_eq_zero (by omega)
 have hl : lastK g.kind = 6 := by unfold lastK; rw [if_neg (by omega), if_neg (by omega)]
 refine ⟨fun k hk => ?_, ?_⟩
 ·have := h5 k hk
  rw [hl] at this
  simpa using this
 ·unfold restG at h1
  rw [if_neg (by omega), if_neg (by omega), if_neg (by omega), if_neg (by omega)] at h1
  cases g
  simp only at *
  subst hr
  simp [h1]
theorem see_at {ws r : List Wd} {g : Goal} (h : OkG g) (hk : g.kind = 1) {a : Nat} {m : Int} (hd : ws.drop a = goalW g ++ r) : seeP ws ((a + 1 : Nat) : Int) m = .ok g ((a + (goalW g).length : Nat) : Int) m := by
 obtain ⟨b1, b2, b3, b4, b5, _, _⟩ := h.see hk
 obtain ⟨L, l1, l2, l3⟩ := area_write b1
 have hne : L ≠ [] := fun e => by
  have h1 := h.lim
  unfold limB at h1
  rw [if_pos hk] at h1
  simp only [Bool.and_eq_true, List.any_eq_true, decide_eq_true_eq] at h1
  obtain ⟨x, hx, hx0⟩ := h1.1.1.1.1.2
  rw [← l3, e] at hx
  exact hx0 (List.mem_replicate.1 hx).2
 have hlen := rowsW_len 0 g.rows (by simp only [areaB, Bool.and_eq_true] at b1; exact b1.2)
 have hrl : g.rows.length = 24 := by simp only [areaB, Bool.and_eq_true, decide_eq_true_eq] at b1; omega
 rw [l2, wordsR_len] at hlen
 have eW : goalW g = w_see :: (wordsR L ++ [w_from, itoaW g.from_, w_to, itoaW g.to_, w_sun, itoaW g.low, w_to, itoaW g.high, if g.clear then w_clear else w_any]) := by
  rw [goalW_eq, if_pos hk, seeW, l2]; rfl
 have hlW : (goalW g).length = 1 + 4 * L.length + 9 := by rw [eW]; simp [wordsR_len]; omega
 rw [eW] at hd
 have d0 := tail_app hd
 rw [List.append_assoc] at d0
 have d1 := drop_app d0
 rw [wordsR_len] at d1
 have ha := area_at L 0 0 1200 (List.replicate 24 0) (a + 1) m w_from _ hne l1 (by omega) d0 (by decide)
 rw [l3] at ha
 unfold seeP
 rw [show areaP ws 1200 0 0 (List.replicate 24 0) ((a + 1 : Nat) : Int) m = _ from ha]
 dsimp only [Rs.bind]
 have d2 := tail_at d1
 have d3 := tail_at d2
 have d4 := tail_at d3
 have d5 := tail_at d4
 have d6 := tail_at d5
 have d7 := tail_at d6
 have d8 := tail_at d7
 have d9 := tail_at d8
 rw [must1 d1]
 dsimp only
 rw [num_at d2 (by omega) (by omega) (by omega) (by omega)]
 dsimp only
 rw [must1 d3]
 dsimp only
 rw [num_at d4 (by omega) (by omega) (by omega) (by omega)]
 dsimp only
 rw [must1 d5]
 dsimp only
 rw [num_at d6 (by omega) (by omega) (by omega) (by omega)]
 dsimp only
 rw [must1 d7]
 dsimp only
 rw [num_at d8 (by omega) (by omega) (by omega) (by omega)]
 dsimp only
 rw [word_at (by decide) d9]
 dsimp only
 rw [← plain_see h hk, hlW]
 congr 2
 omega
end Go.SX

namespace Go.SX
open Go.Proofs
set_option maxHeartbeats 4000000
set_option maxRecDepth 100000
@[reducible] def shH (n : Nat) (out : List Goal) : List (HS Cd) := [.vart none [.slice 2 0 12 0 n], .vart none [shF], .rows U.goal out]
@[reducible] def shD (n : Nat) (out : List Goal) : List (HS Cd) := [.vart none [.slice 3 0 12 0 n], .vart none [shF], .dead, .rows U.goal out]
theorem see_shape {g : Goal} (h : okB g = true) (hk : g.kind = 1) : g = ⟨1, g.rows, g.from_, g.to_, g.low, g.high, g.clear, 0, 0, 0, [], []⟩ := plain_see (okG h) hk
/-- an exposure more -/
theorem oshotS (r : List Int) (f t lo hi : Int) (c : Bool) (out : List Goal) (n : Nat) (hn : n = out.length) (hb : n ≤ 100) (hr : (r.length : Int) ≤ 1000) : Meets Tryz.prog Dc 46 [goalA ⟨1, r, f, t, lo, hi, c, 0, 0, 0, [], []⟩, .ptr 0 0, .ptr 1 0] (shH n out) (.tuple []) (shD (n + 1) (out ++ [⟨1, r, f, t, lo, hi, c, 0, 0, 0, [], []⟩])) := by
 subst hn
 have hc := cloneI r (by omega)
 refine meets_of_gx Ax tab_ok Tryz.func46 (c := _) rfl Tryz.call46 300 ?_
 (repeat' ((conv => whnf); first | (exfalso; omega) | (refine callh [] hc rfl rfl trivial ?_) | refine x0C ?_ | refine spC (fun hb => ?_) fun hb => ?_ | refine nilC (fun hb => ?_) ?_ | refine taC ?_ | refine saC ?_ | exact sdV | refine side_and ?_ ?_))
 conv => whnf
 refine frz_draw [some 0, some 1, some 2, some 3, none] [(0, .any), (12, .any)] [(3, .vart none [iS 1, lS r, iS f, iS t, iS lo, iS hi, bS c, iS 0, iS 0, iS 0, lS [], gsS []]), (4, .rows U.int [])] (by exact bkV) ?_
 conv => whnf
 refine drawX_of mixed ?_
 (repeat' ((conv => whnf); first | (exfalso; omega) | refine x0C ?_ | refine spC (fun hb => ?_) fun hb => ?_ | refine nilC (fun hb => ?_) ?_ | refine taC ?_ | refine saC ?_ | exact sdV | refine side_and ?_ ?_))
 have hV : ((List.take out.length out ++ List.take 1 (List.drop 0 [(⟨0, [], 0, 0, 0, 0, false, 0, 0, 0, [], []⟩ : Goal)])).set (0 + (out.length : Int).toNat) ⟨1, r, f, t, lo, hi, c, 0, 0, 0, [], []⟩) = out ++ [⟨1, r, f, t, lo, hi, c, 0, 0, 0, [], []⟩] := by
  rw [List.take_length, show 0 + (out.length : Int).toNat = out.length by omega, List.set_append_right _ _ (Nat.le_refl _), Nat.sub_self]; rfl
 conv => whnf
 refine loop_up (fun _ : Unit => [(24, iS 0)]) (fun _ => []) (fun _ => True) (fun _ => 0) () trivial (by exact bkW) ?_
 intro _ _ K hK
 (repeat' ((conv => whnf); first | (exfalso; omega) | (refine end_fn [some 0, some 1, some 2, some 6] (.inl rfl) ?_ ?_ rfl rfl; (focus exact vwV); exact hsW) | refine x0C ?_ | refine spC (fun hb => ?_) fun hb => ?_ | refine nilC (fun hb => ?_) ?_ | refine taC ?_ | refine saC ?_ | exact sdV | refine side_and ?_ ?_))
def SH1 (g : Goal) : Prop := ∀ (n : Nat) (out : List Goal), n = out.length → n + (seesG g).length ≤ 100 → Meets Tryz.prog Dc 46 [goalA g, .ptr 0 0, .ptr 1 0] (shH n out) (.tuple []) (shD (n + (seesG g).length) (out ++ seesG g))
def SH0 (g : Goal) : Prop := Meets Tryz.prog Dc 46 [goalA g, .ptr 0 0, .ptr 1 0] [.vart none [nilS], .vart none [shF]] (.tuple []) [.vart none [.slice 2 0 12 0 (seesG g).length], .vart none [shF], .rows U.goal (seesG g)]
theorem sees_take {g : Goal} {i : Nat} (h : i < g.kids.length) : seesL (g.kids.take (i + 1)) = seesL (g.kids.take i) ++ seesG (g.kids.getD (i : Int).toNat (Cd.dflt U.goal)) := by
 rw [take_getD (d := Cd.dflt U.goal) h, seesL_snoc]; rfl
theorem sees_le (g : Goal) (i : Nat) : (seesL (g.kids.take i)).length ≤ (seesL g.kids).length := by
 have : ∀ (l : List Goal) (i : Nat), (seesL (l.take i)).length ≤ (seesL l).length := by
  intro l
  induction l with
  | nil => intro i; simp [seesL]
  | cons a l ih =>
   intro i
   cases i with
   | zero => simp [seesL]
   | succ i => rw [List.take_succ_cons, seesL, seesL, List.length_append, List.length_append]; have := ih i; omega
 exact this _ _
theorem oshotK (g : Goal) (hk : g.kind ≠ 1) (hl : 1 ≤ g.kids.length) (hl4 : g.kids.length ≤ 12) (ih : ∀ k ∈ g.kids, SH1 k) : SH1 g := by
 intro n out hn hb
 subst hn
 have hs : seesG g = seesL g.kids := by rw [seesG_eq, if_neg hk]
 rw [hs] at hb ⊢
 have hst := fun i h => sees_take (g := g) (i := i) h
 have hle := sees_le g
 have hall : seesL (g.kids.take g.kids.length) = seesL g.kids := by rw [List.take_length]
 have h0 : seesL (g.kids.take 0) = [] := by rw [List.take_zero, seesL]
 have ih1 := fun i (h : i < g.kids.length) => ih (g.kids.getD (i : Int).toNat (Cd.dflt U.goal)) (List.mem_of_getElem? (getD_some (d := Cd.dflt U.goal) h))
 unfold SH1 at ih1
 generalize hS : (fun i => seesL (g.kids.take i)) = S
 generalize hE : (fun i : Nat => seesG (g.kids.getD (i : Int).toNat (Cd.dflt U.goal))) = E
 generalize hR : seesL g.kids = R at *
 have hst : ∀ i, i < g.kids.length → S (i + 1) = S i ++ E i := fun i h => by rw [← hS, ← hE]; exact hst i h
 have hle : ∀ i, (S i).length ≤ R.length := fun i => by rw [← hS]; exact hle i
 have hall : S g.kids.length = R := by rw [← hS]; exact hall
 have h0 : S 0 = [] := by rw [← hS]; exact h0
 have ih1 : ∀ (i : Nat), i < g.kids.length → ∀ (n : Nat) (out : List Goal), n = out.length → n + (E i).length ≤ 100 → Meets Tryz.prog Dc 46 [goalA (g.kids.getD (i : Int).toNat (Cd.dflt U.goal)), .ptr 0 0, .ptr 1 0] (shH n out) (.tuple []) (shD (n + (E i).length) (out ++ E i)) := fun i h => by rw [← hE]; exact ih1 i h
 clear hS hE hR hs ih
 refine meets_of_gx Ax tab_ok Tryz.func46 (c := _) rfl Tryz.call46 300 ?_
 (repeat' ((conv => whnf); first | (exfalso; omega) | refine x0C ?_ | refine spC (fun hb => ?_) fun hb => ?_ | refine nilC (fun hb => ?_) ?_ | refine taC ?_ | refine saC ?_ | exact sdV | refine side_and ?_ ?_ | refine drawX_of mixed ?_))
 refine loop_up (fun i : Nat => [(24, iS i)]) (fun i => match i with
  | 0 => []
  | i + 1 => [(0, .vart none [.slice 4 0 12 0 (out.length + (S (i + 1)).length)]), (2, .dead), (4, .rows U.goal (out ++ S (i + 1)))]) (fun i => i ≤ g.kids.length) (fun i => g.kids.length - i) 0 (Nat.zero_le _) (by exact bkI) ?_
 rintro i hi K hK
 rcases Nat.lt_or_ge i g.kids.length with hlt | hge
 ·have hst := hst i hlt
  have hsl := congrArg List.length hst
  rw [List.length_append] at hsl
  have hl1 := hle (i + 1)
  have ih1 := ih1 i hlt
  cases i with
  | zero =>
   rw [h0, List.nil_append] at hst
   rw [h0] at hsl
   have q := ih1 out.length out rfl (by rw [List.length_nil] at hsl; omega)
   rw [← hst] at q
   clear ih1 hle
   (repeat' ((conv => whnf); first | (exfalso; omega) | (refine callh [some 0, some 1, some 2] q rfl rfl ⟨rfl, rfl, rfl, trivial⟩ ?_) | refine hK 1 [some 0, some 1, some 2, some 3, some 5] _ _ ⟨by omega⟩ ⟨by omega⟩ (by exact bkW) | refine x0C ?_ | refine spC (fun hb => ?_) fun hb => ?_ | refine nilC (fun hb => ?_) ?_ | refine taC ?_ | refine saC ?_ | exact sdV | refine side_and ?_ ?_ | refine drawX_of mixed ?_))
  | succ i =>
   have q := ih1 (out.length + (S (i + 1)).length) (out ++ S (i + 1)) (by rw [List.length_append]) (by omega)
   rw [List.append_assoc, ← hst] at q
   clear ih1 hle
   (repeat' ((conv => whnf); first | (exfalso; omega) | (refine callh [some 0, some 1, some 4] q rfl rfl ⟨rfl, rfl, rfl, trivial⟩ ?_) | refine hK (i + 2) [some 0, some 1, some 2, some 3, some 6] _ _ ⟨by omega⟩ ⟨by omega⟩ (by exact bkW) | refine x0C ?_ | refine spC (fun hb => ?_) fun hb => ?_ | refine nilC (fun hb => ?_) ?_ | refine taC ?_ | refine saC ?_ | exact sdV | refine side_and ?_ ?_ | refine drawX_of mixed ?_))
 ·obtain ⟨j, rfl⟩ : ∃ j, i = j + 1 := ⟨i - 1, by omega⟩
  have e : S (j + 1) = R := by rw [← hall]; congr 1; omega
  subst e
  (repeat' ((conv => whnf); first | (exfalso; omega) | (refine end_fn [some 0, some 1, some 2, some 4] (.inl rfl) ?_ ?_ rfl rfl; (focus exact vwV); exact hsW) | refine x0C ?_ | refine spC (fun hb => ?_) fun hb => ?_ | refine nilC (fun hb => ?_) ?_ | refine taC ?_ | refine saC ?_ | exact sdV | refine side_and ?_ ?_ | refine drawX_of mixed ?_))
theorem oshotZ (g : Goal) (hk : g.kind ≠ 1) (hl : 1 ≤ g.kids.length) (hl4 : g.kids.length ≤ 12) (hb : (seesG g).length ≤ 100) (ih : ∀ k ∈ g.kids, SH1 k) (ih0 : ∀ k ∈ g.kids, SH0 k) : SH0 g := by
 unfold SH0
 have hs : seesG g = seesL g.kids := by rw [seesG_eq, if_neg hk]
 rw [hs] at hb ⊢
 have hst := fun i h => sees_take (g := g) (i := i) h
 have hle := sees_le g
 have hall : seesL (g.kids.take g.kids.length) = seesL g.kids := by rw [List.take_length]
 have h0 : seesL (g.kids.take 0) = [] := by rw [List.take_zero, seesL]
 have ih1 := fun i (h : i < g.kids.length) => ih (g.kids.getD (i : Int).toNat (Cd.dflt U.goal)) (List.mem_of_getElem? (getD_some (d := Cd.dflt U.goal) h))
 unfold SH1 at ih1
 have ih2 := ih0 (g.kids.getD ((0 : Nat) : Int).toNat (Cd.dflt U.goal)) (List.mem_of_getElem? (getD_some (d := Cd.dflt U.goal) (show 0 < g.kids.length by omega)))
 unfold SH0 at ih2
 generalize hS : (fun i => seesL (g.kids.take i)) = S
 generalize hE : (fun i : Nat => seesG (g.kids.getD (i : Int).toNat (Cd.dflt U.goal))) = E
 generalize hR : seesL g.kids = R at *
 have hst : ∀ i, i < g.kids.length → S (i + 1) = S i ++ E i := fun i h => by rw [← hS, ← hE]; exact hst i h
 have hle : ∀ i, (S i).length ≤ R.length := fun i => by rw [← hS]; exact hle i
 have hall : S g.kids.length = R := by rw [← hS]; exact hall
 have h0 : S 0 = [] := by rw [← hS]; exact h0
 have ih1 : ∀ (i : Nat), i < g.kids.length → ∀ (n : Nat) (out : List Goal), n = out.length → n + (E i).length ≤ 100 → Meets Tryz.prog Dc 46 [goalA (g.kids.getD (i : Int).toNat (Cd.dflt U.goal)), .ptr 0 0, .ptr 1 0] (shH n out) (.tuple []) (shD (n + (E i).length) (out ++ E i)) := fun i h => by rw [← hE]; exact ih1 i h
 have ih2 : Meets Tryz.prog Dc 46 [goalA (g.kids.getD ((0 : Nat) : Int).toNat (Cd.dflt U.goal)), .ptr 0 0, .ptr 1 0] [.vart none [nilS], .vart none [shF]] (.tuple []) [.vart none [.slice 2 0 12 0 (E 0).length], .vart none [shF], .rows U.goal (E 0)] := by rw [← hE]; exact ih2
 clear hS hE hR hs ih ih0
 refine meets_of_gx Ax tab_ok Tryz.func46 (c := _) rfl Tryz.call46 300 ?_
 (repeat' ((conv => whnf); first | (exfalso; omega) | refine x0C ?_ | refine spC (fun hb => ?_) fun hb => ?_ | refine nilC (fun hb => ?_) ?_ | refine taC ?_ | refine saC ?_ | exact sdV | refine side_and ?_ ?_ | refine drawX_of mixed ?_))
 refine loop_up (fun i : Nat => [(24, iS i)]) (fun i => match i with
  | 0 => []
  | i + 1 => [(0, .vart none [.slice 3 0 12 0 (S (i + 1)).length]), (3, .rows U.goal (S (i + 1)))]) (fun i => i ≤ g.kids.length) (fun i => g.kids.length - i) 0 (Nat.zero_le _) (by exact bkI) ?_
 rintro i hi K hK
 rcases Nat.lt_or_ge i g.kids.length with hlt | hge
 ·have hst := hst i hlt
  have hsl := congrArg List.length hst
  rw [List.length_append] at hsl
  have hl1 := hle (i + 1)
  have ih1 := ih1 i hlt
  cases i with
  | zero =>
   rw [h0, List.nil_append] at hst
   rw [h0] at hsl
   rw [← hst] at ih2
   clear ih1 hle
   (repeat' ((conv => whnf); first | (exfalso; omega) | (refine callh [some 0, some 1] ih2 rfl rfl ⟨rfl, rfl, trivial⟩ ?_) | refine hK 1 [some 0, some 1, some 2, some 4] _ _ ⟨by omega⟩ ⟨by omega⟩ (by exact bkW) | refine x0C ?_ | refine spC (fun hb => ?_) fun hb => ?_ | refine nilC (fun hb => ?_) ?_ | refine taC ?_ | refine saC ?_ | exact sdV | refine side_and ?_ ?_ | refine drawX_of mixed ?_))
  | succ i =>
   have q := ih1 (S (i + 1)).length (S (i + 1)) rfl (by omega)
   rw [← hst] at q
   clear ih1 hle
   (repeat' ((conv => whnf); first | (exfalso; omega) | (refine callh [some 0, some 1, some 3] q rfl rfl ⟨rfl, rfl, rfl, trivial⟩ ?_) | refine hK (i + 2) [some 0, some 1, some 2, some 5] _ _ ⟨by omega⟩ ⟨by omega⟩ (by exact bkW) | refine x0C ?_ | refine spC (fun hb => ?_) fun hb => ?_ | refine nilC (fun hb => ?_) ?_ | refine taC ?_ | refine saC ?_ | exact sdV | refine side_and ?_ ?_ | refine drawX_of mixed ?_))
 ·obtain ⟨j, rfl⟩ : ∃ j, i = j + 1 := ⟨i - 1, by omega⟩
  have e : S (j + 1) = R := by rw [← hall]; congr 1; omega
  subst e
  (repeat' ((conv => whnf); first | (exfalso; omega) | (refine end_fn [some 0, some 1, some 3] (.inl rfl) ?_ ?_ rfl rfl; (focus exact vwV); exact hsW) | refine x0C ?_ | refine spC (fun hb => ?_) fun hb => ?_ | refine nilC (fun hb => ?_) ?_ | refine taC ?_ | refine saC ?_ | exact sdV | refine side_and ?_ ?_ | refine drawX_of mixed ?_))
theorem sh_all : ∀ (N : Nat) (g : Goal), manyG g ≤ N → allOK g = true → (seesG g).length ≤ 100 → SH1 g ∧ SH0 g
 | 0, g, hN, _, _ => by have := manyG_pos g; omega
 | N + 1, g, hN, ha, hb => by
  have ha2 := ha
  rw [allOK_eq, Bool.and_eq_true] at ha2
  have hO := okG ha2.1
  by_cases hk : g.kind = 1
  ·obtain ⟨b1, _⟩ := hO.see hk
   have hr : g.rows.length = 24 := by simp only [areaB, Bool.and_eq_true, decide_eq_true_eq] at b1; omega
   have e := plain_see hO hk
   have es : seesG g = [g] := by rw [seesG_eq, if_pos hk]
   constructor
   ·intro n out hn hb
    rw [es]
    rw [e]
    exact oshotS _ _ _ _ _ _ out n hn (by rw [es] at hb; simp at hb; omega) (by omega)
   ·unfold SH0
    rw [es]
    rw [e]
    exact oshot1 _ _ _ _ _ _ _ _ _ _ (by omega)
  ·have hs : seesG g = seesL g.kids := by rw [seesG_eq, if_neg hk]
   rw [manyG_eq] at hN
   have hkl : 1 ≤ g.kids.length := by
    rcases (show (g.kind = 2 ∨ g.kind = 3 ∨ g.kind = 4) ∨ g.kind = 5 ∨ g.kind = 6 by have := hO.kind; omega) with h | h
    ·have := (hO.one h).1; omega
    ·have := (hO.many h).1; omega
   have hk4 : g.kids.length ≤ 12 := by
    rcases (show (g.kind = 2 ∨ g.kind = 3 ∨ g.kind = 4) ∨ g.kind = 5 ∨ g.kind = 6 by have := hO.kind; omega) with h | h
    ·have := (hO.one h).1; omega
    ·have := (hO.many h).2.1; omega
   have ih : ∀ k ∈ g.kids, SH1 k ∧ SH0 k := fun k hkm => by
    have h1 := manyL_mem hkm
    refine sh_all N k (by omega) (allOKL_mem ha2.2 hkm) ?_
    have : ∀ {l : List Goal} {k : Goal}, k ∈ l → (seesG k).length ≤ (seesL l).length := by
     intro l
     induction l with
     | nil => intro k h; cases h
     | cons a l ihl =>
      intro k h
      rw [seesL, List.length_append]
      rcases List.mem_cons.1 h with rfl | h
      ·omega
      ·have := ihl h; omega
    have := this hkm
    rw [hs] at hb
    omega
   exact ⟨oshotK g hk hkl hk4 fun k h => (ih k h).1, oshotZ g hk hkl hk4 hb (fun k h => (ih k h).1) fun k h => (ih k h).2⟩
theorem oshotsV (g : Goal) (hv : validG g = true) : Meets Tryz.prog Dc 22 [goalA g] [] (gsS (seesG g)) [] := by
 obtain ⟨n, hn⟩ := validG_size hv
 have h12 := (shots_ok g).1
 unfold shotsS at h12
 rw [if_pos hv] at h12
 obtain ⟨a1, _, _⟩ := (valid_law g).1 hv
 obtain ⟨_, h1⟩ := sh_all (manyG g).toNat g (by have := manyG_pos g; omega) a1 (by omega)
 unfold SH0 at h1
 have hvm := valid_meets g (valid_gall hv)
 rw [hv] at hvm
 generalize seesG g = S at *
 refine meets_of_gx Ax tab_ok Tryz.func22 (c := _) rfl Tryz.call22 300 ?_
 (repeat' ((conv => whnf); first | (exfalso; omega) | refine cpC (hvm) ?_ | refine dpC (hvm) ?_ | (refine callh [some 1, some 2] h1 rfl rfl ⟨rfl, rfl, trivial⟩ ?_) | (refine end_fn [] (.inr rfl) ?_ ?_ rfl rfl; (focus exact vwV); exact hsV) | refine x0C ?_ | refine spC (fun hb => ?_) fun hb => ?_ | refine nilC (fun hb => ?_) ?_ | refine taC ?_ | refine saC ?_ | exact sdV | refine side_and ?_ ?_ | refine drawX_of mixed ?_))
theorem see_valid {s : Goal} (h : okB s = true) (hk : s.kind = 1) : validG s = true := by
 have h1 : sizeG s 1 = some 1 := by
  have := ((okG h).see hk).2.2.2.2.2.1
  rw [sizeG_eq, h, this]; rfl
 unfold validG
 rw [h1]; rfl
theorem lshots (l : List Int) (hl : l.length = 7) (hz : ∀ z ∈ l, I64 z) (y : List A5) (hy : ∀ z ∈ y, A5OK z) (hyl : (y.length : Int) ≤ 9223372036854775807) : Meets Tryz.prog Dc 8 [a7A l, a5S y] [] (bS true) [] := by
 have hs := lsane
 have hm := lmade l hl hz y hy hyl
 have ho := made_ord l y
 obtain ⟨hw1, hw2⟩ := made_len (o := madeS l y) (y := y) rfl
 generalize madeS l y = o at *
 have hv : validG o.goal = true := ((ordB_iff o).1 ho).goal
 have hG := valid_gall hv
 have hp := oprint o hG
 rw [print_eq ho] at hp
 dsimp only at hp
 have ht := otokens (joinW (orderW o)) (by omega)
 rw [tokens_join] at ht
 have hsh := oshotsV o.goal hv
 obtain ⟨hsa, hne⟩ := order_sees o hv
 obtain ⟨sz, hsz⟩ := validG_size hv
 obtain ⟨hS1, hS2⟩ := seesG_ok o.goal 1 sz hsz
 have h12 := (shots_ok o.goal).1
 unfold shotsS at h12
 rw [if_pos hv] at h12
 generalize seesG o.goal = S at *
 refine meets_of_gx Ax tab_ok Tryz.func8 (c := _) rfl Tryz.call8 600 ?_
 (repeat' ((conv => whnf); first | (exfalso; omega) | refine cpC (hs) ?_ | refine dpC (hs) ?_ | refine cpC (hm) ?_ | refine dpC (hm) ?_ | refine cpC (hp) ?_ | refine dpC (hp) ?_ | refine cpC (ht) ?_ | refine dpC (ht) ?_ | refine cpC (hsh) ?_ | refine dpC (hsh) ?_ | refine x0C ?_ | refine spC (fun hb => ?_) fun hb => ?_ | refine nilC (fun hb => ?_) ?_ | refine taC ?_ | refine saC ?_ | exact sdV | refine side_and ?_ ?_ | refine drawX_of mixed ?_))
 refine loop_up (fun st : Nat × Nat => [(10, iS st.1), (11, iS st.2)]) (fun _ => []) (fun st => st.2 ≤ (orderW o).length ∧ st.1 ≤ S.length ∧ SeesAt ((orderW o).drop st.2) (S.drop st.1)) (fun st => (orderW o).length - st.2) (0, 0) ⟨Nat.zero_le _, Nat.zero_le _, hsa⟩ (by exact bkI) ?_
 clear hs hm hp ht hsh hsa
 rintro ⟨n, i⟩ ⟨hi, hn, hP⟩ K hK
 have hi : i ≤ (orderW o).length := hi
 have hn : n ≤ S.length := hn
 have hP : SeesAt ((orderW o).drop i) (S.drop n) := hP
 rcases Nat.lt_or_ge i (orderW o).length with hik | hik
 ·have hdr := drop_getD (d := Cd.dflt U.str) hik
  rw [hdr, SeesAt] at hP
  have hwe : (orderW o).getD i (Cd.dflt U.str) = (orderW o).getD (i : Int).toNat (Cd.dflt U.str) := rfl
  rw [hwe] at hP hdr
  by_cases hsee : (orderW o).getD (i : Int).toNat (Cd.dflt U.str) = w_see
  ·rw [if_pos hsee] at hP
   obtain ⟨g, r, hg1, hg2, hg3⟩ := hP
   have hnl : n < S.length := by
    apply Classical.byContradiction
    intro h
    rw [List.drop_eq_nil_of_le (by omega)] at hg1
    cases hg1
   rw [drop_getD (d := Cd.dflt U.goal) hnl] at hg1
   injection hg1 with e1 e2
   rw [← hdr, ← e1] at hg2
   rw [← e2] at hg3
   rw [show S.getD n (Cd.dflt U.goal) = S.getD (n : Int).toNat (Cd.dflt U.goal) from rfl] at hg2
   have hmem : S.getD (n : Int).toNat (Cd.dflt U.goal) ∈ S := List.mem_of_getElem? (getD_some (d := Cd.dflt U.goal) hnl)
   obtain ⟨q1, q2⟩ := hS2 _ hmem
   have hkv := see_valid q1 q2
   have hkp := goalW_pos (S.getD (n : Int).toNat (Cd.dflt U.goal))
   have hkG := valid_gall hkv
   have hpo := part_ord ho hkv
   have hgl := congrArg List.length hg2
   rw [List.length_take, List.length_drop] at hgl
   have htl := text_len (withG o (S.getD (n : Int).toNat (Cd.dflt U.goal)))
   have hol := orderW_len (withG o (S.getD (n : Int).toNat (Cd.dflt U.goal)))
   have hp := oprint (withG o (S.getD (n : Int).toNat (Cd.dflt U.goal))) hkG
   rw [print_eq hpo] at hp
   have hgw : (withG o (S.getD (n : Int).toNat (Cd.dflt U.goal))).goal = S.getD (n : Int).toNat (Cd.dflt U.goal) := rfl
   rw [hgw] at htl hol
   have ht := otokens (joinW (orderW (withG o (S.getD (n : Int).toNat (Cd.dflt U.goal))))) (by omega)
   rw [tokens_join] at ht
   dsimp only [ordA, withG] at hp
   have hW : List.drop (Int.toNat 14) (List.take ((orderW (withG o (S.getD (n : Int).toNat (Cd.dflt U.goal)))).length - 1 : Int).toNat (orderW (withG o (S.getD (n : Int).toNat (Cd.dflt U.goal))))) = goalW (S.getD (n : Int).toNat (Cd.dflt U.goal)) := by
    rw [show ((orderW (withG o (S.getD (n : Int).toNat (Cd.dflt U.goal)))).length - 1 : Int).toNat = 14 + (goalW (S.getD (n : Int).toNat (Cd.dflt U.goal))).length by omega, orderW_eq, hgw, List.take_left' (by rw [List.length_append, frontW_len])]
    exact List.drop_left' (frontW_len _)
   have hst := lstrings (List.drop (i : Int).toNat (List.take ((i : Int) + (goalW (S.getD (n : Int).toNat (Cd.dflt U.goal))).length).toNat (orderW o))) (goalW (S.getD (n : Int).toNat (Cd.dflt U.goal))) (by simp only [List.length_drop, List.length_take]; omega) (by omega)
   rw [decide_eq_true (by
    rw [show ((i : Int) + (goalW (S.getD (n : Int).toNat (Cd.dflt U.goal))).length).toNat = i + (goalW (S.getD (n : Int).toNat (Cd.dflt U.goal))).length by omega, show (i : Int).toNat = i from rfl, ← List.take_drop]
    exact hg2)] at hst
   rw [← hW] at hst
   have hWl := congrArg List.length hW
   (repeat' ((conv => whnf); first | (exfalso; omega) | (exact absurd hsee (by assumption)) | refine cpC (hp) ?_ | refine dpC (hp) ?_ | refine cpC (ht) ?_ | refine dpC (ht) ?_ | refine cpC (hst) ?_ | refine dpC (hst) ?_ | refine hK (n + 1, i + 1) [some 0, some 1] _ _ ⟨⟨by omega, by omega, hg3⟩⟩ ⟨by omega⟩ (by exact bkI) | refine x0C ?_ | refine spC (fun hb => ?_) fun hb => ?_ | refine nilC (fun hb => ?_) ?_ | refine taC ?_ | refine saC ?_ | exact sdV | refine side_and ?_ ?_ | refine drawX_of mixed ?_))
  ·rw [if_neg hsee] at hP
   (repeat' ((conv => whnf); first | (exfalso; omega) | (exact absurd (by assumption) hsee) | refine hK (n, i + 1) [some 0, some 1] _ _ ⟨⟨by omega, by omega, hP⟩⟩ ⟨by omega⟩ (by exact bkI) | refine x0C ?_ | refine spC (fun hb => ?_) fun hb => ?_ | refine nilC (fun hb => ?_) ?_ | refine taC ?_ | refine saC ?_ | exact sdV | refine side_and ?_ ?_ | refine drawX_of mixed ?_))
 ·rw [List.drop_eq_nil_of_le hik, SeesAt] at hP
  have hnS : S.length ≤ n := by
   have := congrArg List.length hP
   rw [List.length_drop, List.length_nil] at this; omega
  have hSp : 0 < S.length := by cases S with | nil => exact absurd rfl hne | cons _ _ => simp
  (repeat' ((conv => whnf); first | refine x0C (eB ?_ rfl) | (exfalso; omega) | refine x0C ?_ | refine spC (fun hb => ?_) fun hb => ?_ | refine nilC (fun hb => ?_) ?_ | refine taC ?_ | refine saC ?_ | exact sdV | refine side_and ?_ ?_ | refine drawX_of mixed ?_))
  all_goals exact decide_eq_true (by (show (0 : Int) < (n : Int)); omega)
end Go.SX
