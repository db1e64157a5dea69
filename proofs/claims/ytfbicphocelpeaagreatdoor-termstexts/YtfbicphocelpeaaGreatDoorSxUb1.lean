/-
  Walks: Ub1, Ub2, Ub3, Ub4, Ub5, Ub6, Ub7, Ub8, Ub9: what single functions of the program compute.
-/
import Derived.Test.YtfbicphocelpeaaGreatDoorSxOq3
set_option linter.unusedVariables false
set_option linter.unusedSimpArgs false
namespace Go.SX
open Go.Proofs
set_option maxHeartbeats 400000000
set_option maxRecDepth 100000
theorem Af {ws : List Wd} {s t : Wd} {a m : Int} (h : InW ws a m) (hs : s ≠ [32]) (ht : t ≠ [32]) : (Z2 ws s t a m).Bd ws a m := by
 have h0 := h.a0;unfold Z2;split
 ·rename_i e;have := eJ h e hs;exact ⟨by omega, by omega, h.m0, Int.le_refl _⟩
 ·split
  ·rename_i e;have := eJ h e ht;exact ⟨by omega, by omega, h.m0, Int.le_refl _⟩
  ·exact h.refl
theorem q4a (s t : Wd) (hsw : s ≠ [32]) (htw : t ≠ [32]) {ws : List Wd} {a m : Int} (hi : InW ws a m) (hn : wA ws) : RM 55 [.ptr 0 0, wS s, wS t] ws a m [] (Z2 ws s t a m) (fun b => bS b) (fun _ => True) := by
 refine jM Tryz.func55 (c := _) rfl Tryz.call55 200 (Af hi hsw htw) (fun _ _ _ _ => trivial) ?_;obtain ⟨S, hS⟩ : ∃ S, S = Z2 ws s t a m := ⟨_, rfl⟩;rw [← hS];unfold Z2 at hS;have hb1 := hi.a1;have hb2 := hn.n
 by_cases h1 : cH ws a = s
 ·rw [if_pos h1] at hS;have hq := q63 s hi hn h1
  (repeat' ((conv => whnf); first | refine chC [some 0] hq ?_ | (refine rok hS (aZ [some 0] (.inr rfl) ?_ ?_ rfl rfl); (focus exact vwV); exact hsW)))
 ·rw [if_neg h1] at hS;have hq := q77 s hi hn h1;have hm := fX [t] (by simp) (by simpa using htw) hi hn;unfold dL dL at hm
  by_cases h2 : cH ws a = t
  ·rw [if_pos h2] at hS hm
   (repeat' ((conv => whnf); first | refine chC [some 0] hq ?_ | (refine rmX [some 0, some _] hm rfl rfl ⟨rfl, rfl, trivial⟩ (fun x a1 m1 e hi hp => ?_) (fun a1 m1 e hi => ?_) (by assumption) <;> cases e) | (refine rok hS (aZ [some 0] (.inr rfl) ?_ ?_ rfl rfl); (focus exact vwV); exact hsW) | refine saC ?_))
  ·rw [if_neg h2] at hS hm
   (repeat' ((conv => whnf); first | refine chC [some 0] hq ?_ | (refine rmX [some 0, some _] hm rfl rfl ⟨rfl, rfl, trivial⟩ (fun x a1 m1 e hi hp => ?_) (fun a1 m1 e hi => ?_) (by assumption) <;> cases e) | (refine rno hS (aW [some 0] ?_); exact hsW) | refine saC ?_))
theorem S9 {ws : List Wd} : ∀ (n : Nat) (y free : Int) (rows : List Int) {a m : Int}, InW ws a m → (xT ws n y free rows a m).Bd ws a m
 | 0, _, _, _, a, m, h => by unfold xT; exact h.refl
 | n + 1, y, free, rows, a, m, h => by
  unfold xT;split
  ·exact h.refl
  ·refine aO h (bL [Nw] h (by decide)) fun _ a1 m1 _ h1 => ?_;refine aO h1 (dA h1) fun row a2 m2 _ h2 => ?_;refine aO h2 (dA h2) fun x a3 m3 _ h3 => ?_;refine aO h3 (dA h3) fun z a4 m4 _ h4 => ?_;split
   ·exact S9 n _ _ _ h4
   ·exact h4.refl
theorem Sg {n k : Nat} (h : k ≤ 64) (h2 : n * 2 ^ k < 2 ^ 63) : gX .i64 (n : Int) (k : Int) = ((n * 2 ^ k : Nat) : Int) := by
 unfold gX;rw [show min (k : Int).toNat IntKind.i64.bits = k by simp [IntKind.bits]; omega, show (n : Int) * 2 ^ k = ((n * 2 ^ k : Nat) : Int) by simp];generalize n * 2 ^ k = x at *;simp only [IntKind.wrap, IntKind.signed, IntKind.bits];simp;omega
theorem q2q {x z : Int} (h : 0 ≤ x ∧ x ≤ z ∧ z ≤ 47) : 1 ≤ gX .i64 1 (z - x + 1) ∧ gX .i64 1 (z - x + 1) ≤ 281474976710656 ∧ gX .i64 (gX .i64 1 (z - x + 1) - 1) x = I3 x z := by
  obtain ⟨x, rfl⟩ := Int.eq_ofNat_of_zero_le h.1;obtain ⟨z, rfl⟩ := Int.eq_ofNat_of_zero_le (Int.le_trans h.1 h.2.1);have hk : (z : Int) - x + 1 = ((z - x + 1 : Nat) : Int) := by omega
  have hp : 2 ^ (z - x + 1) ≤ 2 ^ 48 := Nat.pow_le_pow_right (by omega) (by omega);have hq : 2 ^ (z - x + 1) * 2 ^ x ≤ 2 ^ 48 := by rw [← Nat.pow_add]; exact Nat.pow_le_pow_right (by omega) (by omega)
  have h1 : 1 ≤ 2 ^ (z - x + 1) := Nat.one_le_two_pow;have hs := Sg (n := 1) (k := z - x + 1) (by omega) (by omega);rw [Nat.one_mul] at hs;have e : (2 : Int) ^ (z - x + 1) - 1 = ((2 ^ (z - x + 1) - 1 : Nat) : Int) := by rw [Int.ofNat_sub h1]; simp
  have hs2 := Sg (n := 2 ^ (z - x + 1) - 1) (k := x) (by omega) (by
    have h3 : (2 ^ (z - x + 1) - 1) * 2 ^ x ≤ 2 ^ (z - x + 1) * 2 ^ x := Nat.mul_le_mul_right _ (by omega);omega)
  have hs' : gX .i64 1 (z - x + 1) = ((2 ^ (z - x + 1) : Nat) : Int) := by rw [hk]; exact hs
  rw [hs'];refine ⟨by omega, by omega, ?_⟩;rw [show ((2 ^ (z - x + 1) : Nat) : Int) - 1 = ((2 ^ (z - x + 1) - 1 : Nat) : Int) by omega, hs2];unfold I3;rw [hk, Int.toNat_natCast, e, Int.toNat_natCast];simp
structure q8x (ws : List Wd) (S : Rs (List Int)) (g : Nat × Int × Int × List Int × Int × Int) : Prop where
 y : 0 ≤ g.2.1 ∧ g.2.1 ≤ 23
 free : 0 ≤ g.2.2.1 ∧ g.2.2.1 ≤ 49
 fuel : 1200 ≤ 50 * g.2.1 + g.2.2.1 + g.1
 len : g.2.2.2.1.length = 24
 inw : InW ws g.2.2.2.2.1 g.2.2.2.2.2
 eq : S = xT ws g.1 g.2.1 g.2.2.1 g.2.2.2.1 g.2.2.2.2.1 g.2.2.2.2.2
theorem q9i {ws : List Wd} {a m : Int} (hi : InW ws a m) (hn : wA ws) : RM 162 [.ptr 0 0] ws a m [] (xT ws 1200 0 0 (List.replicate 24 0) a m) (fun rows => sG rows) (fun _ => True) := by
 refine jM Tryz.func162 (c := _) rfl Tryz.call162 600 (S9 _ _ _ _ hi) (fun _ _ _ _ => trivial) ?_;obtain ⟨S, hS⟩ : ∃ S, S = xT ws 1200 0 0 (List.replicate 24 0) a m := ⟨_, rfl⟩;rw [← hS]
 (repeat' ((conv => whnf); first | refine saC ?_))
 refine bP (fun g : Nat × Int × Int × List Int × Int × Int => [(4, iS g.2.1), (5, iS g.2.2.1)]) (fun g => [(0, .vart none [wsS ws, iS g.2.2.2.2.1, iS g.2.2.2.2.2]), (2, .rows U.int g.2.2.2.1)]) (q8x ws S) (fun g => g.1) (1200, 0, 0, List.replicate 24 0, a, m) ⟨by simp, by simp, by simp, by simp, hi, hS⟩ (by exact bkW) ?_;clear hS hi;rintro ⟨n, y, free, rows, a, m⟩ ⟨⟨hy1, hy2⟩, ⟨hf1, hf2⟩, hfu, hl, hi, hS⟩ K hK;dsimp only at hy1 hy2 hf1 hf2 hfu hl hi hS ⊢;obtain ⟨n, rfl⟩ : ∃ j, n = j + 1 := ⟨n - 1, by omega⟩;unfold xT at hS
 by_cases hc : 48 ≤ free ∧ y = 23
 ·rw [if_pos hc] at hS
  (repeat' ((conv => whnf); first | (exfalso; omega) | (refine rok hS (aZ [some 0] (.inr rfl) ?_ ?_ rfl rfl); (focus (refine ⟨?_⟩; (repeat' (first | exact trivial | exact rfl | refine And.intro ?_ ?_ | exact fzV rfl rfl rfl (by simp; omega) (by simp [List.take_of_length_le, hl]) rfl)); done)); exact hsW) | refine spC (fun hb => ?_) fun hb => ?_ | refine saC ?_))
 ·rw [if_neg hc] at hS
  (repeat' ((conv => whnf); first | (exfalso; omega) | (refine rmX [some 0, some _] (fX [Nw] (by decide) (by decide) (by assumption) hn) rfl rfl ⟨rfl, rfl, trivial⟩ (fun x a1 m1 e1 h1 p1 => ?_) (fun a1 m1 e1 h1 => ?_) (by assumption) <;> simp only [e1, Rs.bind] at hS) | (refine rno hS (aW [some 0] ?_); exact hsW) | refine spC (fun hb => ?_) fun hb => ?_ | refine saC ?_))
  all_goals first | (have h48' : 48 ≤ free := (by assumption); simp only [h48', if_true, or_true] at hS) | (have h48' : ¬ 48 ≤ free := (by assumption); simp only [h48', if_false, or_false] at hS)
  all_goals (conv => whnf); (refine rmX [some 0] (Pk _ _ (by assumption) hn) rfl rfl ⟨rfl, trivial⟩ (fun row a2 m2 e2 h2 p2 => ?_) (fun a2 m2 e2 h2 => ?_) (by assumption)) <;> simp only [e2, Rs.bind] at hS
  all_goals (repeat' ((conv => whnf); first | (refine rno hS (aW [some 0] ?_); exact hsW) | refine spC (fun hb => ?_) fun hb => ?_))
  all_goals first | simp only [gt_iff_lt, ‹_ < _›, if_true] at hS | simp only [gt_iff_lt, ‹¬ _ < _›, if_false] at hS | skip
  all_goals (conv => whnf); (refine rmX [some 0] (Pk _ _ (by assumption) hn) rfl rfl ⟨rfl, trivial⟩ (fun x0 a3 m3 e3 h3 p3 => ?_) (fun a3 m3 e3 h3 => ?_) (by assumption)) <;> simp only [e3, Rs.bind] at hS
  all_goals (repeat' ((conv => whnf); first | (refine rno hS (aW [some 0] ?_); exact hsW)))
  all_goals (conv => whnf); (refine rmX [some 0] (Pk _ _ (by assumption) hn) rfl rfl ⟨rfl, trivial⟩ (fun z1 a4 m4 e4 h4 p4 => ?_) (fun a4 m4 e4 h4 => ?_) (by assumption)) <;> simp only [e4, Rs.bind] at hS
  all_goals try have hmk := q2q (x := x0) (z := z1) ⟨by omega, by omega, by omega⟩
  all_goals try obtain ⟨k1, k2, k3⟩ := hmk
  all_goals try have hrow : rows.set (0 + row.toNat) (cE .or .i64 (rows.getD (0 + row.toNat) (Cd.dflt U.int)) (gX .i64 (gX .i64 1 (z1 - x0 + 1) - 1) x0)) = rows.set row.toNat (cE .or .i64 (rows.getD row.toNat 0) (I3 x0 z1)) := by rw [k3, Nat.zero_add]; rfl
  all_goals try have hpk := F7 h4 hn
  all_goals try (by_cases hw : cH ws a4 = Nw <;> simp only [hw, if_true, if_false] at hS hpk)
  all_goals (repeat' ((conv => whnf); first | refine chC [some 0] hpk ?_ | (refine rno hS (aW [some 0] ?_); exact hsW) | (refine hK (n, row, z1 + 2, rows.set row.toNat (cE .or .i64 (rows.getD row.toNat 0) (I3 x0 z1)), a4, m4) [some 0, some 1, some 2, some 3] _ _ ⟨⟨by dsimp only; omega, by dsimp only; omega, by dsimp only; omega, by simp [hl], h4, hS⟩⟩ ⟨by simp⟩ (by exact bkW)) | (refine rok hS (aZ [some 0] (.inr rfl) ?_ ?_ rfl rfl); (focus (refine ⟨?_⟩; (repeat' (first | exact trivial | exact rfl | refine And.intro ?_ ?_ | exact fzV rfl rfl rfl (by simp; omega) (by rw [hrow]; simp [List.take_of_length_le, hl]) rfl)); done)); exact hsW) | refine spC (fun hb => ?_) fun hb => ?_ | refine taC ?_ | refine saC ?_ | refine aE mixed ?_))
  all_goals exact absurd (by assumption) hw
theorem Qo {ws : List Wd} {a m : Int} (h : InW ws a m) : (Zx ws a m).Bd ws a m := by
 unfold Zx;refine aO h (S9 _ _ _ _ h) fun _ _ _ _ h => ?_;refine aO h (bL [gM] h (by decide)) fun _ _ _ _ h => ?_;refine aO h (dA h) fun _ _ _ _ h => ?_;refine aO h (bL [Cn] h (by decide)) fun _ _ _ _ h => ?_;refine aO h (dA h) fun _ _ _ _ h => ?_;refine aO h (bL [X6] h (by decide)) fun _ _ _ _ h => ?_;refine aO h (dA h) fun _ _ _ _ h => ?_;refine aO h (bL [Cn] h (by decide)) fun _ _ _ _ h => ?_;refine aO h (dA h) fun _ _ _ _ h => ?_;refine aO h (Af h (by decide) (by decide)) fun _ _ _ _ h => ?_;exact h.refl
theorem qe4 (dp : Int) {ws : List Wd} {a m : Int} (hi : InW ws a m) (hn : wA ws) : RM 120 [.ptr 0 0, iS dp] ws a m [] (Zx ws a m) (fun g => aM g) (fun _ => True) := by
 refine jM Tryz.func120 (c := _) rfl Tryz.call120 900 (Qo hi) (fun _ _ _ _ => trivial) ?_;obtain ⟨S, hS⟩ : ∃ S, S = Zx ws a m := ⟨_, rfl⟩;rw [← hS];unfold Zx at hS
 (repeat' ((conv => whnf); first | (refine rmX [some 0, some _] (fX [gM] (by decide) (by decide) (by assumption) hn) rfl rfl ⟨rfl, rfl, trivial⟩ (fun x a1 m1 e hi hp => ?_) (fun a1 m1 e hi => ?_) (by assumption) <;> simp only [e, Rs.bind] at hS) | (refine rmX [some 0, some _] (fX [Cn] (by decide) (by decide) (by assumption) hn) rfl rfl ⟨rfl, rfl, trivial⟩ (fun x a1 m1 e hi hp => ?_) (fun a1 m1 e hi => ?_) (by assumption) <;> simp only [e, Rs.bind] at hS) | (refine rmX [some 0, some _] (fX [X6] (by decide) (by decide) (by assumption) hn) rfl rfl ⟨rfl, rfl, trivial⟩ (fun x a1 m1 e hi hp => ?_) (fun a1 m1 e hi => ?_) (by assumption) <;> simp only [e, Rs.bind] at hS) | (refine rmX [some 0] (Pk _ _ (by assumption) hn) rfl rfl ⟨rfl, trivial⟩ (fun x a1 m1 e hi hp => ?_) (fun a1 m1 e hi => ?_) (by assumption) <;> simp only [e, Rs.bind] at hS) | (refine rmX [some 0] (q9i (by assumption) hn) rfl rfl ⟨rfl, trivial⟩ (fun x a1 m1 e hi hp => ?_) (fun a1 m1 e hi => ?_) (by assumption) <;> simp only [e, Rs.bind] at hS) | (refine rmX [some 0] (q4a wF mZ (by decide) (by decide) (by assumption) hn) rfl rfl ⟨rfl, trivial⟩ (fun x a1 m1 e hi hp => ?_) (fun a1 m1 e hi => ?_) (by assumption) <;> simp only [e, Rs.bind] at hS) | (refine rno hS (aW [some 0] ?_); exact hsW) | (refine rok hS (aZ [some 0] (.inr rfl) ?_ ?_ rfl rfl); (focus first | exact vwV | (refine ⟨?_⟩; (repeat' (first | exact trivial | exact rfl | refine And.intro ?_ ?_ | exact fzV | exact fzV rfl rfl rfl (by simp) (by simp [eta_goal]) rfl | exact fvV)); done)); exact hsW) | refine saC ?_))
theorem eta_goal (x : aI) : (⟨x.kind, x.rows, x.from_, x.to_, x.low, x.high, x.clear, x.days, x.times, x.within, x.cents, x.kids⟩ : aI) = x := by cases x; rfl
@[reducible] def vF (ws : List Wd) (of dp : Int) (sub : Int → Int → Rs aI) : Prop := ∀ a m, InW ws a m → RM 56 [.ptr 0 0, iS of, iS dp] ws a m [] (sub a m) (fun g => aM g) (fun _ => True)
theorem Jx {ws : List Wd} {sub : Int → Int → Rs aI} (hs : ∀ a m, InW ws a m → (sub a m).Bd ws a m) {a m : Int} (h : InW ws a m) : (S4 ws sub a m).Bd ws a m := by
 unfold S4;refine aO h (bL [lU] h (by decide)) fun _ _ _ _ h => ?_;refine aO h (dA h) fun _ _ _ _ h => ?_;refine aO h (bL [cM] h (by decide)) fun _ _ _ _ h => ?_;refine aO h (dA h) fun _ _ _ _ h => ?_;refine aO h (bL [tK] h (by decide)) fun _ _ _ _ h => ?_;refine aO h (hs _ _ h) fun _ _ _ _ h => ?_;exact h.refl
theorem Eh {ws : List Wd} {sub : Int → Int → Rs aI} (hs : ∀ a m, InW ws a m → (sub a m).Bd ws a m) {a m : Int} (h : InW ws a m) : (uP ws sub a m).Bd ws a m := by
 unfold uP;refine aO h (dA h) fun _ _ _ _ h => ?_;refine aO h (bL [rT] h (by decide)) fun _ _ _ _ h => ?_;refine aO h (dA h) fun _ _ _ _ h => ?_;refine aO h (bL [mA, lY] h (by decide)) fun _ _ _ _ h => ?_;refine aO h (dA h) fun _ _ _ _ h => ?_;refine aO h (bL [gM] h (by decide)) fun _ _ _ _ h => ?_;refine aO h (dA h) fun _ _ _ _ h => ?_;refine aO h (bL [tK] h (by decide)) fun _ _ _ _ h => ?_;refine aO h (hs _ _ h) fun _ _ _ _ h => ?_;exact h.refl
theorem Uw {ws : List Wd} {sub : Int → Int → Rs aI} (hs : ∀ a m, InW ws a m → (sub a m).Bd ws a m) {a m : Int} (h : InW ws a m) : (q03 ws sub a m).Bd ws a m := by
 unfold q03;refine aO h (bL [cM] h (by decide)) fun _ _ _ _ h => ?_;refine aO h (dA h) fun _ _ _ _ h => ?_;refine aO h (bL [tK] h (by decide)) fun _ _ _ _ h => ?_;refine aO h (hs _ _ h) fun _ _ _ _ h => ?_;exact h.refl
theorem qa2 (dp : Int) (hd : 1 ≤ dp ∧ dp ≤ 4) {ws : List Wd} {sub : Int → Int → Rs aI} (hs : vF ws 2 (dp + 1) sub) {a m : Int} (hi : InW ws a m) (hn : wA ws) : RM 121 [.ptr 0 0, iS dp] ws a m [] (S4 ws sub a m) (fun g => aM g) (fun _ => True) := by
 refine jM Tryz.func121 (c := _) rfl Tryz.call121 900 (Jx (fun a m h => (hs a m h).bd) hi) (fun _ _ _ _ => trivial) ?_;obtain ⟨S, hS⟩ : ∃ S, S = S4 ws sub a m := ⟨_, rfl⟩;rw [← hS];unfold S4 at hS
 (repeat' ((conv => whnf); first | (refine rmX [some 0, some _] (fX [lU] (by decide) (by decide) (by assumption) hn) rfl rfl ⟨rfl, rfl, trivial⟩ (fun x a1 m1 e hi hp => ?_) (fun a1 m1 e hi => ?_) (by assumption) <;> simp only [e, Rs.bind] at hS) | (refine rmX [some 0, some _] (fX [cM] (by decide) (by decide) (by assumption) hn) rfl rfl ⟨rfl, rfl, trivial⟩ (fun x a1 m1 e hi hp => ?_) (fun a1 m1 e hi => ?_) (by assumption) <;> simp only [e, Rs.bind] at hS) | (refine rmX [some 0, some _] (fX [tK] (by decide) (by decide) (by assumption) hn) rfl rfl ⟨rfl, rfl, trivial⟩ (fun x a1 m1 e hi hp => ?_) (fun a1 m1 e hi => ?_) (by assumption) <;> simp only [e, Rs.bind] at hS) | (refine rmX [some 0] (Pk _ _ (by assumption) hn) rfl rfl ⟨rfl, trivial⟩ (fun x a1 m1 e hi hp => ?_) (fun a1 m1 e hi => ?_) (by assumption) <;> simp only [e, Rs.bind] at hS) | (refine rmX [some 0] (hs _ _ (by assumption)) rfl rfl ⟨rfl, trivial⟩ (fun x a1 m1 e hi hp => ?_) (fun a1 m1 e hi => ?_) (by assumption) <;> simp only [e, Rs.bind] at hS) | (refine rno hS (aW [some 0] ?_); exact hsW) | (refine rok hS (aZ [some 0] (.inr rfl) ?_ ?_ rfl rfl); (focus first | exact vwV | (refine ⟨?_⟩; (repeat' (first | exact trivial | exact rfl | refine And.intro ?_ ?_ | exact fzV | exact fzV rfl rfl rfl (by simp) (by simp [eta_goal]) rfl | exact fvV)); done)); exact hsW) | refine saC ?_))
theorem q7m (dp : Int) (hd : 1 ≤ dp ∧ dp ≤ 4) {ws : List Wd} {sub : Int → Int → Rs aI} (hs : vF ws 3 (dp + 1) sub) {a m : Int} (hi : InW ws a m) (hn : wA ws) : RM 122 [.ptr 0 0, iS dp] ws a m [] (uP ws sub a m) (fun g => aM g) (fun _ => True) := by
 refine jM Tryz.func122 (c := _) rfl Tryz.call122 900 (Eh (fun a m h => (hs a m h).bd) hi) (fun _ _ _ _ => trivial) ?_;obtain ⟨S, hS⟩ : ∃ S, S = uP ws sub a m := ⟨_, rfl⟩;rw [← hS];unfold uP at hS
 (repeat' ((conv => whnf); first | (refine rmX [some 0, some _] (fX [rT] (by decide) (by decide) (by assumption) hn) rfl rfl ⟨rfl, rfl, trivial⟩ (fun x a1 m1 e hi hp => ?_) (fun a1 m1 e hi => ?_) (by assumption) <;> simp only [e, Rs.bind] at hS) | (refine rmX [some 0, some _] (fX [mA, lY] (by decide) (by decide) (by assumption) hn) rfl rfl ⟨rfl, rfl, trivial⟩ (fun x a1 m1 e hi hp => ?_) (fun a1 m1 e hi => ?_) (by assumption) <;> simp only [e, Rs.bind] at hS) | (refine rmX [some 0, some _] (fX [gM] (by decide) (by decide) (by assumption) hn) rfl rfl ⟨rfl, rfl, trivial⟩ (fun x a1 m1 e hi hp => ?_) (fun a1 m1 e hi => ?_) (by assumption) <;> simp only [e, Rs.bind] at hS) | (refine rmX [some 0, some _] (fX [tK] (by decide) (by decide) (by assumption) hn) rfl rfl ⟨rfl, rfl, trivial⟩ (fun x a1 m1 e hi hp => ?_) (fun a1 m1 e hi => ?_) (by assumption) <;> simp only [e, Rs.bind] at hS) | (refine rmX [some 0] (Pk _ _ (by assumption) hn) rfl rfl ⟨rfl, trivial⟩ (fun x a1 m1 e hi hp => ?_) (fun a1 m1 e hi => ?_) (by assumption) <;> simp only [e, Rs.bind] at hS) | (refine rmX [some 0] (hs _ _ (by assumption)) rfl rfl ⟨rfl, trivial⟩ (fun x a1 m1 e hi hp => ?_) (fun a1 m1 e hi => ?_) (by assumption) <;> simp only [e, Rs.bind] at hS) | (refine rno hS (aW [some 0] ?_); exact hsW) | (refine rok hS (aZ [some 0] (.inr rfl) ?_ ?_ rfl rfl); (focus first | exact vwV | (refine ⟨?_⟩; (repeat' (first | exact trivial | exact rfl | refine And.intro ?_ ?_ | exact fzV | exact fzV rfl rfl rfl (by simp) (by simp [eta_goal]) rfl | exact fvV)); done)); exact hsW) | refine saC ?_))
theorem q0a (dp : Int) (hd : 1 ≤ dp ∧ dp ≤ 4) {ws : List Wd} {sub : Int → Int → Rs aI} (hs : vF ws 4 (dp + 1) sub) {a m : Int} (hi : InW ws a m) (hn : wA ws) : RM 123 [.ptr 0 0, iS dp] ws a m [] (q03 ws sub a m) (fun g => aM g) (fun _ => True) := by
 refine jM Tryz.func123 (c := _) rfl Tryz.call123 900 (Uw (fun a m h => (hs a m h).bd) hi) (fun _ _ _ _ => trivial) ?_;obtain ⟨S, hS⟩ : ∃ S, S = q03 ws sub a m := ⟨_, rfl⟩;rw [← hS];unfold q03 at hS
 (repeat' ((conv => whnf); first | (refine rmX [some 0, some _] (fX [cM] (by decide) (by decide) (by assumption) hn) rfl rfl ⟨rfl, rfl, trivial⟩ (fun x a1 m1 e hi hp => ?_) (fun a1 m1 e hi => ?_) (by assumption) <;> simp only [e, Rs.bind] at hS) | (refine rmX [some 0, some _] (fX [tK] (by decide) (by decide) (by assumption) hn) rfl rfl ⟨rfl, rfl, trivial⟩ (fun x a1 m1 e hi hp => ?_) (fun a1 m1 e hi => ?_) (by assumption) <;> simp only [e, Rs.bind] at hS) | (refine rmX [some 0] (Pk _ _ (by assumption) hn) rfl rfl ⟨rfl, trivial⟩ (fun x a1 m1 e hi hp => ?_) (fun a1 m1 e hi => ?_) (by assumption) <;> simp only [e, Rs.bind] at hS) | (refine rmX [some 0] (hs _ _ (by assumption)) rfl rfl ⟨rfl, trivial⟩ (fun x a1 m1 e hi hp => ?_) (fun a1 m1 e hi => ?_) (by assumption) <;> simp only [e, Rs.bind] at hS) | (refine rno hS (aW [some 0] ?_); exact hsW) | (refine rok hS (aZ [some 0] (.inr rfl) ?_ ?_ rfl rfl); (focus first | exact vwV | (refine ⟨?_⟩; (repeat' (first | exact trivial | exact rfl | refine And.intro ?_ ?_ | exact fzV | exact fzV rfl rfl rfl (by simp) (by simp [eta_goal]) rfl | exact fvV)); done)); exact hsW) | refine saC ?_))
theorem G5 {ws : List Wd} {sub : Int → Int → Rs aI} (hs : ∀ a m, InW ws a m → (sub a m).Bd ws a m) (k : Int) : ∀ (n : Nat) (cents : List Int) (kids : List aI) {a m : Int}, InW ws a m → (lI ws sub k n cents kids a m).Bd ws a m
 | 0, _, _, a, m, h => by unfold lI; exact h.refl
 | n + 1, cents, kids, a, m, h => by
  unfold lI;refine aO h ?_ fun c a1 m1 _ h1 => ?_
  ·split
   ·exact aO h (dA h) fun _ _ _ _ h => h.refl
   ·exact h.refl
  refine aO h1 (hs _ _ h1) fun g a2 m2 _ h2 => ?_;split
  ·split
   ·rename_i e;have := eJ h2 e (by decide);have := h2.a0;exact ⟨by omega, by omega, h2.m0, Int.le_refl _⟩
   ·split
    ·exact h2.refl
    ·rename_i hne;have h3 : InW ws a2 (m2 - 1) := ⟨h2.a0, h2.a1, by have := h2.m0; omega, by have := h2.m1; omega⟩;have := aO h3 (bL [cG] h3 (by decide)) fun _ a4 m4 _ h4 => G5 hs k n c (kids ++ [g]) h4
     revert this
     cases ((dL ws [cG] a2 (m2 - 1)).bind fun _ a m => lI ws sub k n c (kids ++ [g]) a m) with
     | ok z a5 m5 => intro hb; exact ⟨hb.at1, hb.at2, hb.r1, by have := hb.r2; omega⟩
     | no a5 m5 => intro hb; exact ⟨hb.at1, hb.at2, hb.r1, by have := hb.r2; omega⟩
  ·exact aO h2 (bL [cG] h2 (by decide)) fun _ a4 m4 _ h4 => G5 hs k n c (kids ++ [g]) h4
theorem uD {ws : List Wd} {sub : Int → Int → Rs aI} (hs : ∀ a m, InW ws a m → (sub a m).Bd ws a m) (k : Int) {a m : Int} (h : InW ws a m) : (rL ws sub k a m).Bd ws a m := by
 unfold rL;exact aO h (bL [pU] h (by decide)) fun _ _ _ _ h => G5 hs k 5 [] [] h
@[reducible] def q1p : SV Cd := .p (.lit (.slice none 0 0))
@[reducible] def q6f (k : Int) : SV Cd := .agg [iS k, q1p, iS 0, iS 0, iS 0, iS 0, bS false, iS 0, iS 0, iS 0, q1p, q1p]
@[reducible] def qb5 (k : Int) (cents kids : SV Cd) : HS Cd := .vart none [iS k, q1p, iS 0, iS 0, iS 0, iS 0, bS false, iS 0, iS 0, iS 0, cents, kids]
structure q78 (ws : List Wd) (sub : Int → Int → Rs aI) (k : Int) (S : Rs aI) (g : Nat × List Int × List aI × Int × Int) : Prop where
 len : g.2.2.1.length = g.1
 lt : g.1 ≤ 3
 inw : InW ws g.2.2.2.1 g.2.2.2.2
 eq : S = lI ws sub k (5 - g.1) g.2.1 g.2.2.1 g.2.2.2.1 g.2.2.2.2
 cents : g.2.1.length = if k = 6 then g.1 else 0
theorem q8r (dp : Int) (hd : 1 ≤ dp ∧ dp ≤ 4) {ws : List Wd} {sub : Int → Int → Rs aI} (hs : vF ws 5 (dp + 1) sub) {a m : Int} (hi : InW ws a m) (hn : wA ws) : RM 163 [.ptr 0 0, q6f 5, iS dp] ws a m [] (rL ws sub 5 a m) (fun g => aM g) (fun _ => True) := by
 refine jM Tryz.func163 (c := _) rfl Tryz.call163 900 (uD (fun a m h => (hs a m h).bd) 5 hi) (fun _ _ _ _ => trivial) ?_;obtain ⟨S, hS⟩ : ∃ S, S = rL ws sub 5 a m := ⟨_, rfl⟩;rw [← hS];unfold rL at hS
 (repeat' ((conv => whnf); first | (refine rmX [some 0, some _] (fX [pU] (by decide) (by decide) (by assumption) hn) rfl rfl ⟨rfl, rfl, trivial⟩ (fun x a1 m1 e hi hp => ?_) (fun a1 m1 e hi => ?_) (by assumption) <;> simp only [e, Rs.bind] at hS) | (refine rno hS (aW [some 0] ?_); exact hsW) | refine saC ?_))
 conv => whnf
 refine bP (fun g : Nat × List Int × List aI × Int × Int => []) (fun g => match g.1 with
  | 0 => [(0, .vart none [wsS ws, iS g.2.2.2.1, iS g.2.2.2.2])]
  | i + 1 => [(0, .vart none [wsS ws, iS g.2.2.2.1, iS g.2.2.2.2]), (1, qb5 5 q1p (.slice 4 0 12 0 (i + 1))), (4, .rows U.goal g.2.2.1)]) (q78 ws sub 5 S) (fun g => 5 - g.1) (0, [], [], _, _) ⟨rfl, by simp, by assumption, hS, rfl⟩ (by exact bkW) ?_
 clear hS;rintro ⟨i, cents, kids, a, m⟩ ⟨hl, hlt, hi, hS, hc⟩ K hK;dsimp only at hl hlt hi hS hc ⊢;rw [if_neg (by decide)] at hc;obtain rfl := List.eq_nil_of_length_eq_zero hc;have hR := hs a m hi;cases i with
 | zero =>
  obtain rfl := List.eq_nil_of_length_eq_zero hl;rw [lI, if_neg (by decide)] at hS;simp only [Rs.bind] at hS;cases e0 : sub a m with
  | no a1 m1 =>
   rw [e0] at hS
   (repeat' ((conv => whnf); first | fail))
   refine nB 7 mixed ?_
   (repeat' ((conv => whnf); first | (refine Mi [some 0] (hR.no _ _ e0) rfl rfl ⟨rfl, trivial⟩ ?_ ?_) | exact trivial | (refine rno hS (aW [some 0] ?_); exact hsW) | refine taC ?_ | refine saC ?_))
  | ok g a1 m1 =>
   rw [e0] at hS;have hi1 : InW ws a1 m1 := hi.step (by have := hR.bd; rw [e0] at this; exact this)
   (repeat' ((conv => whnf); first | fail))
   refine aE mixed ?_;have hg : List.take 1 (List.drop 0 [(⟨g.kind, g.rows, g.from_, g.to_, g.low, g.high, g.clear, g.days, g.times, g.within, g.cents, g.kids⟩ : aI)]) = [] ++ [g] := by simp [eta_goal]
   simp only [List.length_nil, Nat.zero_add, Nat.lt_irrefl, if_false] at hS
   (repeat' ((conv => whnf); first | (refine cI [some 0] (hR.ok _ _ _ e0) rfl rfl ⟨rfl, trivial⟩ ?_) | (refine rmX [some 0, some _] (fX [cG] (by decide) (by decide) (by assumption) hn) rfl rfl ⟨rfl, rfl, trivial⟩ (fun x a1 m1 e hi hp => ?_) (fun a1 m1 e hi => ?_) (by assumption) <;> simp only [e, Rs.bind] at hS) | (refine rno hS (aW [some 0] ?_); exact hsW) | (refine hK (1, [], [] ++ [g], _, _) [some 0, some 1, some 2, some 3, some 5] _ _ ⟨⟨rfl, by simp, by assumption, hS, rfl⟩⟩ ⟨by simp⟩ (by exact bkW)) | refine taC ?_ | refine saC ?_))
 | succ i =>
  have hkl : kids.length = i + 1 := hl;rw [show 5 - (i + 1) = (3 - i) + 1 by omega, lI, if_neg (by decide)] at hS;simp only [Rs.bind] at hS;have h1 : 1 < kids.length + 1 := by omega
  cases e0 : sub a m with
  | no a1 m1 =>
   rw [e0] at hS
   (repeat' ((conv => whnf); first | fail))
   refine nB 7 mixed ?_
   (repeat' ((conv => whnf); first | (refine Mi [some 0] (hR.no _ _ e0) rfl rfl ⟨rfl, trivial⟩ ?_ ?_) | exact trivial | (refine rno hS (aW [some 0] ?_); exact hsW) | refine taC ?_ | refine saC ?_))
  | ok g a1 m1 =>
   rw [e0] at hS;simp only [h1, if_true] at hS;have hi1 : InW ws a1 m1 := hi.step (by have := hR.bd; rw [e0] at this; exact this)
   (repeat' ((conv => whnf); first | fail))
   refine aE mixed ?_;have hg : List.take (i + 1) kids ++ List.take 1 (List.drop 0 [(⟨g.kind, g.rows, g.from_, g.to_, g.low, g.high, g.clear, g.days, g.times, g.within, g.cents, g.kids⟩ : aI)]) = kids ++ [g] := by simp [eta_goal, ← hkl]
   obtain ⟨L, hL⟩ : ∃ L, L = kids ++ [g] := ⟨_, rfl⟩;have hLl : L.length = i + 2 := by rw [hL]; simp; omega
   rw [← hL] at hS hg;have hkL : kids.length + 1 = L.length := by omega
   rw [hkL] at hS;clear hL hkL;have hm0 := hi1.m0;have hm1 := hi1.m1
   (repeat' ((conv => whnf); first | (refine cI [some 0] (hR.ok _ _ _ e0) rfl rfl ⟨rfl, trivial⟩ ?_) | refine spC (fun hb => ?_) fun hb => ?_ | refine taC ?_ | refine saC ?_))
   rotate_left
   ·rename_i hb;rw [hg] at hb;exact absurd (by omega) hb
   rw [hg]
   by_cases hw : cH ws a1 = cP
   ·rw [if_pos hw] at hS;have q := q63 cP hi1 hn hw
    (repeat' ((conv => whnf); first | refine chC [some 0] q ?_ | (refine rok hS (aZ [some 0] (.inr rfl) ?_ ?_ rfl rfl); (focus (refine ⟨?_⟩; (repeat' (first | exact trivial | exact rfl | refine And.intro ?_ ?_ | exact fzV | exact fzV rfl rfl rfl (by omega) (by simp [List.take_of_length_le]) rfl | exact fvV)); done)); exact hsW)))
   ·rw [if_neg hw] at hS;have q := q77 cP hi1 hn hw
    by_cases hx : L.length = 4 ∨ m1 = 0
    ·rw [if_pos hx] at hS
     (repeat' ((conv => whnf); first | (exfalso; omega) | refine chC [some 0] q ?_ | refine fD pA ?_ | refine dG (jE _) rfl ?_ | refine dH _ _ _ rfl (dK rfl) ?_ | (refine rno hS (aW [some 0] ?_); exact hsW) | refine spC (fun hb => ?_) fun hb => ?_))
    ·rw [if_neg hx] at hS;have hi2 : InW ws a1 (m1 - 1) := ⟨hi1.a0, hi1.a1, by omega, by omega⟩
     (repeat' ((conv => whnf); first | (exfalso; omega) | refine chC [some 0] q ?_ | (refine rmX [some 0, some _] (fX [cG] (by decide) (by decide) (by assumption) hn) rfl rfl ⟨rfl, rfl, trivial⟩ (fun x a1 m1 e hi hp => ?_) (fun a1 m1 e hi => ?_) (by assumption) <;> simp only [e, Rs.bind] at hS) | (refine rno hS (aW [some 0] ?_); exact hsW) | (refine hK (i + 2, [], L, _, _) [some 0, some 1, some 2, some 3, some 6] _ _ ⟨⟨hLl, by simp; omega, by assumption, by (rw [show 5 - (i + 2) = 3 - i by omega]; exact hS), rfl⟩⟩ ⟨by simp; omega⟩ (by exact bkW)) | refine spC (fun hb => ?_) fun hb => ?_ | refine saC ?_))
theorem q8t (dp : Int) (hd : 1 ≤ dp ∧ dp ≤ 4) {ws : List Wd} {sub : Int → Int → Rs aI} (hs : vF ws 6 (dp + 1) sub) {a m : Int} (hi : InW ws a m) (hn : wA ws) : RM 163 [.ptr 0 0, q6f 6, iS dp] ws a m [] (rL ws sub 6 a m) (fun g => aM g) (fun _ => True) := by
 refine jM Tryz.func163 (c := _) rfl Tryz.call163 900 (uD (fun a m h => (hs a m h).bd) 6 hi) (fun _ _ _ _ => trivial) ?_;obtain ⟨S, hS⟩ : ∃ S, S = rL ws sub 6 a m := ⟨_, rfl⟩;rw [← hS];unfold rL at hS
 (repeat' ((conv => whnf); first | (refine rmX [some 0, some _] (fX [pU] (by decide) (by decide) (by assumption) hn) rfl rfl ⟨rfl, rfl, trivial⟩ (fun x a1 m1 e hi hp => ?_) (fun a1 m1 e hi => ?_) (by assumption) <;> simp only [e, Rs.bind] at hS) | (refine rno hS (aW [some 0] ?_); exact hsW) | refine saC ?_))
 conv => whnf
 refine bP (fun g : Nat × List Int × List aI × Int × Int => []) (fun g => match g.1 with
  | 0 => [(0, .vart none [wsS ws, iS g.2.2.2.1, iS g.2.2.2.2])]
  | i + 1 => [(0, .vart none [wsS ws, iS g.2.2.2.1, iS g.2.2.2.2]), (1, qb5 6 (.slice 4 0 1 0 (i + 1)) (.slice 5 0 12 0 (i + 1))), (4, .rows U.int g.2.1), (5, .rows U.goal g.2.2.1)]) (q78 ws sub 6 S) (fun g => 5 - g.1) (0, [], [], _, _) ⟨rfl, by simp, by assumption, hS, rfl⟩ (by exact bkW) ?_
 clear hS;rintro ⟨i, cents, kids, a, m⟩ ⟨hl, hlt, hi, hS, hc⟩ K hK;dsimp only at hl hlt hi hS hc ⊢;rw [if_pos rfl] at hc;cases i with
 | zero =>
  obtain rfl := List.eq_nil_of_length_eq_zero hl;obtain rfl := List.eq_nil_of_length_eq_zero hc;rw [lI, if_pos rfl] at hS;simp only [Rs.bind] at hS;have hN := Pk 0 1000000000 hi hn;cases e1 : pF ws 0 1000000000 a m with
  | no a1 m1 =>
   rw [e1] at hS
   (repeat' ((conv => whnf); first | fail))
   refine nB 3 mixed ?_
   (repeat' ((conv => whnf); first | (refine Mi [some 0] (hN.no _ _ e1) rfl rfl ⟨rfl, trivial⟩ ?_ ?_) | exact trivial | (refine rno hS (aW [some 0] ?_); exact hsW) | refine taC ?_))
  | ok c a m =>
  rw [e1] at hS;dsimp only at hS;have hi : InW ws a m := hi.step (by have := hN.bd; rw [e1] at this; exact this);have hR := hs a m hi
  (repeat' ((conv => whnf); first | fail))
  refine aE mixed ?_;have hcc : List.take 1 (List.drop 0 [c]) = [] ++ [c] := by simp
  (repeat' ((conv => whnf); first | (refine cI [some 0] (hN.ok _ _ _ e1) rfl rfl ⟨rfl, trivial⟩ ?_) | refine taC ?_ | refine saC ?_))
  cases e0 : sub a m with
  | no a1 m1 =>
   rw [e0] at hS
   (repeat' ((conv => whnf); first | fail))
   refine nB 7 mixed ?_
   (repeat' ((conv => whnf); first | (refine Mi [some 0] (hR.no _ _ e0) rfl rfl ⟨rfl, trivial⟩ ?_ ?_) | exact trivial | (refine rno hS (aW [some 0] ?_); exact hsW) | refine taC ?_ | refine saC ?_))
  | ok g a1 m1 =>
   rw [e0] at hS;have hi1 : InW ws a1 m1 := hi.step (by have := hR.bd; rw [e0] at this; exact this)
   (repeat' ((conv => whnf); first | fail))
   refine aE mixed ?_;have hg : List.take 1 (List.drop 0 [(⟨g.kind, g.rows, g.from_, g.to_, g.low, g.high, g.clear, g.days, g.times, g.within, g.cents, g.kids⟩ : aI)]) = [] ++ [g] := by simp [eta_goal]
   simp only [List.length_nil, Nat.zero_add, Nat.lt_irrefl, if_false] at hS
   (repeat' ((conv => whnf); first | (refine cI [some 0] (hR.ok _ _ _ e0) rfl rfl ⟨rfl, trivial⟩ ?_) | (refine rmX [some 0, some _] (fX [cG] (by decide) (by decide) (by assumption) hn) rfl rfl ⟨rfl, rfl, trivial⟩ (fun x a1 m1 e hi hp => ?_) (fun a1 m1 e hi => ?_) (by assumption) <;> simp only [e, Rs.bind] at hS) | (refine rno hS (aW [some 0] ?_); exact hsW) | (refine hK (1, [] ++ [c], [] ++ [g], _, _) [some 0, some 1, some 2, some 3, some 5, some 7] _ _ ⟨⟨rfl, by simp, by assumption, hS, rfl⟩⟩ ⟨by simp⟩ (by exact bkW)) | refine taC ?_ | refine saC ?_))
 | succ i =>
  have hkl : kids.length = i + 1 := hl;rw [show 5 - (i + 1) = (3 - i) + 1 by omega, lI, if_pos rfl] at hS;simp only [Rs.bind] at hS;have hN := Pk 0 1000000000 hi hn;cases e1 : pF ws 0 1000000000 a m with
  | no a1 m1 =>
   rw [e1] at hS
   (repeat' ((conv => whnf); first | fail))
   refine nB 3 mixed ?_
   (repeat' ((conv => whnf); first | (refine Mi [some 0] (hN.no _ _ e1) rfl rfl ⟨rfl, trivial⟩ ?_ ?_) | exact trivial | (refine rno hS (aW [some 0] ?_); exact hsW) | refine taC ?_))
  | ok c a m =>
  rw [e1] at hS;dsimp only at hS;have hi : InW ws a m := hi.step (by have := hN.bd; rw [e1] at this; exact this);have hR := hs a m hi;have hcc : List.take (i + 1) cents ++ List.take 1 (List.drop 0 [c]) = cents ++ [c] := by simp [← hc]
  obtain ⟨M, hM⟩ : ∃ M, M = cents ++ [c] := ⟨_, rfl⟩;have hMl : M.length = i + 2 := by rw [hM]; simp; omega
  rw [← hM] at hS hcc;clear hM
  (repeat' ((conv => whnf); first | fail))
  refine aE mixed ?_
  (repeat' ((conv => whnf); first | (refine cI [some 0] (hN.ok _ _ _ e1) rfl rfl ⟨rfl, trivial⟩ ?_) | refine taC ?_ | refine saC ?_))
  rw [hcc];have h1 : 1 < kids.length + 1 := by omega
  cases e0 : sub a m with
  | no a1 m1 =>
   rw [e0] at hS
   (repeat' ((conv => whnf); first | fail))
   refine nB 7 mixed ?_
   (repeat' ((conv => whnf); first | (refine Mi [some 0] (hR.no _ _ e0) rfl rfl ⟨rfl, trivial⟩ ?_ ?_) | exact trivial | (refine rno hS (aW [some 0] ?_); exact hsW) | refine taC ?_ | refine saC ?_))
  | ok g a1 m1 =>
   rw [e0] at hS;simp only [h1, if_true] at hS;have hi1 : InW ws a1 m1 := hi.step (by have := hR.bd; rw [e0] at this; exact this)
   (repeat' ((conv => whnf); first | fail))
   refine aE mixed ?_;have hg : List.take (i + 1) kids ++ List.take 1 (List.drop 0 [(⟨g.kind, g.rows, g.from_, g.to_, g.low, g.high, g.clear, g.days, g.times, g.within, g.cents, g.kids⟩ : aI)]) = kids ++ [g] := by simp [eta_goal, ← hkl]
   obtain ⟨L, hL⟩ : ∃ L, L = kids ++ [g] := ⟨_, rfl⟩;have hLl : L.length = i + 2 := by rw [hL]; simp; omega
   rw [← hL] at hS hg;have hkL : kids.length + 1 = L.length := by omega
   rw [hkL] at hS;clear hL hkL;have hm0 := hi1.m0;have hm1 := hi1.m1
   (repeat' ((conv => whnf); first | (refine cI [some 0] (hR.ok _ _ _ e0) rfl rfl ⟨rfl, trivial⟩ ?_) | refine spC (fun hb => ?_) fun hb => ?_ | refine taC ?_ | refine saC ?_))
   rotate_left
   ·rename_i hb;rw [hg] at hb;exact absurd (by omega) hb
   rw [hg]
   by_cases hw : cH ws a1 = cP
   ·rw [if_pos hw] at hS;have q := q63 cP hi1 hn hw
    (repeat' ((conv => whnf); first | refine chC [some 0] q ?_ | (refine rok hS (aZ [some 0] (.inr rfl) ?_ ?_ rfl rfl); (focus (refine ⟨?_⟩; (repeat' (first | exact trivial | exact rfl | refine And.intro ?_ ?_ | exact fzV | exact fzV rfl rfl rfl (by omega) (by simp [List.take_of_length_le]) rfl | exact fvV)); done)); exact hsW)))
   ·rw [if_neg hw] at hS;have q := q77 cP hi1 hn hw
    by_cases hx : L.length = 4 ∨ m1 = 0
    ·rw [if_pos hx] at hS
     (repeat' ((conv => whnf); first | (exfalso; omega) | refine chC [some 0] q ?_ | refine fD pA ?_ | refine dG (jE _) rfl ?_ | refine dH _ _ _ rfl (dK rfl) ?_ | (refine rno hS (aW [some 0] ?_); exact hsW) | refine spC (fun hb => ?_) fun hb => ?_))
    ·rw [if_neg hx] at hS;have hi2 : InW ws a1 (m1 - 1) := ⟨hi1.a0, hi1.a1, by omega, by omega⟩
     (repeat' ((conv => whnf); first | (exfalso; omega) | refine chC [some 0] q ?_ | (refine rmX [some 0, some _] (fX [cG] (by decide) (by decide) (by assumption) hn) rfl rfl ⟨rfl, rfl, trivial⟩ (fun x a1 m1 e hi hp => ?_) (fun a1 m1 e hi => ?_) (by assumption) <;> simp only [e, Rs.bind] at hS) | (refine rno hS (aW [some 0] ?_); exact hsW) | (refine hK (i + 2, M, L, _, _) [some 0, some 1, some 2, some 3, some 7, some 9] _ _ ⟨⟨hLl, by simp; omega, by assumption, by (rw [show 5 - (i + 2) = 3 - i by omega]; exact hS), by simpa using hMl⟩⟩ ⟨by simp; omega⟩ (by exact bkW)) | refine spC (fun hb => ?_) fun hb => ?_ | refine saC ?_))
def vM (w : Wd) (k needs : Int) (f : Nat) (i : Nat) : MapEntry := ⟨.string ⟨⟨w⟩⟩, .agg #[.int .i64 k, .int .i64 needs, .func (.func f) #[] #[]], i⟩
def q6x : Obj := .map #[vM uK 1 0 120 0, vM lL 2 1 121 1, vM gV 3 1 122 2, vM dF 4 1 123 3, vM uU 5 2 124 4, vM mZ 6 2 125 5] 6
theorem mW : aF Tryz.prog Dc 82 [] [] (.mapp 0) [.obj q6x] := by
 refine aA Ax aD Tryz.func82 (c := _) rfl Tryz.call82 200 ?_
 (repeat' ((conv => whnf); first | refine cW ⟨rfl⟩ ?_ | exact enC [some 0]))
theorem qe0 (dp : Int) (hd : 1 ≤ dp ∧ dp ≤ 4) {ws : List Wd} {sub : Int → Int → Rs aI} (hs : vF ws 5 (dp + 1) sub) {a m : Int} (hi : InW ws a m) (hn : wA ws) : RM 124 [.ptr 0 0, iS dp] ws a m [] (rL ws sub 5 a m) (fun g => aM g) (fun _ => True) := by
 refine jM Tryz.func124 (c := _) rfl Tryz.call124 900 (uD (fun a m h => (hs a m h).bd) 5 hi) (fun _ _ _ _ => trivial) ?_;obtain ⟨S, hS⟩ : ∃ S, S = rL ws sub 5 a m := ⟨_, rfl⟩;rw [← hS];have hR := q8r dp hd hs hi hn;rw [← hS] at hR
 (repeat' ((conv => whnf); first | (refine rmX [some 0] hR rfl rfl ⟨rfl, trivial⟩ (fun x a1 m1 e hi hp => ?_) (fun a1 m1 e hi => ?_) (by assumption)) | (refine rno e (aW [some 0] ?_); exact hsW) | (refine rok e (aZ [some 0] (.inr rfl) ?_ ?_ rfl rfl); (focus exact vwV); exact hsW)))
theorem qe3 (dp : Int) (hd : 1 ≤ dp ∧ dp ≤ 4) {ws : List Wd} {sub : Int → Int → Rs aI} (hs : vF ws 6 (dp + 1) sub) {a m : Int} (hi : InW ws a m) (hn : wA ws) : RM 125 [.ptr 0 0, iS dp] ws a m [] (rL ws sub 6 a m) (fun g => aM g) (fun _ => True) := by
 refine jM Tryz.func125 (c := _) rfl Tryz.call125 900 (uD (fun a m h => (hs a m h).bd) 6 hi) (fun _ _ _ _ => trivial) ?_;obtain ⟨S, hS⟩ : ∃ S, S = rL ws sub 6 a m := ⟨_, rfl⟩;rw [← hS];have hR := q8t dp hd hs hi hn;rw [← hS] at hR
 (repeat' ((conv => whnf); first | (refine rmX [some 0] hR rfl rfl ⟨rfl, trivial⟩ (fun x a1 m1 e hi hp => ?_) (fun a1 m1 e hi => ?_) (by assumption)) | (refine rno e (aW [some 0] ?_); exact hsW) | (refine rok e (aZ [some 0] (.inr rfl) ?_ ?_ rfl rfl); (focus exact vwV); exact hsW)))
theorem Je {ws : List Wd} {α : Type} {S : Rs α} {a m a1 m1 : Int} (h : BdR ws a m a1 m1) (hb : S.Bd ws a1 m1) : S.Bd ws a m := by
 cases S with
 | ok z a5 m5 => exact ⟨Int.le_trans h.at1 hb.at1, hb.at2, hb.r1, Int.le_trans hb.r2 h.r2⟩
 | no a5 m5 => exact ⟨Int.le_trans h.at1 hb.at1, hb.at2, hb.r1, Int.le_trans hb.r2 h.r2⟩
theorem Nk {w : Wd} {k needs : Int} (h : Y0 w = some (k, needs)) : w ≠ [32] ∧ 0 ≤ needs := by
 unfold Y0 at h
 repeat' (split at h)
 all_goals first | (cases h; rename_i e; rw [e]; decide) | cases h
theorem tV {ws : List Wd} : ∀ (n : Nat) (of_ dp : Int) {a m : Int}, InW ws a m → (hU ws n of_ dp a m).Bd ws a m
 | 0, _, _, a, m, h => by unfold hU; exact h.refl
 | n + 1, of_, dp, a, m, h => by
  unfold hU;split
  ·exact h.refl
  ·rename_i k needs hf;obtain ⟨hne, h0⟩ := Nk hf;have hlt := eJ h rfl hne;split
   ·exact h.refl
   ·rename_i hc;have ha0 := h.a0;have hm1 := h.m1;have hi : InW ws (a + 1) (m - needs) := ⟨by omega, by omega, by omega, by omega⟩;have hb : BdR ws a m (a + 1) (m - needs) := ⟨by omega, by omega, by omega, by omega⟩;refine Je hb ?_
    repeat' split
    ·exact Qo hi
    ·exact Jx (fun a m h => tV n _ _ h) hi
    ·exact Eh (fun a m h => tV n _ _ h) hi
    ·exact Uw (fun a m h => tV n _ _ h) hi
    ·exact uD (fun a m h => tV n _ _ h) _ hi
theorem Zb (a b : Wd) : Instr.sameNow (rW CK.str) (.string ⟨⟨a⟩⟩) (.string ⟨⟨b⟩⟩) = some (decide (a = b)) := by
 simp only [Instr.sameNow, rW];congr 1;rw [Bool.eq_iff_iff];show ((⟨a⟩ : Array UInt8) == ⟨b⟩) = true ↔ _;simp
theorem Sx {w : Wd} (h : Y0 w = none) : Instr.findNow (rW CK.str) (.string ⟨⟨w⟩⟩) [vM uK 1 0 120 0, vM lL 2 1 121 1, vM gV 3 1 122 2, vM dF 4 1 123 3, vM uU 5 2 124 4, vM mZ 6 2 125 5] 0 = some none := by
 unfold Y0 at h
 by_cases h1 : w = uK
 ·rw [if_pos h1] at h; cases h
 rw [if_neg h1] at h
 by_cases h2 : w = lL
 ·rw [if_pos h2] at h; cases h
 rw [if_neg h2] at h
 by_cases h3 : w = gV
 ·rw [if_pos h3] at h; cases h
 rw [if_neg h3] at h
 by_cases h4 : w = dF
 ·rw [if_pos h4] at h; cases h
 rw [if_neg h4] at h
 by_cases h5 : w = uU
 ·rw [if_pos h5] at h; cases h
 rw [if_neg h5] at h
 by_cases h6 : w = mZ
 ·rw [if_pos h6] at h; cases h
 simp only [Instr.findNow, vM, Zb, decide_eq_false h1, decide_eq_false h2, decide_eq_false h3, decide_eq_false h4, decide_eq_false h5, decide_eq_false h6]
theorem Zg (of_ dp : Int) (hd : 1 ≤ dp ∧ dp ≤ 4) {ws : List Wd} {a m : Int} (hi : InW ws a m) (hn : wA ws) (hf : Y0 (cH ws a) = none) : q5m Tryz.prog Dc 56 [.ptr 0 0, iS of_, iS dp] (rdH ws a m) chS (rdH ws a m) := by
 have hp := F7 hi hn;generalize cH ws a = w at *;refine Ou Ax aD Tryz.func56 (c := _) rfl Tryz.call56 600 ?_
 (repeat' ((conv => whnf); first | refine chC [] mW ?_ | refine chC [some 0] hp ?_))
 conv => whnf
 refine fV (Sx hf) ?_
 (repeat' ((conv => whnf); first | refine fD pA ?_ | refine dG (jE _) rfl ?_ | refine dH _ _ _ rfl (dK rfl) ?_ | exact ⟨[some 0], ⟨hsW, rfl, rfl⟩⟩ | refine taC ?_ | refine saC ?_ | refine aE mixed ?_))
theorem Uk (of_ dp : Int) (hd : 1 ≤ dp ∧ dp ≤ 4) {ws : List Wd} {a m : Int} (hi : InW ws a m) (hn : wA ws) (hw : cH ws a = uK) (Q : Rs aI)
  (hR : ¬ (dM of_ < 1 ∨ m < 0 ∨ (0 < (0 : Int) ∧ dp = 4)) → RM 120 [.ptr 0 0, iS dp] ws (a + 1) (m - 0) [] Q (fun g => aM g) (fun _ => True)) :
  RM 56 [.ptr 0 0, iS of_, iS dp] ws a m [] (if dM of_ < 1 ∨ m < 0 ∨ (0 < (0 : Int) ∧ dp = 4) then .no a m else Q) (fun g => aM g) (fun _ => True) := by
 have hlt := eJ hi hw (by decide);have ha0 := hi.a0;have hm0 := hi.m0;have hm1 := hi.m1;have hb2 := hn.n;have hp := F7 hi hn;rw [hw] at hp;have hl := iQ of_
 by_cases hc : dM of_ < 1 ∨ m < 0 ∨ (0 < (0 : Int) ∧ dp = 4)
 ·rw [if_pos hc];clear hR;refine jM Tryz.func56 (c := _) rfl Tryz.call56 900 hi.refl (fun _ _ _ _ => trivial) ?_;obtain ⟨S, hS⟩ : ∃ S : Rs aI, S = .no a m := ⟨_, rfl⟩;rw [← hS]
  (repeat' ((conv => whnf); first | (exfalso; omega) | refine chC [] mW ?_ | refine chC [some 0] hp ?_ | refine fV rfl ?_ | refine dpC (hl) ?_ | refine fD pA ?_ | refine dG (jE _) rfl ?_ | refine dH _ _ _ rfl (dK rfl) ?_ | (refine rno hS (aW [some 0] ?_); exact hsW) | refine spC (fun hb => ?_) fun hb => ?_ | refine taC ?_ | refine aE mixed ?_))
 ·rw [if_neg hc];have hR := hR hc;have hi2 : InW ws (a + 1) (m - 0) := ⟨by omega, by omega, by omega, by omega⟩;refine jM Tryz.func56 (c := _) rfl Tryz.call56 900 (Je ⟨by omega, by omega, by omega, by omega⟩ hR.bd) (fun _ _ _ _ => trivial) ?_
  (repeat' ((conv => whnf); first | (exfalso; omega) | refine chC [] mW ?_ | refine chC [some 0] hp ?_ | refine fV rfl ?_ | refine dpC (hl) ?_ | (refine rmX [some 0] hR rfl rfl ⟨rfl, trivial⟩ (fun x a1 m1 e hi hp => ?_) (fun a1 m1 e hi => ?_) hi2) | (refine rno e (aW [some 0] ?_); exact hsW) | (refine rok e (aZ [some 0] (.inr rfl) ?_ ?_ rfl rfl); (focus exact vwV); exact hsW) | refine spC (fun hb => ?_) fun hb => ?_ | refine taC ?_ | refine saC ?_ | refine aE mixed ?_))
theorem Mf (of_ dp : Int) (hd : 1 ≤ dp ∧ dp ≤ 4) {ws : List Wd} {a m : Int} (hi : InW ws a m) (hn : wA ws) (hw : cH ws a = lL) (Q : Rs aI)
  (hR : ¬ (dM of_ < 2 ∨ m < 1 ∨ (0 < (1 : Int) ∧ dp = 4)) → RM 121 [.ptr 0 0, iS dp] ws (a + 1) (m - 1) [] Q (fun g => aM g) (fun _ => True)) :
  RM 56 [.ptr 0 0, iS of_, iS dp] ws a m [] (if dM of_ < 2 ∨ m < 1 ∨ (0 < (1 : Int) ∧ dp = 4) then .no a m else Q) (fun g => aM g) (fun _ => True) := by
 have hlt := eJ hi hw (by decide);have ha0 := hi.a0;have hm0 := hi.m0;have hm1 := hi.m1;have hb2 := hn.n;have hp := F7 hi hn;rw [hw] at hp;have hl := iQ of_
 by_cases hc : dM of_ < 2 ∨ m < 1 ∨ (0 < (1 : Int) ∧ dp = 4)
 ·rw [if_pos hc];clear hR;refine jM Tryz.func56 (c := _) rfl Tryz.call56 900 hi.refl (fun _ _ _ _ => trivial) ?_;obtain ⟨S, hS⟩ : ∃ S : Rs aI, S = .no a m := ⟨_, rfl⟩;rw [← hS]
  (repeat' ((conv => whnf); first | (exfalso; omega) | refine chC [] mW ?_ | refine chC [some 0] hp ?_ | refine fV rfl ?_ | refine dpC (hl) ?_ | refine fD pA ?_ | refine dG (jE _) rfl ?_ | refine dH _ _ _ rfl (dK rfl) ?_ | (refine rno hS (aW [some 0] ?_); exact hsW) | refine spC (fun hb => ?_) fun hb => ?_ | refine taC ?_ | refine aE mixed ?_))
 ·rw [if_neg hc];have hR := hR hc;have hi2 : InW ws (a + 1) (m - 1) := ⟨by omega, by omega, by omega, by omega⟩;refine jM Tryz.func56 (c := _) rfl Tryz.call56 900 (Je ⟨by omega, by omega, by omega, by omega⟩ hR.bd) (fun _ _ _ _ => trivial) ?_
  (repeat' ((conv => whnf); first | (exfalso; omega) | refine chC [] mW ?_ | refine chC [some 0] hp ?_ | refine fV rfl ?_ | refine dpC (hl) ?_ | (refine rmX [some 0] hR rfl rfl ⟨rfl, trivial⟩ (fun x a1 m1 e hi hp => ?_) (fun a1 m1 e hi => ?_) hi2) | (refine rno e (aW [some 0] ?_); exact hsW) | (refine rok e (aZ [some 0] (.inr rfl) ?_ ?_ rfl rfl); (focus exact vwV); exact hsW) | refine spC (fun hb => ?_) fun hb => ?_ | refine taC ?_ | refine saC ?_ | refine aE mixed ?_))
theorem Ji (of_ dp : Int) (hd : 1 ≤ dp ∧ dp ≤ 4) {ws : List Wd} {a m : Int} (hi : InW ws a m) (hn : wA ws) (hw : cH ws a = gV) (Q : Rs aI)
  (hR : ¬ (dM of_ < 3 ∨ m < 1 ∨ (0 < (1 : Int) ∧ dp = 4)) → RM 122 [.ptr 0 0, iS dp] ws (a + 1) (m - 1) [] Q (fun g => aM g) (fun _ => True)) :
  RM 56 [.ptr 0 0, iS of_, iS dp] ws a m [] (if dM of_ < 3 ∨ m < 1 ∨ (0 < (1 : Int) ∧ dp = 4) then .no a m else Q) (fun g => aM g) (fun _ => True) := by
 have hlt := eJ hi hw (by decide);have ha0 := hi.a0;have hm0 := hi.m0;have hm1 := hi.m1;have hb2 := hn.n;have hp := F7 hi hn;rw [hw] at hp;have hl := iQ of_
 by_cases hc : dM of_ < 3 ∨ m < 1 ∨ (0 < (1 : Int) ∧ dp = 4)
 ·rw [if_pos hc];clear hR;refine jM Tryz.func56 (c := _) rfl Tryz.call56 900 hi.refl (fun _ _ _ _ => trivial) ?_;obtain ⟨S, hS⟩ : ∃ S : Rs aI, S = .no a m := ⟨_, rfl⟩;rw [← hS]
  (repeat' ((conv => whnf); first | (exfalso; omega) | refine chC [] mW ?_ | refine chC [some 0] hp ?_ | refine fV rfl ?_ | refine dpC (hl) ?_ | refine fD pA ?_ | refine dG (jE _) rfl ?_ | refine dH _ _ _ rfl (dK rfl) ?_ | (refine rno hS (aW [some 0] ?_); exact hsW) | refine spC (fun hb => ?_) fun hb => ?_ | refine taC ?_ | refine aE mixed ?_))
 ·rw [if_neg hc];have hR := hR hc;have hi2 : InW ws (a + 1) (m - 1) := ⟨by omega, by omega, by omega, by omega⟩;refine jM Tryz.func56 (c := _) rfl Tryz.call56 900 (Je ⟨by omega, by omega, by omega, by omega⟩ hR.bd) (fun _ _ _ _ => trivial) ?_
  (repeat' ((conv => whnf); first | (exfalso; omega) | refine chC [] mW ?_ | refine chC [some 0] hp ?_ | refine fV rfl ?_ | refine dpC (hl) ?_ | (refine rmX [some 0] hR rfl rfl ⟨rfl, trivial⟩ (fun x a1 m1 e hi hp => ?_) (fun a1 m1 e hi => ?_) hi2) | (refine rno e (aW [some 0] ?_); exact hsW) | (refine rok e (aZ [some 0] (.inr rfl) ?_ ?_ rfl rfl); (focus exact vwV); exact hsW) | refine spC (fun hb => ?_) fun hb => ?_ | refine taC ?_ | refine saC ?_ | refine aE mixed ?_))
theorem Ab (of_ dp : Int) (hd : 1 ≤ dp ∧ dp ≤ 4) {ws : List Wd} {a m : Int} (hi : InW ws a m) (hn : wA ws) (hw : cH ws a = dF) (Q : Rs aI)
  (hR : ¬ (dM of_ < 4 ∨ m < 1 ∨ (0 < (1 : Int) ∧ dp = 4)) → RM 123 [.ptr 0 0, iS dp] ws (a + 1) (m - 1) [] Q (fun g => aM g) (fun _ => True)) :
  RM 56 [.ptr 0 0, iS of_, iS dp] ws a m [] (if dM of_ < 4 ∨ m < 1 ∨ (0 < (1 : Int) ∧ dp = 4) then .no a m else Q) (fun g => aM g) (fun _ => True) := by
 have hlt := eJ hi hw (by decide);have ha0 := hi.a0;have hm0 := hi.m0;have hm1 := hi.m1;have hb2 := hn.n;have hp := F7 hi hn;rw [hw] at hp;have hl := iQ of_
 by_cases hc : dM of_ < 4 ∨ m < 1 ∨ (0 < (1 : Int) ∧ dp = 4)
 ·rw [if_pos hc];clear hR;refine jM Tryz.func56 (c := _) rfl Tryz.call56 900 hi.refl (fun _ _ _ _ => trivial) ?_;obtain ⟨S, hS⟩ : ∃ S : Rs aI, S = .no a m := ⟨_, rfl⟩;rw [← hS]
  (repeat' ((conv => whnf); first | (exfalso; omega) | refine chC [] mW ?_ | refine chC [some 0] hp ?_ | refine fV rfl ?_ | refine dpC (hl) ?_ | refine fD pA ?_ | refine dG (jE _) rfl ?_ | refine dH _ _ _ rfl (dK rfl) ?_ | (refine rno hS (aW [some 0] ?_); exact hsW) | refine spC (fun hb => ?_) fun hb => ?_ | refine taC ?_ | refine aE mixed ?_))
 ·rw [if_neg hc];have hR := hR hc;have hi2 : InW ws (a + 1) (m - 1) := ⟨by omega, by omega, by omega, by omega⟩;refine jM Tryz.func56 (c := _) rfl Tryz.call56 900 (Je ⟨by omega, by omega, by omega, by omega⟩ hR.bd) (fun _ _ _ _ => trivial) ?_
  (repeat' ((conv => whnf); first | (exfalso; omega) | refine chC [] mW ?_ | refine chC [some 0] hp ?_ | refine fV rfl ?_ | refine dpC (hl) ?_ | (refine rmX [some 0] hR rfl rfl ⟨rfl, trivial⟩ (fun x a1 m1 e hi hp => ?_) (fun a1 m1 e hi => ?_) hi2) | (refine rno e (aW [some 0] ?_); exact hsW) | (refine rok e (aZ [some 0] (.inr rfl) ?_ ?_ rfl rfl); (focus exact vwV); exact hsW) | refine spC (fun hb => ?_) fun hb => ?_ | refine taC ?_ | refine saC ?_ | refine aE mixed ?_))
theorem Qt (of_ dp : Int) (hd : 1 ≤ dp ∧ dp ≤ 4) {ws : List Wd} {a m : Int} (hi : InW ws a m) (hn : wA ws) (hw : cH ws a = uU) (Q : Rs aI)
  (hR : ¬ (dM of_ < 5 ∨ m < 2 ∨ (0 < (2 : Int) ∧ dp = 4)) → RM 124 [.ptr 0 0, iS dp] ws (a + 1) (m - 2) [] Q (fun g => aM g) (fun _ => True)) :
  RM 56 [.ptr 0 0, iS of_, iS dp] ws a m [] (if dM of_ < 5 ∨ m < 2 ∨ (0 < (2 : Int) ∧ dp = 4) then .no a m else Q) (fun g => aM g) (fun _ => True) := by
 have hlt := eJ hi hw (by decide);have ha0 := hi.a0;have hm0 := hi.m0;have hm1 := hi.m1;have hb2 := hn.n;have hp := F7 hi hn;rw [hw] at hp;have hl := iQ of_
 by_cases hc : dM of_ < 5 ∨ m < 2 ∨ (0 < (2 : Int) ∧ dp = 4)
 ·rw [if_pos hc];clear hR;refine jM Tryz.func56 (c := _) rfl Tryz.call56 900 hi.refl (fun _ _ _ _ => trivial) ?_;obtain ⟨S, hS⟩ : ∃ S : Rs aI, S = .no a m := ⟨_, rfl⟩;rw [← hS]
  (repeat' ((conv => whnf); first | (exfalso; omega) | refine chC [] mW ?_ | refine chC [some 0] hp ?_ | refine fV rfl ?_ | refine dpC (hl) ?_ | refine fD pA ?_ | refine dG (jE _) rfl ?_ | refine dH _ _ _ rfl (dK rfl) ?_ | (refine rno hS (aW [some 0] ?_); exact hsW) | refine spC (fun hb => ?_) fun hb => ?_ | refine taC ?_ | refine aE mixed ?_))
 ·rw [if_neg hc];have hR := hR hc;have hi2 : InW ws (a + 1) (m - 2) := ⟨by omega, by omega, by omega, by omega⟩;refine jM Tryz.func56 (c := _) rfl Tryz.call56 900 (Je ⟨by omega, by omega, by omega, by omega⟩ hR.bd) (fun _ _ _ _ => trivial) ?_
  (repeat' ((conv => whnf); first | (exfalso; omega) | refine chC [] mW ?_ | refine chC [some 0] hp ?_ | refine fV rfl ?_ | refine dpC (hl) ?_ | (refine rmX [some 0] hR rfl rfl ⟨rfl, trivial⟩ (fun x a1 m1 e hi hp => ?_) (fun a1 m1 e hi => ?_) hi2) | (refine rno e (aW [some 0] ?_); exact hsW) | (refine rok e (aZ [some 0] (.inr rfl) ?_ ?_ rfl rfl); (focus exact vwV); exact hsW) | refine spC (fun hb => ?_) fun hb => ?_ | refine taC ?_ | refine saC ?_ | refine aE mixed ?_))
theorem Wj (of_ dp : Int) (hd : 1 ≤ dp ∧ dp ≤ 4) {ws : List Wd} {a m : Int} (hi : InW ws a m) (hn : wA ws) (hw : cH ws a = mZ) (Q : Rs aI)
  (hR : ¬ (dM of_ < 6 ∨ m < 2 ∨ (0 < (2 : Int) ∧ dp = 4)) → RM 125 [.ptr 0 0, iS dp] ws (a + 1) (m - 2) [] Q (fun g => aM g) (fun _ => True)) :
  RM 56 [.ptr 0 0, iS of_, iS dp] ws a m [] (if dM of_ < 6 ∨ m < 2 ∨ (0 < (2 : Int) ∧ dp = 4) then .no a m else Q) (fun g => aM g) (fun _ => True) := by
 have hlt := eJ hi hw (by decide);have ha0 := hi.a0;have hm0 := hi.m0;have hm1 := hi.m1;have hb2 := hn.n;have hp := F7 hi hn;rw [hw] at hp;have hl := iQ of_
 by_cases hc : dM of_ < 6 ∨ m < 2 ∨ (0 < (2 : Int) ∧ dp = 4)
 ·rw [if_pos hc];clear hR;refine jM Tryz.func56 (c := _) rfl Tryz.call56 900 hi.refl (fun _ _ _ _ => trivial) ?_;obtain ⟨S, hS⟩ : ∃ S : Rs aI, S = .no a m := ⟨_, rfl⟩;rw [← hS]
  (repeat' ((conv => whnf); first | (exfalso; omega) | refine chC [] mW ?_ | refine chC [some 0] hp ?_ | refine fV rfl ?_ | refine dpC (hl) ?_ | refine fD pA ?_ | refine dG (jE _) rfl ?_ | refine dH _ _ _ rfl (dK rfl) ?_ | (refine rno hS (aW [some 0] ?_); exact hsW) | refine spC (fun hb => ?_) fun hb => ?_ | refine taC ?_ | refine aE mixed ?_))
 ·rw [if_neg hc];have hR := hR hc;have hi2 : InW ws (a + 1) (m - 2) := ⟨by omega, by omega, by omega, by omega⟩;refine jM Tryz.func56 (c := _) rfl Tryz.call56 900 (Je ⟨by omega, by omega, by omega, by omega⟩ hR.bd) (fun _ _ _ _ => trivial) ?_
  (repeat' ((conv => whnf); first | (exfalso; omega) | refine chC [] mW ?_ | refine chC [some 0] hp ?_ | refine fV rfl ?_ | refine dpC (hl) ?_ | (refine rmX [some 0] hR rfl rfl ⟨rfl, trivial⟩ (fun x a1 m1 e hi hp => ?_) (fun a1 m1 e hi => ?_) hi2) | (refine rno e (aW [some 0] ?_); exact hsW) | (refine rok e (aZ [some 0] (.inr rfl) ?_ ?_ rfl rfl); (focus exact vwV); exact hsW) | refine spC (fun hb => ?_) fun hb => ?_ | refine taC ?_ | refine saC ?_ | refine aE mixed ?_))
theorem rmE {α : Type} {f : FuncId} {args : List (SV Cd)} {ws : List Wd} {a m : Int} {X : List (HS Cd)} {S S' : Rs α} {ret : α → SV Cd} {Pr : α → Prop} (h : RM f args ws a m X S ret Pr) (e : S' = S) : RM f args ws a m X S' ret Pr := e ▸ h
theorem q6y {ws : List Wd} (hn : wA ws) : ∀ (n : Nat) (of_ dp : Int), 1 ≤ n → 1 ≤ dp → dp + n = 5 → vF ws of_ dp (hU ws n of_ dp)
 | 0, of_, dp, h, _, _ => absurd h (by omega)
 | n + 1, of_, dp, _, h1, h5 => by
  intro a m hi;have hd : 1 ≤ dp ∧ dp ≤ 4 := by omega
  have ih : ∀ k, ¬ dp = 4 → vF ws k (dp + 1) (hU ws n k (dp + 1)) := fun k hk => q6y hn n k (dp + 1) (by omega) (by omega) (by omega);have hlt : ∀ w, w ≠ [32] → cH ws a = w → a < ws.length := fun w hw e => eJ hi e hw;have ha0 := hi.a0;have hm0 := hi.m0;have hm1 := hi.m1
  by_cases w1 : cH ws a = uK
  ·have := hlt _ (by decide) w1;refine rmE (Uk of_ dp hd hi hn w1 (Zx ws (a + 1) (m - 0)) fun hc => qe4 dp ⟨by omega, by omega, by omega, by omega⟩ hn) ?_;rw [hU, w1]; rfl
  by_cases w2 : cH ws a = lL
  ·have := hlt _ (by decide) w2;refine rmE (Mf of_ dp hd hi hn w2 (S4 ws (hU ws n 2 (dp + 1)) (a + 1) (m - 1)) fun hc => qa2 dp hd (ih 2 (by omega)) ⟨by omega, by omega, by omega, by omega⟩ hn) ?_;rw [hU, w2]; rfl
  by_cases w3 : cH ws a = gV
  ·have := hlt _ (by decide) w3;refine rmE (Ji of_ dp hd hi hn w3 (uP ws (hU ws n 3 (dp + 1)) (a + 1) (m - 1)) fun hc => q7m dp hd (ih 3 (by omega)) ⟨by omega, by omega, by omega, by omega⟩ hn) ?_;rw [hU, w3]; rfl
  by_cases w4 : cH ws a = dF
  ·have := hlt _ (by decide) w4;refine rmE (Ab of_ dp hd hi hn w4 (q03 ws (hU ws n 4 (dp + 1)) (a + 1) (m - 1)) fun hc => q0a dp hd (ih 4 (by omega)) ⟨by omega, by omega, by omega, by omega⟩ hn) ?_;rw [hU, w4]; rfl
  by_cases w5 : cH ws a = uU
  ·have := hlt _ (by decide) w5;refine rmE (Qt of_ dp hd hi hn w5 (rL ws (hU ws n 5 (dp + 1)) 5 (a + 1) (m - 2)) fun hc => qe0 dp hd (ih 5 (by omega)) ⟨by omega, by omega, by omega, by omega⟩ hn) ?_;rw [hU, w5]; rfl
  by_cases w6 : cH ws a = mZ
  ·have := hlt _ (by decide) w6;refine rmE (Wj of_ dp hd hi hn w6 (rL ws (hU ws n 6 (dp + 1)) 6 (a + 1) (m - 2)) fun hc => qe3 dp hd (ih 6 (by omega)) ⟨by omega, by omega, by omega, by omega⟩ hn) ?_;rw [hU, w6]; rfl
  have hf : Y0 (cH ws a) = none := by unfold Y0; rw [if_neg w1, if_neg w2, if_neg w3, if_neg w4, if_neg w5, if_neg w6]
  have e : hU ws (n + 1) of_ dp a m = .no a m := by rw [hU, hf]
  rw [e];exact ⟨fun x a' m' h => (by cases h), fun a' m' h => by injection h with h1 h2; subst h1 h2; simpa using Zg of_ dp hd hi hn hf, hi.refl, fun x a' m' h => (by cases h)⟩
theorem Tc {ws : List Wd} {a m : Int} (h : InW ws a m) : (uL ws a m).Bd ws a m := by
 unfold uL;split
 ·rename_i e;have := eJ h e (by decide);have := h.a0;exact ⟨by omega, by omega, h.m0, Int.le_refl _⟩
 ·exact dA h
theorem Ux {ws : List Wd} {a m : Int} (h : InW ws a m) : (rO ws a m).Bd ws a m := by
 unfold rO;refine aO h (bL [bK] h (by decide)) fun _ _ _ _ h => ?_;refine aO h (dA h) fun _ _ _ _ h => ?_;refine aO h (bL [sI] h (by decide)) fun _ _ _ _ h => ?_;refine aO h (dA h) fun _ _ _ _ h => ?_;refine aO h (bL [gE] h (by decide)) fun _ _ _ _ h => ?_;refine aO h (dA h) fun _ _ _ _ h => ?_;refine aO h (bL [bW] h (by decide)) fun _ _ _ _ h => ?_;refine aO h (Tc h) fun _ _ _ _ h => ?_;refine aO h (Af h (by decide) (by decide)) fun _ _ _ _ h => ?_;refine aO h (bL [dV] h (by decide)) fun _ _ _ _ h => ?_;refine aO h (dA h) fun _ _ _ _ h => ?_;refine aO h (bL [mU] h (by decide)) fun _ _ _ _ h => ?_;refine aO h (dA h) fun _ _ _ _ h => ?_;refine aO h (bL [dT] h (by decide)) fun _ _ _ _ h => ?_;refine aO h (tV 4 5 1 h) fun _ _ _ _ h => ?_;refine aO h (bL [rN] h (by decide)) fun _ _ _ _ h => ?_;split
 ·exact h.refl
 ·exact h.refl
theorem q5y {ws : List Wd} {a m : Int} (hi : InW ws a m) (hn : wA ws) : RM 29 [.ptr 0 0] ws a m [] (rO ws a m) (fun o => q8k o) (fun _ => True) := by
 refine jM Tryz.func29 (c := _) rfl Tryz.call29 2000 (Ux hi) (fun _ _ _ _ => trivial) ?_;obtain ⟨S, hS⟩ : ∃ S, S = rO ws a m := ⟨_, rfl⟩;rw [← hS];unfold rO at hS;have hg := q6y hn 4 5 1 (by omega) (by omega) (by omega);have hb2 := hn.n
 (repeat' ((conv => whnf); first | (refine rmX [some 0, some _] (fX [bK] (by decide) (by decide) (by assumption) hn) rfl rfl ⟨rfl, rfl, trivial⟩ (fun x a1 m1 e hi hp => ?_) (fun a1 m1 e hi => ?_) (by assumption) <;> simp only [e, Rs.bind] at hS) | (refine rmX [some 0, some _] (fX [sI] (by decide) (by decide) (by assumption) hn) rfl rfl ⟨rfl, rfl, trivial⟩ (fun x a1 m1 e hi hp => ?_) (fun a1 m1 e hi => ?_) (by assumption) <;> simp only [e, Rs.bind] at hS) | (refine rmX [some 0, some _] (fX [gE] (by decide) (by decide) (by assumption) hn) rfl rfl ⟨rfl, rfl, trivial⟩ (fun x a1 m1 e hi hp => ?_) (fun a1 m1 e hi => ?_) (by assumption) <;> simp only [e, Rs.bind] at hS) | (refine rmX [some 0, some _] (fX [bW] (by decide) (by decide) (by assumption) hn) rfl rfl ⟨rfl, rfl, trivial⟩ (fun x a1 m1 e hi hp => ?_) (fun a1 m1 e hi => ?_) (by assumption) <;> simp only [e, Rs.bind] at hS) | (refine rmX [some 0] (Pk _ _ (by assumption) hn) rfl rfl ⟨rfl, trivial⟩ (fun x a1 m1 e hi hp => ?_) (fun a1 m1 e hi => ?_) (by assumption) <;> simp only [e, Rs.bind] at hS) | (refine rno hS (aW [some 0] ?_); exact hsW) | refine saC ?_))
 by_cases hgr : cH ws a1 = iD
 ·have hG : uL ws a1 m1 = .ok (-1) (a1 + 1) m1 := by unfold uL; rw [if_pos hgr]
  rw [hG] at hS;dsimp only at hS;have q := q63 iD hi hn hgr;have hlt := eJ hi hgr (by decide);have hi : InW ws (a1 + 1) m1 := ⟨by have := hi.a0; omega, by omega, hi.m0, hi.m1⟩
  (repeat' ((conv => whnf); first | refine chC [some 0] q ?_ | (refine rmX [some 0, some _] (fX [dV] (by decide) (by decide) (by assumption) hn) rfl rfl ⟨rfl, rfl, trivial⟩ (fun x a1 m1 e hi hp => ?_) (fun a1 m1 e hi => ?_) (by assumption) <;> simp only [e, Rs.bind] at hS) | (refine rmX [some 0, some _] (fX [mU] (by decide) (by decide) (by assumption) hn) rfl rfl ⟨rfl, rfl, trivial⟩ (fun x a1 m1 e hi hp => ?_) (fun a1 m1 e hi => ?_) (by assumption) <;> simp only [e, Rs.bind] at hS) | (refine rmX [some 0, some _] (fX [dT] (by decide) (by decide) (by assumption) hn) rfl rfl ⟨rfl, rfl, trivial⟩ (fun x a1 m1 e hi hp => ?_) (fun a1 m1 e hi => ?_) (by assumption) <;> simp only [e, Rs.bind] at hS) | (refine rmX [some 0, some _] (fX [rN] (by decide) (by decide) (by assumption) hn) rfl rfl ⟨rfl, rfl, trivial⟩ (fun x a1 m1 e hi hp => ?_) (fun a1 m1 e hi => ?_) (by assumption) <;> simp only [e, Rs.bind] at hS) | (refine rmX [some 0] (Pk _ _ (by assumption) hn) rfl rfl ⟨rfl, trivial⟩ (fun x a1 m1 e hi hp => ?_) (fun a1 m1 e hi => ?_) (by assumption) <;> simp only [e, Rs.bind] at hS) | (refine rmX [some 0] (hg _ _ (by assumption)) rfl rfl ⟨rfl, trivial⟩ (fun x a1 m1 e hi hp => ?_) (fun a1 m1 e hi => ?_) (by assumption) <;> simp only [e, Rs.bind] at hS) | (refine rmX [some 0] (q4a eF gC (by decide) (by decide) (by assumption) hn) rfl rfl ⟨rfl, trivial⟩ (fun x a1 m1 e hi hp => ?_) (fun a1 m1 e hi => ?_) (by assumption) <;> simp only [e, Rs.bind] at hS) | refine fD pA ?_ | refine dG (jE _) rfl ?_ | refine dH _ _ _ rfl (dK rfl) ?_ | (rw [if_pos (by assumption)] at hS; refine rno hS (aW [some 0] ?_); exact hsW) | (refine rno hS (aW [some 0] ?_); exact hsW) | (rw [if_neg (by assumption)] at hS; (refine rok hS (aZ [some 0] (.inr rfl) ?_ ?_ rfl rfl); (focus first | exact vwV | (refine ⟨?_⟩; (repeat' (first | exact trivial | exact rfl | refine And.intro ?_ ?_ | exact fzV | exact fzV rfl rfl rfl (by simp) (by simp [eta_goal]) rfl | exact fvV)); done)); exact hsW)) | refine spC (fun hb => ?_) fun hb => ?_ | refine taC ?_ | refine saC ?_ | refine aE mixed ?_))
 ·have hG : uL ws a1 m1 = pF ws 0 15 a1 m1 := by unfold uL; rw [if_neg hgr]
  rw [hG] at hS;have q := q77 iD hi hn hgr
  (repeat' ((conv => whnf); first | refine chC [some 0] q ?_ | (refine rmX [some 0, some _] (fX [dV] (by decide) (by decide) (by assumption) hn) rfl rfl ⟨rfl, rfl, trivial⟩ (fun x a1 m1 e hi hp => ?_) (fun a1 m1 e hi => ?_) (by assumption) <;> simp only [e, Rs.bind] at hS) | (refine rmX [some 0, some _] (fX [mU] (by decide) (by decide) (by assumption) hn) rfl rfl ⟨rfl, rfl, trivial⟩ (fun x a1 m1 e hi hp => ?_) (fun a1 m1 e hi => ?_) (by assumption) <;> simp only [e, Rs.bind] at hS) | (refine rmX [some 0, some _] (fX [dT] (by decide) (by decide) (by assumption) hn) rfl rfl ⟨rfl, rfl, trivial⟩ (fun x a1 m1 e hi hp => ?_) (fun a1 m1 e hi => ?_) (by assumption) <;> simp only [e, Rs.bind] at hS) | (refine rmX [some 0, some _] (fX [rN] (by decide) (by decide) (by assumption) hn) rfl rfl ⟨rfl, rfl, trivial⟩ (fun x a1 m1 e hi hp => ?_) (fun a1 m1 e hi => ?_) (by assumption) <;> simp only [e, Rs.bind] at hS) | (refine rmX [some 0] (Pk _ _ (by assumption) hn) rfl rfl ⟨rfl, trivial⟩ (fun x a1 m1 e hi hp => ?_) (fun a1 m1 e hi => ?_) (by assumption) <;> simp only [e, Rs.bind] at hS) | (refine rmX [some 0] (hg _ _ (by assumption)) rfl rfl ⟨rfl, trivial⟩ (fun x a1 m1 e hi hp => ?_) (fun a1 m1 e hi => ?_) (by assumption) <;> simp only [e, Rs.bind] at hS) | (refine rmX [some 0] (q4a eF gC (by decide) (by decide) (by assumption) hn) rfl rfl ⟨rfl, trivial⟩ (fun x a1 m1 e hi hp => ?_) (fun a1 m1 e hi => ?_) (by assumption) <;> simp only [e, Rs.bind] at hS) | refine fD pA ?_ | refine dG (jE _) rfl ?_ | refine dH _ _ _ rfl (dK rfl) ?_ | (rw [if_pos (by assumption)] at hS; refine rno hS (aW [some 0] ?_); exact hsW) | (refine rno hS (aW [some 0] ?_); exact hsW) | (rw [if_neg (by assumption)] at hS; (refine rok hS (aZ [some 0] (.inr rfl) ?_ ?_ rfl rfl); (focus first | exact vwV | (refine ⟨?_⟩; (repeat' (first | exact trivial | exact rfl | refine And.intro ?_ ?_ | exact fzV | exact fzV rfl rfl rfl (by simp) (by simp [eta_goal]) rfl | exact fvV)); done)); exact hsW)) | refine spC (fun hb => ?_) fun hb => ?_ | refine taC ?_ | refine saC ?_ | refine aE mixed ?_))
end Go.SX
