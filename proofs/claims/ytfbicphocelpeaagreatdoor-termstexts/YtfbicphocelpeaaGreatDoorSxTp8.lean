/-
  Plain law: the goals that integers determine (the reference's examples), and why they are valid.
-/
import Derived.Test.YtfbicphocelpeaaGreatDoorSxTa9
set_option linter.unusedVariables false
set_option linter.unusedSimpArgs false
namespace Go.SX
def aH (c n : Int) : Int := (if c < 0 then -(c + 1) else c) % n
theorem aL {c n : Int} (h : 0 < n) : 0 ≤ aH c n ∧ aH c n < n := ⟨Int.emod_nonneg _ (by omega), Int.emod_lt_of_pos _ h⟩
def Qj (rows : List Int) (y : Nat) (x : Int) : List Int := rows.set y (cE .or .i64 (rows.getD y 0) (gX .i64 1 x))
theorem S7 (rows : List Int) (y : Nat) (x : Int) : (Qj rows y x).length = rows.length := by unfold Qj; simp
def Cg (x : A5) (y k : Nat) (rows : List Int) : List Int := Qj rows (min 23 (aH x.b 24 + y)).toNat ((aH x.a 48 + k).tmod 48)
def vS (x : A5) (y k : Nat) (rows : List Int) : List Int := (List.range k).foldl (fun r k => Cg x y k r) rows
def mB (x : A5) (n y : Nat) : List Int := (List.range y).foldl (fun r y => vS x y n r) (List.replicate 24 0)
theorem qR (x : A5) (y k : Nat) (r : List Int) : vS x y (k + 1) r = Cg x y k (vS x y k r) := by unfold vS; rw [List.range_succ, List.foldl_append]; rfl
theorem rF (x : A5) (n y : Nat) : mB x n (y + 1) = vS x y n (mB x n y) := by unfold mB; rw [List.range_succ, List.foldl_append]; rfl
theorem G8 (x : A5) (y : Nat) : ∀ (k : Nat) (r : List Int), (vS x y k r).length = r.length
 | 0, r => rfl
 | k + 1, r => by rw [qR]; unfold Cg; rw [S7, G8 x y k r]
theorem Ev (x : A5) (n : Nat) : ∀ y : Nat, (mB x n y).length = 24
 | 0 => by simp [mB]
 | y + 1 => by rw [rF, G8, Ev x n y]
def lZ (x : A5) : List Int :=
 if aH x.c 3 = 0 then Qj (mB x (aH (x.a.tdiv 48) 3 + 1).toNat (aH (x.b.tdiv 24) 3 + 1).toNat) (aH x.b 24).toNat (aH x.c 48) else mB x (aH (x.a.tdiv 48) 3 + 1).toNat (aH (x.b.tdiv 24) 3 + 1).toNat
def qF (x : A5) : aI := ⟨1, lZ x, aH x.c 3000, aH x.c 3000 + 1 + aH x.d 5000, aH x.e 40, aH x.e 40 + aH (x.e.tdiv 40) 51, decide (aH x.d 2 = 1), 0, 0, 0, [], []⟩
structure qE (rows : List Int) : Prop where
 len : rows.length = 24
 ok : ∀ r ∈ rows, 0 ≤ r ∧ r ≤ 281474976710655
theorem q9q {a : Int} {x : Int} (ha : 0 ≤ a ∧ a ≤ 281474976710655) (hx : 0 ≤ x ∧ x < 48) : (0 ≤ cE .or .i64 a (gX .i64 1 x) ∧ cE .or .i64 a (gX .i64 1 x) ≤ 281474976710655) ∧ cE .or .i64 a (gX .i64 1 x) ≠ 0 := by
 obtain ⟨n, rfl⟩ : ∃ n : Nat, a = n := ⟨a.toNat, by omega⟩;obtain ⟨k, rfl⟩ : ∃ k : Nat, x = k := ⟨x.toNat, by omega⟩;have hk : k < 48 := by omega
 have h1 : 2 ^ k < 2 ^ 48 := Nat.pow_lt_pow_right (by omega) hk;have hn : n < 2 ^ 48 := by omega
 rw [Qh hk, Qe hn h1];have h2 : n ||| 2 ^ k < 2 ^ 48 := Nat.or_lt_two_pow hn h1;have h3 : n ||| 2 ^ k ≠ 0 := fun e => by
  have := congrArg (fun z => z.testBit k) e;simp at this
 omega
theorem Sf {rows : List Int} (h : qE rows) {y : Nat} (hy : y < 24) {x : Int} (hx : 0 ≤ x ∧ x < 48) : qE (Qj rows y x) ∧ (Qj rows y x).any (fun r => decide (r ≠ 0)) = true := by
 have hg : rows.getD y 0 ∈ rows := by
  rw [List.getD_eq_getElem?_getD, List.getElem?_eq_getElem (by rw [h.len]; exact hy)];exact List.getElem_mem _
 obtain ⟨h1, h2⟩ := q9q (h.ok _ hg) hx;refine ⟨⟨by rw [S7, h.len], fun r hr => ?_⟩, ?_⟩
 ·unfold Qj at hr;rcases List.mem_or_eq_of_mem_set hr with hr | rfl
  ·exact h.ok r hr
  ·exact h1
 ·rw [List.any_eq_true];refine ⟨cE .or .i64 (rows.getD y 0) (gX .i64 1 x), ?_, by simpa using h2⟩;unfold Qj;rw [List.mem_iff_getElem?];exact ⟨y, by rw [List.getElem?_set_self (by rw [h.len]; exact hy)]⟩
theorem q0n (x : A5) (y k : Nat) {rows : List Int} (h : qE rows) : qE (Cg x y k rows) ∧ (Cg x y k rows).any (fun r => decide (r ≠ 0)) = true := by
 have b1 := aL (c := x.b) (n := 24) (by omega);have b2 := aL (c := x.a) (n := 48) (by omega);unfold Cg;refine Sf h (by omega) ?_;rw [Int.tmod_eq_emod_of_nonneg (by omega)];omega
theorem W4 (x : A5) (y : Nat) : ∀ (k : Nat) (r : List Int), qE r → qE (vS x y k r) ∧ (0 < k → (vS x y k r).any (fun r => decide (r ≠ 0)) = true)
 | 0, r, h => ⟨h, fun e => by omega⟩
 | k + 1, r, h => by
  rw [qR];have := q0n x y k (W4 x y k r h).1;exact ⟨this.1, fun _ => this.2⟩
theorem yK (x : A5) (n : Nat) (hn : 0 < n) : ∀ y : Nat, qE (mB x n y) ∧ (0 < y → (mB x n y).any (fun r => decide (r ≠ 0)) = true)
 | 0 => ⟨⟨by simp [mB], fun r hr => by simp [mB] at hr; omega⟩, fun e => by omega⟩
 | y + 1 => by
  rw [rF];have := W4 x y n _ (yK x n hn y).1;exact ⟨this.1, fun _ => this.2 hn⟩
theorem M4 (x : A5) : qE (lZ x) ∧ (lZ x).any (fun r => decide (r ≠ 0)) = true := by
 have b1 := aL (c := x.b.tdiv 24) (n := 3) (by omega);have b2 := aL (c := x.a.tdiv 48) (n := 3) (by omega);have b3 := aL (c := x.b) (n := 24) (by omega);have b4 := aL (c := x.c) (n := 48) (by omega);have h := yK x (aH (x.a.tdiv 48) 3 + 1).toNat (by omega) (aH (x.b.tdiv 24) 3 + 1).toNat;unfold lZ;split
 ·exact Sf h.1 (by omega) (by omega)
 ·exact ⟨h.1, h.2 (by omega)⟩
theorem q4w (x : A5) : okB (qF x) = true := by
 obtain ⟨h1, h2⟩ := M4 x;have b1 := aL (c := x.c) (n := 3000) (by omega);have b2 := aL (c := x.d) (n := 5000) (by omega);have b3 := aL (c := x.e) (n := 40) (by omega);have b4 := aL (c := x.e.tdiv 40) (n := 51) (by omega);have ha : bE (lZ x) = true := by
  unfold bE;rw [h1.len, Bool.and_eq_true];refine ⟨rfl, List.all_eq_true.2 fun r hr => ?_⟩;exact (aK _ _ _).2 (h1.ok r hr)
 unfold okB kC oU vZ eU mY iB qF;simp only [ha, h2];simp [aK];omega
theorem D5 (x : A5) {d : Int} (hd : d ≤ 4) : bQ (qF x) d = some 1 := by
 rw [fY, q4w, decide_eq_false (by omega)];rfl
def Mt : A5 := ⟨0, 0, 0, 0, 0⟩
def y5 (x : List A5) (i : Int) : A5 := if i < x.length then x.getD i.toNat Mt else Mt
structure q5z where
 kids : List aI
 cents : List Int
 used : Int
 count : Int
def bI (rec : Int → Int → aI × Int × Int) (y : A5) (at_ most : Int) : Nat → q5z
 | 0 => ⟨[], [], 1, 1⟩
 | i + 1 =>
  let s := bI rec y at_ most i
  let r := rec (at_ + s.used) (most - s.count - max 0 (1 - (i : Int)))
  ⟨s.kids ++ [r.1], s.cents ++ [aH (IntKind.i64.wrap (y.c + IntKind.i64.wrap ((i : Int) * y.d))) 1000], s.used + r.2.1, s.count + r.2.2⟩
def goB (rec : Int → Int → aI × Int × Int) (y : A5) (at_ most many : Int) (i : Nat) : Bool := decide ((i : Int) < many) && (decide ((i : Int) < 2) || decide ((bI rec y at_ most i).count < most))
def A9 (rec : Int → Int → aI × Int × Int) (y : A5) (at_ most many : Int) : Nat → Nat → Nat
 | 0, i => i
 | f + 1, i => if goB rec y at_ most many i then A9 rec y at_ most many f (i + 1) else i
def xY (j : Nat) (x : List A5) (at_ most : Int) : Int :=
 if j = 0 ∨ most < 2 ∨ (x.length : Int) ≤ at_ + 1 ∨ 5 ≤ 1 + aH ((y5 x at_).a.tdiv 144) 6 ∧ most < 3 then 1 else 1 + aH ((y5 x at_).a.tdiv 144) 6
def dO : Nat → List A5 → Int → Int → aI × Int × Int
 | 0, x, at_, most => (qF (y5 x at_), 1, 1)
 | j + 1, x, at_, most =>
  let y := y5 x at_
  let next := y5 x (at_ + 1)
  let k := xY (j + 1) x at_ most
  if k = 2 then (⟨2, [], 0, 0, 1 + aH y.b 8, 0, false, 0, 0, 1 + aH y.c 3000, [], [qF next]⟩, 2, 2)
  else if k = 3 then (⟨3, [], aH y.e 3000, 0, 0, 0, false, 1 + aH y.b 4, 1 + aH y.c 4, aH y.d (1440 * (1 + aH y.b 4) + 1), [], [qF next]⟩, 2, 2)
  else if k = 4 then (⟨4, [], 0, 0, 0, 0, false, 0, 0, aH y.b 3000, [], [qF next]⟩, 2, 2)
  else if k = 5 ∨ k = 6 then
   let s := bI (dO j x) y at_ most (A9 (dO j x) y at_ most (2 + aH y.b 3) 4 0)
   (⟨k, [], 0, 0, 0, 0, false, 0, 0, 0, if k = 6 then s.cents else [], s.kids⟩, s.used, s.count)
  else (qF y, 1, 1)
def mN (x : List A5) : aI := (dO 3 x 0 9).1
end Go.SX
namespace Go.SX
theorem Cu : ∀ (l : List aI) (k : aI) (d a b : Int), sizeL l d = some a → bQ k d = some b → sizeL (l ++ [k]) d = some (a + b)
 | [], k, d, a, b, h1, h2 => by
  rw [sizeL] at h1; injection h1 with h1;rw [List.nil_append, sizeL, h2];simp only [sizeL];congr 1; omega
 | x :: l, k, d, a, b, h1, h2 => by
  rw [sizeL] at h1;rw [List.cons_append, sizeL];cases hx : bQ x d with
  | none => rw [hx] at h1; cases h1
  | some m =>
   rw [hx] at h1;dsimp only at h1 ⊢;cases hl : sizeL l d with
   | none => rw [hl] at h1; cases h1
   | some c =>
    rw [hl] at h1;injection h1 with h1;rw [Cu l k d c b hl h2];dsimp only;congr 1; omega
structure Kn (j : Nat) (most : Int) (r : aI × Int × Int) : Prop where
 size : bQ r.1 (4 - j) = some r.2.2
 used : r.2.1 = r.2.2
 pos : 1 ≤ r.2.2
 le : r.2.2 ≤ most
 kind : 1 ≤ r.1.kind ∧ r.1.kind ≤ 6
structure Dl (j : Nat) (most : Int) (i : Nat) (s : q5z) : Prop where
 kl : s.kids.length = i
 cl : s.cents.length = i
 size : sizeL s.kids (4 - j) = some (s.count - 1)
 used : s.used = s.count
 low : 1 ≤ s.count ∧ (i : Int) + 1 ≤ s.count
 high : s.count + (if i ≤ 1 then 1 else 0) ≤ most
 cents : ∀ c ∈ s.cents, 0 ≤ c ∧ c ≤ 1000000000
 kinds : ∀ k ∈ s.kids, 1 ≤ k.kind ∧ k.kind ≤ 6
theorem C4 {rec : Int → Int → aI × Int × Int} {y : A5} {at_ most : Int} {j : Nat} (hm : 3 ≤ most) : Dl j most 0 (bI rec y at_ most 0) := by
 refine ⟨rfl, rfl, by simp [bI, sizeL], rfl, by simp [bI], ?_, fun c h => (by cases h), fun c h => (by cases h)⟩;simp [bI]; omega
theorem Y7 {rec : Int → Int → aI × Int × Int} {y : A5} {at_ most many : Int} {j : Nat} (hm : 3 ≤ most) (hr : ∀ (a m : Int), 1 ≤ m → a + m ≤ at_ + most → at_ < a → Kn j m (rec a m)) {i : Nat} (h : Dl j most i (bI rec y at_ most i)) (hg : goB rec y at_ most many i = true) : Dl j most (i + 1) (bI rec y at_ most (i + 1)) := by
 unfold goB at hg;simp only [Bool.and_eq_true, Bool.or_eq_true, decide_eq_true_eq] at hg;have hh := h.high;have hu := h.used;have hlo := h.low;have hone : 1 ≤ most - (bI rec y at_ most i).count - max 0 (1 - (i : Int)) := by
  rcases Nat.lt_or_ge i 1 with h0 | h0
  ·obtain rfl : i = 0 := by omega
   have : (bI rec y at_ most 0).count = 1 := rfl;omega
  ·rcases Nat.lt_or_ge i 2 with h1 | h1
   ·rw [if_pos (by omega)] at hh; omega
   ·rcases hg.2 with h2 | h2
    ·omega
    ·omega
 have hk := hr (at_ + (bI rec y at_ most i).used) (most - (bI rec y at_ most i).count - max 0 (1 - (i : Int))) hone (by omega) (by omega);have hp := hk.pos;have hl := hk.le;refine ⟨by simp [bI, h.kl], by simp [bI, h.cl], ?_, ?_, ?_, ?_, fun c hc => ?_, fun k hc => ?_⟩
 ·simp only [bI];rw [Cu _ _ _ _ _ h.size hk.size];congr 1; omega
 ·have := hk.used;simp only [bI]; omega
 ·simp only [bI]; omega
 ·have h0 : i = 0 → (bI rec y at_ most i).count = 1 := fun e => by subst e; rfl
  simp only [bI];split <;> omega
 ·simp only [bI] at hc;rcases List.mem_append.1 hc with hc | hc
  ·exact h.cents c hc
  ·rw [List.mem_singleton.1 hc];have := aL (c := IntKind.i64.wrap (y.c + IntKind.i64.wrap ((i : Int) * y.d))) (n := 1000) (by omega);omega
 ·simp only [bI] at hc;rcases List.mem_append.1 hc with hc | hc
  ·exact h.kinds k hc
  ·rw [List.mem_singleton.1 hc]; exact hk.kind
theorem q50 {rec : Int → Int → aI × Int × Int} {y : A5} {at_ most many : Int} {j : Nat} (hm : 3 ≤ most) (hmany : 2 ≤ many ∧ many ≤ 4) (hr : ∀ (a m : Int), 1 ≤ m → a + m ≤ at_ + most → at_ < a → Kn j m (rec a m)) :
  ∃ e, A9 rec y at_ most many 4 0 = e ∧ 2 ≤ e ∧ e ≤ 4 ∧ Dl j most e (bI rec y at_ most e) := by
 have key : ∀ f i, Dl j most i (bI rec y at_ most i) → i + f = 4 → ∃ e, A9 rec y at_ most many f i = e ∧ i ≤ e ∧ e ≤ 4 ∧ Dl j most e (bI rec y at_ most e) ∧ (e < 4 → goB rec y at_ most many e = false) := by
  intro f
  induction f with
  | zero => intro i h hi; exact ⟨i, rfl, Nat.le_refl _, by omega, h, fun h => by omega⟩
  | succ f ih =>
   intro i h hi;rw [A9];cases hg : goB rec y at_ most many i with
   | false => exact ⟨i, rfl, Nat.le_refl _, by omega, h, fun _ => hg⟩
   | true =>
    obtain ⟨e, h1, h2, h3⟩ := ih (i + 1) (Y7 hm hr h hg) (by omega);exact ⟨e, by simpa using h1, by omega, h3⟩
 obtain ⟨e, h1, h2, h3, h4, h5⟩ := key 4 0 (C4 hm) rfl;refine ⟨e, h1, ?_, h3, h4⟩;rcases Nat.lt_or_ge e 2 with hlt | hge
 ·have := h5 (by omega);unfold goB at this;rw [decide_eq_true (show (e : Int) < many by omega), decide_eq_true (show (e : Int) < 2 by omega)] at this;cases this
 ·exact hge
theorem Yj (j : Nat) (x : List A5) (at_ most : Int) : 1 ≤ xY j x at_ most ∧ xY j x at_ most ≤ 6 ∧ (xY j x at_ most ≠ 1 → j ≠ 0 ∧ 2 ≤ most ∧ at_ + 1 < x.length) ∧ (5 ≤ xY j x at_ most → 3 ≤ most) := by
 have := aL (c := (y5 x at_).a.tdiv 144) (n := 6) (by omega);unfold xY;split
 ·omega
 ·rename_i h;simp only [not_or, not_and] at h;omega
theorem yM : ∀ (j : Nat) (x : List A5) (at_ most : Int), j ≤ 3 → 1 ≤ most → Kn j most (dO j x at_ most)
 | 0, x, at_, most, hj, hm => ⟨by rw [dO]; exact D5 _ (by omega), rfl, by simp [dO], by simp [dO]; omega, by simp [dO, qF]⟩
 | j + 1, x, at_, most, hj, hm => by
  obtain ⟨hk1, hk6, hk, hk5⟩ := Yj (j + 1) x at_ most;have size_one : ∀ g : aI, okB g = true → (∃ z, g.kids = [qF z]) → bQ g (4 - ((j + 1 : Nat) : Int)) = some 2 := fun g h ⟨z, hz⟩ => by
   rw [fY, h, decide_eq_false (by omega), hz];simp only [Bool.false_or, Bool.not_true, Bool.false_eq_true, if_false];rw [sizeL, D5 z (by omega)];simp [sizeL]
  rw [dO];dsimp only;split
  ·rename_i e;have h2 := (hk (by omega)).2.1;have b1 := aL (c := (y5 x at_).b) (n := 8) (by omega);have b2 := aL (c := (y5 x at_).c) (n := 3000) (by omega);refine ⟨size_one _ ?_ ⟨_, rfl⟩, rfl, by show (1 : Int) ≤ 2; omega, h2, by simp⟩;unfold okB kC oU vZ eU mY iB dM;simp [aK, qF];omega
  ·split
   ·rename_i e;have h2 := (hk (by omega)).2.1;have b1 := aL (c := (y5 x at_).b) (n := 4) (by omega);have b2 := aL (c := (y5 x at_).c) (n := 4) (by omega);have b3 := aL (c := (y5 x at_).d) (n := 1440 * (1 + aH (y5 x at_).b 4) + 1) (by omega);have b4 := aL (c := (y5 x at_).e) (n := 3000) (by omega);refine ⟨size_one _ ?_ ⟨_, rfl⟩, rfl, by show (1 : Int) ≤ 2; omega, h2, by simp⟩;unfold okB kC oU vZ eU mY iB dM;simp [aK, qF];omega
   ·split
    ·rename_i e;have h2 := (hk (by omega)).2.1;have b1 := aL (c := (y5 x at_).b) (n := 3000) (by omega);refine ⟨size_one _ ?_ ⟨_, rfl⟩, rfl, by show (1 : Int) ≤ 2; omega, h2, by simp⟩;unfold okB kC oU vZ eU mY iB dM;simp [aK, qF];omega
    ·split
     ·rename_i e;have h3 := hk5 (by omega);have b1 := aL (c := (y5 x at_).b) (n := 3) (by omega);obtain ⟨e', h4, h5, h6, h7⟩ := q50 (rec := dO j x) (y := y5 x at_) (at_ := at_) (most := most) (many := 2 + aH (y5 x at_).b 3) (j := j) h3 (by omega) fun a m hm _ _ => yM j x a m (by omega) hm;rw [h4];generalize bI (dO j x) (y5 x at_) at_ most e' = s at h7 ⊢;have hlow := h7.low;have hhi := h7.high;have hhi : s.count ≤ most := by split at hhi <;> omega
      have hany : s.kids.any (fun z => decide ((6 : Int) < z.kind)) = false := by
       rw [List.any_eq_false];intro z hz;have := (h7.kinds z hz).2;simp; omega
      have hcents : s.cents.any (fun n => !inB n 0 1000000000) = false := by
       rw [List.any_eq_false];intro z hz;have := h7.cents z hz;rw [(aK z 0 1000000000).2 this]; simp
      refine ⟨?_, h7.used, by show 1 ≤ s.count; omega, by show s.count ≤ most; omega, by rcases e with e | e <;> rw [e] <;> simp⟩;show bQ _ _ = some s.count;have hok : okB ⟨xY (j + 1) x at_ most, [], 0, 0, 0, 0, false, 0, 0, 0, if xY (j + 1) x at_ most = 6 then s.cents else [], s.kids⟩ = true := by
       have hkl := h7.kl;have hcl := h7.cl;rcases e with e | e
       ·rw [e];unfold okB kC oU vZ eU mY iB dM;simp [aK, hany, hkl]
        (repeat' apply And.intro) <;> first | omega | exact fun z hz => (h7.kinds z hz).2
       ·rw [e];unfold okB kC oU vZ eU mY iB dM;simp [aK, hany, hkl, hcl]
        (repeat' apply And.intro) <;> first | omega | exact fun z hz => h7.cents z hz | exact fun z hz => (h7.kinds z hz).2
      rw [fY, hok, decide_eq_false (by omega)];simp only [Bool.false_or, Bool.not_true, Bool.false_eq_true, if_false];rw [show (4 - ((j + 1 : Nat) : Int) + 1) = 4 - (j : Int) by omega, h7.size];dsimp only;congr 1; omega
     ·exact ⟨D5 _ (by omega), rfl, by show (1 : Int) ≤ 1; omega, hm, by simp [qF]⟩
theorem P5 (x : List A5) : cF (mN x) = true := by
 have h := yM 3 x 0 9 (by omega) (by omega);unfold mN cF;have hs := h.size;rw [show (4 - ((3 : Nat) : Int)) = 1 by omega] at hs;rw [hs];have := h.le;exact decide_eq_true (by omega)
end Go.SX
namespace Go.SX
mutual
def iH : aI → List aI
 | ⟨kind, rows, from_, to_, low, high, clear, days, times, within, cents, kids⟩ =>
  if kind = 1 then [⟨kind, rows, from_, to_, low, high, clear, days, times, within, cents, kids⟩] else seesL kids
def seesL : List aI → List aI
 | [] => []
 | k :: l => iH k ++ seesL l
end
theorem rI (g : aI) : iH g = if g.kind = 1 then [g] else seesL g.kids := by cases g; rw [iH]
theorem rB : ∀ (l : List aI) (k : aI), seesL (l ++ [k]) = seesL l ++ iH k
 | [], k => by simp [seesL]
 | x :: l, k => by rw [List.cons_append, seesL, seesL, rB l k, List.append_assoc]
mutual
theorem V5 : ∀ (g : aI) (d n : Int), bQ g d = some n → ((iH g).length : Int) ≤ n ∧ ∀ s ∈ iH g, okB s = true ∧ s.kind = 1
 | ⟨kind, rows, from_, to_, low, high, clear, days, times, within, cents, kids⟩, d, n, hs => by
  have hL := seesL_ok kids;obtain ⟨hok, hd, m, hm, rfl⟩ := iK hs;have h0 := fC hm;rw [rI];split
  ·rename_i e;refine ⟨by simp; omega, fun s hs => ?_⟩;rw [List.mem_singleton.1 hs];exact ⟨hok, e⟩
  ·obtain ⟨h1, h2⟩ := hL (d + 1) m hm;refine ⟨?_, h2⟩;show ((seesL kids).length : Int) ≤ 1 + m;omega
theorem seesL_ok : ∀ (l : List aI) (d n : Int), sizeL l d = some n → ((seesL l).length : Int) ≤ n ∧ ∀ s ∈ seesL l, okB s = true ∧ s.kind = 1
 | [], d, n, hs => by
  rw [sizeL] at hs; injection hs with hs;exact ⟨by simp [seesL]; omega, fun s h => by simp [seesL] at h⟩
 | k :: l, d, n, hs => by
  rw [sizeL] at hs;split at hs
  ·cases hs
  ·rename_i m hm;split at hs
   ·cases hs
   ·rename_i q hq;injection hs with hs;obtain ⟨h1, h2⟩ := V5 k d m hm;obtain ⟨h3, h4⟩ := seesL_ok l d q hq;rw [seesL];refine ⟨by rw [List.length_append]; omega, fun s hs' => ?_⟩;rcases List.mem_append.1 hs' with h | h
    ·exact h2 s h
    ·exact h4 s h
end
def oM (g : aI) : List aI := if cF g then iH g else []
structure Zu (s : aI) : Prop where
 rl : s.rows.length = 24
 rows : ∀ r ∈ s.rows, 0 ≤ r ∧ r ≤ 281474976710655
 fr : 0 ≤ s.from_ ∧ s.from_ ≤ 1000000
 to : s.from_ + 1 ≤ s.to_ ∧ s.to_ ≤ 1000000
 low : 0 ≤ s.low ∧ s.low ≤ 90
 high : s.low ≤ s.high ∧ s.high ≤ 90
theorem Ej {s : aI} (h : okB s = true) (hk : s.kind = 1) : Zu s := by
 have := (cN h).2.1;unfold vZ at this;rw [if_pos hk] at this;simp only [Bool.and_eq_true, aK] at this;have ha := this.1.1.1.1.1;unfold bE at ha;simp only [Bool.and_eq_true, decide_eq_true_eq, List.all_eq_true] at ha;exact ⟨by omega, fun r hr => by have := ha.2 r hr; unfold pW at this; exact (aK _ _ _).1 this, by omega, by omega, by omega, by omega⟩
theorem W2 (g : aI) : (oM g).length ≤ 12 ∧ ∀ s ∈ oM g, Zu s := by
 unfold oM;split
 ·rename_i h;unfold cF at h;split at h
  ·cases h
  ·rename_i n hn;obtain ⟨h1, h2⟩ := V5 g 1 n hn;have : n ≤ 12 := by simpa using h
   exact ⟨by omega, fun s hs => Ej (h2 s hs).1 (h2 s hs).2⟩
 ·exact ⟨by simp, fun s hs => by cases hs⟩
def sJ (l : List aB) (e : aB) : Nat → Nat
 | 0 => 0
 | i + 1 => if eN e (l.getD i (U.dflt .event)) then sJ l e i else i + 1
theorem Kz (l : List aB) (e : aB) : ∀ i, sJ l e i ≤ i
 | 0 => Nat.le_refl _
 | i + 1 => by
  rw [sJ];split
  ·have := Kz l e i; omega
  ·exact Nat.le_refl _
def fT (l : List aB) (e : aB) : List aB :=
 if 0 < sJ l e l.length ∧ eN (l.getD (sJ l e l.length - 1) (U.dflt .event)) e = false then l else l.take (sJ l e l.length) ++ e :: l.drop (sJ l e l.length)
theorem nO (l : List aB) (e : aB) : (fT l e).length ≤ l.length + 1 := by
 unfold fT;have := Kz l e l.length;split
 ·omega
 ·simp; omega
theorem qX {l : List aB} {e x : aB} (h : x ∈ fT l e) : x ∈ l ∨ x = e := by
 unfold fT at h;split at h
 ·exact .inl h
 ·rcases List.mem_append.1 h with h | h
  ·exact .inl (List.mem_of_mem_take h)
  ·rcases List.mem_cons.1 h with h | h
   ·exact .inr h
   ·exact .inl (List.mem_of_mem_drop h)
def kQ (a b : List aB) : List aB := b.foldl fT a
structure q99 where
 out : List aB
 at_ : Int
def fM (shots : List aI) (x : A4) (i : Nat) (at_ : Int) : aB × Int :=
 if 0 < aH x.a 3 ∧ 0 < shots.length then
  let s := shots.getD (aH (x.a.tdiv 3) shots.length).toNat (U.dflt .goal)
  let at2 := if at_ + aH x.b 400 < s.from_ ∧ aH x.c 3 = 0 then s.from_ else at_ + aH x.b 400
  (⟨1, at2, i, if aH x.c 5 = 4 then s.rows.set (aH x.d 24).toNat 0 else s.rows, min 90 (s.low + aH x.c (s.high - s.low + 3)), aH x.d 9 - 4, decide (0 < aH x.c 4)⟩, at2)
 else (⟨2, at_ + aH x.b 400, aH x.a (i + 1), [], 0, 0, false⟩, at_ + aH x.b 400)
def uS (shots : List aI) (x : A4) (i : Nat) (s : q99) : q99 :=
 ⟨if bM (fT s.out (fM shots x i s.at_).1) && decide (s.out.length < (fT s.out (fM shots x i s.at_).1).length) then fT s.out (fM shots x i s.at_).1 else s.out, (fM shots x i s.at_).2⟩
def tR : A4 := ⟨0, 0, 0, 0⟩
def aC (shots : List aI) (xs : List A4) : Nat → q99
 | 0 => ⟨[], 0⟩
 | i + 1 => uS shots (xs.getD i tR) i (aC shots xs i)
def qB (g : aI) (xs : List A4) : List aB := (aC (oM g) xs (min xs.length 16)).out
theorem wB (shots : List aI) (xs : List A4) (h : ∀ s ∈ shots, Zu s) : ∀ i : Nat, bM (aC shots xs i).out = true ∧ (aC shots xs i).out.length ≤ i ∧ 0 ≤ (aC shots xs i).at_ ∧ (aC shots xs i).at_ ≤ 1000000 + 400 * i
 | 0 => ⟨by simp [aC, bM, K9], by simp [aC], by simp [aC], by simp [aC]⟩
 | i + 1 => by
  obtain ⟨h1, h2, h3, h4⟩ := wB shots xs h i;have hb := aL (c := (xs.getD i tR).b) (n := 400) (by omega);have hat : 0 ≤ (fM shots (xs.getD i tR) i (aC shots xs i).at_).2 ∧ (fM shots (xs.getD i tR) i (aC shots xs i).at_).2 ≤ 1000000 + 400 * ((i : Int) + 1) := by
   unfold fM;split
   ·rename_i hc;have hbd := aL (c := (xs.getD i tR).a.tdiv 3) (n := shots.length) (by omega);have hm : shots.getD (aH ((xs.getD i tR).a.tdiv 3) shots.length).toNat (U.dflt .goal) ∈ shots := by
     rw [List.getD_eq_getElem?_getD, List.getElem?_eq_getElem (by omega)];exact List.getElem_mem _
    have := (h _ hm).fr;dsimp only;split <;> omega
   ·dsimp only; omega
  have hl := nO (aC shots xs i).out (fM shots (xs.getD i tR) i (aC shots xs i).at_).1;rw [aC];unfold uS;refine ⟨?_, ?_, hat.1, by dsimp only; omega⟩
  ·dsimp only;split
   ·rename_i hc;simp only [Bool.and_eq_true] at hc;exact hc.1
   ·exact h1
  ·dsimp only;split <;> omega
theorem Au (g : aI) (xs : List A4) : bM (qB g xs) = true ∧ (qB g xs).length ≤ 16 := by
 obtain ⟨h1, h2, _⟩ := wB (oM g) xs (W2 g).2 (min xs.length 16);exact ⟨h1, Nat.le_trans h2 (by omega)⟩
def q5u (a b : aB) : Prop := ¬ (a.kind = 1 ∧ b.kind = 1 ∧ a.image = b.image)
theorem Bn {a b c : aB} (h1 : eN a b = true) (h2 : eN b c = true) : eN a c = true := by
 unfold eN at *;simp only [Bool.or_eq_true, Bool.and_eq_true, decide_eq_true_eq] at *;omega
theorem Id (l : List aB) : K9 l = true ↔ (∀ e ∈ l, fI e = true) ∧ l.Pairwise (fun a b => eN a b = true) ∧ l.Pairwise q5u := by
 unfold K9;rw [List.all_eq_true];have hget : ∀ i (h : i < l.length), evt l i = l[i] := fun i h => by unfold evt; rw [List.getD_eq_getElem?_getD, List.getElem?_eq_getElem h]; rfl
 have hdup : ∀ i (h : i < l.length), I9 (l.take i) (evt l i) = true ↔ ∃ j, ∃ hj : j < i, (l[j]'(by omega)).kind = 1 ∧ (l[j]'(by omega)).image = l[i].image := fun i h => by
  unfold I9;rw [hget i h, List.any_eq_true];constructor
  ·rintro ⟨d, hd, hp⟩;obtain ⟨j, hj, rfl⟩ := List.getElem_of_mem hd;simp only [List.length_take] at hj;simp only [Bool.and_eq_true, decide_eq_true_eq, List.getElem_take] at hp;exact ⟨j, by omega, hp.1, hp.2⟩
  ·rintro ⟨j, hj, h1, h2⟩;refine ⟨l[j]'(by omega), ?_, by simp [h1, h2]⟩;rw [List.mem_iff_getElem?];exact ⟨j, by rw [List.getElem?_take, if_pos hj, List.getElem?_eq_getElem (by omega)]⟩
 constructor
 ·intro h;have hok := fun i (hi : i < l.length) => h i (List.mem_range.2 hi);have hadj : ∀ i (hi : i + 1 < l.length), eN (l[i]'(by omega)) l[i + 1] = true := fun i hi => by
   have := hok (i + 1) hi;unfold vN at this;simp only [Bool.and_eq_true, Bool.or_eq_true, decide_eq_true_eq] at this;have h2 := this.1.2.resolve_left (by omega)
   rwa [hget (i + 1) hi, show i + 1 - 1 = i from rfl, hget i (by omega)] at h2
  have hlt : ∀ d i (hi : i + d + 1 < l.length), eN (l[i]'(by omega)) l[i + d + 1] = true := by
   intro d
   induction d with
   | zero => intro i hi; exact hadj i hi
   | succ d ih => intro i hi; exact Bn (ih i (by omega)) (hadj (i + d + 1) hi)
  refine ⟨fun e he => ?_, ?_, ?_⟩
  ·obtain ⟨i, hi, rfl⟩ := List.getElem_of_mem he;have := hok i hi;unfold vN at this;simp only [Bool.and_eq_true] at this;rw [← hget i hi]; exact this.1.1
  ·rw [List.pairwise_iff_getElem];intro i j hi hj hij;have := hlt (j - i - 1) i (by omega);simpa [show i + (j - i - 1) + 1 = j by omega] using this
  ·rw [List.pairwise_iff_getElem];intro i j hi hj hij hc;have := hok j hj;unfold vN at this;simp only [Bool.and_eq_true, Bool.not_eq_true', Bool.and_eq_false_iff, decide_eq_false_iff_not] at this;rcases this.2 with h2 | h2
   ·exact h2 (by rw [hget j hj]; exact hc.2.1)
   ·have := (hdup j hj).2 ⟨i, hij, hc.1, hc.2.2⟩;rw [h2] at this; cases this
 ·rintro ⟨h1, h2, h3⟩ i hi;have hi := List.mem_range.1 hi;unfold vN;simp only [Bool.and_eq_true, Bool.or_eq_true, decide_eq_true_eq, Bool.not_eq_true', Bool.and_eq_false_iff, decide_eq_false_iff_not];refine ⟨⟨by rw [hget i hi]; exact h1 _ (List.getElem_mem _), ?_⟩, ?_⟩
  ·rcases Nat.eq_zero_or_pos i with h | h
   ·exact .inl h
   ·right;rw [hget i hi, hget (i - 1) (by omega)];exact List.pairwise_iff_getElem.1 h2 (i - 1) i (by omega) hi (by omega)
  ·by_cases hk : (evt l i).kind = 1
   ·right;cases hd : I9 (l.take i) (evt l i) with
    | false => rfl
    | true =>
     obtain ⟨j, hj, e1, e2⟩ := (hdup i hi).1 hd;exact absurd ⟨e1, by rw [← hget i hi]; exact hk, e2⟩ (List.pairwise_iff_getElem.1 h3 j i (by omega) hi hj)
   ·exact .inl hk
end Go.SX
namespace Go.SX
def leE (a b : aB) : Prop := eN b a = false
def oR (x e : aB) : Bool := decide (x.at_ = e.at_) && decide (x.kind = e.kind) && decide (x.image = e.image)
theorem hP {x e : aB} : oR x e = true ↔ x.at_ = e.at_ ∧ x.kind = e.kind ∧ x.image = e.image := by
 unfold oR; simp only [Bool.and_eq_true, decide_eq_true_eq, and_assoc]
theorem hZ {a b : aB} : eN a b = true ↔ a.at_ < b.at_ ∨ a.at_ = b.at_ ∧ (a.kind < b.kind ∨ a.kind = b.kind ∧ a.image < b.image) := by
 unfold eN; simp only [Bool.or_eq_true, Bool.and_eq_true, decide_eq_true_eq]
theorem tA {a b : aB} : leE a b ↔ a.at_ < b.at_ ∨ a.at_ = b.at_ ∧ (a.kind < b.kind ∨ a.kind = b.kind ∧ a.image ≤ b.image) := by
 unfold leE;rw [← Bool.not_eq_true, hZ]; omega
theorem uW (x : aB) : oR x x = true := by rw [hP]; exact ⟨rfl, rfl, rfl⟩
theorem X0 (x : aB) : leE x x := by rw [tA]; omega
theorem tQ {a b c : aB} (h1 : leE a b) (h2 : leE b c) : leE a c := by rw [tA] at *; omega
theorem uT {a b : aB} (h : eN a b = true) : leE a b := by rw [tA]; rw [hZ] at h; omega
theorem Dv {a b c : aB} (h1 : eN a b = true) (h2 : leE b c) : eN a c = true := by rw [tA] at h2; rw [hZ] at *; omega
theorem P8 {a b c : aB} (h1 : leE a b) (h2 : eN b c = true) : eN a c = true := by rw [tA] at h1; rw [hZ] at *; omega
theorem Uc {a b : aB} (h1 : leE a b) (h2 : leE b a) : oR a b = true := by rw [tA] at *; rw [hP]; omega
theorem Zy {x a b : aB} (h : eN a b = true) (h1 : oR x b = true) : oR x a = false := by
 rw [← Bool.not_eq_true, hP]; rw [hZ] at h; rw [hP] at h1; omega
def Fx (l : List aB) : Prop := l.Pairwise leE
def dB (l m : List aB) : Prop := ∀ x, l.filter (oR x) = m.filter (oR x)
theorem dB.rfl {l : List aB} : dB l l := fun _ => _root_.rfl
theorem dB.symm {l m : List aB} (h : dB l m) : dB m l := fun x => (h x).symm
theorem dB.trans {l m n : List aB} (h : dB l m) (h2 : dB m n) : dB l n := fun x => (h x).trans (h2 x)
theorem dB.app {l l' m m' : List aB} (h : dB l l') (h2 : dB m m') : dB (l ++ m) (l' ++ m') := fun x => by
 rw [List.filter_append, List.filter_append, h x, h2 x]
theorem dB.swap {l m : List aB} (h : ∀ a ∈ l, ∀ b ∈ m, eN b a = true) : dB (l ++ m) (m ++ l) := fun x => by
 rw [List.filter_append, List.filter_append]
 by_cases hl : l.filter (oR x) = []
 ·rw [hl]; simp
 ·have hm : m.filter (oR x) = [] := by
   obtain ⟨a, ha⟩ := List.exists_mem_of_ne_nil _ hl;obtain ⟨ha1, ha2⟩ := List.mem_filter.1 ha;rw [List.filter_eq_nil_iff];intro b hb;rw [Zy (h a ha1 b hb) ha2]; simp
  rw [hm]; simp
theorem dB.mem {l m : List aB} (h : dB l m) {x : aB} (hx : x ∈ l) : x ∈ m := by
 have : x ∈ l.filter (oR x) := List.mem_filter.2 ⟨hx, uW x⟩;rw [h x] at this;exact (List.mem_filter.1 this).1
theorem Lk : ∀ {l m : List aB}, Fx l → Fx m → dB l m → l = m
 | [], [], _, _, _ => rfl
 | [], b :: m, _, _, h => by have := h.symm.mem (x := b) (by simp); cases this
 | a :: l, [], _, _, h => by have := h.mem (x := a) (by simp); cases this
 | a :: l, b :: m, h1, h2, h => by
  have ha : a ∈ b :: m := h.mem (by simp);have hb : b ∈ a :: l := h.symm.mem (by simp);have h1' := List.pairwise_cons.1 h1;have h2' := List.pairwise_cons.1 h2;have e1 : leE b a := by
   rcases List.mem_cons.1 ha with rfl | ha
   ·exact X0 _
   ·exact h2'.1 a ha
  have e2 : leE a b := by
   rcases List.mem_cons.1 hb with rfl | hb
   ·exact X0 _
   ·exact h1'.1 b hb
  have hk := Uc e2 e1;have hh := h a;rw [List.filter_cons, if_pos (uW a), List.filter_cons, if_pos hk] at hh;obtain ⟨rfl, _⟩ := List.cons.inj hh;congr 1;refine Lk h1'.2 h2'.2 fun x => ?_;have := h x;rw [List.filter_cons, List.filter_cons] at this;split at this
  ·exact (List.cons.inj this).2
  ·exact this
def Wt (x : aB) : List aB → List aB
 | [] => [x]
 | y :: l => if eN y x then y :: Wt x l else x :: y :: l
def aV : List aB → List aB
 | [] => []
 | x :: l => Wt x (aV l)
theorem A0 (x : aB) : ∀ l : List aB, dB (Wt x l) (x :: l)
 | [] => dB.rfl
 | y :: l => by
  rw [Wt];split
  ·rename_i h;have h1 : dB ([y] ++ Wt x l) ([y] ++ (x :: l)) := dB.rfl.app (A0 x l);have h2 : dB ([x] ++ [y]) ([y] ++ [x]) := dB.swap (l := [x]) (m := [y]) fun a ha b hb => by rw [List.mem_singleton.1 ha, List.mem_singleton.1 hb]; exact h
   exact h1.trans ((h2.symm).app (dB.rfl (l := l)))
  ·exact dB.rfl
theorem Kf (x : aB) : ∀ l : List aB, (Wt x l).length = l.length + 1
 | [] => rfl
 | y :: l => by
  rw [Wt];split
  ·rw [List.length_cons, Kf x l]; rfl
  ·rfl
theorem Km (x : aB) : ∀ {l : List aB}, Fx l → Fx (Wt x l)
 | [], _ => List.pairwise_singleton _ _
 | y :: l, h => by
  have h' := List.pairwise_cons.1 h;rw [Wt];split
  ·rename_i hb;refine List.pairwise_cons.2 ⟨fun z hz => ?_, Km x h'.2⟩;have := (A0 x l).mem hz;rcases List.mem_cons.1 this with rfl | hz
   ·exact uT hb
   ·exact h'.1 z hz
  ·rename_i hb;have hxy : leE x y := by unfold leE; simpa using hb
   refine List.pairwise_cons.2 ⟨fun z hz => ?_, h⟩;rcases List.mem_cons.1 hz with rfl | hz
   ·exact hxy
   ·exact tQ hxy (h'.1 z hz)
theorem fE : ∀ l : List aB, Fx (aV l)
 | [] => List.Pairwise.nil
 | x :: l => Km x (fE l)
theorem dR : ∀ l : List aB, dB (aV l) l
 | [] => dB.rfl
 | x :: l => (A0 x _).trans ((dB.rfl (l := [x])).app (dR l))
theorem bA : ∀ l : List aB, (aV l).length = l.length
 | [] => rfl
 | x :: l => by rw [aV, Kf, bA l]; rfl
theorem Av {l : List aB} {x : aB} : x ∈ aV l ↔ x ∈ l := ⟨(dR l).mem, (dR l).symm.mem⟩
theorem uY {l m : List aB} (h : Fx m) (h2 : dB m l) : aV l = m := Lk (fE l) h ((dR l).trans h2.symm)
theorem yF {l : List aB} (h : Fx l) : aV l = l := uY h dB.rfl
theorem sP {l m : List aB} (h : dB l m) : aV l = aV m := uY (fE m) ((dR m).trans h.symm)
theorem Qc {l m : List aB} (h : ∀ a ∈ l, ∀ b ∈ m, leE a b) : aV (l ++ m) = aV l ++ aV m := by
 refine uY ?_ ((dR l).app (dR m));exact List.pairwise_append.2 ⟨fE l, fE m, fun a ha b hb => h a (Av.1 ha) b (Av.1 hb)⟩
theorem S0 (l m : List aB) : aV (aV l ++ aV m) = aV (l ++ m) := sP ((dR l).app (dR m))
theorem Ti {u v : List aB} {x : aB} (hs : Fx (u ++ v)) (h1 : ∀ y ∈ v, eN x y = true) (h2 : ∀ y, u.getLast? = some y → leE y x) : aV (u ++ v ++ [x]) = u ++ x :: v := by
 obtain ⟨hu, hv, huv⟩ := List.pairwise_append.1 hs;refine uY ?_ ?_
 ·refine List.pairwise_append.2 ⟨hu, List.pairwise_cons.2 ⟨fun y hy => uT (h1 y hy), hv⟩, fun a ha b hb => ?_⟩;rcases List.mem_cons.1 hb with rfl | hb
  ·rcases List.eq_nil_or_concat u with rfl | ⟨w, y, rfl⟩
   ·cases ha
   ·have hy := h2 y (by simp);rcases List.mem_append.1 (List.concat_eq_append ▸ ha) with ha | ha
    ·rw [List.concat_eq_append] at hu;exact tQ ((List.pairwise_append.1 hu).2.2 a ha y (by simp)) hy
    ·rw [List.mem_singleton.1 ha]; exact hy
  ·exact huv a ha b hb
 ·rw [List.append_assoc];refine dB.app dB.rfl ?_;exact dB.swap (l := [x]) (m := v) |> fun h => by
   have : dB (v ++ [x]) ([x] ++ v) := dB.swap fun a ha b hb => by rw [List.mem_singleton.1 hb]; exact h1 a ha
   exact this.symm
theorem Wm {u v : List aB} {x : aB} (hs : Fx (u ++ v)) (h1 : ∀ y ∈ u, eN y x = true) (h2 : ∀ y ∈ v, leE x y) : aV (x :: (u ++ v)) = u ++ x :: v := by
 obtain ⟨hu, hv, huv⟩ := List.pairwise_append.1 hs;refine uY ?_ ?_
 ·refine List.pairwise_append.2 ⟨hu, List.pairwise_cons.2 ⟨h2, hv⟩, fun a ha b hb => ?_⟩;rcases List.mem_cons.1 hb with rfl | hb
  ·exact uT (h1 a ha)
  ·exact huv a ha b hb
 ·have : dB ([x] ++ u) (u ++ [x]) := dB.swap fun a ha b hb => by rw [List.mem_singleton.1 ha]; exact h1 b hb
  have := (this.app (dB.rfl (l := v))).symm;simpa using this
theorem Zi {u v : List aB} {x : aB} (hs : Fx (u ++ v)) (h1 : ∀ y ∈ u, leE y x) (h2 : ∀ y ∈ v, eN x y = true) : aV (u ++ v ++ [x]) = u ++ x :: v :=
 Ti hs h2 fun y hy => h1 y (List.mem_of_getLast? hy)
theorem Zf {L1 L2 R1 R2 : List aB} (hL : Fx (L1 ++ L2)) (hR : Fx (R1 ++ R2)) (h1 : ∀ a ∈ L1, ∀ b ∈ R2, leE a b) (h2 : ∀ a ∈ L2, ∀ b ∈ R1, eN b a = true) :
  aV (L1 ++ L2 ++ (R1 ++ R2)) = aV (L1 ++ R1) ++ aV (L2 ++ R2) := by
 have hl := (List.pairwise_append.1 hL).2.2;have hr := (List.pairwise_append.1 hR).2.2;rw [← Qc fun a ha b hb => ?_]
 ·refine sP ?_;have h3 : dB (L2 ++ R1) (R1 ++ L2) := dB.swap h2;have := (dB.rfl (l := L1)).app (h3.app (dB.rfl (l := R2)));simpa [List.append_assoc] using this
 ·rcases List.mem_append.1 ha with ha | ha <;> rcases List.mem_append.1 hb with hb | hb
  ·exact hl a ha b hb
  ·exact h1 a ha b hb
  ·exact uT (h2 b hb a ha)
  ·exact hr a ha b hb
def kY (k : Nat) : Nat → List aB → List aB
 | 0, l => aV l
 | n + 1, l => if l.length ≤ k then aV l else aV (l.take k) ++ kY k n (l.drop k)
def dN (k : Nat) (l : List aB) : List aB := kY k l.length l
theorem zH {k : Nat} (hk : 0 < k) : ∀ (n m : Nat) (l : List aB), l.length ≤ n → l.length ≤ m → kY k n l = kY k m l
 | 0, 0, l, _, _ => rfl
 | 0, m + 1, l, h, _ => by
  rw [kY, kY, if_pos (by omega)]
 | n + 1, 0, l, _, h => by
  rw [kY, kY, if_pos (by omega)]
 | n + 1, m + 1, l, h1, h2 => by
  rw [kY, kY];split
  ·rfl
  ·rw [zH hk n m _ (by simp; omega) (by simp; omega)]
theorem jA {k : Nat} {l : List aB} (h : l.length ≤ k) : dN k l = aV l := by
 unfold dN;cases l.length with
 | zero => rfl
 | succ n => rw [kY, if_pos h]
theorem oV {k : Nat} (hk : 0 < k) {l : List aB} (h : k ≤ l.length) : dN k l = aV (l.take k) ++ dN k (l.drop k) := by
 rcases Nat.eq_or_lt_of_le h with he | hlt
 ·rw [jA (by omega), List.take_of_length_le (by omega), List.drop_of_length_le (by omega), jA (by simp)];simp [aV]
 ·unfold dN;obtain ⟨n, hn⟩ : ∃ n, l.length = n + 1 := ⟨l.length - 1, by omega⟩;rw [hn, kY, if_neg (by omega), zH hk n (l.drop k).length _ (by simp; omega) (Nat.le_refl _)]
theorem M9 {k : Nat} : ∀ (n : Nat) (l : List aB), (kY k n l).length = l.length
 | 0, l => bA l
 | n + 1, l => by
  rw [kY];split
  ·exact bA l
  ·rw [List.length_append, bA, M9 n]; simp; omega
theorem fL (k : Nat) (l : List aB) : (dN k l).length = l.length := M9 _ _
def Bg : Option aB → List aB → List aB
 | _, [] => []
 | p, a :: l => if (p.map (oR a)).getD false then Bg (some a) l else a :: Bg (some a) l
def I0 (l : List aB) : List aB := Bg none l
def Pp (l : List aB) : Prop := l.Pairwise (fun a b => eN a b = true)
theorem S3 (x : aB) : ∀ (p : Option aB) (l : List aB), (∀ q, p = some q → oR x q = false) → (Bg p l).find? (oR x) = l.find? (oR x)
 | _, [], _ => rfl
 | p, a :: l, hp => by
  rw [Bg];split
  ·rename_i h;cases p with
   | none => cases h
   | some q =>
    have hq := hp q rfl;have hk : oR a q = true := h;have hxa : oR x a = false := by
     rw [← Bool.not_eq_true, hP] at hq ⊢;rw [hP] at hk;omega
    rw [List.find?_cons_of_neg (by rw [hxa]; simp)];exact S3 x (some a) l fun q hq => by injection hq with hq; subst hq; exact hxa
  ·by_cases hxa : oR x a = true
   ·rw [List.find?_cons_of_pos hxa, List.find?_cons_of_pos hxa]
   ·rw [List.find?_cons_of_neg hxa, List.find?_cons_of_neg hxa];exact S3 x (some a) l fun q hq => by injection hq with hq; subst hq; simpa using hxa
theorem Un : ∀ (p : Option aB) (l : List aB), Fx l → (∀ q, p = some q → ∀ a ∈ l, leE q a) → Pp (Bg p l) ∧ (∀ x ∈ Bg p l, x ∈ l ∧ ∀ q, p = some q → eN q x = true)
 | _, [], _, _ => ⟨List.Pairwise.nil, fun x hx => by cases hx⟩
 | p, a :: l, hs, hp => by
  have hs' := List.pairwise_cons.1 hs;obtain ⟨i1, i2⟩ := Un (some a) l hs'.2 fun q hq b hb => by injection hq with hq; subst hq; exact hs'.1 b hb
  rw [Bg];split
  ·rename_i h;refine ⟨i1, fun x hx => ?_⟩;obtain ⟨h1, h2⟩ := i2 x hx;exact ⟨by simp [h1], fun q hq => P8 (hp q hq a (by simp)) (h2 a rfl)⟩
  ·rename_i h;refine ⟨List.pairwise_cons.2 ⟨fun x hx => (i2 x hx).2 a rfl, i1⟩, fun x hx => ?_⟩;have hpa : ∀ q, p = some q → eN q a = true := fun q hq => by
    subst hq;have hk : ¬ oR a q = true := h;have hle := hp q rfl a (by simp);rw [hP] at hk;rw [tA] at hle;rw [hZ];omega
   rcases List.mem_cons.1 hx with rfl | hx
   ·exact ⟨by simp, hpa⟩
   ·exact ⟨by simp [(i2 x hx).1], fun q hq => Bn (hpa q hq) ((i2 x hx).2 a rfl)⟩
def aY (l : List aB) : List aB := I0 (aV l)
theorem gW (l : List aB) : Pp (aY l) := (Un none _ (fE l) fun q h => by cases h).1
theorem sX {p : aB → Bool} : ∀ l : List aB, l.find? p = (l.filter p).head?
 | [] => rfl
 | a :: l => by
  by_cases h : p a = true
  ·rw [List.find?_cons_of_pos h, List.filter_cons, if_pos h]; rfl
  ·rw [List.find?_cons_of_neg h, List.filter_cons, if_neg h]; exact sX l
theorem P2 (l : List aB) (x : aB) : (aY l).find? (oR x) = l.find? (oR x) := by
 unfold aY I0;rw [S3 x none _ (fun q h => (by injection h)), sX, sX, dR l x]
end Go.SX
namespace Go.SX
def swS (D : List aB) (x y : Nat) : List aB := (D.set x (D.getD y (U.dflt .event))).set y (D.getD x (U.dflt .event))
theorem Jh (D : List aB) (x y : Nat) : (swS D x y).length = D.length := by unfold swS; simp
theorem q23 (A B C : List aB) (u v : aB) {x y : Nat} (hx : x = A.length) (hy : y = A.length + 1 + B.length) : swS (A ++ u :: (B ++ v :: C)) x y = A ++ v :: (B ++ u :: C) := by
 subst hx hy;unfold swS;have e1 : (A ++ u :: (B ++ v :: C)).getD A.length (U.dflt .event) = u := by simp [List.getD_eq_getElem?_getD]
 have e2 : (A ++ u :: (B ++ v :: C)).getD (A.length + 1 + B.length) (U.dflt .event) = v := by
  rw [List.getD_eq_getElem?_getD, List.getElem?_append_right (by omega), show A.length + 1 + B.length - A.length = B.length + 1 by omega, List.getElem?_cons_succ, List.getElem?_append_right (by omega)];simp
 rw [e1, e2, List.set_append_right _ _ (Nat.le_refl _), Nat.sub_self, List.set_cons_zero, List.set_append_right _ _ (by omega), show A.length + 1 + B.length - A.length = B.length + 1 by omega, List.set_cons_succ, List.set_append_right _ _ (Nat.le_refl _), Nat.sub_self, List.set_cons_zero]
theorem Le (D : List aB) {x y : Nat} (h : x ≠ y) : swS D x y = swS D y x := by
 unfold swS;rw [List.set_comm _ _ (Ne.symm h)]
theorem tE {l : List aB} {k : Nat} (h : k < l.length) : l.drop k = l.getD k (U.dflt .event) :: l.drop (k + 1) := iT (d := U.dflt .event) h
theorem kF {l : List aB} {k : Nat} (h : k < l.length) : l.take (k + 1) = l.take k ++ [l.getD k (U.dflt .event)] := gF (d := U.dflt .event) h
def Hz (P V Q W S : List aB) (k : Nat) : List aB := P ++ (W.take k ++ V.drop k) ++ Q ++ (V.take k ++ W.drop k) ++ S
theorem B2 (P V Q W S : List aB) : Hz P V Q W S 0 = P ++ V ++ Q ++ W ++ S := by simp [Hz]
theorem V2 (P V Q W S : List aB) (h : V.length = W.length) : Hz P V Q W S V.length = P ++ W ++ Q ++ V ++ S := by
 unfold Hz;rw [List.take_of_length_le (l := W) (by omega), List.drop_of_length_le (l := V) (Nat.le_refl _), List.take_of_length_le (l := V) (Nat.le_refl _), List.drop_of_length_le (l := W) (by omega)];simp
theorem U7 (P V Q W S : List aB) {k : Nat} (h : V.length = W.length) (hk : k ≤ V.length) : (Hz P V Q W S k).length = (P ++ V ++ Q ++ W ++ S).length := by
 unfold Hz;simp only [List.length_append, List.length_take, List.length_drop]; omega
theorem G9 (P V Q W S : List aB) {k a b : Nat} (h : V.length = W.length) (hk : k < V.length) (ha : a = P.length) (hb : b = P.length + V.length + Q.length) : swS (Hz P V Q W S k) (a + k) (b + k) = Hz P V Q W S (k + 1) := by
 have e1 : Hz P V Q W S k = (P ++ W.take k) ++ V.getD k (U.dflt .event) :: ((V.drop (k + 1) ++ Q ++ V.take k) ++ W.getD k (U.dflt .event) :: (W.drop (k + 1) ++ S)) := by
  unfold Hz;rw [tE hk, tE (l := W) (by omega)];simp [List.append_assoc]
 have e2 : Hz P V Q W S (k + 1) = (P ++ W.take k) ++ W.getD k (U.dflt .event) :: ((V.drop (k + 1) ++ Q ++ V.take k) ++ V.getD k (U.dflt .event) :: (W.drop (k + 1) ++ S)) := by
  unfold Hz;rw [kF hk, kF (l := W) (by omega)];simp [List.append_assoc]
 rw [e1, e2];refine q23 _ _ _ _ _ ?_ ?_
 ·simp only [List.length_append, List.length_take]; omega
 ·simp only [List.length_append, List.length_take, List.length_drop]; omega
theorem Al (A C : List aB) (u v : aB) {x y : Nat} (hx : x = A.length) (hy : y = A.length + 1) : swS (A ++ u :: v :: C) x y = A ++ v :: u :: C := by
 have := q23 A [] C u v (x := x) (y := y) hx (by simpa using hy);simpa using this
theorem lX {A L B : List aB} {k a : Nat} (h : k < L.length) (ha : a = A.length) : (A ++ L ++ B).getD (a + k) (U.dflt .event) = L.getD k (U.dflt .event) := by
 subst ha;simp only [List.getD_eq_getElem?_getD];rw [List.append_assoc, List.getElem?_append_right (by omega), show A.length + k - A.length = k by omega, List.getElem?_append_left h]
theorem Xw {l : List aB} {k : Nat} (h : k < l.length) : l.getD k (U.dflt .event) ∈ l := by
 rw [List.getD_eq_getElem?_getD, List.getElem?_eq_getElem h]; exact List.getElem_mem _
theorem Vy {l : List aB} (h : Fx l) {i j : Nat} (hij : i ≤ j) (hj : j < l.length) : leE (l.getD i (U.dflt .event)) (l.getD j (U.dflt .event)) := by
 rcases Nat.lt_or_ge i j with hlt | hge
 ·have := List.pairwise_iff_getElem.1 h i j (by omega) hj hlt;simp only [List.getD_eq_getElem?_getD, List.getElem?_eq_getElem hj, List.getElem?_eq_getElem (show i < l.length by omega)];exact this
 ·rw [show i = j by omega]; exact X0 _
theorem lC {l : List aB} {k : Nat} {y : aB} (h : y ∈ l.take k) : ∃ i, i < k ∧ i < l.length ∧ y = l.getD i (U.dflt .event) := by
 obtain ⟨i, hi, rfl⟩ := List.getElem_of_mem h;simp only [List.length_take] at hi;exact ⟨i, by omega, by omega, by rw [List.getElem_take, List.getD_eq_getElem?_getD, List.getElem?_eq_getElem (by omega)]; rfl⟩
theorem lR {l : List aB} {k : Nat} {y : aB} (h : y ∈ l.drop k) : ∃ i, k ≤ i ∧ i < l.length ∧ y = l.getD i (U.dflt .event) := by
 obtain ⟨i, hi, rfl⟩ := List.getElem_of_mem h;simp only [List.length_drop] at hi;exact ⟨k + i, by omega, by omega, by rw [List.getElem_drop, List.getD_eq_getElem?_getD, List.getElem?_eq_getElem (by omega)]; rfl⟩
theorem rG {a b : aB} : Nx a b < 0 ↔ eN a b = true := by
 have := Wf a b;rw [Bool.eq_iff_iff] at this;simp only [decide_eq_true_eq, Bool.not_eq_true'] at this;constructor
 ·intro h;cases hb : eN a b with
  | true => rfl
  | false => have := this.2 hb; omega
 ·intro h;rcases (show Nx a b < 0 ∨ 0 ≤ Nx a b by omega) with h' | h'
  ·exact h'
  ·have := this.1 h'; rw [h] at this; cases this
theorem oX {a b : aB} (h : eN a b = false) : ¬ Nx a b < 0 := fun h' => by rw [rG, h] at h'; cases h'
end Go.SX
namespace Go.SX
structure Rot (T J : List aB) (m i j : Nat) : Prop where
 ex : ∃ P V W S : List aB, J = P ++ V ++ W ++ S ∧ T = P ++ W ++ V ++ S ∧ P.length + V.length = m ∧ V.length = i ∧ W.length = j ∧ 0 < i ∧ 0 < j
theorem Rot.bd {T J : List aB} {m i j : Nat} (h : Rot T J m i j) : i ≤ m ∧ m + j ≤ J.length ∧ 0 < i ∧ 0 < j ∧ J.length = T.length := by
 obtain ⟨P, V, W, S, rfl, rfl, h1, h2, h3, h4, h5⟩ := h;simp only [List.length_append]; omega
theorem Rot.gt {T J : List aB} {m i j : Nat} (h : Rot T J m i j) (hij : j < i) : ∃ f : Nat → List aB, f 0 = J ∧ (∀ k, k ≤ j → (f k).length = J.length) ∧ (∀ k, k < j → swS (f k) (m - i + k) (m + k) = f (k + 1)) ∧ Rot T (f j) m (i - j) j := by
 obtain ⟨P, V, W, S, rfl, rfl, h1, h2, h3, h4, h5⟩ := h;have hs : V = V.take j ++ V.drop j := (List.take_append_drop j V).symm;have hl : (V.take j).length = W.length := by rw [List.length_take]; omega
 have e0 : P ++ V ++ W ++ S = P ++ V.take j ++ V.drop j ++ W ++ S := by
  conv => lhs; rw [hs]
  simp [List.append_assoc]
 refine ⟨Hz P (V.take j) (V.drop j) W S, by rw [B2, e0], fun k hk => by rw [U7 _ _ _ _ _ hl (by omega), e0], fun k hk => G9 _ _ _ _ _ hl (by omega) (by omega) (by simp only [List.length_take, List.length_drop]; omega), ?_⟩;have e1 := V2 P (V.take j) (V.drop j) W S hl;rw [show (V.take j).length = j by omega] at e1;refine ⟨P ++ W, V.drop j, V.take j, S, e1, ?_, ?_, ?_, ?_, by omega, h5⟩
 ·conv => lhs; rw [hs]
  simp [List.append_assoc]
 ·simp only [List.length_append, List.length_drop]; omega
 ·simp only [List.length_drop]; omega
 ·omega
theorem Rot.lt {T J : List aB} {m i j : Nat} (h : Rot T J m i j) (hij : i < j) : ∃ f : Nat → List aB, f 0 = J ∧ (∀ k, k ≤ i → (f k).length = J.length) ∧ (∀ k, k < i → swS (f k) (m - i + k) (m + j - i + k) = f (k + 1)) ∧ Rot T (f i) m i (j - i) := by
 obtain ⟨P, V, W, S, rfl, rfl, h1, h2, h3, h4, h5⟩ := h;have hs : W = W.take (j - i) ++ W.drop (j - i) := (List.take_append_drop (j - i) W).symm;have hl : V.length = (W.drop (j - i)).length := by rw [List.length_drop]; omega
 have e0 : P ++ V ++ W ++ S = P ++ V ++ W.take (j - i) ++ W.drop (j - i) ++ S := by
  conv => lhs; rw [hs]
  simp [List.append_assoc]
 refine ⟨Hz P V (W.take (j - i)) (W.drop (j - i)) S, by rw [B2, e0], fun k hk => by rw [U7 _ _ _ _ _ hl (by omega), e0], fun k hk => G9 _ _ _ _ _ hl (by omega) (by omega) (by simp only [List.length_take]; omega), ?_⟩;have e1 := V2 P V (W.take (j - i)) (W.drop (j - i)) S hl;rw [h2] at e1;refine ⟨P, W.drop (j - i), W.take (j - i), V ++ S, by rw [e1]; simp [List.append_assoc], ?_, ?_, ?_, ?_, h4, by omega⟩
 ·conv => lhs; rw [hs]
  simp [List.append_assoc]
 ·omega
 ·omega
 ·simp only [List.length_take]; omega
theorem Rot.eq {T J : List aB} {m i : Nat} (h : Rot T J m i i) : ∃ f : Nat → List aB, f 0 = J ∧ (∀ k, k ≤ i → (f k).length = J.length) ∧ (∀ k, k < i → swS (f k) (m - i + k) (m + k) = f (k + 1)) ∧ f i = T := by
 obtain ⟨P, V, W, S, rfl, rfl, h1, h2, h3, h4, h5⟩ := h;have hl : V.length = W.length := by omega
 have e1 := V2 P V [] W S hl;rw [h2] at e1;refine ⟨Hz P V [] W S, by rw [B2]; simp, fun k hk => by rw [U7 _ _ _ _ _ hl (by omega)]; simp, fun k hk => G9 _ _ _ _ _ hl (by omega) (by omega) (by simp; omega), by rw [e1]; simp⟩
structure Sym (T D : List aB) (a m b : Nat) : Prop where
 ex : ∃ A L R B : List aB, D = A ++ L ++ R ++ B ∧ T = A ++ aV (L ++ R) ++ B ∧ Fx L ∧ Fx R ∧ A.length = a ∧ a + L.length = m ∧ m + R.length = b ∧ 0 < L.length ∧ 0 < R.length
theorem Sym.bd {T D : List aB} {a m b : Nat} (h : Sym T D a m b) : a < m ∧ m < b ∧ b ≤ D.length ∧ D.length = T.length := by
 obtain ⟨A, L, R, B, rfl, rfl, h1, h2, h3, h4, h5, h6, h7⟩ := h;simp only [List.length_append, bA]; omega
abbrev dE : aB := U.dflt .event
theorem Sym.srt {T D : List aB} {a m b : Nat} (h : Sym T D a m b) : (∀ x y, a ≤ x → x ≤ y → y < m → leE (D.getD x dE) (D.getD y dE)) ∧ (∀ x y, m ≤ x → x ≤ y → y < b → leE (D.getD x dE) (D.getD y dE)) := by
 obtain ⟨A, L, R, B, rfl, rfl, h1, h2, h3, h4, h5, h6, h7⟩ := h;refine ⟨fun x y hx hy hm => ?_, fun x y hx hy hm => ?_⟩
 ·have e1 := lX (A := A) (L := L) (B := R ++ B) (k := x - a) (a := a) (by omega) h3.symm;have e2 := lX (A := A) (L := L) (B := R ++ B) (k := y - a) (a := a) (by omega) h3.symm;rw [← List.append_assoc, show a + (x - a) = x by omega] at e1;rw [← List.append_assoc, show a + (y - a) = y by omega] at e2;rw [show (dE : aB) = U.dflt .event from rfl, e1, e2];exact Vy h1 (by omega) (by omega)
 ·have e1 := lX (A := A ++ L) (L := R) (B := B) (k := x - m) (a := m) (by omega) (by rw [List.length_append]; omega);have e2 := lX (A := A ++ L) (L := R) (B := B) (k := y - m) (a := m) (by omega) (by rw [List.length_append]; omega);rw [show m + (x - m) = x by omega] at e1;rw [show m + (y - m) = y by omega] at e2;rw [show (dE : aB) = U.dflt .event from rfl, e1, e2];exact Vy h2 (by omega) (by omega)
structure MvA (T J : List aB) (i k : Nat) : Prop where
 ex : ∃ (A R B : List aB) (x : aB) (s t : Nat), T = A ++ R.take s ++ x :: R.drop s ++ B ∧ J = A ++ R.take t ++ x :: R.drop t ++ B ∧ A.length + s + 1 = i ∧ k = A.length + t ∧ t ≤ s ∧ s ≤ R.length
theorem MvA.bd {T J : List aB} {i k : Nat} (h : MvA T J i k) : k + 1 ≤ i ∧ i ≤ J.length ∧ J.length = T.length := by
 obtain ⟨A, R, B, x, s, t, rfl, rfl, h1, h2, h3, h4⟩ := h;simp only [List.length_append, List.length_cons, List.length_take, List.length_drop]; omega
theorem MvA.stop {T J : List aB} {i k : Nat} (h : MvA T J i k) (hk : i ≤ k + 1) : J = T := by
 obtain ⟨A, R, B, x, s, t, rfl, rfl, h1, h2, h3, h4⟩ := h;rw [show t = s by omega]
theorem MvA.step {T J : List aB} {i k : Nat} (h : MvA T J i k) (hk : k + 1 < i) : MvA T (swS J k (k + 1)) i (k + 1) := by
 obtain ⟨A, R, B, x, s, t, rfl, rfl, h1, h2, h3, h4⟩ := h;refine ⟨A, R, B, x, s, t + 1, rfl, ?_, h1, by omega, by omega, h4⟩;have e : A ++ R.take t ++ x :: R.drop t ++ B = (A ++ R.take t) ++ x :: R.getD t dE :: (R.drop (t + 1) ++ B) := by
  rw [tE (l := R) (k := t) (by omega)]; simp [List.append_assoc]
 rw [e, Al _ _ _ _ (by simp only [List.length_append, List.length_take]; omega) (by simp only [List.length_append, List.length_take]; omega), kF (l := R) (k := t) (by omega)];simp [List.append_assoc]
structure SrA (D : List aB) (a m b i j : Nat) : Prop where
 bd : m ≤ i ∧ i ≤ j ∧ j ≤ b
 lo : ∀ k, m ≤ k → k < i → eN (D.getD k dE) (D.getD a dE) = true
 hi : ∀ k, j ≤ k → k < b → eN (D.getD k dE) (D.getD a dE) = false
theorem SrA.start {D : List aB} {a m b : Nat} (h : m ≤ b) : SrA D a m b m b := ⟨by omega, fun k h1 h2 => by omega, fun k h1 h2 => by omega⟩
theorem SrA.up {T D : List aB} {a m b i j h : Nat} (hs : Sym T D a m b) (hr : SrA D a m b i j) (h1 : i ≤ h) (h2 : h < j) (hb : eN (D.getD h dE) (D.getD a dE) = true) : SrA D a m b (h + 1) j := by
 have hbd := hr.bd;refine ⟨by omega, fun k k1 k2 => ?_, hr.hi⟩;exact P8 (hs.srt.2 k h k1 (by omega) (by omega)) hb
theorem SrA.down {T D : List aB} {a m b i j h : Nat} (hs : Sym T D a m b) (hr : SrA D a m b i j) (h1 : i ≤ h) (h2 : h < j) (hb : eN (D.getD h dE) (D.getD a dE) = false) : SrA D a m b i h := by
 have hbd := hr.bd;refine ⟨by omega, hr.lo, fun k k1 k2 => ?_⟩;rcases hB : eN (D.getD k dE) (D.getD a dE) with _ | _
 ·rfl
 ·rw [P8 (hs.srt.2 h k (by omega) k1 k2) hB] at hb; cases hb
theorem SrA.stop {T D : List aB} {a m b i : Nat} (hs : Sym T D a m b) (hm : m = a + 1) (hr : SrA D a m b i i) : MvA T D i a := by
  obtain ⟨A, L, R, B, hD, hT, h1, h2, h3, h4, h5, h6, h7⟩ := hs;obtain ⟨x, rfl⟩ : ∃ x, L = [x] := by
    match L, h4 with
    | [x], _ => exact ⟨x, rfl⟩
    | [], h4 => simp at h6
    | _ :: _ :: _, h4 => simp at h4; omega
  have hbd := hr.bd;have ha : D.getD a dE = x := by
    have := lX (A := A) (L := [x]) (B := R ++ B) (k := 0) (a := a) (by simp) h3.symm;rw [← List.append_assoc] at this;rw [hD]; exact this
  have hk : ∀ k, k < R.length → D.getD (m + k) dE = R.getD k dE := fun k hk => by
    rw [hD];exact lX (A := A ++ [x]) (L := R) (B := B) hk (by rw [List.length_append]; simp; omega)
  have hspl := Wm (u := R.take (i - m)) (v := R.drop (i - m)) (x := x) (by rw [List.take_append_drop]; exact h2) (fun y hy => by
    obtain ⟨k, k1, k2, rfl⟩ := lC hy;have := hr.lo (m + k) (by omega) (by omega)
    rwa [hk k k2, ha] at this) (fun y hy => by
    obtain ⟨k, k1, k2, rfl⟩ := lR hy;have := hr.hi (m + k) (by omega) (by omega);rw [hk k k2, ha] at this;exact this)
  rw [List.take_append_drop] at hspl;refine ⟨A, R, B, x, i - m, 0, ?_, ?_, by omega, by omega, by omega, by omega⟩
  · rw [hT, show [x] ++ R = x :: R from rfl, hspl]; simp [List.append_assoc]
  · rw [hD]; simp
structure MvB (T J : List aB) (i k : Nat) : Prop where
 ex : ∃ (A R B : List aB) (x : aB) (s t : Nat), T = A ++ R.take s ++ x :: R.drop s ++ B ∧ J = A ++ R.take t ++ x :: R.drop t ++ B ∧ A.length + s = i ∧ k = A.length + t ∧ s ≤ t ∧ t ≤ R.length
theorem MvB.bd {T J : List aB} {i k : Nat} (h : MvB T J i k) : i ≤ k ∧ k < J.length ∧ J.length = T.length := by
 obtain ⟨A, R, B, x, s, t, rfl, rfl, h1, h2, h3, h4⟩ := h;simp only [List.length_append, List.length_cons, List.length_take, List.length_drop]; omega
theorem MvB.stop {T J : List aB} {i k : Nat} (h : MvB T J i k) (hk : k ≤ i) : J = T := by
 obtain ⟨A, R, B, x, s, t, rfl, rfl, h1, h2, h3, h4⟩ := h;rw [show t = s by omega]
theorem MvB.step {T J : List aB} {i k : Nat} (h : MvB T J i k) (hk : i < k) : MvB T (swS J k (k - 1)) i (k - 1) := by
 obtain ⟨A, R, B, x, s, t, rfl, rfl, h1, h2, h3, h4⟩ := h;obtain ⟨u, rfl⟩ : ∃ u, t = u + 1 := ⟨t - 1, by omega⟩;refine ⟨A, R, B, x, s, u, rfl, ?_, h1, by omega, by omega, by omega⟩;have e : A ++ R.take (u + 1) ++ x :: R.drop (u + 1) ++ B = (A ++ R.take u) ++ R.getD u dE :: x :: (R.drop (u + 1) ++ B) := by
  rw [kF (l := R) (k := u) (by omega)]; simp [List.append_assoc]
 rw [Le _ (by omega), e, Al _ _ _ _ (by simp only [List.length_append, List.length_take]; omega) (by simp only [List.length_append, List.length_take]; omega), tE (l := R) (k := u) (by omega)];simp [List.append_assoc]
structure SrB (D : List aB) (a m b i j : Nat) : Prop where
 bd : a ≤ i ∧ i ≤ j ∧ j ≤ m
 lo : ∀ k, a ≤ k → k < i → eN (D.getD m dE) (D.getD k dE) = false
 hi : ∀ k, j ≤ k → k < m → eN (D.getD m dE) (D.getD k dE) = true
theorem SrB.start {D : List aB} {a m b : Nat} (h : a ≤ m) : SrB D a m b a m := ⟨by omega, fun k h1 h2 => by omega, fun k h1 h2 => by omega⟩
theorem SrB.up {T D : List aB} {a m b i j h : Nat} (hs : Sym T D a m b) (hr : SrB D a m b i j) (h1 : i ≤ h) (h2 : h < j) (hb : eN (D.getD m dE) (D.getD h dE) = false) : SrB D a m b (h + 1) j := by
 have hbd := hr.bd;refine ⟨by omega, fun k k1 k2 => ?_, hr.hi⟩;rcases hB : eN (D.getD m dE) (D.getD k dE) with _ | _
 ·rfl
 ·rw [Dv hB (hs.srt.1 k h k1 (by omega) (by omega))] at hb; cases hb
theorem SrB.down {T D : List aB} {a m b i j h : Nat} (hs : Sym T D a m b) (hr : SrB D a m b i j) (h1 : i ≤ h) (h2 : h < j) (hb : eN (D.getD m dE) (D.getD h dE) = true) : SrB D a m b i h := by
 have hbd := hr.bd;refine ⟨by omega, hr.lo, fun k k1 k2 => ?_⟩;exact Dv hb (hs.srt.1 h k (by omega) k1 k2)
theorem SrB.stop {T D : List aB} {a m b i : Nat} (hs : Sym T D a m b) (hm : b = m + 1) (hr : SrB D a m b i i) : MvB T D i m := by
  obtain ⟨A, L, R, B, hD, hT, h1, h2, h3, h4, h5, h6, h7⟩ := hs;obtain ⟨x, rfl⟩ : ∃ x, R = [x] := by
    match R, h5 with
    | [x], _ => exact ⟨x, rfl⟩
    | [], h5 => simp at h7
    | _ :: _ :: _, h5 => simp at h5; omega
  have hbd := hr.bd;have ha : D.getD m dE = x := by
    have := lX (A := A ++ L) (L := [x]) (B := B) (k := 0) (a := m) (by simp) (by rw [List.length_append]; omega);rw [hD]; exact this
  have hk : ∀ k, k < L.length → D.getD (a + k) dE = L.getD k dE := fun k hk => by
    have := lX (A := A) (L := L) (B := [x] ++ B) (a := a) hk h3.symm;rw [← List.append_assoc] at this;rw [hD]; exact this
  have hspl := Zi (u := L.take (i - a)) (v := L.drop (i - a)) (x := x) (by rw [List.take_append_drop]; exact h1) (fun y hy => by
    obtain ⟨k, k1, k2, rfl⟩ := lC hy;have := hr.lo (a + k) (by omega) (by omega);rw [hk k k2, ha] at this;exact this) (fun y hy => by
    obtain ⟨k, k1, k2, rfl⟩ := lR hy;have := hr.hi (a + k) (by omega) (by omega)
    rwa [hk k k2, ha] at this)
  rw [List.take_append_drop] at hspl;refine ⟨A, L, B, x, i - a, L.length, ?_, ?_, by omega, by omega, by omega, Nat.le_refl _⟩
  · rw [hT, hspl]; simp [List.append_assoc]
  · rw [hD, List.take_length, List.drop_length]
structure SrC (D : List aB) (p lo hi s r : Nat) : Prop where
 bd : lo ≤ s ∧ s ≤ r ∧ r ≤ hi
 dn : ∀ c, lo ≤ c → c < s → eN (D.getD (p - c) dE) (D.getD c dE) = false
 up : ∀ c, r ≤ c → c < hi → eN (D.getD (p - c) dE) (D.getD c dE) = true
structure Bds (a m b mid lo hi : Nat) : Prop where
 hm : mid = (a + b) / 2
 am : a < m ∧ m < b
 hb : (mid < m ∧ lo = mid + m - b ∧ hi = mid) ∨ (m ≤ mid ∧ lo = a ∧ hi = m)
theorem SrC.start {D : List aB} {a m b mid lo hi : Nat} (h : Bds a m b mid lo hi) : SrC D (mid + m - 1) lo hi lo hi := by
 obtain ⟨h1, h2, h3⟩ := h;exact ⟨by omega, fun c h1 h2 => by omega, fun c h1 h2 => by omega⟩
theorem SrC.inc {T D : List aB} {a m b mid lo hi s r c : Nat} (hs : Sym T D a m b) (hB : Bds a m b mid lo hi) (hr : SrC D (mid + m - 1) lo hi s r) (h1 : s ≤ c) (h2 : c < r) (hb : eN (D.getD (mid + m - 1 - c) dE) (D.getD c dE) = false) : SrC D (mid + m - 1) lo hi (c + 1) r := by
 have hbd := hr.bd;obtain ⟨g1, g2, g3⟩ := hB;refine ⟨by omega, fun k k1 k2 => ?_, hr.up⟩;rcases hB : eN (D.getD (mid + m - 1 - k) dE) (D.getD k dE) with _ | _
 ·rfl
 ·have e1 := hs.srt.1 k c (by omega) (by omega) (by omega);have e2 := hs.srt.2 (mid + m - 1 - c) (mid + m - 1 - k) (by omega) (by omega) (by omega);rw [P8 e2 (Dv hB e1)] at hb; cases hb
theorem SrC.dec {T D : List aB} {a m b mid lo hi s r c : Nat} (hs : Sym T D a m b) (hB : Bds a m b mid lo hi) (hr : SrC D (mid + m - 1) lo hi s r) (h1 : s ≤ c) (h2 : c < r) (hb : eN (D.getD (mid + m - 1 - c) dE) (D.getD c dE) = true) : SrC D (mid + m - 1) lo hi s c := by
 have hbd := hr.bd;obtain ⟨g1, g2, g3⟩ := hB;refine ⟨by omega, hr.dn, fun k k1 k2 => ?_⟩;have e1 := hs.srt.1 c k (by omega) (by omega) (by omega);have e2 := hs.srt.2 (mid + m - 1 - k) (mid + m - 1 - c) (by omega) (by omega) (by omega);exact P8 e2 (Dv hb e1)
structure q6k (T D E E1 : List aB) (a m b s en mid : Nat) : Prop where
 bd : a ≤ s ∧ s ≤ m ∧ m ≤ en ∧ en ≤ b ∧ a ≤ mid ∧ s ≤ mid ∧ mid ≤ en ∧ mid < b ∧ a < mid
 lE : E.length = D.length
 lE1 : E1.length = D.length
 rot : s < m → m < en → Rot E D m (m - s) (en - m)
 nrot : ¬ (s < m ∧ m < en) → E = D
 one : a < s → s < mid → Sym E1 E a s mid
 none : ¬ (a < s ∧ s < mid) → E1 = E
 two : mid < en → en < b → Sym T E1 mid en b
 ntwo : ¬ (mid < en ∧ en < b) → T = E1
theorem q1g {T D : List aB} {a m b mid lo hi s en : Nat} (hs : Sym T D a m b) (c1 : a + 1 < m) (c2 : m + 1 < b) (hB : Bds a m b mid lo hi) (hr : SrC D (mid + m - 1) lo hi s s) (hen : en = mid + m - s) : ∃ E E1, q6k T D E E1 a m b s en mid := by
 have hbd := hr.bd;obtain ⟨g1, g2, g3⟩ := hB;have hsrt := hs.srt;obtain ⟨A, L, R, B, hD, hT, h1, h2, h3, h4, h5, h6, h7⟩ := hs;have hL : ∀ k, k < L.length → D.getD (a + k) dE = L.getD k dE := fun k hk => by
  have := lX (A := A) (L := L) (B := R ++ B) (a := a) hk h3.symm;rw [← List.append_assoc] at this;rw [hD]; exact this
 have hR : ∀ k, k < R.length → D.getD (m + k) dE = R.getD k dE := fun k hk => by
  rw [hD];exact lX (A := A ++ L) (L := R) (B := B) hk (by rw [List.length_append]; omega)
 have hle : ∀ x ∈ L.take (s - a), ∀ y ∈ R.drop (en - m), leE x y := fun x hx y hy => by
  obtain ⟨k, k1, k2, rfl⟩ := lC hx;obtain ⟨q, q1, q2, rfl⟩ := lR hy;rw [← hL k k2, ← hR q q2];rcases Nat.lt_or_ge lo s with hls | hls
  ·have := hr.dn (s - 1) (by omega) (by omega);rw [show mid + m - 1 - (s - 1) = en by omega] at this;exact tQ (tQ (hsrt.1 (a + k) (s - 1) (by omega) (by omega) (by omega)) this) (hsrt.2 en (m + q) (by omega) (by omega) (by omega))
  ·omega
 have hlt : ∀ x ∈ L.drop (s - a), ∀ y ∈ R.take (en - m), eN y x = true := fun x hx y hy => by
  obtain ⟨k, k1, k2, rfl⟩ := lR hx;obtain ⟨q, q1, q2, rfl⟩ := lC hy;rw [← hL k k2, ← hR q q2];rcases Nat.lt_or_ge s hi with hls | hls
  ·have := hr.up s (by omega) (by omega);exact P8 (hsrt.2 (m + q) (mid + m - 1 - s) (by omega) (by omega) (by omega)) (Dv this (hsrt.1 s (a + k) (by omega) (by omega) (by omega)))
  ·omega
 have eL : L = L.take (s - a) ++ L.drop (s - a) := (List.take_append_drop _ _).symm;have eR : R = R.take (en - m) ++ R.drop (en - m) := (List.take_append_drop _ _).symm;have l1 : (L.take (s - a)).length = s - a := by rw [List.length_take]; omega
 have l2 : (L.drop (s - a)).length = m - s := by rw [List.length_drop]; omega
 have l3 : (R.take (en - m)).length = en - m := by rw [List.length_take]; omega
 have l4 : (R.drop (en - m)).length = b - en := by rw [List.length_drop]; omega
 generalize L.take (s - a) = L1 at *;generalize L.drop (s - a) = L2 at *;generalize R.take (en - m) = R1 at *;generalize R.drop (en - m) = R2 at *;subst eL eR;have hss := Zf h1 h2 hle hlt;have p1 := List.pairwise_append.1 h1;have p2 := List.pairwise_append.1 h2;refine ⟨A ++ L1 ++ R1 ++ (L2 ++ R2 ++ B), A ++ aV (L1 ++ R1) ++ (L2 ++ R2 ++ B), by omega, ?_, ?_, fun w1 w2 => ?_, fun w => ?_, fun w1 w2 => ?_, fun w => ?_, fun w1 w2 => ?_, fun w => ?_⟩
 ·rw [hD]; simp only [List.length_append]; omega
 ·rw [hD]; simp only [List.length_append, bA]; omega
 ·exact ⟨A ++ L1, L2, R1, R2 ++ B, by rw [hD]; simp [List.append_assoc], by simp [List.append_assoc], by simp only [List.length_append]; omega, by omega, by omega, by omega, by omega⟩
 ·rw [hD];rcases Nat.lt_or_ge s m with h | h
  ·have : R1 = [] := List.length_eq_zero_iff.1 (by omega);subst this; simp [List.append_assoc]
  ·have : L2 = [] := List.length_eq_zero_iff.1 (by omega);subst this; simp [List.append_assoc]
 ·exact ⟨A, L1, R1, L2 ++ R2 ++ B, rfl, rfl, p1.1, p2.1, h3, by omega, by omega, by omega, by omega⟩
 ·have : aV (L1 ++ R1) = L1 ++ R1 := by
   rcases Nat.lt_or_ge a s with h | h
   ·have : R1 = [] := List.length_eq_zero_iff.1 (by omega);subst this; rw [List.append_nil]; exact yF p1.1
   ·have : L1 = [] := List.length_eq_zero_iff.1 (by omega);subst this; rw [List.nil_append]; exact yF p2.1
  rw [this]; simp [List.append_assoc]
 ·refine ⟨A ++ aV (L1 ++ R1), L2, R2, B, by simp [List.append_assoc], ?_, p1.2.1, p2.2.1, ?_, by omega, by omega, by omega, by omega⟩
  ·rw [hT, hss]; simp [List.append_assoc]
  ·simp only [List.length_append, bA]; omega
 ·have : aV (L2 ++ R2) = L2 ++ R2 := by
   rcases Nat.lt_or_ge mid en with h | h
   ·have : R2 = [] := List.length_eq_zero_iff.1 (by omega);subst this; rw [List.append_nil]; exact yF p1.2.1
   ·have : L2 = [] := List.length_eq_zero_iff.1 (by omega);subst this; rw [List.nil_append]; exact yF p2.2.1
  rw [hT, hss, this]; simp [List.append_assoc]
end Go.SX
namespace Go.SX
open Go.Proofs
set_option maxHeartbeats 400000000
set_option maxRecDepth 100000
@[reducible] def Cv : SV Cd := .fn (.func 38) [] []
theorem H7 (D : List aB) (a b n : Nat) (hb : D.length ≤ 1000000) (h1 : a + n ≤ D.length) (h2 : b + n ≤ D.length) (f : Nat → List aB) (hf0 : f 0 = D) (hfl : ∀ i, i ≤ n → (f i).length = D.length) (hfs : ∀ i, i < n → swS (f i) (a + i) (b + i) = f (i + 1)) : aF Tryz.prog Dc 202 [.slice 0 0 7 0 D.length, iS a, iS b, iS n, Cv] [.rows U.event D] (.tuple []) [.rows U.event (f n)] := by
 refine aA Ax aD Tryz.func202 (c := _) rfl Tryz.call202 200 ?_
 (repeat' ((conv => whnf); first | fail))
 refine aT [some 0] (fun q : Nat × List aB => [(10, iS q.1)]) (fun q => [(0, .rows U.event q.2)]) (fun q => q.1 ≤ n ∧ q.2 = f q.1) (fun q => n - q.1) (0, D) ⟨Nat.zero_le _, hf0.symm⟩ (by exact bkI) ?_;rintro ⟨i, J⟩ ⟨hi, hJ⟩ K hK;dsimp only at hi hJ hK ⊢;have hl : J.length = D.length := by rw [hJ]; exact hfl i hi
 rcases Nat.lt_or_ge i n with hlt | hge
 ·have hsw : (J.set (0 + ((a : Int) + i).toNat) (J.getD (0 + ((b : Int) + i).toNat) (Cd.dflt U.event))).set (0 + ((b : Int) + i).toNat) (J.getD (0 + ((a : Int) + i).toNat) (Cd.dflt U.event)) = f (i + 1) := by
   rw [← hfs i hlt, ← hJ, show 0 + ((a : Int) + i).toNat = a + i by omega, show 0 + ((b : Int) + i).toNat = b + i by omega]; rfl
  (repeat' ((conv => whnf); first | (exfalso; omega) | refine hK (i + 1, (J.set (0 + ((a : Int) + i).toNat) (J.getD (0 + ((b : Int) + i).toNat) (Cd.dflt U.event))).set (0 + ((b : Int) + i).toNat) (J.getD (0 + ((a : Int) + i).toNat) (Cd.dflt U.event))) [some 0] _ _ ⟨⟨by dsimp only; omega, hsw⟩⟩ ⟨by dsimp only; omega⟩ (by exact bkI) | refine spC (fun hb => ?_) fun hb => ?_ | refine taC ?_ | refine saC ?_ | refine aE mixed ?_))
 ·have he : f n = J := by rw [hJ, show i = n by omega]
  rw [he]
  (repeat' ((conv => whnf); first | (exfalso; omega) | (refine aZ [some 0] (.inl rfl) ?_ ?_ rfl rfl; (focus exact vwV); exact hsV) | refine spC (fun hb => ?_) fun hb => ?_))
theorem q19 (D T : List aB) (a m b i j : Nat) (hb : D.length ≤ 1000000) (ha : a + i = m) (hm : m + j = b) (hr : Rot T D m i j) : aF Tryz.prog Dc 194 [.slice 0 0 7 0 D.length, iS a, iS m, iS b, Cv] [.rows U.event D] (.tuple []) [.rows U.event T] := by
 obtain ⟨z1, z2, z3, z4, z5⟩ := hr.bd;have hmi : (m : Int) - a = i := by omega
 have hbj : (b : Int) - m = j := by omega
 refine aA Ax aD Tryz.func194 (c := _) rfl Tryz.call194 200 ?_
 (repeat' ((conv => whnf); first | refine saC ?_))
 refine aT [some 0] (fun q : Int × Int × List aB => [(10, iS q.1), (11, iS q.2.1)]) (fun q => [(0, .rows U.event q.2.2)]) (fun q => ∃ i j : Nat, q.1 = i ∧ q.2.1 = j ∧ Rot T q.2.2 m i j ∧ q.2.2.length = D.length) (fun q => (q.1 + q.2.1).toNat) ((m : Int) - a, (b : Int) - m, D) ⟨i, j, hmi, hbj, hr, rfl⟩ (by exact bkI) ?_;rintro ⟨x, y, J⟩ ⟨i, j, hx, hy, hr, hl⟩ K hK;dsimp only at hx hy hr hl hK ⊢;obtain ⟨z1, z2, z3, z4, z5⟩ := hr.bd;rw [hl] at z2;rcases Nat.lt_trichotomy i j with hij | hij | hij
 ·obtain ⟨f, f0, f1, f2, f3⟩ := hr.lt hij;have hs := H7 J (m - i) (m + j - i) i (by omega) (by omega) (by omega) f f0 f1 f2;rw [show ((m - i : Nat) : Int) = m - x by omega, show ((m + j - i : Nat) : Int) = m + y - x by omega, ← hx, hl] at hs;have hfl : (f i).length = D.length := by rw [f1 i (Nat.le_refl _), hl]
  generalize f i = J' at *
  (repeat' ((conv => whnf); first | (exfalso; omega) | refine chC [some 0] hs ?_ | refine hK (x, y - x, J') [some 0] _ _ ⟨⟨i, j - i, hx, by dsimp only; omega, f3, hfl⟩⟩ ⟨by dsimp only; omega⟩ (by exact bkI) | refine spC (fun hb => ?_) fun hb => ?_ | refine saC ?_))
  all_goals skip
 ·obtain ⟨f, f0, f1, f2, f3⟩ := (show Rot T J m i i by rw [← hij] at hr; exact hr).eq;have hs := H7 J (m - i) m i (by omega) (by omega) (by omega) f f0 f1 f2;rw [show ((m - i : Nat) : Int) = m - x by omega, ← hx, hl, f3] at hs
  (repeat' ((conv => whnf); first | (exfalso; omega) | refine chC [some 0] hs ?_ | (refine aZ [some 0] (.inl rfl) ?_ ?_ rfl rfl; (focus exact vwV); exact hsV) | refine spC (fun hb => ?_) fun hb => ?_ | refine saC ?_))
 ·obtain ⟨f, f0, f1, f2, f3⟩ := hr.gt hij;have hs := H7 J (m - i) m j (by omega) (by omega) (by omega) f f0 f1 f2;rw [show ((m - i : Nat) : Int) = m - x by omega, ← hy, hl] at hs;have hfl : (f j).length = D.length := by rw [f1 j (Nat.le_refl _), hl]
  generalize f j = J' at *
  (repeat' ((conv => whnf); first | (exfalso; omega) | refine chC [some 0] hs ?_ | refine hK (x - y, y, J') [some 0] _ _ ⟨⟨i - j, j, by dsimp only; omega, hy, f3, hfl⟩⟩ ⟨by dsimp only; omega⟩ (by exact bkI) | refine spC (fun hb => ?_) fun hb => ?_ | refine saC ?_))
structure Pj (T J : List aB) (a b i : Nat) : Prop where
 ex : ∃ (A L B : List aB) (t : Nat), T = A ++ aV L ++ B ∧ J = A ++ aV (L.take t) ++ L.drop t ++ B ∧ A.length = a ∧ a + L.length = b ∧ i = a + t ∧ 1 ≤ t ∧ t ≤ L.length + 1
structure Zw (T J : List aB) (a b i j : Nat) : Prop where
 ex : ∃ (A L B u v : List aB) (x : aB) (t : Nat), T = A ++ aV L ++ B ∧ J = A ++ u ++ x :: v ++ (L.drop (t + 1) ++ B) ∧ u ++ v = aV (L.take t) ∧ L.drop t = x :: L.drop (t + 1) ∧ A.length = a ∧ a + L.length = b ∧ i = a + t ∧ 1 ≤ t ∧ t < L.length ∧ j = a + u.length ∧ ∀ y ∈ v, eN x y = true
theorem P7 (A L B : List aB) (a b : Nat) (ha : A.length = a) (hb : a + L.length = b) : Pj (A ++ aV L ++ B) (A ++ L ++ B) a b (a + 1) := by
 refine ⟨A, L, B, 1, rfl, ?_, ha, hb, rfl, Nat.le_refl _, by omega⟩
 match L with
 | [] => simp [aV]
 | x :: l => simp [aV, Wt]
theorem Pj.len {T J : List aB} {a b i : Nat} (h : Pj T J a b i) : J.length = T.length ∧ b ≤ J.length := by
 obtain ⟨A, L, B, t, rfl, rfl, h1, h2, h3, h4, h5⟩ := h;simp only [List.length_append, bA, List.length_take, List.length_drop]; omega
theorem Pj.stop {T J : List aB} {a b i : Nat} (h : Pj T J a b i) (hi : b ≤ i) : J = T := by
 obtain ⟨A, L, B, t, rfl, rfl, h1, h2, h3, h4, h5⟩ := h;rw [List.take_of_length_le (by omega), List.drop_of_length_le (by omega)]; simp
theorem Pj.next {T J : List aB} {a b i : Nat} (h : Pj T J a b i) (hi : i < b) : Zw T J a b i i := by
 obtain ⟨A, L, B, t, rfl, rfl, h1, h2, h3, h4, h5⟩ := h;refine ⟨A, L, B, aV (L.take t), [], L.getD t (U.dflt .event), t, rfl, ?_, by simp, tE (by omega), h1, h2, h3, h4, by omega, by rw [bA, List.length_take]; omega, fun y hy => by cases hy⟩;rw [tE (l := L) (k := t) (by omega)];simp [List.append_assoc]
theorem Zw.len {T J : List aB} {a b i j : Nat} (h : Zw T J a b i j) : J.length = T.length ∧ b ≤ J.length ∧ a ≤ j ∧ j ≤ i ∧ i < b := by
 obtain ⟨A, L, B, u, v, x, t, rfl, rfl, h1, h2, h3, h4, h5, h6, h7, h8, h9⟩ := h;have e := congrArg List.length h1;simp only [List.length_append, bA, List.length_take, List.length_drop, List.length_cons] at *;omega
theorem Zw.step {T J : List aB} {a b i j : Nat} (h : Zw T J a b i j) (hj : a < j) (hc : eN (J.getD j (U.dflt .event)) (J.getD (j - 1) (U.dflt .event)) = true) : Zw T (swS J j (j - 1)) a b i (j - 1) := by
 obtain ⟨A, L, B, u, v, x, t, rfl, rfl, h1, h2, h3, h4, h5, h6, h7, h8, h9⟩ := h;obtain ⟨w, y, rfl⟩ : ∃ w y, u = w ++ [y] := by
  rcases List.eq_nil_or_concat u with rfl | ⟨w, y, rfl⟩
  ·simp at h8; omega
  ·exact ⟨w, y, List.concat_eq_append⟩
 have hjl : j - 1 = (A ++ w).length := by simp only [List.length_append, List.length_singleton] at *; omega
 have e : A ++ (w ++ [y]) ++ x :: v ++ (L.drop (t + 1) ++ B) = (A ++ w) ++ y :: x :: (v ++ (L.drop (t + 1) ++ B)) := by simp [List.append_assoc]
 have g1 : (A ++ (w ++ [y]) ++ x :: v ++ (L.drop (t + 1) ++ B)).getD j (U.dflt .event) = x := by
  rw [e, List.getD_eq_getElem?_getD, List.getElem?_append_right (by omega), show j - (A ++ w).length = 1 by omega]; rfl
 have g2 : (A ++ (w ++ [y]) ++ x :: v ++ (L.drop (t + 1) ++ B)).getD (j - 1) (U.dflt .event) = y := by
  rw [e, List.getD_eq_getElem?_getD, List.getElem?_append_right (by omega), show j - 1 - (A ++ w).length = 0 by omega]; rfl
 rw [g1, g2] at hc;refine ⟨A, L, B, w, y :: v, x, t, rfl, ?_, by rw [← h1]; simp, h2, h3, h4, h5, h6, h7, by simp only [List.length_append] at hjl; omega, fun z hz => ?_⟩
 ·rw [Le _ (by omega), e, Al _ _ _ _ hjl (by omega)];simp [List.append_assoc]
 ·rcases List.mem_cons.1 hz with rfl | hz
  ·exact hc
  ·exact h9 z hz
theorem Zw.done {T J : List aB} {a b i j : Nat} (h : Zw T J a b i j) (hc : a < j → eN (J.getD j (U.dflt .event)) (J.getD (j - 1) (U.dflt .event)) = false) : Pj T J a b (i + 1) := by
 obtain ⟨A, L, B, u, v, x, t, rfl, rfl, h1, h2, h3, h4, h5, h6, h7, h8, h9⟩ := h;have hs := Ti (u := u) (v := v) (x := x) (by rw [h1]; exact fE _) h9 fun y hy => by
  rcases List.eq_nil_or_concat u with rfl | ⟨w, z, rfl⟩
  ·cases hy
  ·rw [List.concat_eq_append] at *;have hyz : z = y := by simpa using hy
   subst hyz;have hjl : j - 1 = (A ++ w).length := by simp only [List.length_append, List.length_singleton] at *; omega
   have hj : a < j := by simp only [List.length_append, List.length_singleton] at *; omega
   have e : A ++ (w ++ [z]) ++ x :: v ++ (L.drop (t + 1) ++ B) = (A ++ w) ++ z :: x :: (v ++ (L.drop (t + 1) ++ B)) := by simp [List.append_assoc]
   have g1 : (A ++ (w ++ [z]) ++ x :: v ++ (L.drop (t + 1) ++ B)).getD j (U.dflt .event) = x := by
    rw [e, List.getD_eq_getElem?_getD, List.getElem?_append_right (by omega), show j - (A ++ w).length = 1 by omega]; rfl
   have g2 : (A ++ (w ++ [z]) ++ x :: v ++ (L.drop (t + 1) ++ B)).getD (j - 1) (U.dflt .event) = z := by
    rw [e, List.getD_eq_getElem?_getD, List.getElem?_append_right (by omega), show j - 1 - (A ++ w).length = 0 by omega]; rfl
   have := hc hj;rw [g1, g2] at this;exact this
 refine ⟨A, L, B, t + 1, rfl, ?_, h3, h4, by omega, by omega, by omega⟩;have ht : L.take (t + 1) = L.take t ++ [x] := by
  rw [kF h7];congr 2;rw [tE h7] at h2;exact (List.cons.inj h2).1
 have h10 : aV (L.take (t + 1)) = u ++ x :: v := by
  rw [ht, ← hs, h1];exact (sP ((dR _).app dB.rfl)).symm
 rw [h10];simp [List.append_assoc]
theorem Bb (D T : List aB) (a b : Nat) (hD : D.length ≤ 1000000) (h : Pj T D a b (a + 1)) : aF Tryz.prog Dc 171 [.slice 0 0 7 0 D.length, iS a, iS b, Cv] [.rows U.event D] (.tuple []) [.rows U.event T] := by
 have hl0 := h.len;have hab : b ≤ D.length := hl0.2;have hal : a ≤ D.length := by
  obtain ⟨A, L, B, t, _, rfl, h1, h2, h3, h4, h5⟩ := h;simp only [List.length_append]; omega
 refine aA Ax aD Tryz.func171 (c := _) rfl Tryz.call171 300 ?_
 (repeat' ((conv => whnf); first | refine saC ?_))
 refine aT [some 0] (fun q : Nat × List aB => [(8, iS q.1), (9, .any)]) (fun q => [(0, .rows U.event q.2)]) (fun q => Pj T q.2 a b q.1 ∧ q.2.length = D.length) (fun q => b - q.1) (a + 1, D) ⟨h, rfl⟩ (by exact bkI) ?_;rintro ⟨i, J⟩ ⟨hi, hJ⟩ K hK;dsimp only at hi hJ hK ⊢;rcases Nat.lt_or_ge i b with hlt | hge
 ·(repeat' ((conv => whnf); first | (exfalso; omega) | refine spC (fun hb => ?_) fun hb => ?_))
  refine aT [some 0] (fun q : Int × List aB => [(9, iS q.1)]) (fun q => [(0, .rows U.event q.2)]) (fun q => (∃ j : Nat, q.1 = j ∧ Zw T q.2 a b i j) ∧ q.2.length = D.length) (fun q => q.1.toNat) ((i : Int), J) ⟨⟨i, rfl, hi.next hlt⟩, hJ⟩ (by exact bkI) ?_;rintro ⟨x, J2⟩ ⟨⟨j, hx, hj⟩, hJ2⟩ K2 hK2;dsimp only at hx hj hJ2 hK2 ⊢;subst hx;obtain ⟨z1, z2, z3, z4, z5⟩ := hj.len;rw [hJ2] at z2;rcases Nat.lt_or_ge a j with haj | haj
  ·cases hB : eN (J2.getD (0 + (j : Int).toNat) (Cd.dflt U.event)) (J2.getD (0 + ((j : Int) - 1).toNat) (Cd.dflt U.event)) with
   | true =>
    have hc := rG.2 hB;have hm := dD (J2.getD (0 + (j : Int).toNat) (Cd.dflt U.event)) (J2.getD (0 + ((j : Int) - 1).toNat) (Cd.dflt U.event));rw [show 0 + (j : Int).toNat = j by omega, show 0 + ((j : Int) - 1).toNat = j - 1 by omega] at hB;have hst := hj.step haj hB;have hsl := Jh J2 j (j - 1);have he : (J2.set (0 + (j : Int).toNat) (J2.getD (0 + ((j : Int) - 1).toNat) (Cd.dflt U.event))).set (0 + ((j : Int) - 1).toNat) (J2.getD (0 + (j : Int).toNat) (Cd.dflt U.event)) = swS J2 j (j - 1) := by
     rw [show 0 + (j : Int).toNat = j by omega, show 0 + ((j : Int) - 1).toNat = j - 1 by omega]; rfl
    rw [← he] at hst hsl
    (repeat' ((conv => whnf); first | (exfalso; omega) | refine dpC (hm) ?_ | refine hK2 ((j : Int) - 1, (J2.set (0 + (j : Int).toNat) (J2.getD (0 + ((j : Int) - 1).toNat) (Cd.dflt U.event))).set (0 + ((j : Int) - 1).toNat) (J2.getD (0 + (j : Int).toNat) (Cd.dflt U.event))) [some 0] _ _ ⟨⟨⟨j - 1, by dsimp only; omega, hst⟩, hsl.trans hJ2⟩⟩ ⟨by dsimp only; omega⟩ (by exact bkI) | refine spC (fun hb => ?_) fun hb => ?_ | refine taC ?_ | refine saC ?_ | refine aE mixed ?_))
   | false =>
    have hc := oX hB;have hm := dD (J2.getD (0 + (j : Int).toNat) (Cd.dflt U.event)) (J2.getD (0 + ((j : Int) - 1).toNat) (Cd.dflt U.event));rw [show 0 + (j : Int).toNat = j by omega, show 0 + ((j : Int) - 1).toNat = j - 1 by omega] at hB;have hst := hj.done fun _ => hB
    (repeat' ((conv => whnf); first | (exfalso; omega) | refine dpC (hm) ?_ | refine hK (i + 1, J2) [some 0] _ _ ⟨⟨hst, hJ2⟩⟩ ⟨by dsimp only; omega⟩ (by exact bkI) | refine spC (fun hb => ?_) fun hb => ?_ | refine taC ?_ | refine saC ?_ | refine aE mixed ?_))
  ·have hst := hj.done fun h => absurd h (by omega)
   (repeat' ((conv => whnf); first | (exfalso; omega) | refine hK (i + 1, J2) [some 0] _ _ ⟨⟨hst, hJ2⟩⟩ ⟨by dsimp only; omega⟩ (by exact bkI) | refine spC (fun hb => ?_) fun hb => ?_ | refine taC ?_ | refine saC ?_ | refine aE mixed ?_))
 ·have he : T = J := (hi.stop hge).symm;rw [he]
  (repeat' ((conv => whnf); first | (exfalso; omega) | (refine aZ [some 0] (.inl rfl) ?_ ?_ rfl rfl; (focus exact vwV); exact hsV) | refine spC (fun hb => ?_) fun hb => ?_))
end Go.SX
