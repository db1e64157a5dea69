/-
  Walks: Ud4, Oq9, Or1, Or2, Ue1, Or0, Or3, Ue2, Uj5: what single functions of the program compute.
-/
import Derived.Test.YtijedffphgckmaaGreatDoorSxUf0
import Derived.Test.YtijedffphgckmaaGreatDoorSxTa6
import Derived.Test.YtijedffphgckmaaGreatDoorSxUb9
import Derived.Test.YtijedffphgckmaaGreatDoorSxTq0
set_option linter.unusedVariables false
set_option linter.unusedSimpArgs false
namespace Go.SX
open Go.Proofs
set_option maxHeartbeats 400000000
set_option maxRecDepth 100000
mutual
theorem z6f : ∀ (g : q06) (d n : Int), q2j g d = some n → q4d g
 | ⟨kind, rows, from_, to_, low, high, clear, days, times, within, cents, kids⟩, d, n, hs => by
  have hL := sizeL_gall kids
  obtain ⟨hok, hd, m, hm, rfl⟩ := z2x hs
  rw [q1y]
  refine ⟨?_, hL _ _ hm⟩
  unfold okB at hok
  simp only [Bool.and_eq_true] at hok
  obtain ⟨⟨⟨h1, h2⟩, h3⟩, h4⟩ := hok
  unfold q35 at h4
  simp only [Bool.and_eq_true, Bool.or_eq_true, decide_eq_true_eq] at h4
  obtain ⟨⟨⟨h5, h6⟩, h7⟩, h8⟩ := h4
  have hk : (kids.length : Int) ≤ 4 := by
   unfold q6u at h5
   split at h5
   ·simp only [decide_eq_true_eq] at h5; (try dsimp only at h5); omega
   ·split at h5
    ·rw [q0f] at h5; exact h5.2
    ·simp only [decide_eq_true_eq] at h5; (try dsimp only at h5); omega
  have hc : (cents.length : Int) ≤ 4 := by
   unfold q48 at h6
   split at h6
   ·simp only [Bool.and_eq_true, decide_eq_true_eq] at h6; (try dsimp only at h6); omega
   ·simp only [decide_eq_true_eq] at h6; (try dsimp only at h6); omega
  have hr : (rows.length : Int) ≤ 24 := by
   rcases h7 with h7 | h7
   ·unfold qp5 at h3
    rw [if_pos h7] at h3
    simp only [Bool.and_eq_true] at h3
    have ha := h3.1.1.1.1.1
    unfold q29 at ha
    simp only [Bool.and_eq_true, decide_eq_true_eq] at ha
    try dsimp only at ha
    omega
   ·(try dsimp only at h7); omega
  exact ⟨by dsimp only; omega, by dsimp only; omega, by dsimp only; omega⟩
theorem sizeL_gall : ∀ (l : List q06) (d n : Int), sizeL l d = some n → GAllL l
 | [], d, n, hs => by rw [GAllL]; trivial
 | k :: l, d, n, hs => by
  rw [sizeL] at hs
  rw [GAllL]
  split at hs
  ·cases hs
  ·rename_i m hm
   split at hs
   ·cases hs
   ·rename_i q hq
    exact ⟨z6f k d m hm, sizeL_gall l d q hq⟩
end
theorem q89 {g : q06} (h : q2r g = true) : q4d g := by
 unfold q2r at h
 split at h
 ·cases h
 ·rename_i n hn
  exact z6f g 1 n hn
end Go.SX
namespace Go.SX
def z6o (W : List Wd) : Nat → List q06 → Prop
 | P, [] => P < W.length
 | P, k :: l => ∃ p, P ≤ p ∧ (W.drop p).take (q0o k).length = q0o k ∧ z6o W (p + (q0o k).length) l
theorem z6o.mono {W : List Wd} : ∀ (l : List q06) {P Q : Nat}, Q ≤ P → z6o W P l → z6o W Q l
 | [], P, Q, h, h1 => by unfold z6o at *; omega
 | k :: l, P, Q, h, ⟨p, h1, h2, h3⟩ => ⟨p, by omega, h2, h3⟩
theorem z6o.lt {W : List Wd} : ∀ (l : List q06) {P : Nat}, z6o W P l → P < W.length
 | [], P, h => h
 | k :: l, P, ⟨p, h1, h2, h3⟩ => by have := z6o.lt l h3; omega
end Go.SX
namespace Go.SX
theorem z5u : ∀ (l : List UInt8) (acc v : Nat) (r : List UInt8), Go.Lib.parseUint10 acc l = .ok v → Go.Lib.parseUint10 acc (l ++ r) = Go.Lib.parseUint10 v r
 | [], acc, v, r, h => by simp only [Go.Lib.parseUint10] at h; injection h with h; subst h; rfl
 | c :: l, acc, v, r, h => by
  simp only [Go.Lib.parseUint10, List.cons_append] at h ⊢
  split at h
  ·rename_i hc
   rw [if_pos hc]
   split at h
   ·cases h
   ·rename_i h1
    rw [if_neg h1]
    split at h
    ·cases h
    ·rename_i h2
     rw [if_neg h2]
     exact z5u l _ v r h
  ·cases h
theorem qh2 {k : Nat} (h : k < 10) : (UInt8.ofNat (48 + k)).toNat = 48 + k := by
 rw [UInt8.toNat_ofNat']; omega
theorem qx0 : ∀ (f u : Nat), u < 10 ^ (f + 1) → u < 1000000000000000 → Go.Lib.parseUint10 0 (q5c (f + 1) u) = .ok u ∧ q5c (f + 1) u ≠ [] ∧ ∃ c r, q5c (f + 1) u = c :: r ∧ c.toNat ≠ 43 ∧ c.toNat ≠ 45
 | f, u, h, hb => by
  by_cases h10 : u < 10
  ·have e : q5c (f + 1) u = [UInt8.ofNat (48 + u)] := by rw [q5c, if_pos h10]
   rw [e]
   refine ⟨?_, by simp, _, _, rfl, ?_, ?_⟩
   ·simp only [Go.Lib.parseUint10]
    rw [qh2 h10, if_pos (by omega), if_neg (by omega), if_neg (by omega)]
    congr 1; omega
   ·rw [qh2 h10]; omega
   ·rw [qh2 h10]; omega
  ·cases f with
   | zero => omega
   | succ f =>
    have e : q5c (f + 1 + 1) u = q5c (f + 1) (u / 10) ++ [UInt8.ofNat (48 + u % 10)] := by rw [q5c, if_neg h10]
    obtain ⟨h1, h2, c, r, h3, h4, h5⟩ := qx0 f (u / 10) (by rw [Nat.pow_succ] at h; omega) (by omega)
    rw [e]
    refine ⟨?_, by simp, c, r ++ [UInt8.ofNat (48 + u % 10)], by rw [h3]; rfl, h4, h5⟩
    rw [z5u _ _ _ _ h1]
    simp only [Go.Lib.parseUint10]
    rw [qh2 (Nat.mod_lt _ (by omega)), if_pos (by omega), if_neg (by omega), if_neg (by omega)]
    congr 1; omega
theorem zn2 {n : Int} (h0 : 0 ≤ n) (h1 : n ≤ 1000000000000) : zs3 (q0a n) = some n := by
 have e : q0a n = q5c 20 n.toNat := by unfold q0a; rw [if_neg (by omega)]
 obtain ⟨p1, p2, c, r, p3, p4, p5⟩ := qx0 19 n.toNat (by omega) (by omega)
 have ha : Go.Lib.atoiAll (q0a n) = .ok n := by
  rw [e]
  rw [p3] at p1 p2 ⊢
  unfold Go.Lib.atoiAll
  simp only
  rw [if_neg (by omega)]
  unfold Go.Lib.parseMag
  rw [if_neg p2, p1]
  simp only
  rw [if_neg (by omega), if_neg (by omega), if_neg p5]
  congr 1; omega
 unfold zs3
 rw [ha]
 simp
theorem z6e {w : Wd} {n : Int} (h : zs3 w = some n) : q0a n = w := by
 unfold zs3 at h
 split at h
 ·split at h
  ·injection h with h; subst h; assumption
  ·cases h
 ·cases h
theorem zg2 : zs3 [32] = none := by decide
theorem y18 {ws : List Wd} {a : Int} {w : Wd} (h : q0y ws a = w) (hw : w ≠ [32]) (h0 : 0 ≤ a) (h1 : a ≤ ws.length) : a < ws.length ∧ ws.drop a.toNat = w :: ws.drop (a + 1).toNat := by
 rcases Int.lt_or_eq_of_le h1 with h2 | h2
 ·refine ⟨h2, ?_⟩
  unfold q0y at h
  rw [if_neg (by omega)] at h
  have h3 : a.toNat < ws.length := by omega
  rw [List.drop_eq_getElem_cons h3]
  rw [List.getD_eq_getElem?_getD, List.getElem?_eq_getElem h3] at h
  rw [show (a + 1).toNat = a.toNat + 1 by omega, ← h]; rfl
 ·unfold q0y at h
  rw [if_pos h2] at h
  exact absurd h.symm hw
structure q5g (ws : List Wd) (a : Int) (l : List Wd) (a' : Int) : Prop where
 lo : 0 ≤ a
 hi : a' ≤ ws.length
 len : a' = a + l.length
 eq : ws.drop a.toNat = l ++ ws.drop a'.toNat
theorem q5g.app {ws l l' : List Wd} {a b c : Int} (h : q5g ws a l b) (h' : q5g ws b l' c) : q5g ws a (l ++ l') c :=
 ⟨h.lo, h'.hi, by rw [h'.len, h.len, List.length_append]; omega, by rw [h.eq, h'.eq, List.append_assoc]⟩
theorem q5g.nil {ws : List Wd} {a : Int} (h : 0 ≤ a) (h' : a ≤ ws.length) : q5g ws a [] a := ⟨h, h', by simp, rfl⟩
theorem q5g.one {ws : List Wd} {a : Int} {w : Wd} (h0 : 0 ≤ a) (h1 : a ≤ ws.length) (h : q0y ws a = w) (hw : w ≠ [32]) : q5g ws a [w] (a + 1) := by
 obtain ⟨h2, h3⟩ := y18 h hw h0 h1
 exact ⟨h0, by omega, by simp, h3⟩
theorem q5g.lo' {ws l : List Wd} {a b : Int} (h : q5g ws a l b) : 0 ≤ b := by have := h.lo; have := h.len; omega
theorem q2e {ws : List Wd} : ∀ (l : List Wd) {a m a' m' : Int} {u : Unit}, (∀ s ∈ l, s ≠ [32]) → 0 ≤ a → a ≤ ws.length → q1t ws l a m = .ok u a' m' → q5g ws a l a' ∧ m' = m
 | [], a, m, a', m', u, _, h0, h1, h => by
  rw [q1t] at h; injection h with _ e1 e2; subst e1 e2; exact ⟨.nil h0 h1, rfl⟩
 | w :: l, a, m, a', m', u, hl, h0, h1, h => by
  rw [q1t] at h
  split at h
  ·rename_i e
   have r1 := q5g.one h0 h1 e (hl w (by simp))
   obtain ⟨r2, e2⟩ := q2e l (fun s hs => hl s (List.mem_cons_of_mem _ hs)) r1.lo' r1.hi h
   exact ⟨r1.app r2, e2⟩
  ·cases h
theorem q4i {ws : List Wd} {a m a' m' n lo hi : Int} (h0 : 0 ≤ a) (h1 : a ≤ ws.length) (h : q76 ws lo hi a m = .ok n a' m') : q5g ws a [q0a n] a' ∧ m' = m ∧ lo ≤ n ∧ n ≤ hi := by
 unfold q76 at h
 split at h
 ·rename_i k hk
  split at h
  ·rename_i hb
   injection h with e1 e2 e3
   subst e1 e2 e3
   have hw := z6e hk
   refine ⟨.one h0 h1 hw.symm fun e => ?_, rfl, hb.1, hb.2⟩
   have := y1s k
   rw [e] at this
   exact this (by simp)
  ·cases h
 ·cases h
theorem zr2 {ws : List Wd} {s t : Wd} {a m a' m' : Int} {b : Bool} (hs : s ≠ [32]) (ht : t ≠ [32]) (h0 : 0 ≤ a) (h1 : a ≤ ws.length) (h : qm1 ws s t a m = .ok b a' m') : q5g ws a [if b then s else t] a' ∧ m' = m := by
 unfold qm1 at h
 split at h
 ·rename_i e
  injection h with e1 e2 e3; subst e1 e2 e3
  exact ⟨.one h0 h1 e hs, rfl⟩
 ·split at h
  ·rename_i e
   injection h with e1 e2 e3; subst e1 e2 e3
   exact ⟨.one h0 h1 e ht, rfl⟩
  ·cases h
theorem q0l {α β : Type} {x : Rs α} {k : α → Int → Int → Rs β} {z : β} {a m : Int} (h : x.bind k = .ok z a m) : ∃ y b n, x = .ok y b n ∧ k y b n = .ok z a m := by
 cases x with
 | ok y b n => exact ⟨y, b, n, rfl, h⟩
 | no b n => cases h
theorem qd0 : ∀ s : Wd, ∃ w l, q1b s = w :: l ∧ w ++ Go.Lib.joinTail [32] l = s
 | [] => ⟨[], [], rfl, rfl⟩
 | c :: s => by
  obtain ⟨w, l, h1, h2⟩ := qd0 s
  rw [q1b]
  split
  ·rename_i e
   subst e
   rw [h1]
   exact ⟨[], w :: l, rfl, by show [32] ++ (w ++ Go.Lib.joinTail [32] l) = _; rw [h2]; rfl⟩
  ·rw [h1]
   exact ⟨c :: w, l, rfl, by rw [List.cons_append, h2]⟩
theorem zd9 (s : Wd) : q6c (q1b s) = s := by
 obtain ⟨w, l, h1, h2⟩ := qd0 s
 rw [h1]
 unfold q6c
 rw [Go.Lib.join_cons]
 exact h2
theorem z8e (s : Wd) : q6c (q0j s) = s := by
 unfold q0j
 split
 ·rename_i h; rw [h]; exact Go.Lib.join_nil _
 ·exact zd9 s
end Go.SX
namespace Go.SX
abbrev Run := Nat × Nat
def RC : Nat → List Run → Prop
 | _, [] => True
 | c, p :: l => c ≤ p.1 ∧ p.1 ≤ p.2 ∧ p.2 ≤ 47 ∧ RC (p.2 + 2) l
def mk (p : Run) : Nat := 2 ^ p.1 * (2 ^ (p.2 - p.1 + 1) - 1)
def val : List Run → Nat
 | [] => 0
 | p :: l => mk p + val l
theorem RC.mono : ∀ {l : List Run} {c d : Nat}, d ≤ c → RC c l → RC d l
 | [], _, _, _, _ => trivial
 | p :: l, c, d, h, h1 => ⟨by have := h1.1; omega, h1.2.1, h1.2.2.1, h1.2.2.2⟩
theorem y36 : ∀ (x f m : Nat), x < f → m % 2 = 1 → tzF f (2 ^ x * m) = x
 | 0, f + 1, m, _, h => by unfold tzF; rw [Nat.pow_zero, Nat.one_mul, if_pos h]
 | x + 1, f + 1, m, hf, h => by
  have e : 2 ^ (x + 1) * m = 2 * (2 ^ x * m) := by rw [Nat.pow_succ, Nat.mul_comm (2 ^ x) 2, Nat.mul_assoc]
  unfold tzF
  rw [e, if_neg (by omega), Nat.mul_div_cancel_left _ (by omega), y36 x f m (by omega) h]; omega
theorem zx2 : ∀ (t f q : Nat), t < f → toF f (2 ^ t - 1 + 2 ^ (t + 1) * q) = t
 | 0, f + 1, q, _ => by unfold toF; rw [if_neg (by simp)]
 | t + 1, f + 1, q, hf => by
  have e : 2 ^ (t + 1) = 2 * 2 ^ t := by rw [Nat.pow_succ, Nat.mul_comm]
  have e2 : 2 ^ (t + 1 + 1) * q = 2 * (2 ^ (t + 1) * q) := by rw [Nat.pow_succ 2 (t + 1), Nat.mul_comm (2 ^ (t + 1)) 2, Nat.mul_assoc]
  have hp := Nat.two_pow_pos t
  unfold toF
  rw [e2, if_pos (by omega), show (2 ^ (t + 1) - 1 + 2 * (2 ^ (t + 1) * q)) / 2 = 2 ^ t - 1 + 2 ^ (t + 1) * q by omega, zx2 t f q (by omega)]; omega
theorem z43 : ∀ {l : List Run} {c : Nat}, RC c l → 2 ^ c ∣ val l
 | [], c, _ => Nat.dvd_zero _
 | p :: l, c, h => by
  unfold val mk
  exact Nat.dvd_add (Nat.dvd_trans (Nat.pow_dvd_pow 2 h.1) ⟨_, rfl⟩) (Nat.dvd_trans (Nat.pow_dvd_pow 2 (show c ≤ p.2 + 2 by have := h.1; have := h.2.1; omega)) (z43 h.2.2.2))
theorem z29 {p : Run} (h : p.1 ≤ p.2) : mk p + 2 ^ p.1 = 2 ^ (p.2 + 1) := by
 unfold mk
 have h1 := Nat.two_pow_pos (p.2 - p.1 + 1)
 have h2 : 2 ^ p.1 * (2 ^ (p.2 - p.1 + 1) - 1) + 2 ^ p.1 * 1 = 2 ^ p.1 * 2 ^ (p.2 - p.1 + 1) := by rw [← Nat.mul_add]; congr 1; omega
 rw [← Nat.pow_add, show p.1 + (p.2 - p.1 + 1) = p.2 + 1 by omega] at h2
 omega
theorem z9h {l : List Run} {c : Nat} (h : RC c l) : val l < 2 ^ 48 := by
 induction l generalizing c with
 | nil => show 0 < 2 ^ 48; omega
 | cons p l ih =>
  cases l with
  | nil =>
   have h1 := z29 h.2.1
   have h2 : 2 ^ (p.2 + 1) ≤ 2 ^ 48 := Nat.pow_le_pow_right (by omega) (by have := h.2.2.1; omega)
   have h3 := Nat.two_pow_pos p.1
   show mk p + 0 < 2 ^ 48
   omega
  | cons q l =>
   have h1 := z29 h.2.1
   have h2 := z29 h.2.2.2.2.1
   obtain ⟨k, hk⟩ := z43 (l := q :: l) (c := p.2 + 2) h.2.2.2
   have h3 := ih h.2.2.2
   have h4 : p.2 + 2 ≤ 47 := by have := h.2.2.2.1; have := h.2.2.2.2.1; have := h.2.2.2.2.2.1; omega
   have h5 : 2 ^ (p.2 + 2) ∣ 2 ^ 48 := Nat.pow_dvd_pow 2 (by omega)
   obtain ⟨j, hj⟩ := h5
   have h6 : 2 ^ (p.2 + 1) < 2 ^ (p.2 + 2) := Nat.pow_lt_pow_right (by omega) (by omega)
   have h7 : k + 1 ≤ j := by
    rw [hk, hj] at h3
    exact Nat.lt_of_mul_lt_mul_left h3
   have h8 := Nat.mul_le_mul_left (2 ^ (p.2 + 2)) h7
   rw [Nat.mul_add, ← hk, ← hj] at h8
   show mk p + val (q :: l) < 2 ^ 48
   have := Nat.two_pow_pos p.1
   omega
theorem qw6 {p : Run} {l : List Run} {c : Nat} (h : RC c (p :: l)) : z6h (val (p :: l)) = p ∧ q67 (val (p :: l)) = val l ∧ val (p :: l) ≠ 0 := by
 obtain ⟨q, hq⟩ := z43 h.2.2.2
 obtain ⟨x, z⟩ := p
 have hxz : x ≤ z := h.2.1
 have hz : z ≤ 47 := h.2.2.1
 obtain ⟨t, ht⟩ : ∃ t, z = x + t := ⟨z - x, by omega⟩
 subst ht
 have hm : val ((x, x + t) :: l) = 2 ^ x * (2 ^ (t + 1) - 1 + 2 ^ (t + 1 + 1) * q) := by
  show 2 ^ x * (2 ^ (x + t - x + 1) - 1) + val l = _
  rw [show x + t - x + 1 = t + 1 by omega, Nat.mul_add, hq]
  congr 1
  rw [← Nat.mul_assoc, ← Nat.pow_add]
  congr 2
 have h1 : 2 ^ (t + 1) = 2 * 2 ^ t := by rw [Nat.pow_succ, Nat.mul_comm]
 have h2 : 2 ^ (t + 1 + 1) * q = 2 * (2 ^ (t + 1) * q) := by rw [Nat.pow_succ 2 (t + 1), Nat.mul_comm (2 ^ (t + 1)) 2, Nat.mul_assoc]
 have hp := Nat.two_pow_pos t
 have hodd : (2 ^ (t + 1) - 1 + 2 ^ (t + 1 + 1) * q) % 2 = 1 := by omega
 have htz : tzF 64 (val ((x, x + t) :: l)) = x := by rw [hm]; exact y36 x 64 _ (by omega) hodd
 have hlen : q1e (val ((x, x + t) :: l)) = x + (t + 1) := by
  unfold q1e
  rw [htz, hm, Nat.mul_div_cancel_left _ (Nat.two_pow_pos x), zx2 (t + 1) 64 q (by omega)]
 refine ⟨?_, ?_, ?_⟩
 ·unfold z6h; rw [htz, hlen]; rfl
 ·unfold q67
  have hdd : ∀ N : Nat, N / 2 ^ (x + (t + 1)) = N / 2 ^ x / 2 ^ (t + 1) := fun N => by rw [Nat.pow_add, Nat.div_div_eq_div_mul]
  rw [hlen, hm, hdd, Nat.mul_div_cancel_left _ (Nat.two_pow_pos x)]
  have h5 : (2 ^ (t + 1) - 1 + 2 ^ (t + 1 + 1) * q) / 2 ^ (t + 1) = 2 * q := by
   rw [show 2 ^ (t + 1 + 1) * q = 2 ^ (t + 1) * (2 * q) by rw [Nat.pow_succ 2 (t + 1), Nat.mul_assoc], Nat.add_mul_div_left _ _ (Nat.two_pow_pos _), Nat.div_eq_of_lt (by omega), Nat.zero_add]
  rw [h5, hq]
  show 2 * q * 2 ^ (x + (t + 1)) = 2 ^ ((x + (t + 1)) + 1) * q
  rw [Nat.pow_succ 2 (x + (t + 1)), Nat.mul_assoc, Nat.mul_comm]; simp only [Nat.mul_assoc, Nat.mul_comm, Nat.mul_left_comm]
 ·rw [hm]
  exact Nat.mul_ne_zero (by have := Nat.two_pow_pos x; omega) (by omega)
theorem za6 : ∀ (f : Nat) (l : List Run) (c : Nat), RC c l → val l ≤ f → z66 f (val l) = l
 | 0, l, c, h, hf => by
  cases l with
  | nil => rfl
  | cons p l => have := (qw6 h).2.2; omega
 | f + 1, l, c, h, hf => by
  cases l with
  | nil => rfl
  | cons p l =>
   obtain ⟨h1, h2, h3⟩ := qw6 h
   have h4 := qh6 h3 (Nat.lt_trans (z9h h) (by omega))
   rw [z1x, if_neg h3, h1, h2, za6 f l _ h.2.2.2 (by omega)]
theorem z63 {l : List Run} {c : Nat} (h : RC c l) : q32 (val l) = l := za6 _ l c h (Nat.le_refl _)
theorem zr0 : ∀ (f m : Nat), toF f m < f → m / 2 ^ toF f m % 2 = 0
 | 0, m, h => by omega
 | f + 1, m, h => by
  unfold toF at h ⊢
  split
  ·rename_i h1
   rw [if_pos h1] at h
   have ih := zr0 f (m / 2) (by omega)
   rw [Nat.pow_add, Nat.pow_one, ← Nat.div_div_eq_div_mul]; exact ih
  ·simp; omega
theorem y3b : ∀ (b n : Nat), n ≤ b → n < 2 ^ 48 → ∀ c, 2 ^ c ∣ n → ∃ l, RC c l ∧ val l = n
 | b, n, hb, h, c, hc => by
  by_cases h0 : n = 0
  ·exact ⟨[], trivial, h0.symm⟩
  ·cases b with
   | zero => omega
   | succ b =>
    have h64 : n < 2 ^ 64 := by omega
    obtain ⟨a1, a2, a3⟩ := q5r 64 n h0 h64
    have hs := qh6 h0 h64
    obtain ⟨l1, l2⟩ := qg2 h0 h
    have ht := z45 64 (n / 2 ^ tzF 64 n)
    have hmx := zr0 64 (n / 2 ^ tzF 64 n) (by unfold q1e at l2; omega)
    have hdef : q1e n = tzF 64 n + toF 64 (n / 2 ^ tzF 64 n) := rfl
    have hq : n / 2 ^ q1e n = n / 2 ^ tzF 64 n / 2 ^ toF 64 (n / 2 ^ tzF 64 n) := by rw [hdef, Nat.pow_add, Nat.div_div_eq_div_mul]
    have hsd : 2 ^ (q1e n + 1) ∣ q67 n := by
     unfold q67
     rw [hq, Nat.pow_succ, Nat.mul_comm]
     exact Nat.mul_dvd_mul (Nat.dvd_of_mod_eq_zero hmx) (Nat.dvd_refl _)
    obtain ⟨l, hl1, hl2⟩ := y3b b (q67 n) (by omega) (by omega) (q1e n + 1) hsd
    have hcx : c ≤ tzF 64 n := by
     rcases Nat.lt_or_ge (tzF 64 n) c with h4 | h4
     ·exfalso
      obtain ⟨q, hq⟩ := Nat.dvd_trans (Nat.pow_dvd_pow 2 (show tzF 64 n + 1 ≤ c by omega)) hc
      have h5 : n / 2 ^ tzF 64 n = 2 * q := Nat.div_eq_of_eq_mul_right (Nat.two_pow_pos _) (by rw [← Nat.mul_assoc, ← Nat.pow_succ]; exact hq)
      omega
     ·exact h4
    refine ⟨(tzF 64 n, q1e n - 1) :: l, ⟨hcx, by show tzF 64 n ≤ q1e n - 1; omega, by show q1e n - 1 ≤ 47; omega, by show RC (q1e n - 1 + 2) l; rw [show q1e n - 1 + 2 = q1e n + 1 by omega]; exact hl1⟩, ?_⟩
    show 2 ^ tzF 64 n * (2 ^ (q1e n - 1 - tzF 64 n + 1) - 1) + val l = n
    rw [hl2, show q1e n - 1 - tzF 64 n + 1 = toF 64 (n / 2 ^ tzF 64 n) by omega, ← ht]
    have e1 := Nat.div_add_mod (n / 2 ^ tzF 64 n) (2 ^ toF 64 (n / 2 ^ tzF 64 n))
    have e2 := Nat.div_add_mod n (2 ^ tzF 64 n)
    rw [a1, Nat.add_zero] at e2
    have e3 : q67 n = 2 ^ tzF 64 n * (2 ^ toF 64 (n / 2 ^ tzF 64 n) * (n / 2 ^ tzF 64 n / 2 ^ toF 64 (n / 2 ^ tzF 64 n))) := by
     unfold q67
     rw [hq, hdef, Nat.pow_add, Nat.mul_comm, Nat.mul_assoc]
    rw [e3, ← Nat.mul_add, Nat.add_comm, e1, e2]
theorem z3m {n : Nat} (h : n < 2 ^ 48) : RC 0 (q32 n) ∧ val (q32 n) = n := by
 obtain ⟨l, h1, h2⟩ := y3b n n (Nat.le_refl _) h 0 ⟨n, by simp⟩
 have := z63 h1
 rw [h2] at this
 rw [this]
 exact ⟨h1, h2⟩
def qb5 : Nat → List (List Run) → List (Nat × Run)
 | _, [] => []
 | y, l :: ls => l.map (fun p => (y, p)) ++ qb5 (y + 1) ls
def zc9 (L : List (Nat × Run)) : List Wd := L.flatMap fun p => qj8 p.1 p.2
def z8f : Nat → Nat → List (Nat × Run) → Prop
 | _, _, [] => True
 | y, c, p :: L => y ≤ p.1 ∧ p.1 ≤ 23 ∧ (p.1 = y → c ≤ p.2.1) ∧ p.2.1 ≤ p.2.2 ∧ p.2.2 ≤ 47 ∧ z8f p.1 (p.2.2 + 2) L
def y08 (rows : List Int) (p : Nat × Run) : List Int := rows.set p.1 (q1l .or .i64 (rows.getD p.1 0) (q6f p.2.1 p.2.2))
def build (rows : List Int) (L : List (Nat × Run)) : List Int := L.foldl y08 rows
theorem qj4 : ∀ (n y : Nat), qb5 y (List.replicate n []) = []
 | 0, y => rfl
 | n + 1, y => by rw [List.replicate_succ, qb5, qj4 n (y + 1)]; rfl
theorem z4l : ∀ (a b : List (List Run)) (y : Nat), qb5 y (a ++ b) = qb5 y a ++ qb5 (y + a.length) b
 | [], b, y => rfl
 | l :: a, b, y => by
  rw [List.cons_append, qb5, qb5, z4l a b (y + 1), List.append_assoc, List.length_cons]
  rw [show y + 1 + a.length = y + (a.length + 1) by omega]
theorem qz0 : ∀ (rows : List Int) (y : Nat), q44 y rows = zc9 (qb5 y (rows.map fun r => q32 r.toNat))
 | [], y => rfl
 | r :: rows, y => by
  rw [q44, List.map_cons, qb5, qz0 rows (y + 1)]
  unfold zc9
  rw [List.flatMap_append, List.flatMap_map]
  rfl
theorem z8f.up : ∀ {L : List (Nat × Run)} {y z c d : Nat}, y < z → z8f z c L → z8f y d L
 | [], y, z, c, d, h, h1 => trivial
 | p :: L, y, z, c, d, h, h1 => ⟨by have := h1.1; omega, h1.2.1, fun e => by have := h1.1; omega, h1.2.2.2.1, h1.2.2.2.2.1, h1.2.2.2.2.2⟩
theorem z9u : ∀ (L : List (Nat × Run)) (y c : Nat), y ≤ 23 → z8f y c L → ∃ l ls, RC c l ∧ (∀ k ∈ ls, RC 0 k) ∧ y + 1 + ls.length = 24 ∧ L = l.map (fun p => (y, p)) ++ qb5 (y + 1) ls
 | [], y, c, hy, _ => ⟨[], List.replicate (23 - y) [], trivial, fun k hk => by rw [(List.mem_replicate.1 hk).2]; trivial, by simp; omega, by rw [qj4]; rfl⟩
 | (r, p) :: L, y, c, hy, h => by
  obtain ⟨l, ls, h1, h2, h3, h4⟩ := z9u L r (p.2 + 2) h.2.1 h.2.2.2.2.2
  rcases Nat.lt_or_eq_of_le h.1 with hr | hr
  ·have hr : y < r := hr
   refine ⟨[], List.replicate (r - y - 1) [] ++ ((p :: l) :: ls), trivial, ?_, ?_, ?_⟩
   ·intro k hk
    rcases List.mem_append.1 hk with hk | hk
    ·rw [(List.mem_replicate.1 hk).2]; trivial
    ·rcases List.mem_cons.1 hk with rfl | hk
     ·exact ⟨Nat.zero_le _, h.2.2.2.1, h.2.2.2.2.1, h1⟩
     ·exact h2 k hk
   ·simp; omega
   ·rw [z4l, qj4, List.length_replicate, show y + 1 + (r - y - 1) = r by omega, qb5, h4]; rfl
  ·have hr : y = r := hr
   subst hr
   exact ⟨p :: l, ls, ⟨h.2.2.1 rfl, h.2.2.2.1, h.2.2.2.2.1, h1⟩, h2, h3, by rw [h4]; rfl⟩
theorem zb6 {p : Run} (h : p.1 ≤ p.2) : q6f p.1 p.2 = (mk p : Int) := by
 unfold q6f mk
 rw [show ((p.2 : Int) - p.1 + 1).toNat = p.2 - p.1 + 1 by omega, show ((p.1 : Nat) : Int).toNat = p.1 from rfl]
 have := Nat.two_pow_pos (p.2 - p.1 + 1)
 rw [Int.natCast_mul, Int.natCast_sub (by omega), Int.natCast_pow, Int.natCast_pow, Int.mul_comm]
 rfl
theorem y96 {p : Run} (h : p.1 ≤ p.2) (h' : p.2 ≤ 47) : mk p < 2 ^ 48 := by
 have h1 := z29 h
 have h2 : 2 ^ (p.2 + 1) ≤ 2 ^ 48 := Nat.pow_le_pow_right (by omega) (by omega)
 have := Nat.two_pow_pos p.1
 omega
theorem y7k {p : Run} (h : p.1 ≤ p.2) (h' : p.2 ≤ 47) {v : Nat} (hv : v < 2 ^ p.1) : q1l .or .i64 (v : Int) (q6f p.1 p.2) = ((v + mk p : Nat) : Int) := by
 have h1 : v < 2 ^ 48 := Nat.lt_of_lt_of_le hv (Nat.pow_le_pow_right (by omega) (by omega))
 rw [zb6 h, z9f h1 (y96 h h')]
 congr 1
 rw [Nat.or_comm]
 unfold mk
 rw [← Nat.two_pow_add_eq_or_of_lt hv, Nat.add_comm]
theorem z6n : ∀ (l : List Run) (y c v : Nat) (pre post : List Int), RC c l → v < 2 ^ c → pre.length = y → build (pre ++ (v : Int) :: post) (l.map fun p => (y, p)) = pre ++ ((v + val l : Nat) : Int) :: post
 | [], y, c, v, pre, post, _, _, _ => rfl
 | p :: l, y, c, v, pre, post, h, hv, hy => by
  subst hy
  have hv1 : v < 2 ^ p.1 := Nat.lt_of_lt_of_le hv (Nat.pow_le_pow_right (by omega) h.1)
  have e : y08 (pre ++ (v : Int) :: post) (pre.length, p) = pre ++ ((v + mk p : Nat) : Int) :: post := by
   unfold y08
   simp only
   rw [show (pre ++ (v : Int) :: post).getD pre.length 0 = (v : Int) by simp [List.getD_eq_getElem?_getD], y7k h.2.1 h.2.2.1 hv1]
   simp
  show build (y08 (pre ++ (v : Int) :: post) (pre.length, p)) (l.map fun p => (pre.length, p)) = _
  rw [e, z6n l pre.length (p.2 + 2) (v + mk p) pre post h.2.2.2 ?_ rfl]
  ·rw [val]; congr 3; omega
  ·have h1 := z29 h.2.1
   have h2 : 2 ^ (p.2 + 1) ≤ 2 ^ (p.2 + 2) := Nat.pow_le_pow_right (by omega) (by omega)
   omega
theorem zx1 (rows : List Int) (a b : List (Nat × Run)) : build rows (a ++ b) = build (build rows a) b := List.foldl_append ..
theorem z1a : ∀ (ls : List (List Run)) (y : Nat) (pre : List Int), (∀ l ∈ ls, RC 0 l) → pre.length = y → build (pre ++ List.replicate ls.length 0) (qb5 y ls) = pre ++ ls.map fun l => (val l : Int)
 | [], y, pre, _, _ => by simp [build, qb5]
 | l :: ls, y, pre, h, hy => by
  rw [qb5, zx1, List.length_cons, List.replicate_succ]
  have h1 := z6n l y 0 0 pre (List.replicate ls.length 0) (h l (by simp)) (by simp) hy
  rw [show ((0 : Nat) : Int) = 0 from rfl] at h1
  rw [h1, Nat.zero_add]
  have h2 := z1a ls (y + 1) (pre ++ [(val l : Int)]) (fun k hk => h k (List.mem_cons_of_mem _ hk)) (by simp [hy])
  rw [List.append_assoc] at h2
  rw [show pre ++ (val l : Int) :: List.replicate ls.length 0 = pre ++ ([(val l : Int)] ++ List.replicate ls.length 0) from rfl, h2]
  simp
theorem y47 {l : List Run} (h : RC 0 l) (hl : l ≠ []) : val l ≠ 0 := by
 cases l with
 | nil => exact absurd rfl hl
 | cons p l => exact (qw6 h).2.2
theorem zn4 {L : List (Nat × Run)} (h : z8f 0 0 L) : q44 0 (build (List.replicate 24 0) L) = zc9 L ∧ q29 (build (List.replicate 24 0) L) = true ∧ (L ≠ [] → (build (List.replicate 24 0) L).any (fun r => decide (r ≠ 0)) = true) := by
 obtain ⟨l, ls, h1, h2, h3, h4⟩ := z9u L 0 0 (by omega) h
 have h0 : ∀ k ∈ l :: ls, RC 0 k := fun k hk => by
  rcases List.mem_cons.1 hk with rfl | hk
  ·exact h1
  ·exact h2 k hk
 have e : L = qb5 0 (l :: ls) := h4
 have hlen : (l :: ls).length = 24 := by rw [List.length_cons]; omega
 have hb := z1a (l :: ls) 0 [] h0 rfl
 rw [hlen, List.nil_append, List.nil_append, ← e] at hb
 rw [hb]
 refine ⟨?_, ?_, ?_⟩
 ·rw [qz0, List.map_map, e]
  congr 2
  refine Eq.trans (b := (l :: ls).map id) (List.map_congr_left fun k hk => ?_) (List.map_id _)
  show q32 ((val k : Nat) : Int).toNat = k
  exact z63 (h0 k hk)
 ·simp only [q29, Bool.and_eq_true, decide_eq_true_eq, List.all_eq_true]
  refine ⟨by rw [List.length_map, hlen]; rfl, fun r hr => ?_⟩
  obtain ⟨k, hk, rfl⟩ := List.mem_map.1 hr
  have := z9h (h0 k hk)
  exact (q0f _ _ _).2 ⟨by omega, by omega⟩
 ·intro hL
  rw [List.any_eq_true]
  have : ∃ k ∈ l :: ls, k ≠ [] := by
   apply Classical.byContradiction
   intro hn
   apply hL
   have hn : ∀ k ∈ l :: ls, k = [] := fun k hk => Classical.byContradiction fun h => hn ⟨k, hk, h⟩
   rw [e, List.eq_replicate_of_mem hn, qj4]
  obtain ⟨k, hk, hne⟩ := this
  refine ⟨_, List.mem_map_of_mem hk, ?_⟩
  have := y47 (h0 k hk) hne
  simp; omega
end Go.SX
namespace Go.SX
open Go.Proofs
set_option maxHeartbeats 400000000
set_option maxRecDepth 100000
theorem qn7 : ∀ {l : List q06} {k : q06}, allOKL l = true → k ∈ l → z0o k = true
 | [], k, _, h => by simp at h
 | x :: l, k, ha, h => by
  rw [allOKL, Bool.and_eq_true] at ha
  rcases List.mem_cons.1 h with rfl | h
  ·exact ha.1
  ·exact qn7 ha.2 h
theorem z4j {g k : q06} (h : q2r g = true) (hk : k ∈ g.kids) : q2r k = true := by
 rw [qt1] at h ⊢
 obtain ⟨h1, h2, h3⟩ := h
 rw [z3b, Bool.and_eq_true] at h1
 rw [y0b] at h2
 rw [z32] at h3
 have := qj1 hk
 have := z5i hk
 exact ⟨qn7 h1.2 hk, by omega, by omega⟩
end Go.SX
namespace Go.SX
def z9a : List Wd → List q06 → Prop
 | [], gs => gs = []
 | w :: W, gs => if w = q3e then ∃ g r, gs = g :: r ∧ (w :: W).take (q0o g).length = q0o g ∧ z9a W r else z9a W gs
def z19 (A : List Wd) (gs : List q06) : Prop := ∀ (B : List Wd) (hs : List q06), z9a B hs → z9a (A ++ B) (gs ++ hs)
theorem z19.nil : z19 [] [] := fun _ _ h => h
theorem z19.app {A A' : List Wd} {g g' : List q06} (h : z19 A g) (h' : z19 A' g') : z19 (A ++ A') (g ++ g') := fun B hs hb => by
 rw [List.append_assoc, List.append_assoc]
 exact h _ _ (h' _ _ hb)
def NS (l : List Wd) : Prop := ∀ w ∈ l, w ≠ q3e
theorem NS.nil : NS [] := fun w h => by cases h
theorem NS.cons {w : Wd} {l : List Wd} (h : w ≠ q3e) (hl : NS l) : NS (w :: l) := fun x hx => by
 rcases List.mem_cons.1 hx with rfl | hx
 ·exact h
 ·exact hl x hx
theorem NS.app {a b : List Wd} (h : NS a) (h' : NS b) : NS (a ++ b) := fun x hx => by
 rcases List.mem_append.1 hx with hx | hx
 ·exact h x hx
 ·exact h' x hx
end Go.SX
namespace Go.SX
theorem zl4 {ws : List Wd} : ∀ (fuel y c : Nat) (rows rows' : List Int) (a m a' m' : Int), 0 ≤ a → a ≤ ws.length → q7q ws fuel y c rows a m = .ok rows' a' m' → ∃ L, z8f y c L ∧ (L = [] → 48 ≤ c) ∧ q5g ws a (zc9 L) a' ∧ m' = m ∧ rows' = build rows L
 | 0, y, c, rows, rows', a, m, a', m', h0, h1, h => by rw [q7q] at h; cases h
 | fuel + 1, y, c, rows, rows', a, m, a', m', h0, h1, h => by
  rw [q7q] at h
  split at h
  ·rename_i hc
   injection h with e1 e2 e3
   subst e1 e2 e3
   exact ⟨[], trivial, fun _ => by omega, .nil h0 h1, rfl, rfl⟩
  ·rename_i hc
   replace h := q0l h
   obtain ⟨_, a1, m1, h2, h⟩ := h
   obtain ⟨r1, rfl⟩ := q2e [q7o] (by decide) h0 h1 h2
   replace h := q0l h
   obtain ⟨row, a2, m2, h2, h⟩ := h
   obtain ⟨r2, rfl, b1, b2⟩ := q4i r1.lo' r1.hi h2
   replace h := q0l h
   obtain ⟨x, a3, m3, h2, h⟩ := h
   obtain ⟨r3, rfl, b3, b4⟩ := q4i r2.lo' r2.hi h2
   replace h := q0l h
   obtain ⟨z, a4, m4, h2, h⟩ := h
   obtain ⟨r4, rfl, b5, b6⟩ := q4i r3.lo' r3.hi h2
   have hrow : (y : Int) ≤ row := by split at b1 <;> omega
   obtain ⟨row, rfl⟩ := Int.eq_ofNat_of_zero_le (show 0 ≤ row by omega)
   have hx : 0 ≤ x := by split at b3 <;> omega
   obtain ⟨x, rfl⟩ := Int.eq_ofNat_of_zero_le hx
   obtain ⟨z, rfl⟩ := Int.eq_ofNat_of_zero_le (show 0 ≤ z by omega)
   have hcx : row = y → c ≤ x := fun e => by
    subst e
    have h48 : ¬ (48 : Int) ≤ c := fun h => by rw [if_pos h] at b1; omega
    rw [if_neg h48, if_neg (by omega)] at b3
    omega
   have rr := (r1.app (r2.app (r3.app r4)))
   split at h
   ·obtain ⟨L, k1, k2, k3, k4, k5⟩ := zl4 fuel row (z + 2) _ rows' a4 _ a' m' r4.lo' r4.hi h
    refine ⟨(row, (x, z)) :: L, ⟨by show y ≤ row; omega, by show row ≤ 23; omega, hcx, by show x ≤ z; omega, by show z ≤ 47; omega, k1⟩, (by simp), ?_, k4, k5⟩
    have := rr.app k3
    exact this
   ·injection h with e1 e2 e3
    subst e1 e2 e3
    refine ⟨[(row, (x, z))], ⟨by show y ≤ row; omega, by show row ≤ 23; omega, hcx, by show x ≤ z; omega, by show z ≤ 47; omega, trivial⟩, (by simp), ?_, rfl, rfl⟩
    exact rr
theorem zr9 {g : q06} (h : OkG g) (hk : g.kind = 1) : g = ⟨1, g.rows, g.from_, g.to_, g.low, g.high, g.clear, 0, 0, 0, [], []⟩ := by
 have h1 := qm6.1 h.plain
 obtain ⟨_, _, _, _, _, k1, k2⟩ := h.see hk
 unfold q77 at h1
 rw [if_pos hk] at h1
 cases g
 simp only at *
 simp [h1, k1, k2, hk]
theorem zs4 {g : q06} (h : OkG g) (hk : g.kind = 2 ∨ g.kind = 3 ∨ g.kind = 4) : ∃ k, g.kids = [k] ∧ k.kind ≤ q1m g.kind ∧ g = (if g.kind = 2 then ⟨2, [], 0, 0, g.low, 0, false, 0, 0, g.within, [], [k]⟩ else if g.kind = 3 then ⟨3, [], g.from_, 0, 0, 0, false, g.days, g.times, g.within, [], [k]⟩ else ⟨4, [], 0, 0, 0, 0, false, 0, 0, g.within, [], [k]⟩) := by
 have h1 := qm6.1 h.plain
 obtain ⟨k1, k2⟩ := h.one hk
 have h3 := h.parts
 simp only [q35, Bool.and_eq_true, Bool.or_eq_true, decide_eq_true_eq, Bool.not_eq_true', List.any_eq_false] at h3
 obtain ⟨⟨⟨_, _⟩, h4⟩, h5⟩ := h3
 have hr : g.rows = [] := by
  rcases h4 with h4 | h4
  ·omega
  ·exact List.eq_nil_of_length_eq_zero (by omega)
 unfold q77 at h1
 obtain ⟨k, hk1⟩ : ∃ k, g.kids = [k] := by
  match hg : g.kids, k1 with
  | [k], _ => exact ⟨k, rfl⟩
 have h6 := h5 k (by rw [hk1]; simp)
 refine ⟨k, hk1, by simpa using h6, ?_⟩
 rw [if_neg (by omega)] at h1
 cases g
 simp only at *
 subst hr hk1 k2
 rcases hk with hk | hk | hk <;> subst hk <;> simp at h1 ⊢ <;> simp [h1]
end Go.SX
namespace Go.SX
open Go.Proofs
set_option maxHeartbeats 400000000
set_option maxRecDepth 100000
@[reducible] def shH (n : Nat) (out : List q06) : List (HS Cd) := [.vart none [.slice 2 0 12 0 n], .vart none [shF], .rows U.goal out]
@[reducible] def shD (n : Nat) (out : List q06) : List (HS Cd) := [.vart none [.slice 3 0 12 0 n], .vart none [shF], .dead, .rows U.goal out]
theorem y8p (r : List Int) (f t lo hi : Int) (c : Bool) (out : List q06) (n : Nat) (hn : n = out.length) (hb : n ≤ 100) (hr : (r.length : Int) ≤ 1000) : q07 Tryz.prog Dc 46 [q0m ⟨1, r, f, t, lo, hi, c, 0, 0, 0, [], []⟩, .ptr 0 0, .ptr 1 0] (shH n out) (.tuple []) (shD (n + 1) (out ++ [⟨1, r, f, t, lo, hi, c, 0, 0, 0, [], []⟩])) := by
 subst hn
 have hc := y34 r (by omega)
 refine q00 Ax q03 Tryz.func46 (c := _) rfl Tryz.call46 300 ?_
 (repeat' ((conv => whnf); first | (exfalso; omega) | (refine q01 [] hc rfl rfl trivial ?_) | refine x0C ?_ | refine spC (fun hb => ?_) fun hb => ?_ | refine q52 (fun hb => ?_) ?_ | refine taC ?_ | refine saC ?_ | exact sdV | refine q0b ?_ ?_))
 conv => whnf
 refine zc1 [some 0, some 1, some 2, some 3, none] [(0, .any), (12, .any)] [(3, .vart none [iS 1, lS r, iS f, iS t, iS lo, iS hi, bS c, iS 0, iS 0, iS 0, lS [], gsS []]), (4, .rows U.int [])] (by exact bkV) ?_
 conv => whnf
 refine q02 mixed ?_
 (repeat' ((conv => whnf); first | (exfalso; omega) | refine x0C ?_ | refine spC (fun hb => ?_) fun hb => ?_ | refine q52 (fun hb => ?_) ?_ | refine taC ?_ | refine saC ?_ | exact sdV | refine q0b ?_ ?_))
 have hV : ((List.take out.length out ++ List.take 1 (List.drop 0 [(⟨0, [], 0, 0, 0, 0, false, 0, 0, 0, [], []⟩ : q06)])).set (0 + (out.length : Int).toNat) ⟨1, r, f, t, lo, hi, c, 0, 0, 0, [], []⟩) = out ++ [⟨1, r, f, t, lo, hi, c, 0, 0, 0, [], []⟩] := by
  rw [List.take_length, show 0 + (out.length : Int).toNat = out.length by omega, List.set_append_right _ _ (Nat.le_refl _), Nat.sub_self]; rfl
 conv => whnf
 refine q0u (fun _ : Unit => [(24, iS 0)]) (fun _ => []) (fun _ => True) (fun _ => 0) () trivial (by exact bkW) ?_
 intro _ _ K hK
 (repeat' ((conv => whnf); first | (exfalso; omega) | (refine q08 [some 0, some 1, some 2, some 6] (.inl rfl) ?_ ?_ rfl rfl; (focus exact vwV); exact hsW) | refine x0C ?_ | refine spC (fun hb => ?_) fun hb => ?_ | refine q52 (fun hb => ?_) ?_ | refine taC ?_ | refine saC ?_ | exact sdV | refine q0b ?_ ?_))
def SH1 (g : q06) : Prop := ∀ (n : Nat) (out : List q06), n = out.length → n + (q51 g).length ≤ 100 → q07 Tryz.prog Dc 46 [q0m g, .ptr 0 0, .ptr 1 0] (shH n out) (.tuple []) (shD (n + (q51 g).length) (out ++ q51 g))
def SH0 (g : q06) : Prop := q07 Tryz.prog Dc 46 [q0m g, .ptr 0 0, .ptr 1 0] [.vart none [zz2], .vart none [shF]] (.tuple []) [.vart none [.slice 2 0 12 0 (q51 g).length], .vart none [shF], .rows U.goal (q51 g)]
theorem z6b {g : q06} {i : Nat} (h : i < g.kids.length) : seesL (g.kids.take (i + 1)) = seesL (g.kids.take i) ++ q51 (g.kids.getD (i : Int).toNat (Cd.dflt U.goal)) := by
 rw [q2g (d := Cd.dflt U.goal) h, ql1]; rfl
theorem zt9 (g : q06) (i : Nat) : (seesL (g.kids.take i)).length ≤ (seesL g.kids).length := by
 have : ∀ (l : List q06) (i : Nat), (seesL (l.take i)).length ≤ (seesL l).length := by
  intro l
  induction l with
  | nil => intro i; simp [seesL]
  | cons a l ih =>
   intro i
   cases i with
   | zero => simp [seesL]
   | succ i => rw [List.take_succ_cons, seesL, seesL, List.length_append, List.length_append]; have := ih i; omega
 exact this _ _
theorem y97 (g : q06) (hk : g.kind ≠ 1) (hl : 1 ≤ g.kids.length) (hl4 : g.kids.length ≤ 12) (ih : ∀ k ∈ g.kids, SH1 k) : SH1 g := by
 intro n out hn hb
 subst hn
 have hs : q51 g = seesL g.kids := by rw [q8v, if_neg hk]
 rw [hs] at hb ⊢
 have hst := fun i h => z6b (g := g) (i := i) h
 have hle := zt9 g
 have hall : seesL (g.kids.take g.kids.length) = seesL g.kids := by rw [List.take_length]
 have h0 : seesL (g.kids.take 0) = [] := by rw [List.take_zero, seesL]
 have ih1 := fun i (h : i < g.kids.length) => ih (g.kids.getD (i : Int).toNat (Cd.dflt U.goal)) (List.mem_of_getElem? (getD_some (d := Cd.dflt U.goal) h))
 unfold SH1 at ih1
 generalize hS : (fun i => seesL (g.kids.take i)) = S
 generalize hE : (fun i : Nat => q51 (g.kids.getD (i : Int).toNat (Cd.dflt U.goal))) = E
 generalize hR : seesL g.kids = R at *
 have hst : ∀ i, i < g.kids.length → S (i + 1) = S i ++ E i := fun i h => by rw [← hS, ← hE]; exact hst i h
 have hle : ∀ i, (S i).length ≤ R.length := fun i => by rw [← hS]; exact hle i
 have hall : S g.kids.length = R := by rw [← hS]; exact hall
 have h0 : S 0 = [] := by rw [← hS]; exact h0
 have ih1 : ∀ (i : Nat), i < g.kids.length → ∀ (n : Nat) (out : List q06), n = out.length → n + (E i).length ≤ 100 → q07 Tryz.prog Dc 46 [q0m (g.kids.getD (i : Int).toNat (Cd.dflt U.goal)), .ptr 0 0, .ptr 1 0] (shH n out) (.tuple []) (shD (n + (E i).length) (out ++ E i)) := fun i h => by rw [← hE]; exact ih1 i h
 clear hS hE hR hs ih
 refine q00 Ax q03 Tryz.func46 (c := _) rfl Tryz.call46 300 ?_
 (repeat' ((conv => whnf); first | (exfalso; omega) | refine x0C ?_ | refine spC (fun hb => ?_) fun hb => ?_ | refine q52 (fun hb => ?_) ?_ | refine taC ?_ | refine saC ?_ | exact sdV | refine q0b ?_ ?_ | refine q02 mixed ?_))
 refine q0u (fun i : Nat => [(24, iS i)]) (fun i => match i with
  | 0 => []
  | i + 1 => [(0, .vart none [.slice 4 0 12 0 (out.length + (S (i + 1)).length)]), (2, .dead), (4, .rows U.goal (out ++ S (i + 1)))]) (fun i => i ≤ g.kids.length) (fun i => g.kids.length - i) 0 (Nat.zero_le _) (by exact bkI) ?_
 rintro i hi K hK
 rcases Nat.lt_or_ge i g.kids.length with hlt | hge
 ·have hst := hst i hlt
  have hsl := congrArg List.length hst
  rw [List.length_append] at hsl
  have hl1 := hle (i + 1)
  have ih1 := ih1 i hlt
  cases i with
  | zero =>
   rw [h0, List.nil_append] at hst
   rw [h0] at hsl
   have q := ih1 out.length out rfl (by rw [List.length_nil] at hsl; omega)
   rw [← hst] at q
   clear ih1 hle
   (repeat' ((conv => whnf); first | (exfalso; omega) | (refine q01 [some 0, some 1, some 2] q rfl rfl ⟨rfl, rfl, rfl, trivial⟩ ?_) | refine hK 1 [some 0, some 1, some 2, some 3, some 5] _ _ ⟨by omega⟩ ⟨by omega⟩ (by exact bkW) | refine x0C ?_ | refine spC (fun hb => ?_) fun hb => ?_ | refine q52 (fun hb => ?_) ?_ | refine taC ?_ | refine saC ?_ | exact sdV | refine q0b ?_ ?_ | refine q02 mixed ?_))
  | succ i =>
   have q := ih1 (out.length + (S (i + 1)).length) (out ++ S (i + 1)) (by rw [List.length_append]) (by omega)
   rw [List.append_assoc, ← hst] at q
   clear ih1 hle
   (repeat' ((conv => whnf); first | (exfalso; omega) | (refine q01 [some 0, some 1, some 4] q rfl rfl ⟨rfl, rfl, rfl, trivial⟩ ?_) | refine hK (i + 2) [some 0, some 1, some 2, some 3, some 6] _ _ ⟨by omega⟩ ⟨by omega⟩ (by exact bkW) | refine x0C ?_ | refine spC (fun hb => ?_) fun hb => ?_ | refine q52 (fun hb => ?_) ?_ | refine taC ?_ | refine saC ?_ | exact sdV | refine q0b ?_ ?_ | refine q02 mixed ?_))
 ·obtain ⟨j, rfl⟩ : ∃ j, i = j + 1 := ⟨i - 1, by omega⟩
  have e : S (j + 1) = R := by rw [← hall]; congr 1; omega
  subst e
  (repeat' ((conv => whnf); first | (exfalso; omega) | (refine q08 [some 0, some 1, some 2, some 4] (.inl rfl) ?_ ?_ rfl rfl; (focus exact vwV); exact hsW) | refine x0C ?_ | refine spC (fun hb => ?_) fun hb => ?_ | refine q52 (fun hb => ?_) ?_ | refine taC ?_ | refine saC ?_ | exact sdV | refine q0b ?_ ?_ | refine q02 mixed ?_))
theorem y7q (g : q06) (hk : g.kind ≠ 1) (hl : 1 ≤ g.kids.length) (hl4 : g.kids.length ≤ 12) (hb : (q51 g).length ≤ 100) (ih : ∀ k ∈ g.kids, SH1 k) (ih0 : ∀ k ∈ g.kids, SH0 k) : SH0 g := by
 unfold SH0
 have hs : q51 g = seesL g.kids := by rw [q8v, if_neg hk]
 rw [hs] at hb ⊢
 have hst := fun i h => z6b (g := g) (i := i) h
 have hle := zt9 g
 have hall : seesL (g.kids.take g.kids.length) = seesL g.kids := by rw [List.take_length]
 have h0 : seesL (g.kids.take 0) = [] := by rw [List.take_zero, seesL]
 have ih1 := fun i (h : i < g.kids.length) => ih (g.kids.getD (i : Int).toNat (Cd.dflt U.goal)) (List.mem_of_getElem? (getD_some (d := Cd.dflt U.goal) h))
 unfold SH1 at ih1
 have ih2 := ih0 (g.kids.getD ((0 : Nat) : Int).toNat (Cd.dflt U.goal)) (List.mem_of_getElem? (getD_some (d := Cd.dflt U.goal) (show 0 < g.kids.length by omega)))
 unfold SH0 at ih2
 generalize hS : (fun i => seesL (g.kids.take i)) = S
 generalize hE : (fun i : Nat => q51 (g.kids.getD (i : Int).toNat (Cd.dflt U.goal))) = E
 generalize hR : seesL g.kids = R at *
 have hst : ∀ i, i < g.kids.length → S (i + 1) = S i ++ E i := fun i h => by rw [← hS, ← hE]; exact hst i h
 have hle : ∀ i, (S i).length ≤ R.length := fun i => by rw [← hS]; exact hle i
 have hall : S g.kids.length = R := by rw [← hS]; exact hall
 have h0 : S 0 = [] := by rw [← hS]; exact h0
 have ih1 : ∀ (i : Nat), i < g.kids.length → ∀ (n : Nat) (out : List q06), n = out.length → n + (E i).length ≤ 100 → q07 Tryz.prog Dc 46 [q0m (g.kids.getD (i : Int).toNat (Cd.dflt U.goal)), .ptr 0 0, .ptr 1 0] (shH n out) (.tuple []) (shD (n + (E i).length) (out ++ E i)) := fun i h => by rw [← hE]; exact ih1 i h
 have ih2 : q07 Tryz.prog Dc 46 [q0m (g.kids.getD ((0 : Nat) : Int).toNat (Cd.dflt U.goal)), .ptr 0 0, .ptr 1 0] [.vart none [zz2], .vart none [shF]] (.tuple []) [.vart none [.slice 2 0 12 0 (E 0).length], .vart none [shF], .rows U.goal (E 0)] := by rw [← hE]; exact ih2
 clear hS hE hR hs ih ih0
 refine q00 Ax q03 Tryz.func46 (c := _) rfl Tryz.call46 300 ?_
 (repeat' ((conv => whnf); first | (exfalso; omega) | refine x0C ?_ | refine spC (fun hb => ?_) fun hb => ?_ | refine q52 (fun hb => ?_) ?_ | refine taC ?_ | refine saC ?_ | exact sdV | refine q0b ?_ ?_ | refine q02 mixed ?_))
 refine q0u (fun i : Nat => [(24, iS i)]) (fun i => match i with
  | 0 => []
  | i + 1 => [(0, .vart none [.slice 3 0 12 0 (S (i + 1)).length]), (3, .rows U.goal (S (i + 1)))]) (fun i => i ≤ g.kids.length) (fun i => g.kids.length - i) 0 (Nat.zero_le _) (by exact bkI) ?_
 rintro i hi K hK
 rcases Nat.lt_or_ge i g.kids.length with hlt | hge
 ·have hst := hst i hlt
  have hsl := congrArg List.length hst
  rw [List.length_append] at hsl
  have hl1 := hle (i + 1)
  have ih1 := ih1 i hlt
  cases i with
  | zero =>
   rw [h0, List.nil_append] at hst
   rw [h0] at hsl
   rw [← hst] at ih2
   clear ih1 hle
   (repeat' ((conv => whnf); first | (exfalso; omega) | (refine q01 [some 0, some 1] ih2 rfl rfl ⟨rfl, rfl, trivial⟩ ?_) | refine hK 1 [some 0, some 1, some 2, some 4] _ _ ⟨by omega⟩ ⟨by omega⟩ (by exact bkW) | refine x0C ?_ | refine spC (fun hb => ?_) fun hb => ?_ | refine q52 (fun hb => ?_) ?_ | refine taC ?_ | refine saC ?_ | exact sdV | refine q0b ?_ ?_ | refine q02 mixed ?_))
  | succ i =>
   have q := ih1 (S (i + 1)).length (S (i + 1)) rfl (by omega)
   rw [← hst] at q
   clear ih1 hle
   (repeat' ((conv => whnf); first | (exfalso; omega) | (refine q01 [some 0, some 1, some 3] q rfl rfl ⟨rfl, rfl, rfl, trivial⟩ ?_) | refine hK (i + 2) [some 0, some 1, some 2, some 5] _ _ ⟨by omega⟩ ⟨by omega⟩ (by exact bkW) | refine x0C ?_ | refine spC (fun hb => ?_) fun hb => ?_ | refine q52 (fun hb => ?_) ?_ | refine taC ?_ | refine saC ?_ | exact sdV | refine q0b ?_ ?_ | refine q02 mixed ?_))
 ·obtain ⟨j, rfl⟩ : ∃ j, i = j + 1 := ⟨i - 1, by omega⟩
  have e : S (j + 1) = R := by rw [← hall]; congr 1; omega
  subst e
  (repeat' ((conv => whnf); first | (exfalso; omega) | (refine q08 [some 0, some 1, some 3] (.inl rfl) ?_ ?_ rfl rfl; (focus exact vwV); exact hsW) | refine x0C ?_ | refine spC (fun hb => ?_) fun hb => ?_ | refine q52 (fun hb => ?_) ?_ | refine taC ?_ | refine saC ?_ | exact sdV | refine q0b ?_ ?_ | refine q02 mixed ?_))
theorem y24 : ∀ (N : Nat) (g : q06), qj9 g ≤ N → z0o g = true → (q51 g).length ≤ 100 → SH1 g ∧ SH0 g
 | 0, g, hN, _, _ => by have := q7w g; omega
 | N + 1, g, hN, ha, hb => by
  have ha2 := ha
  rw [z3b, Bool.and_eq_true] at ha2
  have hO := okG ha2.1
  by_cases hk : g.kind = 1
  ·obtain ⟨b1, _⟩ := hO.see hk
   have hr : g.rows.length = 24 := by simp only [q29, Bool.and_eq_true, decide_eq_true_eq] at b1; omega
   have e := zr9 hO hk
   have es : q51 g = [g] := by rw [q8v, if_pos hk]
   constructor
   ·intro n out hn hb
    rw [es]
    rw [e]
    exact y8p _ _ _ _ _ _ out n hn (by rw [es] at hb; simp at hb; omega) (by omega)
   ·unfold SH0
    rw [es]
    rw [e]
    exact y2o _ _ _ _ _ _ _ _ _ _ (by omega)
  ·have hs : q51 g = seesL g.kids := by rw [q8v, if_neg hk]
   rw [z32] at hN
   have hkl : 1 ≤ g.kids.length := by
    rcases (show (g.kind = 2 ∨ g.kind = 3 ∨ g.kind = 4) ∨ g.kind = 5 ∨ g.kind = 6 by have := hO.kind; omega) with h | h
    ·have := (hO.one h).1; omega
    ·have := (hO.many h).1; omega
   have hk4 : g.kids.length ≤ 12 := by
    rcases (show (g.kind = 2 ∨ g.kind = 3 ∨ g.kind = 4) ∨ g.kind = 5 ∨ g.kind = 6 by have := hO.kind; omega) with h | h
    ·have := (hO.one h).1; omega
    ·have := (hO.many h).2.1; omega
   have ih : ∀ k ∈ g.kids, SH1 k ∧ SH0 k := fun k hkm => by
    have h1 := qj1 hkm
    refine y24 N k (by omega) (qn7 ha2.2 hkm) ?_
    have : ∀ {l : List q06} {k : q06}, k ∈ l → (q51 k).length ≤ (seesL l).length := by
     intro l
     induction l with
     | nil => intro k h; cases h
     | cons a l ihl =>
      intro k h
      rw [seesL, List.length_append]
      rcases List.mem_cons.1 h with rfl | h
      ·omega
      ·have := ihl h; omega
    have := this hkm
    rw [hs] at hb
    omega
   exact ⟨y97 g hk hkl hk4 fun k h => (ih k h).1, y7q g hk hkl hk4 hb (fun k h => (ih k h).1) fun k h => (ih k h).2⟩
theorem y3v (g : q06) (hv : q2r g = true) : q07 Tryz.prog Dc 22 [q0m g] [] (gsS (q51 g)) [] := by
 obtain ⟨n, hn⟩ := qu6 hv
 have h12 := (zc0 g).1
 unfold q7h at h12
 rw [if_pos hv] at h12
 obtain ⟨a1, _, _⟩ := (qt1 g).1 hv
 obtain ⟨_, h1⟩ := y24 (qj9 g).toNat g (by have := q7w g; omega) a1 (by omega)
 unfold SH0 at h1
 have hvm := q3o g (q89 hv)
 rw [hv] at hvm
 generalize q51 g = S at *
 refine q00 Ax q03 Tryz.func22 (c := _) rfl Tryz.call22 300 ?_
 (repeat' ((conv => whnf); first | (exfalso; omega) | refine cpC (hvm) ?_ | refine dpC (hvm) ?_ | (refine q01 [some 1, some 2] h1 rfl rfl ⟨rfl, rfl, trivial⟩ ?_) | (refine q08 [] (.inr rfl) ?_ ?_ rfl rfl; (focus exact vwV); exact hsV) | refine x0C ?_ | refine spC (fun hb => ?_) fun hb => ?_ | refine q52 (fun hb => ?_) ?_ | refine taC ?_ | refine saC ?_ | exact sdV | refine q0b ?_ ?_ | refine q02 mixed ?_))
theorem z6u : ∀ (n : Nat) (g : q06), SizeOf.sizeOf g ≤ n → q4d g → ∀ s ∈ q51 g, q4d s
 | 0, g, hn, _, _, _ => by cases g; simp at hn
 | n + 1, g, hn, hG, s, hs => by
  rw [q8v] at hs
  split at hs
  ·rw [List.mem_singleton.1 hs]; exact hG
  ·have key : ∀ l : List q06, (∀ x ∈ l, x ∈ g.kids) → s ∈ seesL l → q4d s := by
    intro l
    induction l with
    | nil => intro _ h; rw [seesL] at h; cases h
    | cons a l ih =>
     intro hl h
     rw [seesL] at h
     rcases List.mem_append.1 h with h | h
     ·have ha := hl a (List.mem_cons_self ..)
      have h1 := List.sizeOf_lt_of_mem ha
      have h2 : SizeOf.sizeOf g.kids < SizeOf.sizeOf g := by cases g; simp; omega
      exact z6u n a (by omega) (q3p ((q1y g).1 hG).2 ha) s h
     ·exact ih (fun x hx => hl x (List.mem_cons_of_mem _ hx)) h
   exact key _ (fun _ h => h) hs
theorem qk2 {g : q06} (hG : q4d g) : ∀ s ∈ q7h g, q4d s := by
 unfold q7h
 split
 ·exact z6u _ g (Nat.le_refl _) hG
 ·intro s h; cases h
theorem z40 {g : q06} (hG : q4d g) : (q7h g).length ≤ 12 := (zc0 g).1
theorem z09 (o : q2c) : (q4y o).1.length ≤ 1400000 := by
 unfold q4y
 split
 ·rename_i h
  obtain ⟨_, _, _, _, _, _, h7⟩ := (q6j o).1 h
  have h1 := q5p h7
  have h2 := q6l o
  have h3 := qj2 (qh0 o)
  show (q6c (q4k o)).length ≤ _
  omega
 ·show ([] : Wd).length ≤ _
  simp
end Go.SX
