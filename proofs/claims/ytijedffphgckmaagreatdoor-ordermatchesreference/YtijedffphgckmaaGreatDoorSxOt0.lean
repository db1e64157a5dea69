/-
  Plain: how the reference reads orders: it goes on after the first wrong word, but reads nothing any more.
-/
import Derived.Test.YtijedffphgckmaaGreatDoorSxOr6
import Derived.Test.YtijedffphgckmaaGreatDoorSxUj1
import Derived.Test.YtijedffphgckmaaGreatDoorSxUb0
import Derived.Test.YtijedffphgckmaaGreatDoorSxUb9
set_option linter.unusedVariables false
set_option linter.unusedSimpArgs false
namespace Go.SX
abbrev Xr (α : Type) := α × Int × Bool × Int
abbrev XP (α : Type) := Int → Bool → Int → Xr α
@[reducible] def Xr.bind {α β : Type} (x : Xr α) (k : α → XP β) : Xr β := k x.1 x.2.1 x.2.2.1 x.2.2.2
def q24 (ws : List Wd) (s : Wd) (a : Int) (w : Bool) : Bool := !w && decide (a < ws.length) && decide (ws.getD a.toNat [] = s)
def xIs (ws : List Wd) (s : Wd) : XP Bool := fun a w m => if q24 ws s a w then (true, a + 1, w, m) else (false, a, w, m)
def q0c (ws : List Wd) : List Wd → XP Unit
 | [] => fun a w m => ((), a, w, m)
 | s :: l => fun a w m => if q24 ws s a w then q0c ws l (a + 1) w m else q0c ws l a true m
def qb8 : Int → Wd → Int
 | n, [] => n
 | n, c :: s => if c.toNat < 48 ∨ 57 < c.toNat then -1 else qb8 (10 * n + ((c.toNat : Int) - 48)) s
def qm4 (s : Wd) : Int := if s.length = 0 ∨ 10 < s.length ∨ (s.getD 0 0 = 48 ∧ 1 < s.length) then -1 else qb8 0 s
def q2l (ws : List Wd) (lo hi : Int) : XP Int := fun a w m =>
 if w = true ∨ (ws.length : Int) ≤ a ∨ ¬ (lo ≤ qm4 (ws.getD a.toNat []) ∧ qm4 (ws.getD a.toNat []) ≤ hi) then (0, a, true, m) else (qm4 (ws.getD a.toNat []), a + 1, w, m)
def q2b (ws : List Wd) (s : Wd) (goals deep : Int) : XP Bool := fun a w m =>
 if q24 ws s a w then (if m < goals ∨ (0 < goals ∧ 4 ≤ deep) then (true, a, true, m) else (true, a + 1, w, m - goals)) else (false, a, w, m)
def q5e (ws : List Wd) : Nat → Int → Int → List Int → XP (List Int)
 | 0, _, _, rows => fun a w m => (rows, a, w, m)
 | n + 1, y, last, rows => fun a w m =>
  if q24 ws q7o a w || (decide (y = 0) && decide (last = -2) && !w) then
   if ¬ last + 2 < 48 ∧ y = 23 then (rows, a, true, m) else
   (q0c ws [q7o] a w m).bind fun _ a w m =>
   (q2l ws (if last + 2 < 48 then y else y + 1) 23 a w m).bind fun y' a w m =>
   (q2l ws (if y' = y then last + 2 else 0) 47 a w m).bind fun first a w m =>
   (q2l ws first 47 a w m).bind fun last' a w m =>
   q5e ws n y' last' (if w then rows else rows.set y'.toNat (q1l .or .i64 (rows.getD y'.toNat 0) (q6f first last'))) a w m
  else (rows, a, w, m)
def qm3 (ws : List Wd) : XP (List Int) := q5e ws 1200 0 (-2) (List.replicate 24 0)
def qx5 : q06 := ⟨0, [], 0, 0, 0, 0, false, 0, 0, 0, [], []⟩
def qy3 (ws : List Wd) (s t : Wd) : XP Bool := fun a w m => (xIs ws s a w m).bind fun c a w m => ((if c then fun a w m => ((), a, w, m) else q0c ws [t] : XP Unit) a w m).bind fun _ a w m => (c, a, w, m)
def y44 (ws : List Wd) : XP q06 := fun a w m =>
 (qm3 ws a w m).bind fun rows a w m =>
 (q0c ws [q1q] a w m).bind fun _ a w m => (q2l ws 0 999999 a w m).bind fun f a w m =>
 (q0c ws [qh5] a w m).bind fun _ a w m => (q2l ws (f + 1) 1000000 a w m).bind fun t a w m =>
 (q0c ws [qf4] a w m).bind fun _ a w m => (q2l ws 0 90 a w m).bind fun lo a w m =>
 (q0c ws [qh5] a w m).bind fun _ a w m => (q2l ws lo 90 a w m).bind fun hi a w m =>
 (qy3 ws q64 q2p a w m).bind fun c a w m => (⟨1, rows, f, t, lo, hi, c, 0, 0, 0, [], []⟩, a, w, m)
def z7w (ws : List Wd) (sub : XP q06) : XP q06 := fun a w m =>
 (q0c ws [q3w] a w m).bind fun _ a w m => (q2l ws 1 8 a w m).bind fun lo a w m =>
 (q0c ws [q0z] a w m).bind fun _ a w m => (q2l ws 1 1000000 a w m).bind fun wi a w m =>
 (q0c ws [q5t] a w m).bind fun _ a w m => (sub a w m).bind fun k a w m => (⟨2, [], 0, 0, lo, 0, false, 0, 0, wi, [], [k]⟩, a, w, m)
def qs8 (ws : List Wd) (sub : XP q06) : XP q06 := fun a w m =>
 (q2l ws 1 60 a w m).bind fun d a w m => (q0c ws [q5d] a w m).bind fun _ a w m => (q2l ws 1 6 a w m).bind fun t a w m =>
 (q0c ws [q3u, q3v] a w m).bind fun _ a w m => (q2l ws 0 (1440 * d) a w m).bind fun wi a w m =>
 (q0c ws [q1q] a w m).bind fun _ a w m => (q2l ws 0 1000000 a w m).bind fun f a w m =>
 (q0c ws [q5t] a w m).bind fun _ a w m => (sub a w m).bind fun k a w m => (⟨3, [], f, 0, 0, 0, false, d, t, wi, [], [k]⟩, a, w, m)
def y55 (ws : List Wd) (sub : XP q06) : XP q06 := fun a w m =>
 (q0c ws [q0z] a w m).bind fun _ a w m => (q2l ws 0 1000000 a w m).bind fun wi a w m =>
 (q0c ws [q5t] a w m).bind fun _ a w m => (sub a w m).bind fun k a w m => (⟨4, [], 0, 0, 0, 0, false, 0, 0, wi, [], [k]⟩, a, w, m)
def q1h (ws : List Wd) (sub : XP q06) (k : Int) : Nat → List Int → List q06 → XP (List Int × List q06)
 | 0, cents, kids => fun a w m => ((cents, kids), a, w, m)
 | n + 1, cents, kids => fun a w m =>
  if w then ((cents, kids), a, w, m) else
  ((if k = 6 then fun a w m => (q2l ws 0 1000000000 a w m).bind fun c a w m => (cents ++ [c], a, w, m) else fun a w m => (cents, a, w, m) : XP (List Int)) a w m).bind fun cents a w m =>
  (sub a w m).bind fun g a w m =>
  if kids.length + 1 = 1 then (q0c ws [q0d] a w m).bind fun _ a w m => q1h ws sub k n cents (kids ++ [g]) a w m
  else (xIs ws q1d a w m).bind fun b a w m =>
   if b then ((cents, kids ++ [g]), a, w, m)
   else if kids.length + 1 = 4 ∨ m = 0 then ((cents, kids ++ [g]), a, true, m)
   else (q0c ws [q0d] a w (m - 1)).bind fun _ a w m => q1h ws sub k n cents (kids ++ [g]) a w m
def z5g (ws : List Wd) (sub : XP q06) (k : Int) : XP q06 := fun a w m =>
 (q0c ws [q2m] a w m).bind fun _ a w m => (q1h ws sub k 5 [] [] a w m).bind fun r a w m => (⟨k, [], 0, 0, 0, 0, false, 0, 0, 0, r.1, r.2⟩, a, w, m)
def q71 (ws : List Wd) : Nat → Int → Int → XP q06
 | 0, _, _ => fun a _ m => (qx5, a, true, m)
 | f + 1, most, deep => fun a w m =>
  if (q2b ws q3e 0 deep a w m).1 then (q2b ws q3e 0 deep a w m).bind fun _ => y44 ws
  else if 2 ≤ most ∧ (q2b ws q28 1 deep a w m).1 = true then (q2b ws q28 1 deep a w m).bind fun _ => z7w ws (q71 ws f 1 (deep + 1))
  else if 3 ≤ most ∧ (q2b ws q1k 1 deep a w m).1 = true then (q2b ws q1k 1 deep a w m).bind fun _ => qs8 ws (q71 ws f 1 (deep + 1))
  else if 4 ≤ most ∧ (q2b ws q0q 1 deep a w m).1 = true then (q2b ws q0q 1 deep a w m).bind fun _ => y55 ws (q71 ws f 3 (deep + 1))
  else if 5 ≤ most ∧ (q2b ws q46 2 deep a w m).1 = true then (q2b ws q46 2 deep a w m).bind fun _ => z5g ws (q71 ws f 6 (deep + 1)) 5
  else if 6 ≤ most ∧ (q2b ws q2p 2 deep a w m).1 = true then (q2b ws q2p 2 deep a w m).bind fun _ => z5g ws (q71 ws f 6 (deep + 1)) 6
  else (qx5, a, true, m)
def z54 (ws : List Wd) : XP Int := fun a w m => (xIs ws q36 a w m).bind fun b a w m => if b then (-1, a, w, m) else q2l ws 0 15 a w m
def q7f (ws : List Wd) : XP q2c := fun a w m =>
 (q0c ws [q0w] a w m).bind fun _ a w m => (q2l ws 0 63 a w m).bind fun id a w m =>
 (q0c ws [q6s] a w m).bind fun _ a w m => (q2l ws 0 15 a w m).bind fun owner a w m =>
 (q0c ws [q2n] a w m).bind fun _ a w m => (q2l ws 0 1000000000 a w m).bind fun price a w m =>
 (q0c ws [q0x] a w m).bind fun _ a w m => (z54 ws a w m).bind fun group a w m =>
 (qy3 ws q1j q23 a w m).bind fun urgent a w m =>
 (q0c ws [q19] a w m).bind fun _ a w m => (q2l ws 0 999999 a w m).bind fun known a w m =>
 (q0c ws [q2w] a w m).bind fun _ a w m => (q2l ws (known + 1) 1000000 a w m).bind fun due a w m =>
 (q0c ws [q1a] a w m).bind fun _ a w m => (q71 ws 5 6 1 a w m).bind fun goal a w m =>
 (q0c ws [q3z] a w m).bind fun _ a w m => (⟨id, owner, goal, price, group, urgent, known, due⟩, a, w, m)
end Go.SX
namespace Go.SX
def DG (s : Wd) : Prop := ∀ c ∈ s, 48 ≤ c.toNat ∧ c.toNat ≤ 57
theorem z9c : ∀ (s : Wd) (n : Int), ¬ DG s → qb8 n s = -1
 | [], n, h => absurd (fun c hc => by cases hc) h
 | c :: s, n, h => by
  rw [qb8]
  by_cases hc : c.toNat < 48 ∨ 57 < c.toNat
  ·rw [if_pos hc]
  ·rw [if_neg hc]
   exact z9c s _ fun hd => h fun x hx => by
    rcases List.mem_cons.1 hx with rfl | hx
    ·omega
    ·exact hd x hx
theorem qu2 : ∀ (s : Wd) (n : Int) (c : UInt8), DG s → 48 ≤ c.toNat ∧ c.toNat ≤ 57 → qb8 n (s ++ [c]) = 10 * qb8 n s + ((c.toNat : Int) - 48)
 | [], n, c, _, hc => by
  rw [List.nil_append]
  show qb8 n [c] = 10 * n + _
  rw [qb8, if_neg (by omega), qb8]
 | d :: s, n, c, h, hc => by
  have hd := h d (by simp)
  rw [List.cons_append, qb8, qb8, if_neg (by omega), if_neg (by omega), qu2 s _ c (fun x hx => h x (List.mem_cons_of_mem _ hx)) hc]
theorem z92 : ∀ (s : Wd) (n : Int), DG s → 0 ≤ n → qb8 n s + 1 ≤ (n + 1) * 10 ^ s.length
 | [], n, _, _ => by simp [qb8]
 | c :: s, n, h, h0 => by
  have hc := h c (by simp)
  rw [qb8, if_neg (by omega), List.length_cons, Int.pow_succ]
  have h1 := z92 s (10 * n + ((c.toNat : Int) - 48)) (fun x hx => h x (List.mem_cons_of_mem _ hx)) (by omega)
  have h2 : (10 * n + ((c.toNat : Int) - 48) + 1) * 10 ^ s.length ≤ (10 * (n + 1)) * 10 ^ s.length := Int.mul_le_mul_of_nonneg_right (by omega) (Int.pow_nonneg (by omega))
  have h3 : (n + 1) * (10 ^ s.length * 10) = (10 * (n + 1)) * 10 ^ s.length := by rw [Int.mul_comm (10 ^ s.length) 10, ← Int.mul_assoc, Int.mul_comm (n + 1) 10]
  omega
theorem zb9 : ∀ (k : Nat) (s : Wd), s.length = k + 1 → k ≤ 10 → DG s → s.getD 0 0 ≠ 48 → 1 ≤ qb8 0 s ∧ q0a (qb8 0 s) = s
 | 0, s, hl, _, h, h0 => by
  match s, hl with
  | [c], _ =>
   have hc := h c (by simp)
   have hne : c.toNat ≠ 48 := fun e => h0 (by
    show c = 48
    exact UInt8.toNat_inj.1 e)
   have e : qb8 0 [c] = (c.toNat : Int) - 48 := by rw [qb8, if_neg (by omega), qb8]; omega
   rw [e]
   refine ⟨by omega, ?_⟩
   rw [q7y (by omega) (by omega)]
   congr 1
   refine UInt8.toNat_inj.1 ?_
   rw [UInt8.toNat_ofNat']
   omega
 | k + 1, s, hl, hk, h, h0 => by
  obtain ⟨t, c, rfl⟩ : ∃ t c, s = t ++ [c] := ⟨s.dropLast, s.getLast (by intro e; rw [e] at hl; simp at hl), (List.dropLast_concat_getLast _).symm⟩
  have htl : t.length = k + 1 := by simpa using hl
  have hc := h c (by simp)
  have ht : DG t := fun x hx => h x (by simp [hx])
  have ht0 : t.getD 0 0 ≠ 48 := by
   cases t with
   | nil => simp at htl
   | cons a t => exact h0
  obtain ⟨h1, h2⟩ := zb9 k t htl (by omega) ht ht0
  have hhi := z92 t 0 ht (by omega)
  rw [htl] at hhi
  have hpow : (10 : Int) ^ (k + 1) ≤ 10 ^ 10 := by
   have := Nat.pow_le_pow_right (n := 10) (by omega) (show k + 1 ≤ 10 by omega)
   exact_mod_cast this
  rw [qu2 t 0 c ht hc]
  refine ⟨by omega, ?_⟩
  have e1 : (10 * qb8 0 t + ((c.toNat : Int) - 48)).tdiv 10 = qb8 0 t := by rw [Int.tdiv_eq_ediv_of_nonneg (by omega)]; omega
  have e2 : (10 * qb8 0 t + ((c.toNat : Int) - 48)).tmod 10 = (c.toNat : Int) - 48 := by rw [Int.tmod_eq_emod_of_nonneg (by omega)]; omega
  rw [qn1 (by omega) (by omega), e1, e2, h2, q7y (by omega) (by omega)]
  congr 2
  refine UInt8.toNat_inj.1 ?_
  rw [UInt8.toNat_ofNat']
  omega
theorem y1t {s : Wd} (h : 0 ≤ qm4 s) : q0a (qm4 s) = s ∧ qm4 s < 10000000000 := by
 unfold qm4 at h ⊢
 split at h
 ·omega
 ·rename_i hc
  rw [if_neg hc]
  simp only [not_or, not_and] at hc
  obtain ⟨c1, c2, c3⟩ := hc
  have hd : DG s := by
   apply Classical.byContradiction
   intro hn
   rw [z9c s 0 hn] at h
   omega
  have hhi := z92 s 0 hd (by omega)
  have hpow : (10 : Int) ^ s.length ≤ 10 ^ 10 := by
   have := Nat.pow_le_pow_right (n := 10) (by omega) (show s.length ≤ 10 by omega)
   exact_mod_cast this
  refine ⟨?_, by omega⟩
  by_cases h0 : s.getD 0 0 = 48
  ·have h1 := c3 h0
   match s, c1, h1, h0 with
   | [c], _, _, h0 =>
    have h0 : c = 48 := h0
    subst h0
    decide
   | a :: b :: s, _, h1, _ => simp at h1
  ·exact (zb9 (s.length - 1) s (by omega) (by omega) hd h0).2
theorem z9s : ∀ (f : Nat) (n : Int), 0 ≤ n → n < 10 ^ (f + 1) → n < 1000000000000 → DG (q0a n) ∧ qb8 0 (q0a n) = n ∧ (q0a n).length ≤ f + 1 ∧ 1 ≤ (q0a n).length ∧ (1 ≤ n → (q0a n).getD 0 0 ≠ 48) ∧ (n = 0 → (q0a n).length = 1)
 | f, n, h0, h1, h2 => by
  by_cases h10 : n < 10
  ·rw [q7y h0 h10]
   have e : (UInt8.ofNat (48 + n.toNat)).toNat = 48 + n.toNat := by rw [UInt8.toNat_ofNat']; omega
   refine ⟨fun c hc => ?_, ?_, by simp, by simp, fun h => ?_, fun _ => rfl⟩
   ·rw [List.mem_singleton] at hc; rw [hc, e]; omega
   ·rw [qb8, if_neg (by omega), qb8]; omega
   ·intro e2
    have e2 : UInt8.ofNat (48 + n.toNat) = 48 := e2
    have := congrArg UInt8.toNat e2
    rw [e] at this
    have h48 : (48 : UInt8).toNat = 48 := rfl
    omega
  ·cases f with
   | zero => simp at h1; omega
   | succ f =>
    have e1 : n.tdiv 10 = n / 10 := Int.tdiv_eq_ediv_of_nonneg (by omega)
    have e2 : n.tmod 10 = n % 10 := Int.tmod_eq_emod_of_nonneg (by omega)
    rw [qn1 (by omega) (by omega), e1, e2]
    rw [Int.pow_succ] at h1
    obtain ⟨g1, g2, g3, g4, g5, g6⟩ := z9s f (n / 10) (by omega) (by omega) (by omega)
    have e3 : (UInt8.ofNat (48 + (n % 10).toNat)).toNat = 48 + (n % 10).toNat := by rw [UInt8.toNat_ofNat']; omega
    rw [q7y (n := n % 10) (by omega) (by omega)]
    refine ⟨fun c hc => ?_, ?_, by simp; omega, by simp, fun _ => ?_, fun h => by omega⟩
    ·rcases List.mem_append.1 hc with hc | hc
     ·exact g1 c hc
     ·rw [List.mem_singleton] at hc; rw [hc, e3]; omega
    ·rw [qu2 _ _ _ g1 (by omega), g2, e3]; omega
    ·have := g5 (by omega)
     cases hq : q0a (n / 10) with
     | nil => rw [hq] at g4; simp at g4
     | cons a l => rw [hq] at this; exact this
theorem z8q {n : Int} (h0 : 0 ≤ n) (h : n < 10000000000) : qm4 (q0a n) = n := by
 obtain ⟨g1, g2, g3, g4, g5, g6⟩ := z9s 9 n h0 (by omega) (by omega)
 unfold qm4
 rw [if_neg, g2]
 simp only [not_or, not_and]
 refine ⟨by omega, by omega, fun e => ?_⟩
 by_cases hn : n = 0
 ·have := g6 hn; omega
 ·exact absurd e (g5 (by omega))
theorem y5m {s : Wd} {lo hi : Int} (hlo : 0 ≤ lo) (hhi : hi < 10000000000) : (lo ≤ qm4 s ∧ qm4 s ≤ hi → zs3 s = some (qm4 s)) ∧ (∀ n, zs3 s = some n → lo ≤ n → n ≤ hi → qm4 s = n) := by
 constructor
 ·rintro ⟨h1, h2⟩
  obtain ⟨e, hb⟩ := y1t (s := s) (by omega)
  have := zn2 (n := qm4 s) (by omega) (by omega)
  rw [e] at this
  exact this
 ·intro n h h1 h2
  have := z6e h
  rw [← this]
  exact z8q (by omega) (by omega)
end Go.SX
namespace Go.SX
def Sim {α : Type} (p : Rs α) (x : Xr α) : Prop := match p with
 | .ok v a m => x = (v, a, false, m)
 | .no a _ => x.2.1 = a ∧ x.2.2.1 = true
def qq1 {α : Type} (K : XP α) : Prop := ∀ a m, (K a true m).2.1 = a ∧ (K a true m).2.2.1 = true
def z71 {α : Type} (ws : List Wd) (P : Int → Int → Rs α) (X : XP α) : Prop := ∀ a m : Int, 0 ≤ a → a ≤ (ws.length : Int) → Sim (P a m) (X a false m) ∧ ∀ v b k, P a m = .ok v b k → 0 ≤ b ∧ b ≤ ws.length
theorem q2h {α β : Type} {X : XP α} {K : α → XP β} (h : qq1 X) (hk : ∀ v, qq1 (K v)) : qq1 (fun a w m => (X a w m).bind K) := fun a m => by
 obtain ⟨h1, h2⟩ := h a m
 have h3 := hk (X a true m).1 a (X a true m).2.2.2
 show (K (X a true m).1 (X a true m).2.1 (X a true m).2.2.1 (X a true m).2.2.2).2.1 = a ∧ (K (X a true m).1 (X a true m).2.1 (X a true m).2.2.1 (X a true m).2.2.2).2.2.1 = true
 rw [h1, h2]; exact h3
theorem q8p {α : Type} (v : α) : qq1 (fun a w m => (v, a, w, m) : XP α) := fun a m => ⟨rfl, rfl⟩
theorem y4g {α : Type} {ws : List Wd} (v : α) : z71 ws (fun a m => .ok v a m) (fun a w m => (v, a, w, m)) := fun a m h0 h1 => ⟨rfl, fun v' b k e => by injection e with _ e _; subst e; exact ⟨h0, h1⟩⟩
theorem z4n {α β : Type} {ws : List Wd} {P : Int → Int → Rs α} {X : XP α} {k : α → Int → Int → Rs β} {K : α → XP β} (Q : α → Prop) (hP : z71 ws P X) (hQ : ∀ a m v b n, P a m = .ok v b n → Q v) (hK : ∀ v, Q v → z71 ws (k v) (K v)) (hS : ∀ v, qq1 (K v)) : z71 ws (fun a m => (P a m).bind (k · · ·)) (fun a w m => (X a w m).bind K) := fun a m h0 h1 => by
 obtain ⟨h2, h3⟩ := hP a m h0 h1
 cases hp : P a m with
 | ok v b n =>
  rw [hp] at h2
  have h2 : X a false m = (v, b, false, n) := h2
  obtain ⟨g0, g1⟩ := h3 v b n hp
  obtain ⟨s1, s2⟩ := hK v (hQ a m v b n hp) b n g0 g1
  constructor
  ·show Sim ((P a m).bind (k · · ·)) ((X a false m).bind K)
   rw [hp, h2]; exact s1
  ·intro v' b' n' e
   have e : (P a m).bind (k · · ·) = .ok v' b' n' := e
   rw [hp] at e
   exact s2 v' b' n' e
 | no b n =>
  rw [hp] at h2
  have h2 : (X a false m).2.1 = b ∧ (X a false m).2.2.1 = true := h2
  constructor
  ·show Sim ((P a m).bind (k · · ·)) ((X a false m).bind K)
   rw [hp]
   show (K (X a false m).1 (X a false m).2.1 (X a false m).2.2.1 (X a false m).2.2.2).2.1 = b ∧ (K (X a false m).1 (X a false m).2.1 (X a false m).2.2.1 (X a false m).2.2.2).2.2.1 = true
   rw [h2.1, h2.2]
   exact hS _ b _
  ·intro v' b' n' e
   have e : (P a m).bind (k · · ·) = .ok v' b' n' := e
   rw [hp] at e
   cases e
theorem qr0 {α β : Type} {ws : List Wd} {P : Int → Int → Rs α} {X : XP α} {k : α → Int → Int → Rs β} {K : α → XP β} (hP : z71 ws P X) (hK : ∀ v, z71 ws (k v) (K v)) (hS : ∀ v, qq1 (K v)) : z71 ws (fun a m => (P a m).bind (k · · ·)) (fun a w m => (X a w m).bind K) := z4n (fun _ => True) hP (fun _ _ _ _ _ _ => trivial) (fun v _ => hK v) hS
theorem q5l (ws : List Wd) (s : Wd) (a : Int) : q24 ws s a true = false := by unfold q24; simp
theorem q5x {ws : List Wd} {s : Wd} (hs : s ≠ [32]) {a : Int} (h0 : 0 ≤ a) (h1 : a ≤ ws.length) : q24 ws s a false = decide (q0y ws a = s) := by
 unfold q24 q0y
 by_cases h : a = ws.length
 ·rw [if_pos h, decide_eq_false (by omega), decide_eq_false (Ne.symm hs)]; rfl
 ·rw [if_neg h, decide_eq_true (show a < ws.length by omega)]; simp
theorem qk7 {ws : List Wd} {s : Wd} (hs : s ≠ [32]) {a : Int} (h1 : a ≤ ws.length) (h : q0y ws a = s) : a < ws.length := by
 rcases Int.lt_or_eq_of_le h1 with h2 | h2
 ·exact h2
 ·unfold q0y at h; rw [if_pos h2] at h; exact absurd h.symm hs
theorem q2d (ws : List Wd) : ∀ l, qq1 (q0c ws l)
 | [] => fun a m => ⟨rfl, rfl⟩
 | s :: l => fun a m => by
  show (if q24 ws s a true then q0c ws l (a + 1) true m else q0c ws l a true m).2.1 = a ∧ (if q24 ws s a true then q0c ws l (a + 1) true m else q0c ws l a true m).2.2.1 = true
  rw [q5l]
  exact q2d ws l a m
theorem qq9 (ws : List Wd) : ∀ l, (∀ s ∈ l, s ≠ [32]) → z71 ws (q1t ws l) (q0c ws l)
 | [], _ => fun a m h0 h1 => ⟨rfl, fun v b k e => by rw [q1t] at e; injection e with _ e _; subst e; exact ⟨h0, h1⟩⟩
 | s :: l, hl => fun a m h0 h1 => by
  have hs := hl s (by simp)
  show Sim (q1t ws (s :: l) a m) (if q24 ws s a false then q0c ws l (a + 1) false m else q0c ws l a true m) ∧ _
  rw [q1t, q5x hs h0 h1]
  by_cases hp : q0y ws a = s
  ·have hin := qk7 hs h1 hp
   rw [if_pos hp, decide_eq_true hp, if_pos rfl]
   exact qq9 ws l (fun x hx => hl x (List.mem_cons_of_mem _ hx)) (a + 1) m (by omega) (by omega)
  ·rw [if_neg hp, decide_eq_false hp]
   exact ⟨q2d ws l a m, fun v b k e => by cases e⟩
theorem q4l (ws : List Wd) (lo hi : Int) : qq1 (q2l ws lo hi) := fun a m => by
 unfold q2l; rw [if_pos (.inl rfl)]; exact ⟨rfl, rfl⟩
theorem qv2 (ws : List Wd) {lo hi : Int} (hlo : 0 ≤ lo) (hhi : hi < 10000000000) : z71 ws (q76 ws lo hi) (q2l ws lo hi) := fun a m h0 h1 => by
 unfold q76 q2l
 obtain ⟨v1, v2⟩ := y5m (s := ws.getD a.toNat []) hlo hhi
 by_cases ha : a = ws.length
 ·rw [if_pos (.inr (.inl (by omega)))]
  have : q0y ws a = [32] := by unfold q0y; rw [if_pos ha]
  rw [this, zg2]
  exact ⟨⟨rfl, rfl⟩, fun v b k e => by cases e⟩
 ·have hp : q0y ws a = ws.getD a.toNat [] := by unfold q0y; rw [if_neg ha]
  rw [hp]
  by_cases hv : lo ≤ qm4 (ws.getD a.toNat []) ∧ qm4 (ws.getD a.toNat []) ≤ hi
  ·rw [if_neg (by simp only [not_or, Decidable.not_not]; exact ⟨by decide, by omega, hv⟩), v1 hv]
   simp only
   rw [if_pos hv]
   exact ⟨rfl, fun v b k e => by injection e with _ e _; subst e; omega⟩
  ·rw [if_pos (.inr (.inr hv))]
   cases hn : zs3 (ws.getD a.toNat []) with
   | none => exact ⟨⟨rfl, rfl⟩, fun v b k e => by cases e⟩
   | some n =>
    simp only
    rw [if_neg (fun hb => hv (by rw [v2 n hn hb.1 hb.2]; exact hb))]
    exact ⟨⟨rfl, rfl⟩, fun v b k e => by cases e⟩
theorem zr1 (ws : List Wd) (s : Wd) : qq1 (xIs ws s) := fun a m => by unfold xIs; rw [q5l]; exact ⟨rfl, rfl⟩
theorem zs8 (ws : List Wd) (s t : Wd) : qq1 (qy3 ws s t) := by
 refine q2h (zr1 ws s) fun c => q2h ?_ fun _ => q8p c
 cases c
 ·exact q2d ws [t]
 ·exact q8p ()
theorem y0q (ws : List Wd) {s t : Wd} (hs : s ≠ [32]) (ht : t ≠ [32]) : z71 ws (qm1 ws s t) (qy3 ws s t) := fun a m h0 h1 => by
 unfold qm1 qy3 xIs
 rw [q5x hs h0 h1]
 by_cases hp : q0y ws a = s
 ·have := qk7 hs h1 hp
  rw [if_pos hp, decide_eq_true hp]
  exact ⟨rfl, fun v b k e => by injection e with _ e _; subst e; omega⟩
 ·rw [if_neg hp, decide_eq_false hp]
  show Sim _ ((q0c ws [t] a false m).bind fun _ a w m => (false, a, w, m)) ∧ _
  show Sim _ ((if q24 ws t a false then ((), a + 1, false, m) else ((), a, true, m) : Xr Unit).bind fun _ a w m => (false, a, w, m)) ∧ _
  rw [q5x ht h0 h1]
  by_cases hq : q0y ws a = t
  ·have := qk7 ht h1 hq
   rw [if_pos hq, decide_eq_true hq]
   exact ⟨rfl, fun v b k e => by injection e with _ e _; subst e; omega⟩
  ·rw [if_neg hq, decide_eq_false hq]
   exact ⟨⟨rfl, rfl⟩, fun v b k e => by cases e⟩
def y9u (ws : List Wd) (p : Rs (List Int)) (x : Xr (List Int)) : Prop := match p with
 | .ok v a m => (x = (v, a, false, m) ∧ q0y ws a ≠ q7o ∨ q0y ws a = q7o ∧ x.2.1 = a ∧ x.2.2.1 = true) ∧ 0 ≤ a ∧ a ≤ ws.length
 | .no a _ => x.2.1 = a ∧ x.2.2.1 = true
def z7b (ws : List Wd) (n : Nat) (y last : Int) (rows : List Int) : XP (List Int) := fun a w m =>
 if ¬ last + 2 < 48 ∧ y = 23 then (rows, a, true, m) else
 (q0c ws [q7o] a w m).bind fun _ a w m =>
 (q2l ws (if last + 2 < 48 then y else y + 1) 23 a w m).bind fun y' a w m =>
 (q2l ws (if y' = y then last + 2 else 0) 47 a w m).bind fun first a w m =>
 (q2l ws first 47 a w m).bind fun last' a w m =>
 q5e ws n y' last' (if w then rows else rows.set y'.toNat (q1l .or .i64 (rows.getD y'.toNat 0) (q6f first last'))) a w m
theorem q9b (ws : List Wd) (n : Nat) (y last : Int) (rows : List Int) (a m : Int) (w : Bool) : q5e ws (n + 1) y last rows a w m = if q24 ws q7o a w || (decide (y = 0) && decide (last = -2) && !w) then z7b ws n y last rows a w m else (rows, a, w, m) := rfl
theorem z60 (ws : List Wd) : ∀ (n : Nat) (y last : Int) (rows : List Int), qq1 (q5e ws n y last rows)
 | 0, y, last, rows => fun a m => ⟨rfl, rfl⟩
 | n + 1, y, last, rows => fun a m => by
  rw [q9b, q5l]
  simp
theorem qh8 {α : Type} {ws : List Wd} {P : Rs α} {X : Xr α} {k : α → Int → Int → Rs (List Int)} {K : α → XP (List Int)} (hs : Sim P X) (hS : ∀ v, qq1 (K v)) (hk : ∀ v b n, P = .ok v b n → y9u ws (k v b n) (K v b false n)) : y9u ws (P.bind k) (X.bind K) := by
 cases P with
 | ok v b n =>
  have hs : X = (v, b, false, n) := hs
  rw [hs]
  exact hk v b n rfl
 | no b n =>
  have hs : X.2.1 = b ∧ X.2.2.1 = true := hs
  show (K X.1 X.2.1 X.2.2.1 X.2.2.2).2.1 = b ∧ (K X.1 X.2.1 X.2.2.1 X.2.2.2).2.2.1 = true
  rw [hs.1, hs.2]
  exact hS _ b _
theorem zb5 (ws : List Wd) : ∀ (n : Nat) (y last : Int) (rows : List Int) (a m : Int), 0 ≤ a → a ≤ ws.length → 0 ≤ y → y ≤ 23 → -2 ≤ last → last ≤ 47 → (23 - y) * 25 + (47 - last) / 2 + 1 ≤ n + 1 → (q0y ws a = q7o ∨ ¬ (48 ≤ last + 2 ∧ y = 23)) → y9u ws (q7q ws (n + 1) y (last + 2) rows a m) (z7b ws n y last rows a false m)
 | n, y, last, rows, a, m, h0, h1, hy0, hy1, hl0, hl1, hn, hpre => by
  unfold z7b
  rw [q7q]
  by_cases hc : 48 ≤ last + 2 ∧ y = 23
  ·have hp : q0y ws a = q7o := by
    rcases hpre with h | h
    ·exact h
    ·exact absurd hc h
   rw [if_pos hc, if_pos (show ¬ last + 2 < 48 ∧ y = 23 from ⟨by omega, hc.2⟩)]
   exact ⟨.inr ⟨hp, rfl, rfl⟩, h0, h1⟩
  ·rw [if_neg hc, if_neg (show ¬ (¬ last + 2 < 48 ∧ y = 23) from fun h => hc ⟨by omega, h.2⟩)]
   have st4 : ∀ (y' first : Int) (v : Int), qq1 (fun a w m => q5e ws n y' v (if w then rows else rows.set y'.toNat (q1l .or .i64 (rows.getD y'.toNat 0) (q6f first v))) a w m) := fun y' first v a m => z60 ws n y' v _ a m
   have st3 : ∀ y' first : Int, qq1 (fun a w m => (q2l ws first 47 a w m).bind fun last' a w m => q5e ws n y' last' (if w then rows else rows.set y'.toNat (q1l .or .i64 (rows.getD y'.toNat 0) (q6f first last'))) a w m) := fun y' first => q2h (q4l ws _ _) fun v => st4 y' first v
   have st2 : ∀ y' : Int, qq1 (fun a w m => (q2l ws (if y' = y then last + 2 else 0) 47 a w m).bind fun first a w m => (q2l ws first 47 a w m).bind fun last' a w m => q5e ws n y' last' (if w then rows else rows.set y'.toNat (q1l .or .i64 (rows.getD y'.toNat 0) (q6f first last'))) a w m) := fun y' => q2h (q4l ws _ _) fun first => st3 y' first
   have st1 : ∀ u : Unit, qq1 (fun a w m => (q2l ws (if last + 2 < 48 then y else y + 1) 23 a w m).bind fun y' a w m => (q2l ws (if y' = y then last + 2 else 0) 47 a w m).bind fun first a w m => (q2l ws first 47 a w m).bind fun last' a w m => q5e ws n y' last' (if w then rows else rows.set y'.toNat (q1l .or .i64 (rows.getD y'.toNat 0) (q6f first last'))) a w m) := fun _ => q2h (q4l ws _ _) fun y' => st2 y'
   obtain ⟨s1, b1⟩ := qq9 ws [q7o] (by decide) a m h0 h1
   refine qh8 s1 st1 fun u a1 m1 hp1 => ?_
   obtain ⟨c0, c1⟩ := b1 u a1 m1 hp1
   have elo : (if 48 ≤ last + 2 then y + 1 else y) = (if last + 2 < 48 then y else y + 1) := by
    by_cases h : last + 2 < 48
    ·rw [if_pos h, if_neg (by omega)]
    ·rw [if_neg h, if_pos (by omega)]
   simp only [elo]
   obtain ⟨s2, b2⟩ := qv2 ws (lo := if last + 2 < 48 then y else y + 1) (hi := 23) (by split <;> omega) (by omega) a1 m1 c0 c1
   refine qh8 s2 st2 fun y' a2 m2 hp2 => ?_
   obtain ⟨c2, c3⟩ := b2 y' a2 m2 hp2
   have hyb := z99 hp2
   have hyy : y ≤ y' ∧ (48 ≤ last + 2 → y < y') := by split at hyb <;> omega
   have exlo : (if y' > (if last + 2 < 48 then y else y + 1) ∨ 48 ≤ last + 2 then (0 : Int) else last + 2) = (if y' = y then last + 2 else 0) := by
    by_cases h : last + 2 < 48
    ·rw [if_pos h]
     by_cases h2 : y' = y
     ·rw [if_pos h2, if_neg (by omega)]
     ·rw [if_neg h2, if_pos (by omega)]
    ·rw [if_pos (.inr (by omega)), if_neg (by omega)]
   simp only [exlo]
   obtain ⟨s3, b3⟩ := qv2 ws (lo := if y' = y then last + 2 else 0) (hi := 47) (by split <;> omega) (by omega) a2 m2 c2 c3
   refine qh8 s3 (st3 y') fun x a3 m3 hp3 => ?_
   obtain ⟨c4, c5⟩ := b3 x a3 m3 hp3
   have hxb := z99 hp3
   have hx0 : 0 ≤ x ∧ (y' = y → last + 2 ≤ x) := by
    by_cases h : y' = y
    ·rw [if_pos h] at hxb; omega
    ·rw [if_neg h] at hxb; omega
   obtain ⟨s4, b4⟩ := qv2 ws (lo := x) (hi := 47) (by omega) (by omega) a3 m3 c4 c5
   refine qh8 s4 (st4 y' x) fun z a4 m4 hp4 => ?_
   obtain ⟨c6, c7⟩ := b4 z a4 m4 hp4
   have hzb := z99 hp4
   have hn1 : (23 - y') * 25 + (47 - z) / 2 + 1 ≤ n := by
    rcases Int.lt_or_eq_of_le hyy.1 with h | h
    ·omega
    ·have := hx0.2 h.symm; omega
   obtain ⟨k, rfl⟩ : ∃ k, n = k + 1 := ⟨n - 1, by omega⟩
   have hy23 : y' ≤ 23 := hyb.2
   rw [q9b, q5x (by decide) c6 c7, decide_eq_false (show ¬ z = -2 by omega)]
   by_cases hp : q0y ws a4 = q7o
   ·rw [if_pos hp, decide_eq_true hp, if_pos (by simp)]
    exact zb5 ws k y' z _ a4 m4 c6 c7 (by omega) hy23 (by omega) (by omega) (by omega) (.inl hp)
   ·rw [if_neg hp, decide_eq_false hp, if_neg (by simp)]
    exact ⟨.inl ⟨rfl, hp⟩, c6, c7⟩
end Go.SX
namespace Go.SX
theorem z5f {β : Type} (ws : List Wd) {R : List Int → Int → Int → Rs β} {RX : List Int → XP β} (hR : ∀ rows, z71 ws (R rows) (RX rows)) (hS : ∀ rows, qq1 (RX rows)) : z71 ws (fun a m => (q7q ws 1200 0 0 (List.replicate 24 0) a m).bind fun rows a m => (q1t ws [q1q] a m).bind fun _ a m => R rows a m) (fun a w m => (qm3 ws a w m).bind fun rows a w m => (q0c ws [q1q] a w m).bind fun _ a w m => RX rows a w m) := fun a m h0 h1 => by
 have hA := zb5 ws 1199 0 (-2) (List.replicate 24 0) a m h0 h1 (by omega) (by omega) (by omega) (by omega) (by omega) (.inr (by omega))
 have hX : qm3 ws a false m = z7b ws 1199 0 (-2) (List.replicate 24 0) a false m := by
  unfold qm3
  rw [q9b, if_pos (by simp)]
 have hF := fun rows => qr0 (qq9 ws [q1q] (by decide)) (fun _ : Unit => hR rows) (fun _ => hS rows)
 have hFS : ∀ rows, qq1 (fun a w m => (q0c ws [q1q] a w m).bind fun _ a w m => RX rows a w m) := fun rows => q2h (q2d ws _) fun _ => hS rows
 dsimp only
 rw [hX]
 generalize z7b ws 1199 0 (-2) (List.replicate 24 0) a false m = X at hA
 rw [show (-2 : Int) + 2 = 0 from rfl] at hA
 cases hp : q7q ws 1200 0 0 (List.replicate 24 0) a m with
 | no b k =>
  rw [show q7q ws (1199 + 1) 0 0 (List.replicate 24 0) a m = q7q ws 1200 0 0 (List.replicate 24 0) a m from rfl, hp] at hA
  have hA : X.2.1 = b ∧ X.2.2.1 = true := hA
  constructor
  ·show ((q0c ws [q1q] X.2.1 X.2.2.1 X.2.2.2).bind fun _ a w m => RX X.1 a w m).2.1 = b ∧ ((q0c ws [q1q] X.2.1 X.2.2.1 X.2.2.2).bind fun _ a w m => RX X.1 a w m).2.2.1 = true
   rw [hA.1, hA.2]
   exact hFS X.1 b _
  ·intro v b' k' e; cases e
 | ok rows b k =>
  rw [show q7q ws (1199 + 1) 0 0 (List.replicate 24 0) a m = q7q ws 1200 0 0 (List.replicate 24 0) a m from rfl, hp] at hA
  obtain ⟨hA, g0, g1⟩ := hA
  rcases hA with ⟨hA, hne⟩ | ⟨hpk, hA1, hA2⟩
  ·rw [hA]
   exact hF rows b k g0 g1
  ·have hno : q1t ws [q1q] b k = .no b k := by rw [q1t, hpk, if_neg (by decide)]
   show Sim ((q1t ws [q1q] b k).bind fun _ a m => R rows a m) _ ∧ _
   rw [hno]
   constructor
   ·show ((q0c ws [q1q] X.2.1 X.2.2.1 X.2.2.2).bind fun _ a w m => RX X.1 a w m).2.1 = b ∧ ((q0c ws [q1q] X.2.1 X.2.2.1 X.2.2.2).bind fun _ a w m => RX X.1 a w m).2.2.1 = true
    rw [hA1, hA2]
    exact hFS X.1 b _
   ·intro v b' k' e
    have e : (q1t ws [q1q] b k).bind (fun _ a m => R rows a m) = .ok v b' k' := e
    rw [hno] at e; cases e
structure SPQ {α : Type} (q : Prop) (ws : List Wd) (P : Int → Int → Rs α) (X : XP α) : Prop where
 sim : q → z71 ws P X
 stay : qq1 X
theorem z05 {α : Type} {q : Prop} {ws : List Wd} (v : α) : SPQ q ws (fun a m => .ok v a m) (fun a w m => (v, a, w, m)) := ⟨fun _ => y4g v, q8p v⟩
theorem q2v {β : Type} {q : Prop} {ws : List Wd} {k : Unit → Int → Int → Rs β} {K : Unit → XP β} (l : List Wd) (hl : ∀ s ∈ l, s ≠ [32]) (hK : ∀ v, SPQ q ws (k v) (K v)) : SPQ q ws (fun a m => (q1t ws l a m).bind (k · · ·)) (fun a w m => (q0c ws l a w m).bind K) :=
 ⟨fun h => qr0 (qq9 ws l hl) (fun v => (hK v).sim h) (fun v => (hK v).stay), q2h (q2d ws l) fun v => (hK v).stay⟩
theorem q5u {β : Type} {q : Prop} {ws : List Wd} {k : Int → Int → Int → Rs β} {K : Int → XP β} {lo hi : Int} (hb : q → 0 ≤ lo ∧ hi < 10000000000) (hK : ∀ v, SPQ (q ∧ lo ≤ v ∧ v ≤ hi) ws (k v) (K v)) : SPQ q ws (fun a m => (q76 ws lo hi a m).bind (k · · ·)) (fun a w m => (q2l ws lo hi a w m).bind K) :=
 ⟨fun h => z4n (fun v => lo ≤ v ∧ v ≤ hi) (qv2 ws (hb h).1 (hb h).2) (fun _ _ _ _ _ e => z99 e) (fun v hv => (hK v).sim ⟨h, hv⟩) (fun v => (hK v).stay), q2h (q4l ws _ _) fun v => (hK v).stay⟩
theorem zm3 {β : Type} {q : Prop} {ws : List Wd} {k : Bool → Int → Int → Rs β} {K : Bool → XP β} {s t : Wd} (hs : s ≠ [32]) (ht : t ≠ [32]) (hK : ∀ v, SPQ q ws (k v) (K v)) : SPQ q ws (fun a m => (qm1 ws s t a m).bind (k · · ·)) (fun a w m => (qy3 ws s t a w m).bind K) :=
 ⟨fun h => qr0 (y0q ws hs ht) (fun v => (hK v).sim h) (fun v => (hK v).stay), q2h (zs8 ws s t) fun v => (hK v).stay⟩
theorem qt7 {α β : Type} {q : Prop} {ws : List Wd} {P : Int → Int → Rs α} {X : XP α} {k : α → Int → Int → Rs β} {K : α → XP β} (hP : SPQ q ws P X) (hK : ∀ v, SPQ q ws (k v) (K v)) : SPQ q ws (fun a m => (P a m).bind (k · · ·)) (fun a w m => (X a w m).bind K) :=
 ⟨fun h => qr0 (hP.sim h) (fun v => (hK v).sim h) (fun v => (hK v).stay), q2h hP.stay fun v => (hK v).stay⟩
theorem y4n {β : Type} {q : Prop} {ws : List Wd} {R : List Int → Int → Int → Rs β} {RX : List Int → XP β} (hR : ∀ rows, SPQ q ws (R rows) (RX rows)) : SPQ q ws (fun a m => (q7q ws 1200 0 0 (List.replicate 24 0) a m).bind fun rows a m => (q1t ws [q1q] a m).bind fun _ a m => R rows a m) (fun a w m => (qm3 ws a w m).bind fun rows a w m => (q0c ws [q1q] a w m).bind fun _ a w m => RX rows a w m) :=
 ⟨fun h => z5f ws (fun rows => (hR rows).sim h) (fun rows => (hR rows).stay), q2h (z60 ws _ _ _ _) fun rows => q2h (q2d ws _) fun _ => (hR rows).stay⟩
theorem y7t (ws : List Wd) : SPQ True ws (zk0 ws) (y44 ws) := by
 show SPQ True ws (fun a m => zk0 ws a m) (fun a w m => y44 ws a w m)
 unfold zk0 y44
 refine y4n fun rows => q5u (fun _ => by omega) fun f => q2v [qh5] (by decide) fun _ => q5u (fun h => by omega) fun t => ?_
 refine q2v [qf4] (by decide) fun _ => q5u (fun _ => by omega) fun lo => q2v [qh5] (by decide) fun _ => q5u (fun h => by omega) fun hi => ?_
 exact zm3 (by decide) (by decide) fun c => z05 _
theorem y52 {q : Prop} {ws : List Wd} {sub : Int → Int → Rs q06} {X : XP q06} (h : SPQ q ws sub X) : SPQ q ws (qq5 ws sub) (z7w ws X) := by
 show SPQ q ws (fun a m => qq5 ws sub a m) (fun a w m => z7w ws X a w m)
 unfold qq5 z7w
 refine q2v [q3w] (by decide) fun _ => q5u (fun _ => by omega) fun lo => q2v [q0z] (by decide) fun _ => q5u (fun h => by omega) fun t => ?_
 exact q2v [q5t] (by decide) fun _ => qt7 ⟨fun h' => h.sim h'.1.1, h.stay⟩ fun k => z05 _
theorem y1g {q : Prop} {ws : List Wd} {sub : Int → Int → Rs q06} {X : XP q06} (h : SPQ q ws sub X) : SPQ q ws (q92 ws sub) (qs8 ws X) := by
 show SPQ q ws (fun a m => q92 ws sub a m) (fun a w m => qs8 ws X a w m)
 unfold q92 qs8
 refine q5u (fun _ => by omega) fun d => q2v [q5d] (by decide) fun _ => q5u (fun h => by omega) fun t => ?_
 refine q2v [q3u, q3v] (by decide) fun _ => q5u (fun h => by omega) fun wi => q2v [q1q] (by decide) fun _ => q5u (fun h => by omega) fun f => ?_
 exact q2v [q5t] (by decide) fun _ => qt7 ⟨fun h' => h.sim h'.1.1.1.1, h.stay⟩ fun k => z05 _
theorem y6y {q : Prop} {ws : List Wd} {sub : Int → Int → Rs q06} {X : XP q06} (h : SPQ q ws sub X) : SPQ q ws (zk1 ws sub) (y55 ws X) := by
 show SPQ q ws (fun a m => zk1 ws sub a m) (fun a w m => y55 ws X a w m)
 unfold zk1 y55
 refine q2v [q0z] (by decide) fun _ => q5u (fun h => by omega) fun t => ?_
 exact q2v [q5t] (by decide) fun _ => qt7 ⟨fun h' => h.sim h'.1, h.stay⟩ fun k => z05 _
def mkL (k : Int) (r : List Int × List q06) : q06 := ⟨k, [], 0, 0, 0, 0, false, 0, 0, 0, r.1, r.2⟩
def y9h {α β : Type} (f : α → β) (X : XP α) : XP β := fun a w m => (X a w m).bind fun v a w m => (f v, a, w, m)
theorem qd7 (ws : List Wd) (X : XP q06) (k : Int) : ∀ (n : Nat) (cents : List Int) (kids : List q06), qq1 (q1h ws X k n cents kids)
 | 0, cents, kids => q8p _
 | n + 1, cents, kids => fun a m => by
  have e : q1h ws X k (n + 1) cents kids a true m = ((cents, kids), a, true, m) := by rw [q1h]; simp
  rw [e]
  exact ⟨rfl, rfl⟩
theorem zc3 {α β : Type} (f : α → β) {X : XP α} (h : qq1 X) : qq1 (y9h f X) := q2h h fun v => q8p _
theorem z25 (ws : List Wd) {sub : Int → Int → Rs q06} {X : XP q06} (h : SPQ True ws sub X) (k : Int) : ∀ (n : Nat) (cents : List Int) (kids : List q06), kids.length ≤ 3 → kids.length + n = 5 → z71 ws (q4f ws sub k n cents kids) (y9h (mkL k) (q1h ws X k n cents kids))
 | 0, cents, kids, hk, hn => by omega
 | n + 1, cents, kids, hk, hn => by
  have tail : ∀ (cents : List Int) (g : q06), SPQ True ws (fun a m => if 1 < kids.length + 1 then
     if q0y ws a = q1d then .ok ⟨k, [], 0, 0, 0, 0, false, 0, 0, 0, cents, kids ++ [g]⟩ (a + 1) m
     else if kids.length + 1 = 4 ∨ m = 0 then .no a m
     else (q1t ws [q0d] a (m - 1)).bind fun _ a m => q4f ws sub k n cents (kids ++ [g]) a m
    else (q1t ws [q0d] a m).bind fun _ a m => q4f ws sub k n cents (kids ++ [g]) a m)
    (fun a w m => (if kids.length + 1 = 1 then (q0c ws [q0d] a w m).bind fun _ a w m => q1h ws X k n cents (kids ++ [g]) a w m
     else (xIs ws q1d a w m).bind fun b a w m =>
     if b then ((cents, kids ++ [g]), a, w, m)
     else if kids.length + 1 = 4 ∨ m = 0 then ((cents, kids ++ [g]), a, true, m)
     else (q0c ws [q0d] a w (m - 1)).bind fun _ a w m => q1h ws X k n cents (kids ++ [g]) a w m).bind fun v a w m => (mkL k v, a, w, m)) := fun cents g => by
   have rec1 : SPQ True ws (fun a m => (q1t ws [q0d] a m).bind fun _ a m => q4f ws sub k n cents (kids ++ [g]) a m) (fun a w m => ((q0c ws [q0d] a w m).bind fun _ a w m => q1h ws X k n cents (kids ++ [g]) a w m).bind fun v a w m => (mkL k v, a, w, m)) ∨ kids.length = 3 := by
    by_cases h3 : kids.length = 3
    ·exact .inr h3
    ·exact .inl (q2v (K := fun _ => y9h (mkL k) (q1h ws X k n cents (kids ++ [g]))) [q0d] (by decide) fun _ => ⟨fun _ => z25 ws h k n cents (kids ++ [g]) (by simp; omega) (by simp; omega), zc3 _ (qd7 ws X k n _ _)⟩)
   have rst : qq1 (fun a w m => ((q0c ws [q0d] a w m).bind fun _ a w m => q1h ws X k n cents (kids ++ [g]) a w m).bind fun v a w m => (mkL k v, a, w, m)) := q2h (q2h (q2d ws _) fun _ => qd7 ws X k n _ _) fun v => q8p _
   by_cases h1 : kids.length + 1 = 1
   ·have hn1 : ¬ 1 < kids.length + 1 := by omega
    simp only [if_neg hn1, if_pos h1]
    rcases rec1 with r | r
    ·exact r
    ·omega
   ·have hn1 : 1 < kids.length + 1 := by omega
    simp only [if_pos hn1, if_neg h1]
    constructor
    ·intro _ a m h0 h1'
     unfold xIs
     simp only
     rw [q5x (by decide) h0 h1']
     by_cases hp : q0y ws a = q1d
     ·have := qk7 (by decide) h1' hp
      rw [if_pos hp, decide_eq_true hp]
      exact ⟨rfl, fun v b k' e => by injection e with _ e _; subst e; omega⟩
     ·rw [if_neg hp, decide_eq_false hp]
      by_cases hc : kids.length + 1 = 4 ∨ m = 0
      ·rw [if_pos hc]
       show Sim _ ((if kids.length + 1 = 4 ∨ m = 0 then ((cents, kids ++ [g]), a, true, m) else _ : Xr (List Int × List q06)).bind fun v a w m => (mkL k v, a, w, m)) ∧ _
       rw [if_pos hc]
       exact ⟨⟨rfl, rfl⟩, fun v b k' e => by cases e⟩
      ·rw [if_neg hc]
       show Sim _ ((if kids.length + 1 = 4 ∨ m = 0 then ((cents, kids ++ [g]), a, true, m) else (q0c ws [q0d] a false (m - 1)).bind fun _ a w m => q1h ws X k n cents (kids ++ [g]) a w m : Xr (List Int × List q06)).bind fun v a w m => (mkL k v, a, w, m)) ∧ _
       rw [if_neg hc]
       rcases rec1 with r | r
       ·exact r.sim trivial a (m - 1) h0 h1'
       ·omega
    ·intro a m
     unfold xIs
     simp only
     rw [q5l]
     by_cases hc : kids.length + 1 = 4 ∨ m = 0
     ·show ((if kids.length + 1 = 4 ∨ m = 0 then ((cents, kids ++ [g]), a, true, m) else (q0c ws [q0d] a true (m - 1)).bind fun _ a w m => q1h ws X k n cents (kids ++ [g]) a w m : Xr (List Int × List q06)).bind fun v a w m => (mkL k v, a, w, m)).2.1 = a ∧ ((if kids.length + 1 = 4 ∨ m = 0 then ((cents, kids ++ [g]), a, true, m) else (q0c ws [q0d] a true (m - 1)).bind fun _ a w m => q1h ws X k n cents (kids ++ [g]) a w m : Xr (List Int × List q06)).bind fun v a w m => (mkL k v, a, w, m)).2.2.1 = true
      rw [if_pos hc]
      exact ⟨rfl, rfl⟩
     ·show ((if kids.length + 1 = 4 ∨ m = 0 then ((cents, kids ++ [g]), a, true, m) else (q0c ws [q0d] a true (m - 1)).bind fun _ a w m => q1h ws X k n cents (kids ++ [g]) a w m : Xr (List Int × List q06)).bind fun v a w m => (mkL k v, a, w, m)).2.1 = a ∧ ((if kids.length + 1 = 4 ∨ m = 0 then ((cents, kids ++ [g]), a, true, m) else (q0c ws [q0d] a true (m - 1)).bind fun _ a w m => q1h ws X k n cents (kids ++ [g]) a w m : Xr (List Int × List q06)).bind fun v a w m => (mkL k v, a, w, m)).2.2.1 = true
      rw [if_neg hc]
      exact rst a (m - 1)
  have hc : SPQ True ws (fun a m => (if k = 6 then (q76 ws 0 1000000000 a m).bind fun c a m => .ok (cents ++ [c]) a m else .ok cents a m : Rs (List Int))) (fun a w m => (if k = 6 then fun a w m => (q2l ws 0 1000000000 a w m).bind fun c a w m => (cents ++ [c], a, w, m) else fun a w m => (cents, a, w, m) : XP (List Int)) a w m) := by
   by_cases hk6 : k = 6
   ·simp only [if_pos hk6]; exact q5u (fun _ => by omega) fun c => z05 _
   ·simp only [if_neg hk6]; exact z05 _
  have all := (qt7 hc fun cents => qt7 h fun g => tail cents g).sim trivial
  intro a m h0 h1
  have := all a m h0 h1
  rw [q4f]
  exact this
theorem zs7 {q : Prop} (ws : List Wd) {sub : Int → Int → Rs q06} {X : XP q06} (h : SPQ q ws sub X) (k : Int) : SPQ q ws (q95 ws sub k) (z5g ws X k) :=
 q2v (K := fun _ => y9h (mkL k) (q1h ws X k 5 [] [])) [q2m] (by decide) fun _ => ⟨fun hq => z25 ws ⟨fun _ => h.sim hq, h.stay⟩ k 5 [] [] (by simp) rfl, zc3 _ (qd7 ws X k 5 _ _)⟩
theorem q4u (ws : List Wd) (s : Wd) (g d a m : Int) : q2b ws s g d a true m = (false, a, true, m) := by unfold q2b; rw [q5l]; rfl
theorem z4e (ws : List Wd) : ∀ (f : Nat) (most d : Int), qq1 (q71 ws f most d)
 | 0, most, d => fun a m => ⟨rfl, rfl⟩
 | f + 1, most, d => fun a m => by
  rw [q71]
  simp only [q4u]
  simp
theorem y5k {ws : List Wd} {s : Wd} (hs : s ≠ [32]) {g d a m : Int} (h0 : 0 ≤ a) (h1 : a ≤ ws.length) (hp : q0y ws a ≠ s) : q2b ws s g d a false m = (false, a, false, m) := by
 unfold q2b; rw [q5x hs h0 h1, decide_eq_false hp]; rfl
theorem z9j {ws : List Wd} {s : Wd} (hs : s ≠ [32]) {g d a m : Int} (h0 : 0 ≤ a) (h1 : a ≤ ws.length) (hp : q0y ws a = s) : q2b ws s g d a false m = if m < g ∨ (0 < g ∧ 4 ≤ d) then (true, a, true, m) else (true, a + 1, false, m - g) := by
 unfold q2b; rw [q5x hs h0 h1, decide_eq_true hp, if_pos rfl]
theorem q4r {β : Type} {ws : List Wd} {s : Wd} (hs : s ≠ [32]) {g d a m : Int} (h0 : 0 ≤ a) (h1 : a ≤ ws.length) : (q2b ws s g d a false m).1 = decide (q0y ws a = s) := by
 by_cases hp : q0y ws a = s
 ·rw [z9j hs h0 h1 hp, decide_eq_true hp]; split <;> rfl
 ·rw [y5k hs h0 h1 hp, decide_eq_false hp]
theorem zd0 (ws : List Wd) : ∀ (f : Nat) (of_ most d : Int), 1 ≤ f → (f : Int) + d = 5 → most = q1m of_ → z71 ws (q50 ws f of_ d) (q71 ws (f + 1) most d)
 | 0, of_, most, d, h1f, hfd, hm => by omega
 | f + 1, of_, most, d, h1f, hfd, hm => fun a m h0 h1 => by
  have ih : ∀ o : Int, SPQ (1 ≤ f) ws (q50 ws f o (d + 1)) (q71 ws (f + 1) (q1m o) (d + 1)) := fun o => ⟨fun hf => zd0 ws f o _ (d + 1) hf (by omega) rfl, z4e ws _ _ _⟩
  have ws1 := y7t ws
  have ws2 := y52 (ih 2)
  have ws3 := y1g (ih 3)
  have ws4 := y6y (ih 4)
  have ws5 := zs7 ws (ih 5) 5
  have ws6 := zs7 ws (ih 6) 6
  have go : ∀ (q : Prop) (s : Wd) (k g : Int) (P : Int → Int → Rs q06) (X : XP q06), s ≠ [32] → SPQ q ws P X → (¬ (0 < g ∧ 4 ≤ d) → q) → q0y ws a = s → ¬ q1m of_ < k →
    (Sim (if q1m of_ < k ∨ m < g ∨ (0 < g ∧ d = 4) then .no a m else P (a + 1) (m - g)) ((q2b ws s g d a false m).bind fun _ => X) ∧ ∀ v b n, (if q1m of_ < k ∨ m < g ∨ (0 < g ∧ d = 4) then .no a m else P (a + 1) (m - g) : Rs q06) = .ok v b n → 0 ≤ b ∧ b ≤ ws.length) := by
   intro q s k g P X hs hPX hq hp hk
   have hin := qk7 hs h1 hp
   rw [z9j hs h0 h1 hp]
   by_cases hc : m < g ∨ (0 < g ∧ 4 ≤ d)
   ·rw [if_pos (show q1m of_ < k ∨ m < g ∨ (0 < g ∧ d = 4) by omega), if_pos hc]
    exact ⟨hPX.stay a m, fun v b n e => by cases e⟩
   ·rw [if_neg (show ¬ (q1m of_ < k ∨ m < g ∨ (0 < g ∧ d = 4)) by omega), if_neg hc]
    exact hPX.sim (hq (fun h => hc (.inr h))) (a + 1) (m - g) (by omega) (by omega)
  have hq : ∀ g : Int, 0 < g → ¬ (0 < g ∧ 4 ≤ d) → 1 ≤ f := fun g hg h => by omega
  have none_fits : ∀ k g : Int, q1m of_ < k → (Sim (if q1m of_ < k ∨ m < g ∨ (0 < g ∧ d = 4) then .no a m else .no a m : Rs q06) ((qx5, a, true, m) : Xr q06)) := fun k g h => by
   rw [if_pos (.inl h)]; exact ⟨rfl, rfl⟩
  rw [q50, q71]
  simp only [q4r (β := Unit) (s := q3e) (by decide) h0 h1, q4r (β := Unit) (s := q28) (by decide) h0 h1, q4r (β := Unit) (s := q1k) (by decide) h0 h1, q4r (β := Unit) (s := q0q) (by decide) h0 h1, q4r (β := Unit) (s := q46) (by decide) h0 h1, q4r (β := Unit) (s := q2p) (by decide) h0 h1, decide_eq_true_eq]
  rw [hm]
  have l2 : q1m 2 = 1 := rfl
  have l3 : q1m 3 = 1 := rfl
  have l4 : q1m 4 = 3 := rfl
  have l5 : q1m 5 = 6 := rfl
  have l6 : q1m 6 = 6 := rfl
  rw [l2] at ws2
  rw [l3] at ws3
  rw [l4] at ws4
  rw [l5] at ws5
  rw [l6] at ws6
  have hlk : 1 ≤ q1m of_ := by unfold q1m; split; omega; split <;> omega
  by_cases p1 : q0y ws a = q3e
  ·rw [if_pos p1, p1]
   exact go True q3e 1 0 _ _ (by decide) ws1 (fun _ => trivial) p1 (by omega)
  rw [if_neg p1]
  by_cases p2 : q0y ws a = q28
  ·rw [p2]
   by_cases hk : (2 : Int) ≤ q1m of_
   ·rw [if_pos ⟨hk, rfl⟩]
    exact go _ q28 2 1 _ _ (by decide) ws2 (hq 1 (by omega)) p2 (by omega)
   ·rw [if_neg (fun h => hk h.1), if_neg (fun h => absurd h.2 (by decide)), if_neg (fun h => absurd h.2 (by decide)), if_neg (fun h => absurd h.2 (by decide)), if_neg (fun h => absurd h.2 (by decide))]
    show Sim (if q1m of_ < 2 ∨ m < 1 ∨ (0 < (1 : Int) ∧ d = 4) then .no a m else _ : Rs q06) ((qx5, a, true, m) : Xr q06) ∧ ∀ v b n, (if q1m of_ < 2 ∨ m < 1 ∨ (0 < (1 : Int) ∧ d = 4) then .no a m else _ : Rs q06) = .ok v b n → _
    rw [if_pos (.inl (by omega))]
    exact ⟨⟨rfl, rfl⟩, fun v b n e => by cases e⟩
  by_cases p3 : q0y ws a = q1k
  ·rw [p3]
   by_cases hk : (3 : Int) ≤ q1m of_
   ·rw [if_neg (fun h => absurd h.2 (by decide)), if_pos ⟨hk, rfl⟩]
    exact go _ q1k 3 1 _ _ (by decide) ws3 (hq 1 (by omega)) p3 (by omega)
   ·rw [if_neg (fun h => absurd h.2 (by decide)), if_neg (fun h => hk h.1), if_neg (fun h => absurd h.2 (by decide)), if_neg (fun h => absurd h.2 (by decide)), if_neg (fun h => absurd h.2 (by decide))]
    show Sim (if q1m of_ < 3 ∨ m < 1 ∨ (0 < (1 : Int) ∧ d = 4) then .no a m else _ : Rs q06) ((qx5, a, true, m) : Xr q06) ∧ ∀ v b n, (if q1m of_ < 3 ∨ m < 1 ∨ (0 < (1 : Int) ∧ d = 4) then .no a m else _ : Rs q06) = .ok v b n → _
    rw [if_pos (.inl (by omega))]
    exact ⟨⟨rfl, rfl⟩, fun v b n e => by cases e⟩
  by_cases p4 : q0y ws a = q0q
  ·rw [p4]
   by_cases hk : (4 : Int) ≤ q1m of_
   ·rw [if_neg (fun h => absurd h.2 (by decide)), if_neg (fun h => absurd h.2 (by decide)), if_pos ⟨hk, rfl⟩]
    exact go _ q0q 4 1 _ _ (by decide) ws4 (hq 1 (by omega)) p4 (by omega)
   ·rw [if_neg (fun h => absurd h.2 (by decide)), if_neg (fun h => absurd h.2 (by decide)), if_neg (fun h => hk h.1), if_neg (fun h => absurd h.2 (by decide)), if_neg (fun h => absurd h.2 (by decide))]
    show Sim (if q1m of_ < 4 ∨ m < 1 ∨ (0 < (1 : Int) ∧ d = 4) then .no a m else _ : Rs q06) ((qx5, a, true, m) : Xr q06) ∧ ∀ v b n, (if q1m of_ < 4 ∨ m < 1 ∨ (0 < (1 : Int) ∧ d = 4) then .no a m else _ : Rs q06) = .ok v b n → _
    rw [if_pos (.inl (by omega))]
    exact ⟨⟨rfl, rfl⟩, fun v b n e => by cases e⟩
  by_cases p5 : q0y ws a = q46
  ·rw [p5]
   by_cases hk : (5 : Int) ≤ q1m of_
   ·rw [if_neg (fun h => absurd h.2 (by decide)), if_neg (fun h => absurd h.2 (by decide)), if_neg (fun h => absurd h.2 (by decide)), if_pos ⟨hk, rfl⟩]
    exact go _ q46 5 2 _ _ (by decide) ws5 (hq 2 (by omega)) p5 (by omega)
   ·rw [if_neg (fun h => absurd h.2 (by decide)), if_neg (fun h => absurd h.2 (by decide)), if_neg (fun h => absurd h.2 (by decide)), if_neg (fun h => hk h.1), if_neg (fun h => absurd h.2 (by decide))]
    show Sim (if q1m of_ < 5 ∨ m < 2 ∨ (0 < (2 : Int) ∧ d = 4) then .no a m else _ : Rs q06) ((qx5, a, true, m) : Xr q06) ∧ ∀ v b n, (if q1m of_ < 5 ∨ m < 2 ∨ (0 < (2 : Int) ∧ d = 4) then .no a m else _ : Rs q06) = .ok v b n → _
    rw [if_pos (.inl (by omega))]
    exact ⟨⟨rfl, rfl⟩, fun v b n e => by cases e⟩
  by_cases p6 : q0y ws a = q2p
  ·rw [p6]
   by_cases hk : (6 : Int) ≤ q1m of_
   ·rw [if_neg (fun h => absurd h.2 (by decide)), if_neg (fun h => absurd h.2 (by decide)), if_neg (fun h => absurd h.2 (by decide)), if_neg (fun h => absurd h.2 (by decide)), if_pos ⟨hk, rfl⟩]
    exact go _ q2p 6 2 _ _ (by decide) ws6 (hq 2 (by omega)) p6 (by omega)
   ·rw [if_neg (fun h => absurd h.2 (by decide)), if_neg (fun h => absurd h.2 (by decide)), if_neg (fun h => absurd h.2 (by decide)), if_neg (fun h => absurd h.2 (by decide)), if_neg (fun h => hk h.1)]
    show Sim (if q1m of_ < 6 ∨ m < 2 ∨ (0 < (2 : Int) ∧ d = 4) then .no a m else _ : Rs q06) ((qx5, a, true, m) : Xr q06) ∧ ∀ v b n, (if q1m of_ < 6 ∨ m < 2 ∨ (0 < (2 : Int) ∧ d = 4) then .no a m else _ : Rs q06) = .ok v b n → _
    rw [if_pos (.inl (by omega))]
    exact ⟨⟨rfl, rfl⟩, fun v b n e => by cases e⟩
  have hform : qp8 (q0y ws a) = none := by
   unfold qp8
   rw [if_neg p1, if_neg p2, if_neg p3, if_neg p4, if_neg p5, if_neg p6]
  rw [hform, if_neg (fun h => p2 h.2), if_neg (fun h => p3 h.2), if_neg (fun h => p4 h.2), if_neg (fun h => p5 h.2), if_neg (fun h => p6 h.2)]
  exact ⟨⟨rfl, rfl⟩, fun v b n e => by cases e⟩
theorem zj0 (ws : List Wd) : qq1 (z54 ws) := by
 refine q2h (zr1 ws _) fun b => ?_
 cases b
 ·exact q4l ws _ _
 ·exact q8p _
theorem zv1 (ws : List Wd) : z71 ws (q91 ws) (z54 ws) := fun a m h0 h1 => by
 unfold q91 z54 xIs
 rw [q5x (by decide) h0 h1]
 by_cases hp : q0y ws a = q36
 ·have := qk7 (by decide) h1 hp
  rw [if_pos hp, decide_eq_true hp]
  exact ⟨rfl, fun v b k e => by injection e with _ e _; subst e; omega⟩
 ·rw [if_neg hp, decide_eq_false hp]
  exact qv2 ws (by omega) (by omega) a m h0 h1
theorem y1u (ws : List Wd) : SPQ True ws (qo5 ws (fun o a m => .ok o a m)) (q7f ws) := by
 show SPQ True ws (fun a m => qo5 ws (fun o a m => .ok o a m) a m) (fun a w m => q7f ws a w m)
 unfold qo5 q7f
 refine q2v [q0w] (by decide) fun _ => q5u (fun _ => by omega) fun id => q2v [q6s] (by decide) fun _ => q5u (fun _ => by omega) fun ow => ?_
 refine q2v [q2n] (by decide) fun _ => q5u (fun _ => by omega) fun pr => q2v [q0x] (by decide) fun _ => qt7 ⟨fun _ => zv1 ws, zj0 ws⟩ fun gr => ?_
 refine zm3 (by decide) (by decide) fun ur => q2v [q19] (by decide) fun _ => q5u (fun _ => by omega) fun kn => q2v [q2w] (by decide) fun _ => q5u (fun h => by omega) fun du => ?_
 refine q2v [q1a] (by decide) fun _ => qt7 ⟨fun _ => zd0 ws 4 5 6 1 (by omega) (by omega) rfl, z4e ws _ _ _⟩ fun g => ?_
 exact q2v [q3z] (by decide) fun _ => z05 _
def z0w (s : Wd) : q2c × Int × Int := if 20000 < s.length then (q70, 0, 130) else
 if (q7f (q0j s) 0 false 11).2.2.1 = true ∨ (q7f (q0j s) 0 false 11).2.1 < (q0j s).length then (q70, (q7f (q0j s) 0 false 11).2.1, 130) else ((q7f (q0j s) 0 false 11).1, (q7f (q0j s) 0 false 11).2.1, 0)
theorem zg7 (s : Wd) : z0w s = q39 s := by
 unfold z0w q39
 by_cases hl : 20000 < s.length
 ·rw [if_pos hl, if_pos hl]
 ·rw [if_neg hl, if_neg hl, zw8, z8s]
  have h := ((y1u (q0j s)).sim trivial 0 11 (Int.le_refl _) (by omega)).1
  cases hp : qo5 (q0j s) (fun o a m => .ok o a m) 0 11 with
  | no a m =>
   rw [hp] at h
   have h : (q7f (q0j s) 0 false 11).2.1 = a ∧ (q7f (q0j s) 0 false 11).2.2.1 = true := h
   rw [if_pos (.inl h.2), h.1]
  | ok o a m =>
   rw [hp] at h
   have h : q7f (q0j s) 0 false 11 = (o, a, false, m) := h
   rw [h]
   dsimp only [Rs.bind, yd7]
   by_cases ha : a < (q0j s).length
   ·rw [if_pos (.inr ha), if_pos ha]
   ·rw [if_neg (show ¬ (false = true ∨ a < (q0j s).length) by intro h; rcases h with h | h; cases h; exact ha h), if_neg ha]
end Go.SX
namespace Go.SX
def KP {α : Type} (ws : List Wd) (K : XP α) : Prop := ∀ a w m, InW ws a m → InW ws (K a w m).2.1 (K a w m).2.2.2
theorem q9p {α : Type} {ws : List Wd} (v : α) : KP ws (fun a w m => (v, a, w, m) : XP α) := fun a w m h => h
theorem q0s {α β : Type} {ws : List Wd} {X : XP α} {K : α → XP β} (h : KP ws X) (hk : ∀ v, KP ws (K v)) : KP ws (fun a w m => (X a w m).bind K) := fun a w m hi => hk _ _ _ _ (h a w m hi)
theorem qw8 {ws : List Wd} {s : Wd} {a : Int} {w : Bool} (h : q24 ws s a w = true) : a < ws.length ∧ w = false := by
 unfold q24 at h
 simp only [Bool.and_eq_true, Bool.not_eq_true', decide_eq_true_eq] at h
 exact ⟨h.1.2, h.1.1⟩
theorem InW.up {ws : List Wd} {a m : Int} (h : InW ws a m) (ha : a < ws.length) : InW ws (a + 1) m := ⟨by have := h.a0; omega, by omega, h.m0, h.m1⟩
theorem z3s (ws : List Wd) (s : Wd) : KP ws (xIs ws s) := fun a w m hi => by
 unfold xIs
 split
 ·rename_i h; exact hi.up (qw8 h).1
 ·exact hi
theorem q0h (ws : List Wd) : ∀ l, KP ws (q0c ws l)
 | [] => fun a w m hi => hi
 | s :: l => fun a w m hi => by
  rw [q0c]
  dsimp only
  split
  ·rename_i h; exact q0h ws l _ _ _ (hi.up (qw8 h).1)
  ·exact q0h ws l _ _ _ hi
theorem q1w (ws : List Wd) (lo hi : Int) : KP ws (q2l ws lo hi) := fun a w m h => by
 unfold q2l
 split
 ·exact h
 ·rename_i hc
  simp only [not_or] at hc
  exact h.up (by omega)
theorem q66 (ws : List Wd) (s : Wd) {g : Int} (hg : 0 ≤ g) (d : Int) : KP ws (q2b ws s g d) := fun a w m h => by
 unfold q2b
 split
 ·rename_i hn
  split
  ·exact h
  ·rename_i hc
   have := qw8 hn
   exact ⟨by show (0 : Int) ≤ a + 1; have := h.a0; omega, by show a + 1 ≤ _; omega, by show (0 : Int) ≤ m - g; omega, by show m - g ≤ 1000; have := h.m1; omega⟩
 ·exact h
theorem y4o (ws : List Wd) (s t : Wd) : KP ws (qy3 ws s t) := by
 refine q0s (z3s ws s) fun c => q0s ?_ fun _ => q9p c
 cases c
 ·exact q0h ws [t]
 ·exact q9p ()
theorem z83 (ws : List Wd) : ∀ (n : Nat) (y last : Int) (rows : List Int), KP ws (q5e ws n y last rows)
 | 0, y, last, rows => q9p rows
 | n + 1, y, last, rows => fun a w m h => by
  rw [q9b]
  split
  ·unfold z7b
   split
   ·exact h
   ·exact (q0s (q0h ws [q7o]) fun _ => q0s (q1w ws _ 23) fun y' => q0s (q1w ws _ 47) fun first => q0s (q1w ws first 47) fun last' => fun a w m h => z83 ws n y' last' _ a w m h) a w m h
  ·exact h
theorem y92 (ws : List Wd) : KP ws (y44 ws) := by
 refine q0s (z83 ws _ _ _ _) fun rows => ?_
 refine q0s (q0h ws _) fun _ => q0s (q1w ws _ _) fun f => q0s (q0h ws _) fun _ => q0s (q1w ws _ _) fun t => ?_
 refine q0s (q0h ws _) fun _ => q0s (q1w ws _ _) fun lo => q0s (q0h ws _) fun _ => q0s (q1w ws _ _) fun hi => ?_
 exact q0s (y4o ws _ _) fun c => q9p _
theorem y3e {ws : List Wd} {X : XP q06} (h : KP ws X) : KP ws (z7w ws X) :=
 q0s (q0h ws _) fun _ => q0s (q1w ws _ _) fun lo => q0s (q0h ws _) fun _ => q0s (q1w ws _ _) fun wi => q0s (q0h ws _) fun _ => q0s h fun k => q9p _
theorem y22 {ws : List Wd} {X : XP q06} (h : KP ws X) : KP ws (qs8 ws X) :=
 q0s (q1w ws _ _) fun d => q0s (q0h ws _) fun _ => q0s (q1w ws _ _) fun t => q0s (q0h ws _) fun _ => q0s (q1w ws _ _) fun wi => q0s (q0h ws _) fun _ => q0s (q1w ws _ _) fun f => q0s (q0h ws _) fun _ => q0s h fun k => q9p _
theorem y6s {ws : List Wd} {X : XP q06} (h : KP ws X) : KP ws (y55 ws X) :=
 q0s (q0h ws _) fun _ => q0s (q1w ws _ _) fun wi => q0s (q0h ws _) fun _ => q0s h fun k => q9p _
theorem qx9 {ws : List Wd} {X : XP q06} (h : KP ws X) (k : Int) : ∀ (n : Nat) (cents : List Int) (kids : List q06), KP ws (q1h ws X k n cents kids)
 | 0, cents, kids => q9p _
 | n + 1, cents, kids => fun a w m hi => by
  rw [q1h]
  dsimp only
  split
  ·exact hi
  ·have hc : KP ws (if k = 6 then fun a w m => (q2l ws 0 1000000000 a w m).bind fun c a w m => (cents ++ [c], a, w, m) else fun a w m => (cents, a, w, m) : XP (List Int)) := by
    split
    ·exact q0s (q1w ws _ _) fun c => q9p _
    ·exact q9p _
   refine (q0s hc fun cents => q0s h fun g => ?_) a w m hi
   intro a w m hi
   simp only
   split
   ·exact (q0s (q0h ws [q0d]) fun _ => qx9 h k n cents (kids ++ [g])) a w m hi
   ·refine (q0s (z3s ws q1d) fun b => ?_) a w m hi
    intro a w m hi
    simp only
    split
    ·exact hi
    ·split
     ·exact hi
     ·rename_i hc
      simp only [not_or] at hc
      exact (q0s (q0h ws [q0d]) fun _ => qx9 h k n cents (kids ++ [g])) a w (m - 1) ⟨hi.a0, hi.a1, by have := hi.m0; omega, by have := hi.m1; omega⟩
theorem zl3 {ws : List Wd} {X : XP q06} (h : KP ws X) (k : Int) : KP ws (z5g ws X k) := q0s (q0h ws _) fun _ => q0s (qx9 h k 5 _ _) fun r => q9p _
theorem ql5 (ws : List Wd) : ∀ (f : Nat) (most d : Int), KP ws (q71 ws f most d)
 | 0, most, d => fun a w m h => h
 | f + 1, most, d => fun a w m h => by
  have ih := fun o => ql5 ws f o (d + 1)
  rw [q71]
  dsimp only
  split
  ·exact (q0s (q66 ws q3e (by omega) d) fun _ => y92 ws) a w m h
  ·split
   ·exact (q0s (q66 ws q28 (by omega) d) fun _ => y3e (ih 1)) a w m h
   ·split
    ·exact (q0s (q66 ws q1k (by omega) d) fun _ => y22 (ih 1)) a w m h
    ·split
     ·exact (q0s (q66 ws q0q (by omega) d) fun _ => y6s (ih 3)) a w m h
     ·split
      ·exact (q0s (q66 ws q46 (by omega) d) fun _ => zl3 (ih 6) 5) a w m h
      ·split
       ·exact (q0s (q66 ws q2p (by omega) d) fun _ => zl3 (ih 6) 6) a w m h
       ·exact h
end Go.SX
namespace Go.SX
open Go.Proofs
set_option maxHeartbeats 400000000
set_option maxRecDepth 100000
@[reducible] def rdX (ws : List Wd) (a : Int) (w : Bool) (m : Int) : List (HS Cd) := [.vart none [wsS ws, iS a, bS w, iS m]]
theorem y69 {ws : List Wd} {a m : Int} (hi : InW ws a m) (hn : q74 ws) (w : Bool) (s : Wd) : q07 Tryz.prog Dc 79 [.ptr 0 0, wS s] (rdX ws a w m) (bS (q24 ws s a w)) (rdX ws a w m) := by
 obtain ⟨h1, h2, h3, h4⟩ := hi
 have hl := hn.n
 cases w with
 | true =>
  rw [q5l]
  refine q00 Ax q03 Tryz.func79 (c := _) rfl Tryz.call79 60 ?_
  (repeat' ((conv => whnf); first | (refine q08 [some 0] (.inr rfl) ?_ ?_ rfl rfl; (focus exact vwV); exact hsV) | refine taC ?_ | refine q02 mixed ?_))
 | false =>
  by_cases ha : a < ws.length
  ·have e : q24 ws s a false = decide (ws.getD a.toNat (Cd.dflt U.str) = s) := by unfold q24; rw [decide_eq_true ha]; rfl
   rw [e]
   refine q00 Ax q03 Tryz.func79 (c := _) rfl Tryz.call79 60 ?_
   (repeat' ((conv => whnf); first | (exfalso; omega) | (refine q08 [some 0] (.inr rfl) ?_ ?_ rfl rfl; (focus exact vwV); exact hsV) | refine spC (fun hb => ?_) fun hb => ?_ | refine taC ?_ | refine saC ?_ | refine q02 mixed ?_))
  ·have e : q24 ws s a false = false := by unfold q24; rw [decide_eq_false ha]; rfl
   rw [e]
   refine q00 Ax q03 Tryz.func79 (c := _) rfl Tryz.call79 60 ?_
   (repeat' ((conv => whnf); first | (exfalso; omega) | (refine q08 [some 0] (.inr rfl) ?_ ?_ rfl rfl; (focus exact vwV); exact hsV) | refine spC (fun hb => ?_) fun hb => ?_ | refine taC ?_ | refine q02 mixed ?_))
theorem xis {ws : List Wd} {a m : Int} (hi : InW ws a m) (hn : q74 ws) (w : Bool) (s : Wd) : q07 Tryz.prog Dc 55 [.ptr 0 0, wS s] (rdX ws a w m) (bS (xIs ws s a w m).1) (rdX ws (xIs ws s a w m).2.1 (xIs ws s a w m).2.2.1 (xIs ws s a w m).2.2.2) := by
 have q := y69 hi hn w s
 obtain ⟨h1, h2, h3, h4⟩ := hi
 have hl := hn.n
 unfold xIs
 cases hx : q24 ws s a w with
 | true =>
  have := (qw8 hx).1
  rw [hx] at q
  rw [if_pos rfl]
  refine q00 Ax q03 Tryz.func55 (c := _) rfl Tryz.call55 60 ?_
  (repeat' ((conv => whnf); first | (refine q01 [some 0] q rfl rfl ⟨rfl, trivial⟩ ?_) | (refine q08 [some 0] (.inr rfl) ?_ ?_ rfl rfl; (focus exact vwV); exact hsV) | refine saC ?_))
 | false =>
  rw [hx] at q
  rw [if_neg (by decide)]
  refine q00 Ax q03 Tryz.func55 (c := _) rfl Tryz.call55 60 ?_
  (repeat' ((conv => whnf); first | (refine q01 [some 0] q rfl rfl ⟨rfl, trivial⟩ ?_) | (refine q08 [some 0] (.inr rfl) ?_ ?_ rfl rfl; (focus exact vwV); exact hsV)))
theorem z6t (ws : List Wd) (s : Wd) (l : List Wd) (a : Int) (w : Bool) (m : Int) : q0c ws (s :: l) a w m = q0c ws l (xIs ws s a w m).2.1 ((xIs ws s a w m).2.2.1 || !(xIs ws s a w m).1) m := by
 rw [q0c]
 unfold xIs
 dsimp only
 cases hx : q24 ws s a w with
 | true => simp [hx]
 | false => simp [hx]
theorem zv2 (ws : List Wd) (s : Wd) (a : Int) (w : Bool) (m : Int) : (xIs ws s a w m).2.2.2 = m := by unfold xIs; split <;> rfl
theorem z68 (ws : List Wd) : ∀ (l : List Wd) (a : Int) (w : Bool) (m : Int), (q0c ws l a w m).2.2.2 = m
 | [], a, w, m => rfl
 | s :: l, a, w, m => by rw [z6t, z68 ws l]
theorem q34 {ws : List Wd} {a m : Int} (hi : InW ws a m) (hn : q74 ws) (w : Bool) (l : List Wd) (hl : l.length ≤ 10) : q07 Tryz.prog Dc 53 [.ptr 0 0, .slice 1 0 1 0 l.length] (rdX ws a w m ++ [.rows U.str l]) (.tuple []) (rdX ws (q0c ws l a w m).2.1 (q0c ws l a w m).2.2.1 (q0c ws l a w m).2.2.2 ++ [.rows U.str l]) := by
 rw [z68]
 have hq : ∀ a w, InW ws a m → ∀ s, q07 Tryz.prog Dc 55 [.ptr 0 0, wS s] (rdX ws a w m) (bS (xIs ws s a w m).1) (rdX ws (xIs ws s a w m).2.1 (xIs ws s a w m).2.2.1 (xIs ws s a w m).2.2.2) := fun a w hi s => xis hi hn w s
 obtain ⟨S, hS⟩ : ∃ S, S = ((q0c ws l a w m).2.1, (q0c ws l a w m).2.2.1) := ⟨_, rfl⟩
 have e1 : (q0c ws l a w m).2.1 = S.1 := by rw [hS]
 have e2 : (q0c ws l a w m).2.2.1 = S.2 := by rw [hS]
 rw [e1, e2]
 clear e1 e2
 refine q00 Ax q03 Tryz.func53 (c := _) rfl Tryz.call53 100 ?_
 (repeat' ((conv => whnf); first | fail))
 refine q0u (fun q : Nat × Int × Bool => [(4, iS q.1)]) (fun q => [(0, .vart none [wsS ws, iS q.2.1, bS q.2.2, iS m])]) (fun q => q.1 ≤ l.length ∧ InW ws q.2.1 m ∧ (q0c ws (l.drop q.1) q.2.1 q.2.2 m).2.1 = S.1 ∧ (q0c ws (l.drop q.1) q.2.1 q.2.2 m).2.2.1 = S.2) (fun q => l.length - q.1) (0, a, w) ⟨Nat.zero_le _, hi, by rw [hS]; rfl, by rw [hS]; rfl⟩ (by exact bkI) ?_
 clear hi hS
 rintro ⟨i, a, w⟩ ⟨hi, hin, hS1, hS2⟩ K hK
 dsimp only at hi hin hS1 hS2 hK ⊢
 rcases Nat.lt_or_ge i l.length with hlt | hge
 ·have hdr := q99 (d := Cd.dflt U.str) hlt
  rw [show l.getD i (Cd.dflt U.str) = l.getD (0 + (i : Int).toNat) (Cd.dflt U.str) by rw [Nat.zero_add]; rfl] at hdr
  rw [hdr, z6t] at hS1 hS2
  have q := hq a w hin (l.getD (0 + (i : Int).toNat) (Cd.dflt U.str))
  have hk := z3s ws (l.getD (0 + (i : Int).toNat) (Cd.dflt U.str)) a w m hin
  rw [zv2] at hk
  rw [zv2] at q
  generalize xIs ws (l.getD (0 + (i : Int).toNat) (Cd.dflt U.str)) a w m = x at *
  obtain ⟨b, a', w', m'⟩ := x
  dsimp only at hS1 hS2 q hk
  clear hq hdr
  cases b with
  | true =>
   rw [Bool.not_true, Bool.or_false] at hS1 hS2
   (repeat' ((conv => whnf); first | (exfalso; omega) | (refine q01 [some 0] q rfl rfl ⟨rfl, trivial⟩ ?_) | refine hK (i + 1, a', w') [some 0, some 1] _ _ ⟨⟨by dsimp only; omega, hk, hS1, hS2⟩⟩ ⟨by dsimp only; omega⟩ (by exact bkI) | refine spC (fun hb => ?_) fun hb => ?_ | refine saC ?_))
  | false =>
   rw [Bool.not_false, Bool.or_true] at hS1 hS2
   (repeat' ((conv => whnf); first | (exfalso; omega) | (refine q01 [some 0] q rfl rfl ⟨rfl, trivial⟩ ?_) | refine hK (i + 1, a', true) [some 0, some 1] _ _ ⟨⟨by dsimp only; omega, hk, hS1, hS2⟩⟩ ⟨by dsimp only; omega⟩ (by exact bkI) | refine spC (fun hb => ?_) fun hb => ?_ | refine saC ?_))
 ·rw [List.drop_eq_nil_of_le hge] at hS1 hS2
  have hS1 : a = S.1 := hS1
  have hS2 : w = S.2 := hS2
  rw [← hS1, ← hS2]
  (repeat' ((conv => whnf); first | (exfalso; omega) | (refine q08 [some 0, some 1] (.inl rfl) ?_ ?_ rfl rfl; (focus exact vwV); exact hsV) | refine spC (fun hb => ?_) fun hb => ?_))
theorem zt0 {x : Int} (h : 0 ≤ x ∧ x ≤ 255) : IntKind.u8.wrap x = x := by
 simp only [IntKind.wrap, IntKind.signed, IntKind.bits]
 simp
 omega
theorem y8n (s : Wd) (hs : s.length ≤ 1000000) : q07 Tryz.prog Dc 78 [wS s] [] (iS (qm4 s)) [] := by
 have e48 : s.getD 0 0 = 48 ↔ ((s.getD (Int.toNat 0) 0).toNat : Int) = 48 := by
  show s.getD 0 0 = 48 ↔ ((s.getD 0 0).toNat : Int) = 48
  constructor
  ·intro h; rw [h]; rfl
  ·intro h
   refine UInt8.toNat_inj.1 ?_
   have : (48 : UInt8).toNat = 48 := rfl
   omega
 unfold qm4
 by_cases hc : s.length = 0 ∨ 10 < s.length ∨ (s.getD 0 0 = 48 ∧ 1 < s.length)
 ·rw [if_pos hc]
  rw [e48] at hc
  rcases hc with hc | hc | hc
  ·refine q00 Ax q03 Tryz.func78 (c := _) rfl Tryz.call78 300 ?_
   (repeat' ((conv => whnf); first | (exfalso; omega) | (refine q08 [] (.inr rfl) ?_ ?_ rfl rfl; (focus exact vwV); exact hsV) | refine spC (fun hb => ?_) fun hb => ?_))
  ·refine q00 Ax q03 Tryz.func78 (c := _) rfl Tryz.call78 300 ?_
   (repeat' ((conv => whnf); first | (exfalso; omega) | (refine q08 [] (.inr rfl) ?_ ?_ rfl rfl; (focus exact vwV); exact hsV) | refine spC (fun hb => ?_) fun hb => ?_))
  ·obtain ⟨hc1, hc2⟩ := hc
   by_cases h10 : 10 < s.length
   ·refine q00 Ax q03 Tryz.func78 (c := _) rfl Tryz.call78 300 ?_
    (repeat' ((conv => whnf); first | (exfalso; omega) | (refine q08 [] (.inr rfl) ?_ ?_ rfl rfl; (focus exact vwV); exact hsV) | refine spC (fun hb => ?_) fun hb => ?_))
   ·refine q00 Ax q03 Tryz.func78 (c := _) rfl Tryz.call78 300 ?_
    (repeat' ((conv => whnf); first | (exfalso; omega) | (refine q08 [] (.inr rfl) ?_ ?_ rfl rfl; (focus exact vwV); exact hsV) | refine spC (fun hb => ?_) fun hb => ?_ | refine saC ?_))
 ·rw [if_neg hc]
  rw [e48] at hc
  simp only [not_or, not_and] at hc
  obtain ⟨c1, c2, c3⟩ := hc
  by_cases h48 : ((s.getD (Int.toNat 0) 0).toNat : Int) = 48
  ·have c4 := c3 h48
   clear c3 e48
   refine q00 Ax q03 Tryz.func78 (c := _) rfl Tryz.call78 300 ?_
   (repeat' ((conv => whnf); first | (exfalso; omega) | refine spC (fun hb => ?_) fun hb => ?_ | refine saC ?_))
   conv => whnf
   refine q0u (fun q : Nat × Int => [(3, iS q.2), (4, iS q.1)]) (fun _ => []) (fun q => q.1 ≤ s.length ∧ qb8 0 s = qb8 q.2 (s.drop q.1) ∧ 0 ≤ q.2 ∧ q.2 + 1 ≤ 10 ^ q.1) (fun q => s.length - q.1) (0, 0) ⟨Nat.zero_le _, rfl, by omega, by simp⟩ (by exact bkI) ?_
   rintro ⟨i, n⟩ ⟨hi, hd, hn0, hn1⟩ K hK
   dsimp only at hi hd hn0 hn1 hK ⊢
   rcases Nat.lt_or_ge i s.length with hlt | hge
   ·have hdr := q99 (d := (0 : UInt8)) hlt
    rw [show s.getD i (0 : UInt8) = s.getD (i : Int).toNat 0 from rfl] at hdr
    rw [hdr, qb8] at hd
    have hp : (10 : Int) ^ (i + 1) = 10 * 10 ^ i := by rw [Int.pow_succ, Int.mul_comm]
    have hp2 : (10 : Int) ^ i ≤ 10 ^ 9 := by
     have := Nat.pow_le_pow_right (n := 10) (by omega) (show i ≤ 9 by omega)
     exact_mod_cast this
    by_cases hb : (s.getD (i : Int).toNat 0).toNat < 48 ∨ 57 < (s.getD (i : Int).toNat 0).toNat
    ·rw [if_pos hb] at hd
     rw [hd]
     (repeat' ((conv => whnf); first | (exfalso; omega) | (refine q08 [] (.inr rfl) ?_ ?_ rfl rfl; (focus exact vwV); exact hsV) | refine spC (fun hb => ?_) fun hb => ?_ | refine saC ?_))
    ·rw [if_neg hb] at hd
     have hle := (s.getD (i : Int).toNat 0).toNat_lt
     have hwr := zt0 (x := ((s.getD (i : Int).toNat 0).toNat : Int) - 48) (by omega)
     rw [← hwr] at hd
     (repeat' ((conv => whnf); first | (exfalso; omega) | refine hK (i + 1, 10 * n + IntKind.u8.wrap (((s.getD (i : Int).toNat 0).toNat : Int) - 48)) [] _ _ ⟨⟨by dsimp only; omega, hd, by dsimp only; omega, by dsimp only; omega⟩⟩ ⟨by dsimp only; omega⟩ (by exact bkI) | refine spC (fun hb => ?_) fun hb => ?_ | refine saC ?_))
   ·rw [List.drop_eq_nil_of_le hge, qb8] at hd
    rw [hd]
    (repeat' ((conv => whnf); first | (exfalso; omega) | (refine q08 [] (.inr rfl) ?_ ?_ rfl rfl; (focus exact vwV); exact hsV) | refine spC (fun hb => ?_) fun hb => ?_))
  ·clear c3 e48
   refine q00 Ax q03 Tryz.func78 (c := _) rfl Tryz.call78 300 ?_
   (repeat' ((conv => whnf); first | (exfalso; omega) | refine spC (fun hb => ?_) fun hb => ?_ | refine saC ?_))
   conv => whnf
   refine q0u (fun q : Nat × Int => [(3, iS q.2), (4, iS q.1)]) (fun _ => []) (fun q => q.1 ≤ s.length ∧ qb8 0 s = qb8 q.2 (s.drop q.1) ∧ 0 ≤ q.2 ∧ q.2 + 1 ≤ 10 ^ q.1) (fun q => s.length - q.1) (0, 0) ⟨Nat.zero_le _, rfl, by omega, by simp⟩ (by exact bkI) ?_
   rintro ⟨i, n⟩ ⟨hi, hd, hn0, hn1⟩ K hK
   dsimp only at hi hd hn0 hn1 hK ⊢
   rcases Nat.lt_or_ge i s.length with hlt | hge
   ·have hdr := q99 (d := (0 : UInt8)) hlt
    rw [show s.getD i (0 : UInt8) = s.getD (i : Int).toNat 0 from rfl] at hdr
    rw [hdr, qb8] at hd
    have hp : (10 : Int) ^ (i + 1) = 10 * 10 ^ i := by rw [Int.pow_succ, Int.mul_comm]
    have hp2 : (10 : Int) ^ i ≤ 10 ^ 9 := by
     have := Nat.pow_le_pow_right (n := 10) (by omega) (show i ≤ 9 by omega)
     exact_mod_cast this
    by_cases hb : (s.getD (i : Int).toNat 0).toNat < 48 ∨ 57 < (s.getD (i : Int).toNat 0).toNat
    ·rw [if_pos hb] at hd
     rw [hd]
     (repeat' ((conv => whnf); first | (exfalso; omega) | (refine q08 [] (.inr rfl) ?_ ?_ rfl rfl; (focus exact vwV); exact hsV) | refine spC (fun hb => ?_) fun hb => ?_ | refine saC ?_))
    ·rw [if_neg hb] at hd
     have hle := (s.getD (i : Int).toNat 0).toNat_lt
     have hwr := zt0 (x := ((s.getD (i : Int).toNat 0).toNat : Int) - 48) (by omega)
     rw [← hwr] at hd
     (repeat' ((conv => whnf); first | (exfalso; omega) | refine hK (i + 1, 10 * n + IntKind.u8.wrap (((s.getD (i : Int).toNat 0).toNat : Int) - 48)) [] _ _ ⟨⟨by dsimp only; omega, hd, by dsimp only; omega, by dsimp only; omega⟩⟩ ⟨by dsimp only; omega⟩ (by exact bkI) | refine spC (fun hb => ?_) fun hb => ?_ | refine saC ?_))
   ·rw [List.drop_eq_nil_of_le hge, qb8] at hd
    rw [hd]
    (repeat' ((conv => whnf); first | (exfalso; omega) | (refine q08 [] (.inr rfl) ?_ ?_ rfl rfl; (focus exact vwV); exact hsV) | refine spC (fun hb => ?_) fun hb => ?_))
theorem q27 {ws : List Wd} {a m : Int} (hi : InW ws a m) (hn : q74 ws) (w : Bool) (lo h : Int) : q07 Tryz.prog Dc 54 [.ptr 0 0, iS lo, iS h] (rdX ws a w m) (iS (q2l ws lo h a w m).1) (rdX ws (q2l ws lo h a w m).2.1 (q2l ws lo h a w m).2.2.1 (q2l ws lo h a w m).2.2.2) := by
 have hv : a < ws.length → q07 Tryz.prog Dc 78 [wS (ws.getD a.toNat (Cd.dflt U.str))] [] (iS (qm4 (ws.getD a.toNat (Cd.dflt U.str)))) [] := fun ha => by
  have h0 := hi.a0
  have hidx : a.toNat < ws.length := by omega
  exact y8n _ (hn.w _ (List.mem_of_getElem? (getD_some (d := Cd.dflt U.str) hidx)))
 have hlen := hn.n
 obtain ⟨h1, h2, h3, h4⟩ := hi
 cases w with
 | true =>
  have e : q2l ws lo h a true m = (0, a, true, m) := by unfold q2l; rw [if_pos (.inl rfl)]
  rw [e]
  refine q00 Ax q03 Tryz.func54 (c := _) rfl Tryz.call54 100 ?_
  (repeat' ((conv => whnf); first | (refine q08 [some 0] (.inr rfl) ?_ ?_ rfl rfl; (focus exact vwV); exact hsV) | refine taC ?_ | refine q02 mixed ?_))
 | false =>
  by_cases ha : a < ws.length
  ·have hv := hv ha
   have e : q2l ws lo h a false m = if ¬ (lo ≤ qm4 (ws.getD a.toNat (Cd.dflt U.str)) ∧ qm4 (ws.getD a.toNat (Cd.dflt U.str)) ≤ h) then (0, a, true, m) else (qm4 (ws.getD a.toNat (Cd.dflt U.str)), a + 1, false, m) := by
    unfold q2l
    by_cases hc : ¬ (lo ≤ qm4 (ws.getD a.toNat []) ∧ qm4 (ws.getD a.toNat []) ≤ h)
    ·rw [if_pos (.inr (.inr hc))]; exact (if_pos hc).symm
    ·rw [if_neg (by simp only [not_or]; exact ⟨by decide, by omega, hc⟩)]; exact (if_neg hc).symm
   rw [e]
   have e1 : (a + 1 - 1).toNat = a.toNat := by omega
   have hin := z6z (qm4 (ws.getD a.toNat (Cd.dflt U.str))) lo h
   generalize qm4 (ws.getD a.toNat (Cd.dflt U.str)) = V at *
   by_cases hc : lo ≤ V ∧ V ≤ h
   ·rw [if_neg (fun hn => hn hc)]
    rw [(q0f _ _ _).2 hc] at hin
    have hv2 : q07 Tryz.prog Dc 78 [wS (ws.getD (a + 1 - 1).toNat (Cd.dflt U.str))] [] (iS V) [] := by rw [e1]; exact hv
    refine q00 Ax q03 Tryz.func54 (c := _) rfl Tryz.call54 200 ?_
    (repeat' ((conv => whnf); first | (exfalso; omega) | refine dpC (hv) ?_ | refine dpC (hv2) ?_ | refine dpC (hin) ?_ | (refine q08 [some 0] (.inr rfl) ?_ ?_ rfl rfl; (focus exact vwV); exact hsV) | refine spC (fun hb => ?_) fun hb => ?_ | refine taC ?_ | refine saC ?_ | refine q02 mixed ?_))
   ·rw [if_pos hc]
    rw [(z7h _ _ _).2 hc] at hin
    refine q00 Ax q03 Tryz.func54 (c := _) rfl Tryz.call54 200 ?_
    (repeat' ((conv => whnf); first | (exfalso; omega) | refine dpC (hv) ?_ | refine dpC (hin) ?_ | (refine q08 [some 0] (.inr rfl) ?_ ?_ rfl rfl; (focus exact vwV); exact hsV) | refine spC (fun hb => ?_) fun hb => ?_ | refine taC ?_ | refine saC ?_ | refine q02 mixed ?_))
  ·have e : q2l ws lo h a false m = (0, a, true, m) := by unfold q2l; rw [if_pos (.inr (.inl (by omega)))]
   rw [e]
   refine q00 Ax q03 Tryz.func54 (c := _) rfl Tryz.call54 100 ?_
   (repeat' ((conv => whnf); first | (exfalso; omega) | (refine q08 [some 0] (.inr rfl) ?_ ?_ rfl rfl; (focus exact vwV); exact hsV) | refine spC (fun hb => ?_) fun hb => ?_ | refine taC ?_ | refine q02 mixed ?_))
theorem q4e {ws : List Wd} {a m : Int} (hi : InW ws a m) (hn : q74 ws) (w : Bool) (s : Wd) (g d : Int) (hg : 0 ≤ g ∧ g ≤ 2) : q07 Tryz.prog Dc 80 [.ptr 0 0, wS s, iS g, iS d] (rdX ws a w m) (bS (q2b ws s g d a w m).1) (rdX ws (q2b ws s g d a w m).2.1 (q2b ws s g d a w m).2.2.1 (q2b ws s g d a w m).2.2.2) := by
 have q := y69 hi hn w s
 have hlen := hn.n
 obtain ⟨h1, h2, h3, h4⟩ := hi
 unfold q2b
 cases hx : q24 ws s a w with
 | false =>
  rw [hx] at q
  rw [if_neg (by decide)]
  refine q00 Ax q03 Tryz.func80 (c := _) rfl Tryz.call80 300 ?_
  (repeat' ((conv => whnf); first | (refine q01 [some 0] q rfl rfl ⟨rfl, trivial⟩ ?_) | (refine q08 [some 0] (.inr rfl) ?_ ?_ rfl rfl; (focus exact vwV); exact hsV)))
 | true =>
  have := (qw8 hx).1
  rw [hx] at q
  rw [if_pos rfl]
  by_cases hc : m < g ∨ (0 < g ∧ 4 ≤ d)
  ·rw [if_pos hc]
   by_cases hc1 : m < g
   ·refine q00 Ax q03 Tryz.func80 (c := _) rfl Tryz.call80 300 ?_
    (repeat' ((conv => whnf); first | (exfalso; omega) | (refine q01 [some 0] q rfl rfl ⟨rfl, trivial⟩ ?_) | (refine q08 [some 0] (.inr rfl) ?_ ?_ rfl rfl; (focus exact vwV); exact hsV) | refine spC (fun hb => ?_) fun hb => ?_))
   ·refine q00 Ax q03 Tryz.func80 (c := _) rfl Tryz.call80 300 ?_
    (repeat' ((conv => whnf); first | (exfalso; omega) | (refine q01 [some 0] q rfl rfl ⟨rfl, trivial⟩ ?_) | (refine q08 [some 0] (.inr rfl) ?_ ?_ rfl rfl; (focus exact vwV); exact hsV) | refine spC (fun hb => ?_) fun hb => ?_))
  ·rw [if_neg hc]
   by_cases hc1 : 0 < g
   ·refine q00 Ax q03 Tryz.func80 (c := _) rfl Tryz.call80 300 ?_
    (repeat' ((conv => whnf); first | (exfalso; omega) | (refine q01 [some 0] q rfl rfl ⟨rfl, trivial⟩ ?_) | (refine q08 [some 0] (.inr rfl) ?_ ?_ rfl rfl; (focus exact vwV); exact hsV) | refine spC (fun hb => ?_) fun hb => ?_ | refine saC ?_))
   ·refine q00 Ax q03 Tryz.func80 (c := _) rfl Tryz.call80 300 ?_
    (repeat' ((conv => whnf); first | (exfalso; omega) | (refine q01 [some 0] q rfl rfl ⟨rfl, trivial⟩ ?_) | (refine q08 [some 0] (.inr rfl) ?_ ?_ rfl rfl; (focus exact vwV); exact hsV) | refine spC (fun hb => ?_) fun hb => ?_ | refine saC ?_))
end Go.SX
namespace Go.SX
def z9n (rows : List Int) (y f : Nat) : Nat → List Int
 | 0 => rows
 | k + 1 => zl7 (z9n rows y f k) y ((f : Int) + k)
theorem za1 (rows : List Int) (y f : Nat) : ∀ k, (z9n rows y f k).length = rows.length
 | 0 => rfl
 | k + 1 => by rw [z9n, qr3, za1 rows y f k]
theorem y1o {l : List Int} {y : Nat} (h : y < l.length) : l.set y (l.getD y 0) = l := by
 refine List.ext_getElem (by simp) fun i h1 h2 => ?_
 rw [List.getElem_set]
 split
 ·rename_i e; subst e
  rw [List.getD_eq_getElem?_getD, List.getElem?_eq_getElem h]; rfl
 ·rfl
theorem y0c {l : List Int} {y : Nat} {v : Int} (h : y < l.length) : (l.set y v).getD y 0 = v := by
 rw [List.getD_eq_getElem?_getD, List.getElem?_set_self h]; rfl
theorem zy3 {f k : Nat} : 2 ^ f * (2 ^ k - 1) < 2 ^ (f + k) := by
 rw [Nat.pow_add]
 exact Nat.mul_lt_mul_of_pos_left (by have := Nat.two_pow_pos k; omega) (Nat.two_pow_pos f)
theorem z9t {rows : List Int} {y f : Nat} (hy : y < rows.length) (hv : 0 ≤ rows.getD y 0 ∧ rows.getD y 0 ≤ 281474976710655) : ∀ k : Nat, f + k ≤ 48 → z9n rows y f k = rows.set y (((rows.getD y 0).toNat ||| 2 ^ f * (2 ^ k - 1) : Nat) : Int)
 | 0, _ => by
  rw [z9n]
  simp only [Nat.pow_zero, Nat.sub_self, Nat.mul_zero, Nat.or_zero]
  rw [show (((rows.getD y 0).toNat : Nat) : Int) = rows.getD y 0 by omega, y1o hy]
 | k + 1, hk => by
  have hn : (rows.getD y 0).toNat < 2 ^ 48 := by omega
  have hm : 2 ^ f * (2 ^ k - 1) < 2 ^ 48 := Nat.lt_of_lt_of_le zy3 (Nat.pow_le_pow_right (by omega) (by omega))
  have h1 : 2 ^ (f + k) < 2 ^ 48 := Nat.pow_lt_pow_right (by omega) (by omega)
  rw [z9n, z9t hy hv k (by omega)]
  unfold zl7
  rw [y0c hy, List.set_set, show (f : Int) + k = ((f + k : Nat) : Int) by omega, zu3 (by omega), z9f (Nat.or_lt_two_pow hn hm) h1]
  congr 2
  rw [Nat.or_assoc]
  congr 1
  rw [Nat.or_comm, show 2 ^ (f + k) ||| 2 ^ f * (2 ^ k - 1) = 2 ^ (f + k) * 1 ||| 2 ^ f * (2 ^ k - 1) by rw [Nat.mul_one], ← Nat.two_pow_add_eq_or_of_lt zy3, Nat.mul_one, Nat.pow_succ]
  have hp := Nat.two_pow_pos k
  rw [show 2 ^ k * 2 - 1 = 2 ^ k + (2 ^ k - 1) by omega, Nat.mul_add, ← Nat.pow_add]
theorem y3l {rows : List Int} {y f z : Int} (hy : 0 ≤ y ∧ y.toNat < rows.length) (hf : 0 ≤ f) (hz : f ≤ z ∧ z ≤ 47) (hv : 0 ≤ rows.getD y.toNat 0 ∧ rows.getD y.toNat 0 ≤ 281474976710655) : z9n rows y.toNat f.toNat (z - f + 1).toNat = rows.set y.toNat (q1l .or .i64 (rows.getD y.toNat 0) (q6f f z)) := by
 obtain ⟨f, rfl⟩ := Int.eq_ofNat_of_zero_le hf
 obtain ⟨z, rfl⟩ := Int.eq_ofNat_of_zero_le (show 0 ≤ z by omega)
 rw [z9t hy.2 hv _ (by omega)]
 congr 1
 have hm := zb6 (p := (f, z)) (show f ≤ z by omega)
 have hl := y96 (p := (f, z)) (show f ≤ z by omega) (show z ≤ 47 by omega)
 rw [show q6f (f : Int) (z : Int) = ((mk (f, z) : Nat) : Int) from hm]
 have e : rows.getD y.toNat 0 = (((rows.getD y.toNat 0).toNat : Nat) : Int) := by omega
 rw [e, z9f (by omega) hl]
 unfold mk
 rw [show ((z : Int) - f + 1).toNat = z - f + 1 by omega, Int.toNat_natCast, Int.toNat_natCast]
theorem y32 {rows : List Int} (h : q8y rows) {y f : Nat} (hy : y < 24) : ∀ k : Nat, f + k ≤ 48 → q8y (z9n rows y f k)
 | 0, _ => h
 | k + 1, hk => by
  rw [z9n]
  exact (z81 (y32 h hy k (by omega)) hy (by omega)).1
end Go.SX
