/-
  Plain law: what is met stays so with further events, and its price does not rise.
-/
import Derived.Test.YtiflflnmonljeaaGreatDoorSxTa6
import Derived.Test.YtiflflnmonljeaaGreatDoorSxVm
set_option linter.unusedVariables false
set_option linter.unusedSimpArgs false
namespace Go.SX
theorem H5 (g : aK) : ∀ l : List aD, (∃ a b, [a, b].Sublist l ∧ pfB g a b = true) ↔ (rZ g l).isSome = true
 | [] => by
  simp only [rZ, Option.isSome_none, Bool.false_eq_true, iff_false]
  rintro ⟨a, b, h, _⟩
  cases h
 | c :: l => by
  rw [yE]
  cases hf : l.find? (pfB g c) with
  | some b =>
   simp only [Option.isSome_some, iff_true]
   obtain ⟨h1, h2⟩ := (List.find?_eq_some_iff_append.1 hf)
   refine ⟨c, b, ?_, h1⟩
   have hb : b ∈ l := List.mem_of_find?_eq_some hf
   exact List.Sublist.cons_cons c (List.singleton_sublist.2 hb)
  | none =>
   rw [← H5 g l]
   rw [List.find?_eq_none] at hf
   constructor
   ·rintro ⟨a, b, h, hp⟩
    cases h with
    | cons _ h => exact ⟨a, b, h, hp⟩
    | cons_cons _ h => exact absurd hp (hf b (List.singleton_sublist.1 h))
   ·rintro ⟨a, b, h, hp⟩
    exact ⟨a, b, h.cons _, hp⟩
def eO (g : aK) : List aD → Prop
 | [] => True
 | [_] => True
 | a :: b :: l => bG g a b = true ∧ eO g (b :: l)
theorem Cm {g : aK} {a : aD} {l : List aD} (h : eO g (a :: l)) : eO g l := by
 cases l with
 | nil => trivial
 | cons b l => exact h.2
theorem xF {g : aK} : ∀ (n : Nat) {l : List aD}, eO g l → eO g (l.take n)
 | 0, l, _ => by rw [List.take_zero]; trivial
 | n + 1, [], _ => trivial
 | n + 1, [a], _ => by simp [eO]
 | 1, a :: b :: l, _ => by simp [eO]
 | n + 2, a :: b :: l, h => ⟨h.1, xF (n + 1) h.2⟩
theorem Ie {g : aK} {a : aD} : ∀ {ps : List (aD × Int)} {p : aD × Int}, p ∈ ps → bG g a p.1 = true → ∀ m : Int, 1 + p.2 ≤ ps.foldl (fun m p => if bG g a p.1 then max m (1 + p.2) else m) m
 | [], p, h, _, _ => by cases h
 | q :: ps, p, h, hf, m => by
  have mono : ∀ (ps : List (aD × Int)) (m : Int), m ≤ ps.foldl (fun m p => if bG g a p.1 then max m (1 + p.2) else m) m := by
   intro ps
   induction ps with
   | nil => intro m; exact Int.le_refl _
   | cons q ps ih =>
    intro m
    simp only [List.foldl_cons]
    refine Int.le_trans ?_ (ih _)
    split <;> omega
  simp only [List.foldl_cons]
  rcases List.mem_cons.1 h with rfl | h
  ·refine Int.le_trans ?_ (mono ps _)
   rw [if_pos hf]; omega
  ·exact Ie h hf _
theorem Om {g : aK} {a : aD} {ps : List (aD × Int)} {m : Int} : ps.foldl (fun m p => if bG g a p.1 then max m (1 + p.2) else m) m = m ∨ ∃ p ∈ ps, bG g a p.1 = true ∧ ps.foldl (fun m p => if bG g a p.1 then max m (1 + p.2) else m) m = 1 + p.2 := by
 induction ps generalizing m with
 | nil => exact .inl rfl
 | cons q ps ih =>
  simp only [List.foldl_cons]
  by_cases hf : bG g a q.1 = true
  ·rw [if_pos hf]
   rcases ih (m := max m (1 + q.2)) with h | ⟨p, h1, h2, h3⟩
   ·rw [h]
    rcases Int.le_total m (1 + q.2) with h4 | h4
    ·exact .inr ⟨q, by simp, hf, by omega⟩
    ·exact .inl (by omega)
   ·exact .inr ⟨p, by simp [h1], h2, h3⟩
  ·rw [if_neg hf]
   rcases ih (m := m) with h | ⟨p, h1, h2, h3⟩
   ·exact .inl h
   ·exact .inr ⟨p, by simp [h1], h2, h3⟩
theorem Mg (g : aK) : ∀ (a : aD) (l : List aD), ∃ c, (a :: c).Sublist (a :: l) ∧ eO g (a :: c) ∧ ((a :: c).length : Int) = (bD g (a :: l)).headD 0 := by
 intro a l
 induction hn : l.length using Nat.strongRecOn generalizing a l with
 | ind n ih =>
  rw [gF]
  simp only [List.headD_cons]
  unfold oB
  rcases Om (g := g) (a := a) (ps := l.zip (bD g l)) (m := 1) with h | ⟨p, h1, h2, h3⟩
  ·exact ⟨[], by simp, trivial, by rw [h]; rfl⟩
  ·rw [h3]
   obtain ⟨i, hi, hp⟩ := List.getElem_of_mem h1
   have hil : i < l.length := by simp [dO] at hi; omega
   have hp1 : p.1 = l[i] := by rw [← hp]; simp
   have hp2 : p.2 = (bD g l).getD i 0 := by rw [← hp]; simp [List.getD_eq_getElem?_getD, List.getElem?_eq_getElem (show i < (bD g l).length by rw [dO]; exact hil)]
   have hd := List.drop_eq_getElem_cons hil
   obtain ⟨c, c1, c2, c3⟩ := ih (l.drop (i + 1)).length (by simp; omega) l[i] (l.drop (i + 1)) rfl
   rw [← hd, qY] at c3
   refine ⟨l[i] :: c, ?_, ⟨by rw [← hp1]; exact h2, c2⟩, ?_⟩
   ·refine List.Sublist.cons_cons a (c1.trans ?_)
    rw [← hd]; exact List.drop_sublist i l
   ·rw [hp2, ← c3]; simp; omega
theorem Oh (g : aK) : ∀ (n : Nat) (a : aD) (c l : List aD), l.length = n → c.Sublist l → eO g (a :: c) → ((a :: c).length : Int) ≤ (bD g (a :: l)).headD 0 := by
 intro n
 induction n using Nat.strongRecOn with
 | ind n ih =>
  intro a c l hn hs hc
  rw [gF]
  simp only [List.headD_cons]
  cases c with
  | nil =>
   have := nH g a l.length (by omega) _ (l.zip (bD g l)) rfl fun p hp => (nV g l p.2 (List.of_mem_zip hp).2).2
   simp; omega
  | cons b c =>
   have hb : ∃ i, i < l.length ∧ l[i]? = some b ∧ c.Sublist (l.drop (i + 1)) := by
    clear ih hc hn
    induction l with
    | nil => cases hs
    | cons x l ihl =>
     cases hs with
     | cons _ h =>
      obtain ⟨i, h1, h2, h3⟩ := ihl h
      exact ⟨i + 1, by simp; omega, by simpa using h2, by simpa using h3⟩
     | cons_cons _ h => exact ⟨0, by simp, by simp, by simpa using h⟩
   obtain ⟨i, hi, hbi, hci⟩ := hb
   have hd := List.drop_eq_getElem_cons hi
   have hbe : l[i] = b := by rw [List.getElem?_eq_getElem hi] at hbi; injection hbi
   rw [hbe] at hd
   have h1 := ih (l.drop (i + 1)).length (by simp; omega) b c (l.drop (i + 1)) rfl hci hc.2
   rw [← hd, qY] at h1
   have hi2 : i < (bD g l).length := by rw [dO]; exact hi
   have hm : (b, (bD g l).getD i 0) ∈ l.zip (bD g l) := by
    rw [List.mem_iff_getElem?]
    refine ⟨i, ?_⟩
    rw [List.getElem?_zip_eq_some]
    exact ⟨hbi, by rw [List.getD_eq_getElem?_getD, List.getElem?_eq_getElem hi2]; rfl⟩
   have h2 := Ie (g := g) (a := a) hm hc.1 1
   unfold oB
   simp only [List.length_cons] at h1 ⊢
   omega
def Gl (g : aK) (last : Option aD) : List aD → Prop
 | [] => True
 | a :: _ => mG g last a = true
theorem mZ (g : aK) : ∀ (l : List aD) (n : Nat) (last : Option aD) (c : List aD), c.Sublist l → c.length = n → eO g c → Gl g last c → (cZ g l n last).2 = true
  | l, 0, last, c, _, _, _, _ => by rw [show ((0 : Nat) : Int) = 0 from rfl, qH]
  | [], n + 1, last, c, hs, hl, _, _ => by rw [List.sublist_nil.1 hs] at hl; cases hl
  | a :: l, n + 1, last, c, hs, hl, hc, hf => by
    by_cases h : ((n + 1 : Nat) : Int) ≤ (bD g (a :: l)).headD 0 ∧ mG g last a = true
    · rw [uS g (by omega) h.1 h.2]
      obtain ⟨d, d1, d2, d3⟩ := Mg g a l
      have hd1 : d.Sublist l := List.cons_sublist_cons.1 d1
      have hle : n ≤ d.length := by
        have := h.1; simp only [List.length_cons] at d3; omega
      have hch : eO g (a :: d.take n) := xF (n + 1) d2
      have := mZ g l n (some a) (d.take n) ((List.take_sublist n d).trans hd1) (by simp; omega) (Cm hch) (by
        cases hx : d.take n with
        | nil => trivial
        | cons b r => rw [hx] at hch; exact hch.1)
      rw [show ((n + 1 : Nat) : Int) - 1 = n by omega]
      exact this
    · have h' : ¬ ((n + 1 : Nat) : Int) ≤ (bD g (a :: l)).headD 0 ∨ mG g last a = false := by
        by_cases h1 : ((n + 1 : Nat) : Int) ≤ (bD g (a :: l)).headD 0
        · right
          cases hn : mG g last a with
          | false => rfl
          | true => exact absurd ⟨h1, hn⟩ h
        · exact .inl h1
      rw [pP g (by omega) h']
      cases hs with
      | cons _ hs => exact mZ g l (n + 1) last c hs hl hc hf
      | cons_cons _ hs =>
        rename_i c
        exfalso
        rcases h' with h1 | h1
        · have := Oh g l.length a c l rfl hs hc
          rw [hl] at this; omega
        · rw [show mG g last a = true from hf] at h1; cases h1
theorem nS (g : aK) : ∀ (l : List aD) (n : Nat) (last : Option aD), (cZ g l n last).2 = true → ∃ c, c.Sublist l ∧ c.length = n ∧ eO g c ∧ Gl g last c ∧ (cZ g l n last).1 = c.map (·.image)
 | l, 0, last, _ => ⟨[], List.nil_sublist _, rfl, trivial, trivial, by rw [show ((0 : Nat) : Int) = 0 from rfl, qH]; rfl⟩
 | [], n + 1, last, h => by rw [I7 g last (by omega)] at h; cases h
 | a :: l, n + 1, last, h => by
  by_cases h0 : ((n + 1 : Nat) : Int) ≤ (bD g (a :: l)).headD 0 ∧ mG g last a = true
  ·rw [uS g (by omega) h0.1 h0.2] at h ⊢
   rw [show ((n + 1 : Nat) : Int) - 1 = n by omega] at h ⊢
   obtain ⟨c, c1, c2, c3, c4, c5⟩ := nS g l n (some a) h
   refine ⟨a :: c, c1.cons_cons a, by simp [c2], ?_, h0.2, by rw [c5]; rfl⟩
   cases c with
   | nil => trivial
   | cons b c => exact ⟨c4, c3⟩
  ·have h' : ¬ ((n + 1 : Nat) : Int) ≤ (bD g (a :: l)).headD 0 ∨ mG g last a = false := by
    by_cases h1 : ((n + 1 : Nat) : Int) ≤ (bD g (a :: l)).headD 0
    ·right
     cases hn : mG g last a with
     | false => rfl
     | true => exact absurd ⟨h1, hn⟩ h0
    ·exact .inl h1
   rw [pP g (by omega) h'] at h ⊢
   obtain ⟨c, c1, c2, c3, c4, c5⟩ := nS g l (n + 1) last h
   exact ⟨c, c1.cons a, c2, c3, c4, c5⟩
end Go.SX
namespace Go.SX
def aI (c n : Int) : Int := (if c < 0 then -(c + 1) else c) % n
theorem aN {c n : Int} (h : 0 < n) : 0 ≤ aI c n ∧ aI c n < n := ⟨Int.emod_nonneg _ (by omega), Int.emod_lt_of_pos _ h⟩
def Md (rows : List Int) (y : Nat) (x : Int) : List Int := rows.set y (bL .or .i64 (rows.getD y 0) (iT .i64 1 x))
theorem zC (rows : List Int) (y : Nat) (x : Int) : (Md rows y x).length = rows.length := by unfold Md; simp
def Db (x : A5) (y k : Nat) (rows : List Int) : List Int := Md rows (min 23 (aI x.b 24 + y)).toNat ((aI x.a 48 + k).tmod 48)
def rW (x : A5) (y k : Nat) (rows : List Int) : List Int := (List.range k).foldl (fun r k => Db x y k r) rows
def jJ (x : A5) (n y : Nat) : List Int := (List.range y).foldl (fun r y => rW x y n r) (List.replicate 24 0)
theorem pW (x : A5) (y k : Nat) (r : List Int) : rW x y (k + 1) r = Db x y k (rW x y k r) := by unfold rW; rw [List.range_succ, List.foldl_append]; rfl
theorem qL (x : A5) (n y : Nat) : jJ x n (y + 1) = rW x y n (jJ x n y) := by unfold jJ; rw [List.range_succ, List.foldl_append]; rfl
theorem tC (x : A5) (y : Nat) : ∀ (k : Nat) (r : List Int), (rW x y k r).length = r.length
 | 0, r => rfl
 | k + 1, r => by rw [pW]; unfold Db; rw [zC, tC x y k r]
theorem O0 (x : A5) (n : Nat) : ∀ y : Nat, (jJ x n y).length = 24
 | 0 => by simp [jJ]
 | y + 1 => by rw [qL, tC, O0 x n y]
def qQ (x : A5) : List Int :=
 if aI x.c 3 = 0 then Md (jJ x (aI (x.a.tdiv 48) 3 + 1).toNat (aI (x.b.tdiv 24) 3 + 1).toNat) (aI x.b 24).toNat (aI x.c 48) else jJ x (aI (x.a.tdiv 48) 3 + 1).toNat (aI (x.b.tdiv 24) 3 + 1).toNat
def sA (x : A5) : aK := ⟨1, qQ x, aI x.c 3000, aI x.c 3000 + 1 + aI x.d 5000, aI x.e 40, aI x.e 40 + aI (x.e.tdiv 40) 51, decide (aI x.d 2 = 1), 0, 0, 0, [], []⟩
structure rE (rows : List Int) : Prop where
 len : rows.length = 24
 ok : ∀ r ∈ rows, 0 ≤ r ∧ r ≤ 281474976710655
theorem q0i {a : Int} {x : Int} (ha : 0 ≤ a ∧ a ≤ 281474976710655) (hx : 0 ≤ x ∧ x < 48) : (0 ≤ bL .or .i64 a (iT .i64 1 x) ∧ bL .or .i64 a (iT .i64 1 x) ≤ 281474976710655) ∧ bL .or .i64 a (iT .i64 1 x) ≠ 0 := by
 obtain ⟨n, rfl⟩ : ∃ n : Nat, a = n := ⟨a.toNat, by omega⟩
 obtain ⟨k, rfl⟩ : ∃ k : Nat, x = k := ⟨x.toNat, by omega⟩
 have hk : k < 48 := by omega
 have h1 : 2 ^ k < 2 ^ 48 := Nat.pow_lt_pow_right (by omega) hk
 have hn : n < 2 ^ 48 := by omega
 rw [Tp hk, Vz hn h1]
 have h2 : n ||| 2 ^ k < 2 ^ 48 := Nat.or_lt_two_pow hn h1
 have h3 : n ||| 2 ^ k ≠ 0 := fun e => by
  have := congrArg (fun z => z.testBit k) e
  simp at this
 omega
theorem Jl {rows : List Int} (h : rE rows) {y : Nat} (hy : y < 24) {x : Int} (hx : 0 ≤ x ∧ x < 48) : rE (Md rows y x) ∧ (Md rows y x).any (fun r => decide (r ≠ 0)) = true := by
 have hg : rows.getD y 0 ∈ rows := by
  rw [List.getD_eq_getElem?_getD, List.getElem?_eq_getElem (by rw [h.len]; exact hy)]
  exact List.getElem_mem _
 obtain ⟨h1, h2⟩ := q0i (h.ok _ hg) hx
 refine ⟨⟨by rw [zC, h.len], fun r hr => ?_⟩, ?_⟩
 ·unfold Md at hr
  rcases List.mem_or_eq_of_mem_set hr with hr | rfl
  ·exact h.ok r hr
  ·exact h1
 ·rw [List.any_eq_true]
  refine ⟨bL .or .i64 (rows.getD y 0) (iT .i64 1 x), ?_, by simpa using h2⟩
  unfold Md
  rw [List.mem_iff_getElem?]
  exact ⟨y, by rw [List.getElem?_set_self (by rw [h.len]; exact hy)]⟩
theorem Lj (x : A5) (y k : Nat) {rows : List Int} (h : rE rows) : rE (Db x y k rows) ∧ (Db x y k rows).any (fun r => decide (r ≠ 0)) = true := by
 have b1 := aN (c := x.b) (n := 24) (by omega)
 have b2 := aN (c := x.a) (n := 48) (by omega)
 unfold Db
 refine Jl h (by omega) ?_
 rw [Int.tmod_eq_emod_of_nonneg (by omega)]
 omega
theorem Y2 (x : A5) (y : Nat) : ∀ (k : Nat) (r : List Int), rE r → rE (rW x y k r) ∧ (0 < k → (rW x y k r).any (fun r => decide (r ≠ 0)) = true)
 | 0, r, h => ⟨h, fun e => by omega⟩
 | k + 1, r, h => by
  rw [pW]
  have := Lj x y k (Y2 x y k r h).1
  exact ⟨this.1, fun _ => this.2⟩
theorem Y3 (x : A5) (n : Nat) (hn : 0 < n) : ∀ y : Nat, rE (jJ x n y) ∧ (0 < y → (jJ x n y).any (fun r => decide (r ≠ 0)) = true)
 | 0 => ⟨⟨by simp [jJ], fun r hr => by simp [jJ] at hr; omega⟩, fun e => by omega⟩
 | y + 1 => by
  rw [qL]
  have := Y2 x y n _ (Y3 x n hn y).1
  exact ⟨this.1, fun _ => this.2 hn⟩
theorem Cp (x : A5) : rE (qQ x) ∧ (qQ x).any (fun r => decide (r ≠ 0)) = true := by
 have b1 := aN (c := x.b.tdiv 24) (n := 3) (by omega)
 have b2 := aN (c := x.a.tdiv 48) (n := 3) (by omega)
 have b3 := aN (c := x.b) (n := 24) (by omega)
 have b4 := aN (c := x.c) (n := 48) (by omega)
 have h := Y3 x (aI (x.a.tdiv 48) 3 + 1).toNat (by omega) (aI (x.b.tdiv 24) 3 + 1).toNat
 unfold qQ
 split
 ·exact Jl h.1 (by omega) (by omega)
 ·exact ⟨h.1, h.2 (by omega)⟩
theorem Ri (x : A5) : okB (sA x) = true := by
 obtain ⟨h1, h2⟩ := Cp x
 have b1 := aN (c := x.c) (n := 3000) (by omega)
 have b2 := aN (c := x.d) (n := 5000) (by omega)
 have b3 := aN (c := x.e) (n := 40) (by omega)
 have b4 := aN (c := x.e.tdiv 40) (n := 51) (by omega)
 have ha : bC (qQ x) = true := by
  unfold bC
  rw [h1.len, Bool.and_eq_true]
  refine ⟨rfl, List.all_eq_true.2 fun r hr => ?_⟩
  exact (aM _ _ _).2 (h1.ok r hr)
 unfold okB kG qJ E6 dU kI fW sA
 simp only [ha, h2]
 simp [aM]
 omega
theorem vC (x : A5) {d : Int} (hd : d ≤ 4) : cB (sA x) d = some 1 := by
 rw [eZ, Ri, decide_eq_false (by omega)]
 rfl
def Dh : A5 := ⟨0, 0, 0, 0, 0⟩
def y5 (x : List A5) (i : Int) : A5 := if i < x.length then x.getD i.toNat Dh else Dh
structure Yl where
 kids : List aK
 cents : List Int
 used : Int
 count : Int
def aW (rec : Int → Int → aK × Int × Int) (y : A5) (at_ most : Int) : Nat → Yl
 | 0 => ⟨[], [], 1, 1⟩
 | i + 1 =>
  let s := aW rec y at_ most i
  let r := rec (at_ + s.used) (most - s.count - max 0 (1 - (i : Int)))
  ⟨s.kids ++ [r.1], s.cents ++ [aI (IntKind.i64.wrap (y.c + IntKind.i64.wrap ((i : Int) * y.d))) 1000], s.used + r.2.1, s.count + r.2.2⟩
def goB (rec : Int → Int → aK × Int × Int) (y : A5) (at_ most many : Int) (i : Nat) : Bool := decide ((i : Int) < many) && (decide ((i : Int) < 2) || decide ((aW rec y at_ most i).count < most))
def tV (rec : Int → Int → aK × Int × Int) (y : A5) (at_ most many : Int) : Nat → Nat → Nat
 | 0, i => i
 | f + 1, i => if goB rec y at_ most many i then tV rec y at_ most many f (i + 1) else i
def rV (j : Nat) (x : List A5) (at_ most : Int) : Int :=
 if j = 0 ∨ most < 2 ∨ (x.length : Int) ≤ at_ + 1 ∨ 5 ≤ 1 + aI ((y5 x at_).a.tdiv 144) 6 ∧ most < 3 then 1 else 1 + aI ((y5 x at_).a.tdiv 144) 6
def cL : Nat → List A5 → Int → Int → aK × Int × Int
 | 0, x, at_, most => (sA (y5 x at_), 1, 1)
 | j + 1, x, at_, most =>
  let y := y5 x at_
  let next := y5 x (at_ + 1)
  let k := rV (j + 1) x at_ most
  if k = 2 then (⟨2, [], 0, 0, 1 + aI y.b 8, 0, false, 0, 0, 1 + aI y.c 3000, [], [sA next]⟩, 2, 2)
  else if k = 3 then (⟨3, [], aI y.e 3000, 0, 0, 0, false, 1 + aI y.b 4, 1 + aI y.c 4, aI y.d (1440 * (1 + aI y.b 4) + 1), [], [sA next]⟩, 2, 2)
  else if k = 4 then (⟨4, [], 0, 0, 0, 0, false, 0, 0, aI y.b 3000, [], [sA next]⟩, 2, 2)
  else if k = 5 ∨ k = 6 then
   let s := aW (cL j x) y at_ most (tV (cL j x) y at_ most (2 + aI y.b 3) 4 0)
   (⟨k, [], 0, 0, 0, 0, false, 0, 0, 0, if k = 6 then s.cents else [], s.kids⟩, s.used, s.count)
  else (sA y, 1, 1)
def mF (x : List A5) : aK := (cL 3 x 0 9).1
end Go.SX
namespace Go.SX
theorem F9 : ∀ (l : List aK) (k : aK) (d a b : Int), sizeL l d = some a → cB k d = some b → sizeL (l ++ [k]) d = some (a + b)
 | [], k, d, a, b, h1, h2 => by
  rw [sizeL] at h1; injection h1 with h1
  rw [List.nil_append, sizeL, h2]
  simp only [sizeL]
  congr 1; omega
 | x :: l, k, d, a, b, h1, h2 => by
  rw [sizeL] at h1
  rw [List.cons_append, sizeL]
  cases hx : cB x d with
  | none => rw [hx] at h1; cases h1
  | some m =>
   rw [hx] at h1
   dsimp only at h1 ⊢
   cases hl : sizeL l d with
   | none => rw [hl] at h1; cases h1
   | some c =>
    rw [hl] at h1
    injection h1 with h1
    rw [F9 l k d c b hl h2]
    dsimp only
    congr 1; omega
structure Bq (j : Nat) (most : Int) (r : aK × Int × Int) : Prop where
 size : cB r.1 (4 - j) = some r.2.2
 used : r.2.1 = r.2.2
 pos : 1 ≤ r.2.2
 le : r.2.2 ≤ most
 kind : 1 ≤ r.1.kind ∧ r.1.kind ≤ 6
structure I9 (j : Nat) (most : Int) (i : Nat) (s : Yl) : Prop where
 kl : s.kids.length = i
 cl : s.cents.length = i
 size : sizeL s.kids (4 - j) = some (s.count - 1)
 used : s.used = s.count
 low : 1 ≤ s.count ∧ (i : Int) + 1 ≤ s.count
 high : s.count + (if i ≤ 1 then 1 else 0) ≤ most
 cents : ∀ c ∈ s.cents, 0 ≤ c ∧ c ≤ 1000000000
 kinds : ∀ k ∈ s.kids, 1 ≤ k.kind ∧ k.kind ≤ 6
theorem uO {rec : Int → Int → aK × Int × Int} {y : A5} {at_ most : Int} {j : Nat} (hm : 3 ≤ most) : I9 j most 0 (aW rec y at_ most 0) := by
 refine ⟨rfl, rfl, by simp [aW, sizeL], rfl, by simp [aW], ?_, fun c h => (by cases h), fun c h => (by cases h)⟩
 simp [aW]; omega
theorem zS {rec : Int → Int → aK × Int × Int} {y : A5} {at_ most many : Int} {j : Nat} (hm : 3 ≤ most) (hr : ∀ (a m : Int), 1 ≤ m → a + m ≤ at_ + most → at_ < a → Bq j m (rec a m)) {i : Nat} (h : I9 j most i (aW rec y at_ most i)) (hg : goB rec y at_ most many i = true) : I9 j most (i + 1) (aW rec y at_ most (i + 1)) := by
 unfold goB at hg
 simp only [Bool.and_eq_true, Bool.or_eq_true, decide_eq_true_eq] at hg
 have hh := h.high
 have hu := h.used
 have hlo := h.low
 have hone : 1 ≤ most - (aW rec y at_ most i).count - max 0 (1 - (i : Int)) := by
  rcases Nat.lt_or_ge i 1 with h0 | h0
  ·obtain rfl : i = 0 := by omega
   have : (aW rec y at_ most 0).count = 1 := rfl
   omega
  ·rcases Nat.lt_or_ge i 2 with h1 | h1
   ·rw [if_pos (by omega)] at hh; omega
   ·rcases hg.2 with h2 | h2
    ·omega
    ·omega
 have hk := hr (at_ + (aW rec y at_ most i).used) (most - (aW rec y at_ most i).count - max 0 (1 - (i : Int))) hone (by omega) (by omega)
 have hp := hk.pos
 have hl := hk.le
 refine ⟨by simp [aW, h.kl], by simp [aW, h.cl], ?_, ?_, ?_, ?_, fun c hc => ?_, fun k hc => ?_⟩
 ·simp only [aW]
  rw [F9 _ _ _ _ _ h.size hk.size]
  congr 1; omega
 ·have := hk.used
  simp only [aW]; omega
 ·simp only [aW]; omega
 ·have h0 : i = 0 → (aW rec y at_ most i).count = 1 := fun e => by subst e; rfl
  simp only [aW]
  split <;> omega
 ·simp only [aW] at hc
  rcases List.mem_append.1 hc with hc | hc
  ·exact h.cents c hc
  ·rw [List.mem_singleton.1 hc]
   have := aN (c := IntKind.i64.wrap (y.c + IntKind.i64.wrap ((i : Int) * y.d))) (n := 1000) (by omega)
   omega
 ·simp only [aW] at hc
  rcases List.mem_append.1 hc with hc | hc
  ·exact h.kinds k hc
  ·rw [List.mem_singleton.1 hc]; exact hk.kind
theorem Rt {rec : Int → Int → aK × Int × Int} {y : A5} {at_ most many : Int} {j : Nat} (hm : 3 ≤ most) (hmany : 2 ≤ many ∧ many ≤ 4) (hr : ∀ (a m : Int), 1 ≤ m → a + m ≤ at_ + most → at_ < a → Bq j m (rec a m)) :
  ∃ e, tV rec y at_ most many 4 0 = e ∧ 2 ≤ e ∧ e ≤ 4 ∧ I9 j most e (aW rec y at_ most e) := by
 have key : ∀ f i, I9 j most i (aW rec y at_ most i) → i + f = 4 → ∃ e, tV rec y at_ most many f i = e ∧ i ≤ e ∧ e ≤ 4 ∧ I9 j most e (aW rec y at_ most e) ∧ (e < 4 → goB rec y at_ most many e = false) := by
  intro f
  induction f with
  | zero => intro i h hi; exact ⟨i, rfl, Nat.le_refl _, by omega, h, fun h => by omega⟩
  | succ f ih =>
   intro i h hi
   rw [tV]
   cases hg : goB rec y at_ most many i with
   | false => exact ⟨i, rfl, Nat.le_refl _, by omega, h, fun _ => hg⟩
   | true =>
    obtain ⟨e, h1, h2, h3⟩ := ih (i + 1) (zS hm hr h hg) (by omega)
    exact ⟨e, by simpa using h1, by omega, h3⟩
 obtain ⟨e, h1, h2, h3, h4, h5⟩ := key 4 0 (uO hm) rfl
 refine ⟨e, h1, ?_, h3, h4⟩
 rcases Nat.lt_or_ge e 2 with hlt | hge
 ·have := h5 (by omega)
  unfold goB at this
  rw [decide_eq_true (show (e : Int) < many by omega), decide_eq_true (show (e : Int) < 2 by omega)] at this
  cases this
 ·exact hge
theorem Og (j : Nat) (x : List A5) (at_ most : Int) : 1 ≤ rV j x at_ most ∧ rV j x at_ most ≤ 6 ∧ (rV j x at_ most ≠ 1 → j ≠ 0 ∧ 2 ≤ most ∧ at_ + 1 < x.length) ∧ (5 ≤ rV j x at_ most → 3 ≤ most) := by
 have := aN (c := (y5 x at_).a.tdiv 144) (n := 6) (by omega)
 unfold rV
 split
 ·omega
 ·rename_i h
  simp only [not_or, not_and] at h
  omega
theorem zX : ∀ (j : Nat) (x : List A5) (at_ most : Int), j ≤ 3 → 1 ≤ most → Bq j most (cL j x at_ most)
 | 0, x, at_, most, hj, hm => ⟨by rw [cL]; exact vC _ (by omega), rfl, by simp [cL], by simp [cL]; omega, by simp [cL, sA]⟩
 | j + 1, x, at_, most, hj, hm => by
  obtain ⟨hk1, hk6, hk, hk5⟩ := Og (j + 1) x at_ most
  have size_one : ∀ g : aK, okB g = true → (∃ z, g.kids = [sA z]) → cB g (4 - ((j + 1 : Nat) : Int)) = some 2 := fun g h ⟨z, hz⟩ => by
   rw [eZ, h, decide_eq_false (by omega), hz]
   simp only [Bool.false_or, Bool.not_true, Bool.false_eq_true, if_false]
   rw [sizeL, vC z (by omega)]
   simp [sizeL]
  rw [cL]
  dsimp only
  split
  ·rename_i e
   have h2 := (hk (by omega)).2.1
   have b1 := aN (c := (y5 x at_).b) (n := 8) (by omega)
   have b2 := aN (c := (y5 x at_).c) (n := 3000) (by omega)
   refine ⟨size_one _ ?_ ⟨_, rfl⟩, rfl, by show (1 : Int) ≤ 2; omega, h2, by simp⟩
   unfold okB kG qJ E6 dU kI fW qF
   simp [aM, sA]
   omega
  ·split
   ·rename_i e
    have h2 := (hk (by omega)).2.1
    have b1 := aN (c := (y5 x at_).b) (n := 4) (by omega)
    have b2 := aN (c := (y5 x at_).c) (n := 4) (by omega)
    have b3 := aN (c := (y5 x at_).d) (n := 1440 * (1 + aI (y5 x at_).b 4) + 1) (by omega)
    have b4 := aN (c := (y5 x at_).e) (n := 3000) (by omega)
    refine ⟨size_one _ ?_ ⟨_, rfl⟩, rfl, by show (1 : Int) ≤ 2; omega, h2, by simp⟩
    unfold okB kG qJ E6 dU kI fW qF
    simp [aM, sA]
    omega
   ·split
    ·rename_i e
     have h2 := (hk (by omega)).2.1
     have b1 := aN (c := (y5 x at_).b) (n := 3000) (by omega)
     refine ⟨size_one _ ?_ ⟨_, rfl⟩, rfl, by show (1 : Int) ≤ 2; omega, h2, by simp⟩
     unfold okB kG qJ E6 dU kI fW qF
     simp [aM, sA]
     omega
    ·split
     ·rename_i e
      have h3 := hk5 (by omega)
      have b1 := aN (c := (y5 x at_).b) (n := 3) (by omega)
      obtain ⟨e', h4, h5, h6, h7⟩ := Rt (rec := cL j x) (y := y5 x at_) (at_ := at_) (most := most) (many := 2 + aI (y5 x at_).b 3) (j := j) h3 (by omega) fun a m hm _ _ => zX j x a m (by omega) hm
      rw [h4]
      generalize aW (cL j x) (y5 x at_) at_ most e' = s at h7 ⊢
      have hlow := h7.low
      have hhi := h7.high
      have hhi : s.count ≤ most := by split at hhi <;> omega
      have hany : s.kids.any (fun z => decide ((6 : Int) < z.kind)) = false := by
       rw [List.any_eq_false]
       intro z hz
       have := (h7.kinds z hz).2
       simp; omega
      have hcents : s.cents.any (fun n => !inB n 0 1000000000) = false := by
       rw [List.any_eq_false]
       intro z hz
       have := h7.cents z hz
       rw [(aM z 0 1000000000).2 this]; simp
      refine ⟨?_, h7.used, by show 1 ≤ s.count; omega, by show s.count ≤ most; omega, by rcases e with e | e <;> rw [e] <;> simp⟩
      show cB _ _ = some s.count
      have hok : okB ⟨rV (j + 1) x at_ most, [], 0, 0, 0, 0, false, 0, 0, 0, if rV (j + 1) x at_ most = 6 then s.cents else [], s.kids⟩ = true := by
       have hkl := h7.kl
       have hcl := h7.cl
       rcases e with e | e
       ·rw [e]
        unfold okB kG qJ E6 dU kI fW qF
        simp [aM, hany, hkl]
        (repeat' apply And.intro) <;> first | omega | exact fun z hz => (h7.kinds z hz).2
       ·rw [e]
        unfold okB kG qJ E6 dU kI fW qF
        simp [aM, hany, hkl, hcl]
        (repeat' apply And.intro) <;> first | omega | exact fun z hz => h7.cents z hz | exact fun z hz => (h7.kinds z hz).2
      rw [eZ, hok, decide_eq_false (by omega)]
      simp only [Bool.false_or, Bool.not_true, Bool.false_eq_true, if_false]
      rw [show (4 - ((j + 1 : Nat) : Int) + 1) = 4 - (j : Int) by omega, h7.size]
      dsimp only
      congr 1; omega
     ·exact ⟨vC _ (by omega), rfl, by show (1 : Int) ≤ 1; omega, hm, by simp [sA]⟩
theorem yN (x : List A5) : cA (mF x) = true := by
 have h := zX 3 x 0 9 (by omega) (by omega)
 unfold mF cA
 have hs := h.size
 rw [show (4 - ((3 : Nat) : Int)) = 1 by omega] at hs
 rw [hs]
 have := h.le
 exact decide_eq_true (by omega)
end Go.SX
namespace Go.SX
mutual
def mH : aK → List aK
 | ⟨kind, rows, from_, to_, low, high, clear, days, times, within, cents, kids⟩ =>
  if kind = 1 then [⟨kind, rows, from_, to_, low, high, clear, days, times, within, cents, kids⟩] else seesL kids
def seesL : List aK → List aK
 | [] => []
 | k :: l => mH k ++ seesL l
end
theorem oI (g : aK) : mH g = if g.kind = 1 then [g] else seesL g.kids := by cases g; rw [mH]
theorem qU : ∀ (l : List aK) (k : aK), seesL (l ++ [k]) = seesL l ++ mH k
 | [], k => by simp [seesL]
 | x :: l, k => by rw [List.cons_append, seesL, seesL, qU l k, List.append_assoc]
mutual
theorem D0 : ∀ (g : aK) (d n : Int), cB g d = some n → ((mH g).length : Int) ≤ n ∧ ∀ s ∈ mH g, okB s = true ∧ s.kind = 1
 | ⟨kind, rows, from_, to_, low, high, clear, days, times, within, cents, kids⟩, d, n, hs => by
  have hL := seesL_ok kids
  obtain ⟨hok, hd, m, hm, rfl⟩ := cR hs
  have h0 := fJ hm
  rw [oI]
  split
  ·rename_i e
   refine ⟨by simp; omega, fun s hs => ?_⟩
   rw [List.mem_singleton.1 hs]
   exact ⟨hok, e⟩
  ·obtain ⟨h1, h2⟩ := hL (d + 1) m hm
   refine ⟨?_, h2⟩
   show ((seesL kids).length : Int) ≤ 1 + m
   omega
theorem seesL_ok : ∀ (l : List aK) (d n : Int), sizeL l d = some n → ((seesL l).length : Int) ≤ n ∧ ∀ s ∈ seesL l, okB s = true ∧ s.kind = 1
 | [], d, n, hs => by
  rw [sizeL] at hs; injection hs with hs
  exact ⟨by simp [seesL]; omega, fun s h => by simp [seesL] at h⟩
 | k :: l, d, n, hs => by
  rw [sizeL] at hs
  split at hs
  ·cases hs
  ·rename_i m hm
   split at hs
   ·cases hs
   ·rename_i q hq
    injection hs with hs
    obtain ⟨h1, h2⟩ := D0 k d m hm
    obtain ⟨h3, h4⟩ := seesL_ok l d q hq
    rw [seesL]
    refine ⟨by rw [List.length_append]; omega, fun s hs' => ?_⟩
    rcases List.mem_append.1 hs' with h | h
    ·exact h2 s h
    ·exact h4 s h
end
def kE (g : aK) : List aK := if cA g then mH g else []
structure Sc (s : aK) : Prop where
 rl : s.rows.length = 24
 rows : ∀ r ∈ s.rows, 0 ≤ r ∧ r ≤ 281474976710655
 fr : 0 ≤ s.from_ ∧ s.from_ ≤ 1000000
 to : s.from_ + 1 ≤ s.to_ ∧ s.to_ ≤ 1000000
 low : 0 ≤ s.low ∧ s.low ≤ 90
 high : s.low ≤ s.high ∧ s.high ≤ 90
theorem Ya {s : aK} (h : okB s = true) (hk : s.kind = 1) : Sc s := by
 have := (bP h).2.1
 unfold E6 at this
 rw [if_pos hk] at this
 simp only [Bool.and_eq_true, aM] at this
 have ha := this.1.1.1.1.1
 unfold bC at ha
 simp only [Bool.and_eq_true, decide_eq_true_eq, List.all_eq_true] at ha
 exact ⟨by omega, fun r hr => by have := ha.2 r hr; unfold nM at this; exact (aM _ _ _).1 this, by omega, by omega, by omega, by omega⟩
theorem A8 (g : aK) : (kE g).length ≤ 12 ∧ ∀ s ∈ kE g, Sc s := by
 unfold kE
 split
 ·rename_i h
  unfold cA at h
  split at h
  ·cases h
  ·rename_i n hn
   obtain ⟨h1, h2⟩ := D0 g 1 n hn
   have : n ≤ 12 := by simpa using h
   exact ⟨by omega, fun s hs => Ya (h2 s hs).1 (h2 s hs).2⟩
 ·exact ⟨by simp, fun s hs => by cases hs⟩
def nE (l : List aD) (e : aD) : Nat → Nat
 | 0 => 0
 | i + 1 => if fU e (l.getD i (U.dflt .event)) then nE l e i else i + 1
theorem Am (l : List aD) (e : aD) : ∀ i, nE l e i ≤ i
 | 0 => Nat.le_refl _
 | i + 1 => by
  rw [nE]
  split
  ·have := Am l e i; omega
  ·exact Nat.le_refl _
def dN (l : List aD) (e : aD) : List aD :=
 if 0 < nE l e l.length ∧ fU (l.getD (nE l e l.length - 1) (U.dflt .event)) e = false then l else l.take (nE l e l.length) ++ e :: l.drop (nE l e l.length)
theorem kA (l : List aD) (e : aD) : (dN l e).length ≤ l.length + 1 := by
 unfold dN
 have := Am l e l.length
 split
 ·omega
 ·simp; omega
theorem mB {l : List aD} {e x : aD} (h : x ∈ dN l e) : x ∈ l ∨ x = e := by
 unfold dN at h
 split at h
 ·exact .inl h
 ·rcases List.mem_append.1 h with h | h
  ·exact .inl (List.mem_of_mem_take h)
  ·rcases List.mem_cons.1 h with h | h
   ·exact .inr h
   ·exact .inl (List.mem_of_mem_drop h)
def gQ (a b : List aD) : List aD := b.foldl dN a
structure q0j where
 out : List aD
 at_ : Int
def dJ (shots : List aK) (x : A4) (i : Nat) (at_ : Int) : aD × Int :=
 if 0 < aI x.a 3 ∧ 0 < shots.length then
  let s := shots.getD (aI (x.a.tdiv 3) shots.length).toNat (U.dflt .goal)
  let at2 := if at_ + aI x.b 400 < s.from_ ∧ aI x.c 3 = 0 then s.from_ else at_ + aI x.b 400
  (⟨1, at2, i, if aI x.c 5 = 4 then s.rows.set (aI x.d 24).toNat 0 else s.rows, min 90 (s.low + aI x.c (s.high - s.low + 3)), aI x.d 9 - 4, decide (0 < aI x.c 4)⟩, at2)
 else (⟨2, at_ + aI x.b 400, aI x.a (i + 1), [], 0, 0, false⟩, at_ + aI x.b 400)
def oA (shots : List aK) (x : A4) (i : Nat) (s : q0j) : q0j :=
 ⟨if aX (dN s.out (dJ shots x i s.at_).1) && decide (s.out.length < (dN s.out (dJ shots x i s.at_).1).length) then dN s.out (dJ shots x i s.at_).1 else s.out, (dJ shots x i s.at_).2⟩
def oG : A4 := ⟨0, 0, 0, 0⟩
def aE (shots : List aK) (xs : List A4) : Nat → q0j
 | 0 => ⟨[], 0⟩
 | i + 1 => oA shots (xs.getD i oG) i (aE shots xs i)
def kO (g : aK) (xs : List A4) : List aD := (aE (kE g) xs (min xs.length 16)).out
theorem qK (shots : List aK) (xs : List A4) (h : ∀ s ∈ shots, Sc s) : ∀ i : Nat, aX (aE shots xs i).out = true ∧ (aE shots xs i).out.length ≤ i ∧ 0 ≤ (aE shots xs i).at_ ∧ (aE shots xs i).at_ ≤ 1000000 + 400 * i
 | 0 => ⟨by simp [aE, aX, uY], by simp [aE], by simp [aE], by simp [aE]⟩
 | i + 1 => by
  obtain ⟨h1, h2, h3, h4⟩ := qK shots xs h i
  have hb := aN (c := (xs.getD i oG).b) (n := 400) (by omega)
  have hat : 0 ≤ (dJ shots (xs.getD i oG) i (aE shots xs i).at_).2 ∧ (dJ shots (xs.getD i oG) i (aE shots xs i).at_).2 ≤ 1000000 + 400 * ((i : Int) + 1) := by
   unfold dJ
   split
   ·rename_i hc
    have hbd := aN (c := (xs.getD i oG).a.tdiv 3) (n := shots.length) (by omega)
    have hm : shots.getD (aI ((xs.getD i oG).a.tdiv 3) shots.length).toNat (U.dflt .goal) ∈ shots := by
     rw [List.getD_eq_getElem?_getD, List.getElem?_eq_getElem (by omega)]
     exact List.getElem_mem _
    have := (h _ hm).fr
    dsimp only
    split <;> omega
   ·dsimp only; omega
  have hl := kA (aE shots xs i).out (dJ shots (xs.getD i oG) i (aE shots xs i).at_).1
  rw [aE]
  unfold oA
  refine ⟨?_, ?_, hat.1, by dsimp only; omega⟩
  ·dsimp only
   split
   ·rename_i hc
    simp only [Bool.and_eq_true] at hc
    exact hc.1
   ·exact h1
  ·dsimp only
   split <;> omega
theorem M4 (g : aK) (xs : List A4) : aX (kO g xs) = true ∧ (kO g xs).length ≤ 16 := by
 obtain ⟨h1, h2, _⟩ := qK (kE g) xs (A8 g).2 (min xs.length 16)
 exact ⟨h1, Nat.le_trans h2 (by omega)⟩
def Vw (a b : aD) : Prop := ¬ (a.kind = 1 ∧ b.kind = 1 ∧ a.image = b.image)
theorem Jn {a b c : aD} (h1 : fU a b = true) (h2 : fU b c = true) : fU a c = true := by
 unfold fU at *
 simp only [Bool.or_eq_true, Bool.and_eq_true, decide_eq_true_eq] at *
 omega
theorem B6 (l : List aD) : uY l = true ↔ (∀ e ∈ l, eJ e = true) ∧ l.Pairwise (fun a b => fU a b = true) ∧ l.Pairwise Vw := by
 unfold uY
 rw [List.all_eq_true]
 have hget : ∀ i (h : i < l.length), evt l i = l[i] := fun i h => by unfold evt; rw [List.getD_eq_getElem?_getD, List.getElem?_eq_getElem h]; rfl
 have hdup : ∀ i (h : i < l.length), wL (l.take i) (evt l i) = true ↔ ∃ j, ∃ hj : j < i, (l[j]'(by omega)).kind = 1 ∧ (l[j]'(by omega)).image = l[i].image := fun i h => by
  unfold wL
  rw [hget i h, List.any_eq_true]
  constructor
  ·rintro ⟨d, hd, hp⟩
   obtain ⟨j, hj, rfl⟩ := List.getElem_of_mem hd
   simp only [List.length_take] at hj
   simp only [Bool.and_eq_true, decide_eq_true_eq, List.getElem_take] at hp
   exact ⟨j, by omega, hp.1, hp.2⟩
  ·rintro ⟨j, hj, h1, h2⟩
   refine ⟨l[j]'(by omega), ?_, by simp [h1, h2]⟩
   rw [List.mem_iff_getElem?]
   exact ⟨j, by rw [List.getElem?_take, if_pos hj, List.getElem?_eq_getElem (by omega)]⟩
 constructor
 ·intro h
  have hok := fun i (hi : i < l.length) => h i (List.mem_range.2 hi)
  have hadj : ∀ i (hi : i + 1 < l.length), fU (l[i]'(by omega)) l[i + 1] = true := fun i hi => by
   have := hok (i + 1) hi
   unfold oM at this
   simp only [Bool.and_eq_true, Bool.or_eq_true, decide_eq_true_eq] at this
   have h2 := this.1.2.resolve_left (by omega)
   rwa [hget (i + 1) hi, show i + 1 - 1 = i from rfl, hget i (by omega)] at h2
  have hlt : ∀ d i (hi : i + d + 1 < l.length), fU (l[i]'(by omega)) l[i + d + 1] = true := by
   intro d
   induction d with
   | zero => intro i hi; exact hadj i hi
   | succ d ih => intro i hi; exact Jn (ih i (by omega)) (hadj (i + d + 1) hi)
  refine ⟨fun e he => ?_, ?_, ?_⟩
  ·obtain ⟨i, hi, rfl⟩ := List.getElem_of_mem he
   have := hok i hi
   unfold oM at this
   simp only [Bool.and_eq_true] at this
   rw [← hget i hi]; exact this.1.1
  ·rw [List.pairwise_iff_getElem]
   intro i j hi hj hij
   have := hlt (j - i - 1) i (by omega)
   simpa [show i + (j - i - 1) + 1 = j by omega] using this
  ·rw [List.pairwise_iff_getElem]
   intro i j hi hj hij hc
   have := hok j hj
   unfold oM at this
   simp only [Bool.and_eq_true, Bool.not_eq_true', Bool.and_eq_false_iff, decide_eq_false_iff_not] at this
   rcases this.2 with h2 | h2
   ·exact h2 (by rw [hget j hj]; exact hc.2.1)
   ·have := (hdup j hj).2 ⟨i, hij, hc.1, hc.2.2⟩
    rw [h2] at this; cases this
 ·rintro ⟨h1, h2, h3⟩ i hi
  have hi := List.mem_range.1 hi
  unfold oM
  simp only [Bool.and_eq_true, Bool.or_eq_true, decide_eq_true_eq, Bool.not_eq_true', Bool.and_eq_false_iff, decide_eq_false_iff_not]
  refine ⟨⟨by rw [hget i hi]; exact h1 _ (List.getElem_mem _), ?_⟩, ?_⟩
  ·rcases Nat.eq_zero_or_pos i with h | h
   ·exact .inl h
   ·right
    rw [hget i hi, hget (i - 1) (by omega)]
    exact List.pairwise_iff_getElem.1 h2 (i - 1) i (by omega) hi (by omega)
  ·by_cases hk : (evt l i).kind = 1
   ·right
    cases hd : wL (l.take i) (evt l i) with
    | false => rfl
    | true =>
     obtain ⟨j, hj, e1, e2⟩ := (hdup i hi).1 hd
     exact absurd ⟨e1, by rw [← hget i hi]; exact hk, e2⟩ (List.pairwise_iff_getElem.1 h3 j i (by omega) hi hj)
   ·exact .inl hk
theorem xX {m l : List aD} (h : m.Sublist l) (hv : aX l = true) : aX m = true := by
 unfold aX at *
 simp only [Bool.and_eq_true, decide_eq_true_eq] at *
 obtain ⟨h1, h2⟩ := hv
 rw [B6] at *
 exact ⟨by have := h.length_le; omega, fun e he => h2.1 e (h.subset he), h2.2.1.sublist h, h2.2.2.sublist h⟩
end Go.SX
namespace Go.SX
open Go.Proofs
set_option maxHeartbeats 400000000
set_option maxRecDepth 100000
theorem Wj (a b : aD) : aG Tryz.prog Dc 47 [evA a, evA b] [] (iS (Jp a b)) [] := by
 have h1 := jA a.at_ b.at_
 have h2 := jA a.kind b.kind
 have h3 := jA a.image b.image
 have h4 := Ap (wG a.at_ b.at_) (wG a.kind b.kind) (wG a.image b.image)
 unfold Jp
 generalize wG a.at_ b.at_ = x at *
 generalize wG a.kind b.kind = y at *
 generalize wG a.image b.image = z at *
 have h5 : aG Tryz.prog Dc 69 [.slice 0 0 1 0 3] [.rows U.int [x, y, z]] (iS (if x ≠ 0 then x else if y ≠ 0 then y else z)) [.rows U.int [x, y, z]] := B7 h4 (by exact snV) rfl
 refine aC Ax aF Tryz.func47 (c := _) rfl Tryz.call47 200 ?_
 (repeat' ((conv => whnf); first | refine x0C (eI ?_ rfl) | (exfalso; omega) | refine cpC (h1) ?_ | refine dpC (h1) ?_ | refine cpC (h2) ?_ | refine dpC (h2) ?_ | refine cpC (h3) ?_ | refine dpC (h3) ?_ | (refine bZ [some 2] h5 rfl rfl ⟨rfl, trivial⟩ ?_) | refine x0C ?_ | refine spC (fun hb => ?_) fun hb => ?_ | refine aJ (fun hb => ?_) ?_ | refine taC ?_ | refine saC ?_ | exact sdV | refine aA ?_ ?_ | refine aB mixed ?_))
 all_goals rfl
def oJ (m : List aD) (k : Int) : Bool := m.any fun d => decide (d.kind = 1) && decide (d.image = k)
theorem xN (m : List aD) (e : aD) (k : Int) : oJ (m ++ [e]) k = (oJ m k || (decide (e.kind = 1) && decide (e.image = k))) := by simp [oJ]
def eW (es : List MapEntry) : Prop := ∀ e ∈ es, ∃ k, e.key = .int .i64 k
@[reducible] def fI (k : Int) (es : List MapEntry) (n : Nat) : Option (Option (Nat × Value)) := Instr.findNow (.int .i64) (.int .i64 k) es n
theorem fS {e : MapEntry} {k' : Int} (he : e.key = .int .i64 k') (k : Int) (es : List MapEntry) (n : Nat) : fI k (e :: es) n = if k = k' then some (some (n, e.val)) else fI k es (n + 1) := by
 unfold fI
 conv => lhs; unfold Instr.findNow
 by_cases h : k = k'
 ·subst h; simp [he, Instr.sameNow]
 ·have : (k == k') = false := by simp [h]
  simp [he, Instr.sameNow, this, h]
theorem C3 {x : MapEntry} {k' : Int} (hx : x.key = .int .i64 k') (k : Int) : ∀ (es : List MapEntry) (n : Nat), eW es → (fI k es n = some none → fI k (es ++ [x]) n = if k = k' then some (some (n + es.length, x.val)) else some none) ∧ ∀ p, fI k es n = some (some p) → fI k (es ++ [x]) n = some (some p)
 | [], n, _ => ⟨fun _ => by rw [List.nil_append, fS hx]; rfl, fun p h => by cases h⟩
 | e :: es, n, h => by
  obtain ⟨q, he⟩ := h e (List.mem_cons_self ..)
  have ih := C3 hx k es (n + 1) (fun y hy => h y (List.mem_cons_of_mem _ hy))
  rw [List.cons_append, fS he, fS he]
  by_cases hk : k = q
  ·rw [if_pos hk, if_pos hk]; exact ⟨fun h => (by cases h), fun p h => h⟩
  ·rw [if_neg hk, if_neg hk]
   refine ⟨fun h => ?_, ih.2⟩
   rw [ih.1 h]
   split
   ·simp; omega
   ·rfl
theorem Gu {kk : Int} {vv : Value} : ∀ (es : List MapEntry) (n p : Nat) (v : Value), eW es → fI kk es n = some (some (n + p, v)) →
  eW (es.modify p fun e => { e with key := .int .i64 kk, val := vv }) ∧ fI kk (es.modify p fun e => { e with key := .int .i64 kk, val := vv }) n = some (some (n + p, vv)) ∧ ∀ k, k ≠ kk → fI k (es.modify p fun e => { e with key := .int .i64 kk, val := vv }) n = fI k es n
 | [], n, p, v, _, h => by cases h
 | e :: es, n, p, v, h, hf => by
  obtain ⟨q, he⟩ := h e (List.mem_cons_self ..)
  have ht : eW es := fun y hy => h y (List.mem_cons_of_mem _ hy)
  rw [fS he] at hf
  by_cases hk : kk = q
  ·rw [if_pos hk] at hf
   injection hf with hf; injection hf with hf; injection hf with h1 h2
   obtain rfl : p = 0 := by omega
   subst hk
   rw [List.modify_zero_cons]
   refine ⟨fun y hy => ?_, by rw [fS rfl, if_pos rfl]; rfl, fun k hne => by rw [fS rfl, fS he, if_neg hne, if_neg hne]⟩
   rcases List.mem_cons.1 hy with rfl | hy
   ·exact ⟨_, rfl⟩
   ·exact ht y hy
  ·rw [if_neg hk] at hf
   have hp : p ≠ 0 := by
    intro e0; subst e0
    have : ∀ (es : List MapEntry) (n i : Nat) (v : Value), eW es → fI kk es n = some (some (i, v)) → n ≤ i := by
     intro es
     induction es with
     | nil => intro n i v _ h; cases h
     | cons a es ih =>
      intro n i v hi h
      obtain ⟨q, ha⟩ := hi a (List.mem_cons_self ..)
      rw [fS ha] at h
      split at h
      ·injection h with h; injection h with h; injection h with h1 h2; omega
      ·have := ih (n + 1) i v (fun y hy => hi y (List.mem_cons_of_mem _ hy)) h; omega
    have := this es (n + 1) _ v ht hf
    omega
   obtain ⟨p, rfl⟩ : ∃ p', p = p' + 1 := ⟨p - 1, by omega⟩
   obtain ⟨i1, i2, i3⟩ := Gu es (n + 1) p v ht (by rw [hf]; congr 3; omega)
   rw [List.modify_succ_cons]
   refine ⟨fun y hy => ?_, by rw [fS he, if_neg hk, i2]; congr 3; omega, fun k hne => by rw [fS he, fS he, i3 k hne]⟩
   rcases List.mem_cons.1 hy with rfl | hy
   ·exact ⟨_, he⟩
   ·exact i1 y hy
theorem Up {es : Array MapEntry} {clk : Nat} {kk : Int} {vv : Value} {r : Option (Nat × Value)} (hk : eW es.toList) (hr : fI kk es.toList 0 = some r) : ∃ es' clk', putO es clk (.int .i64 kk) vv r = .map es' clk' ∧ eW es'.toList ∧ (∃ j, fI kk es'.toList 0 = some (some (j, vv))) ∧ ∀ k, k ≠ kk → fI k es'.toList 0 = fI k es.toList 0 ∨ ∃ a, fI k es.toList 0 = some a ∧ fI k es'.toList 0 = some a := by
 have tot : ∀ (k : Int) (es : List MapEntry) (n : Nat), eW es → ∃ a, fI k es n = some a := by
  intro k es
  induction es with
  | nil => intro n _; exact ⟨none, rfl⟩
  | cons e es ih =>
   intro n h
   obtain ⟨q, he⟩ := h e (List.mem_cons_self ..)
   rw [fS he]
   split
   ·exact ⟨_, rfl⟩
   ·exact ih _ fun y hy => h y (List.mem_cons_of_mem _ hy)
 cases r with
 | none =>
  refine ⟨_, _, rfl, ?_, ?_, fun k hne => ?_⟩
  ·intro e he
   simp only [Array.toList_push, List.mem_append, List.mem_singleton] at he
   rcases he with he | rfl
   ·exact hk e he
   ·exact ⟨_, rfl⟩
  ·have := (C3 (x := ⟨.int .i64 kk, vv, clk⟩) rfl kk es.toList 0 hk).1 hr
   rw [if_pos rfl] at this
   exact ⟨_, by simpa using this⟩
  ·have h2 := C3 (x := ⟨.int .i64 kk, vv, clk⟩) rfl k es.toList 0 hk
   obtain ⟨a, ha⟩ := tot k es.toList 0 hk
   right
   refine ⟨a, ha, ?_⟩
   rw [Array.toList_push]
   cases a with
   | none => rw [h2.1 ha, if_neg hne]
   | some p => exact h2.2 p ha
 | some p =>
  obtain ⟨i1, i2, i3⟩ := Gu (vv := vv) es.toList 0 p.1 p.2 hk (by rw [hr, Nat.zero_add])
  refine ⟨_, _, rfl, ?_, ⟨0 + p.1, ?_⟩, fun k hne => .inl ?_⟩
  ·rw [Array.toList_modify]; exact i1
  ·rw [Array.toList_modify]; exact i2
  ·rw [Array.toList_modify]; exact i3 k hne
def Uy (M : Obj) (m : List aD) : Prop := ∃ es clk, M = .map es clk ∧ eW es.toList ∧ ∀ k, (fI k es.toList 0 = some none ∧ oJ m k = false) ∨ ∃ j, fI k es.toList 0 = some (some (j, .bool (oJ m k)))
theorem Mu : Uy (.map #[] 0) [] := ⟨#[], 0, rfl, fun e h => by simp at h, fun k => .inl ⟨rfl, rfl⟩⟩
theorem Kx {es : Array MapEntry} {clk : Nat} {m : List aD} (hk : eW es.toList) (h : ∀ k, (fI k es.toList 0 = some none ∧ oJ m k = false) ∨ ∃ j, fI k es.toList 0 = some (some (j, .bool (oJ m k)))) (e : aD) {b : Bool} (hb : b = oJ (m ++ [e]) e.image) {r : Option (Nat × Value)} (hr : fI e.image es.toList 0 = some r) : Uy (putO es clk (.int .i64 e.image) (.bool b) r) (m ++ [e]) := by
 obtain ⟨es', clk', h1, h2, ⟨j, h3⟩, h4⟩ := Up (clk := clk) (vv := .bool b) hk hr
 refine ⟨es', clk', h1, h2, fun k => ?_⟩
 by_cases ek : k = e.image
 ·subst ek; exact .inr ⟨j, by rw [h3, hb]⟩
 ·have hs : oJ (m ++ [e]) k = oJ m k := by rw [xN, decide_eq_false (Ne.symm ek), Bool.and_false, Bool.or_false]
  rw [hs]
  have h5 : fI k es'.toList 0 = fI k es.toList 0 := by
   rcases h4 k ek with h | ⟨a, ha, hb⟩
   ·exact h
   ·rw [ha, hb]
  rw [h5]; exact h k
theorem Tw (l : List aD) (hv : aX l = true) (hE : ∀ e ∈ l, jM e) (hl : l.length ≤ 16) (hi : ∀ e ∈ l, e.image ≤ 63) : aG Tryz.prog Dc 23 [eS l] [] (bS true) [] := by
 have hok : ∀ i : Nat, i < l.length → oM l i = true := fun i h => by
  unfold aX uY at hv
  simp only [Bool.and_eq_true, List.all_eq_true] at hv
  exact hv.2 i (List.mem_range.2 h)
 refine aC Ax aF Tryz.func23 (c := _) rfl Tryz.call23 400 ?_
 (repeat' ((conv => whnf); first | refine x0C (eB ?_ rfl) | (exfalso; omega) | refine x0C ?_ | refine spC (fun hb => ?_) fun hb => ?_ | refine aJ (fun hb => ?_) ?_ | refine taC ?_ | refine saC ?_ | exact sdV | refine aA ?_ ?_ | refine aB mixed ?_))
 refine aT [some 0] (fun q : Nat × Obj => [(10, iS q.1)]) (fun q => [(0, .obj q.2)]) (fun q => q.1 ≤ l.length ∧ Uy q.2 (l.take q.1)) (fun q => l.length - q.1) (0, .map #[] 0) ⟨Nat.zero_le _, Mu⟩ (by exact bkI) ?_
 rintro ⟨i, M⟩ ⟨hil, hM⟩ KK hKK
 dsimp only at hil hM hKK ⊢
 rcases Nat.lt_or_ge i l.length with hlt | hge
 ·have hg := getD_some (d := Cd.dflt U.event) hlt
  have hm := List.mem_of_getElem? hg
  have hel := hE _ hm
  have him := hi _ hm
  have hk := hok i hlt
  have ht : l.take i ++ [l.getD (i : Int).toNat (Cd.dflt U.event)] = l.take (i + 1) := by rw [List.take_add_one, hg]; rfl
  unfold oM evt at hk
  rw [show l.getD i (U.dflt .event) = l.getD (i : Int).toNat (Cd.dflt U.event) by rw [Int.toNat_natCast]] at hk
  rw [Bool.and_eq_true, Bool.and_eq_true, Bool.not_eq_true'] at hk
  obtain ⟨⟨hf, hb⟩, hd⟩ := hk
  have hc := Wj (l.getD ((i : Int) - 1).toNat (Cd.dflt U.event)) (l.getD (i : Int).toNat (Cd.dflt U.event))
  have hcb : 0 < (i : Int) → Jp (l.getD ((i : Int) - 1).toNat (Cd.dflt U.event)) (l.getD (i : Int).toNat (Cd.dflt U.event)) < 0 := fun h0 => by
   rw [decide_eq_false (show ¬ i = 0 by omega), Bool.false_or] at hb
   have h1 := Ju (l.getD (i - 1) (U.dflt .event)) (l.getD (i : Int).toNat (Cd.dflt U.event))
   rw [hb] at h1
   rw [show ((i : Int) - 1).toNat = i - 1 by omega]
   have := of_decide_eq_false h1
   exact Int.not_le.1 this
  have hdd : (l.getD (i : Int).toNat (Cd.dflt U.event)).kind = 1 → oJ (l.take i) (l.getD (i : Int).toNat (Cd.dflt U.event)).image = false := fun h => by
   rw [decide_eq_true h, Bool.true_and] at hd; exact hd
  have hs : oJ (l.take (i + 1)) (l.getD (i : Int).toNat (Cd.dflt U.event)).image = (oJ (l.take i) (l.getD (i : Int).toNat (Cd.dflt U.event)).image || decide ((l.getD (i : Int).toNat (Cd.dflt U.event)).kind = 1)) := by
   rw [← ht, xN, decide_eq_true rfl, Bool.and_true]
  generalize Jp (l.getD ((i : Int) - 1).toNat (Cd.dflt U.event)) (l.getD (i : Int).toNat (Cd.dflt U.event)) = q at hc hcb
  obtain ⟨es, clk, rfl, hI, hL⟩ := hM
  have hput := fun b hb r hr => Kx (clk := clk) hI hL (l.getD (i : Int).toNat (Cd.dflt U.event)) (b := b) hb (r := r) hr
  rw [ht] at hput
  have hcase := hL (l.getD (i : Int).toNat (Cd.dflt U.event)).image
  have hgv := yM (l.getD (i : Int).toNat (Cd.dflt U.event)).rows hel
  have c1 := min_ (l.getD (i : Int).toNat (Cd.dflt U.event)).sun (-90) 90
  have c2 := min_ (l.getD (i : Int).toNat (Cd.dflt U.event)).look (-4) 4
  have c3 := min_ (l.getD (i : Int).toNat (Cd.dflt U.event)).kind 1 2
  have c4 := min_ (l.getD (i : Int).toNat (Cd.dflt U.event)).at_ 0 1000000
  have c5 := min_ (l.getD (i : Int).toNat (Cd.dflt U.event)).image 0 63
  unfold eJ at hf
  rw [Bool.and_eq_true, Bool.and_eq_true] at hf
  obtain ⟨⟨f1, f2⟩, f3⟩ := hf
  rw [f1] at c4
  rw [aM] at f2
  rw [(aM _ _ _).2 ⟨by omega, by omega⟩] at c5
  by_cases hk1 : (l.getD (i : Int).toNat (Cd.dflt U.event)).kind = 1
  ·rw [if_pos hk1] at f3
   rw [Bool.and_eq_true, Bool.and_eq_true] at f3
   obtain ⟨⟨f4, f5⟩, f6⟩ := f3
   rw [f4] at c1
   rw [f5] at c2
   rw [f6] at hgv
   rw [(aM _ _ _).2 ⟨by omega, by omega⟩] at c3
   have hs0 := hdd hk1
   rw [hs0] at hcase hs
   rw [decide_eq_true hk1] at hs
   rcases hcase with ⟨hq, _⟩ | ⟨j, hq⟩ <;>
   ·have hput2 := hput (decide ((l.getD (i : Int).toNat (Cd.dflt U.event)).kind = 1)) (by rw [hs, decide_eq_true hk1]; rfl) _ hq
    clear hput hL hI hok hdd hd
    (repeat' ((conv => whnf); first | refine x0C (eB ?_ rfl) | (exfalso; omega) | refine cpC (hgv) ?_ | refine dpC (hgv) ?_ | refine cpC (c1) ?_ | refine dpC (c1) ?_ | refine cpC (c2) ?_ | refine dpC (c2) ?_ | refine cpC (c3) ?_ | refine dpC (c3) ?_ | refine cpC (c4) ?_ | refine dpC (c4) ?_ | refine cpC (c5) ?_ | refine dpC (c5) ?_ | refine cpC (hc) ?_ | refine dpC (hc) ?_ | refine bM hq ?_ | refine hKK (i + 1, _) [some 0] _ _ ⟨⟨by dsimp only; omega, hput2⟩⟩ ⟨by dsimp only; omega⟩ (by exact bkI) | refine x0C ?_ | refine spC (fun hb => ?_) fun hb => ?_ | refine aJ (fun hb => ?_) ?_ | refine taC ?_ | refine saC ?_ | exact sdV | refine aA ?_ ?_ | refine aB mixed ?_))
  ·rw [if_neg hk1] at f3
   by_cases hk2 : (l.getD (i : Int).toNat (Cd.dflt U.event)).kind = 2
   ·rw [if_pos hk2, Bool.and_eq_true, Bool.and_eq_true, Bool.and_eq_true, Bool.not_eq_true'] at f3
    obtain ⟨⟨⟨f4, f5⟩, f6⟩, f7⟩ := f3
    have f4 := of_decide_eq_true f4
    have f5 := of_decide_eq_true f5
    have f6 := of_decide_eq_true f6
    rw [(aM _ _ _).2 ⟨by omega, by omega⟩] at c3
    have hgf : bC (l.getD (i : Int).toNat (Cd.dflt U.event)).rows = false := by unfold bC; rw [decide_eq_false (by omega)]; rfl
    rw [hgf] at hgv
    rw [decide_eq_false hk1, Bool.or_false] at hs
    rcases hcase with ⟨hq, hsf⟩ | ⟨j, hq⟩
    ·have hput2 := hput (decide ((l.getD (i : Int).toNat (Cd.dflt U.event)).kind = 1)) (by rw [hs, hsf, decide_eq_false hk1]) _ hq
     clear hput hL hI hok hdd hd
     (repeat' ((conv => whnf); first | refine x0C (eB ?_ rfl) | (exfalso; omega) | refine cpC (hgv) ?_ | refine dpC (hgv) ?_ | refine cpC (c1) ?_ | refine dpC (c1) ?_ | refine cpC (c2) ?_ | refine dpC (c2) ?_ | refine cpC (c3) ?_ | refine dpC (c3) ?_ | refine cpC (c4) ?_ | refine dpC (c4) ?_ | refine cpC (c5) ?_ | refine dpC (c5) ?_ | refine cpC (hc) ?_ | refine dpC (hc) ?_ | refine bM hq ?_ | refine hKK (i + 1, _) [some 0] _ _ ⟨⟨by dsimp only; omega, hput2⟩⟩ ⟨by dsimp only; omega⟩ (by exact bkI) | refine x0C ?_ | refine spC (fun hb => ?_) fun hb => ?_ | refine aJ (fun hb => ?_) ?_ | refine taC ?_ | refine saC ?_ | exact sdV | refine aA ?_ ?_ | refine aB mixed ?_))
     all_goals (rw [f7] at hb; cases hb)
    ·cases hb2 : oJ (l.take i) (l.getD (i : Int).toNat (Cd.dflt U.event)).image with
     | false =>
      rw [hb2] at hq hs
      have hput2 := hput (decide ((l.getD (i : Int).toNat (Cd.dflt U.event)).kind = 1)) (by rw [hs, decide_eq_false hk1]) _ hq
      clear hput hL hI hok hdd hd
      (repeat' ((conv => whnf); first | refine x0C (eB ?_ rfl) | (exfalso; omega) | refine cpC (hgv) ?_ | refine dpC (hgv) ?_ | refine cpC (c1) ?_ | refine dpC (c1) ?_ | refine cpC (c2) ?_ | refine dpC (c2) ?_ | refine cpC (c3) ?_ | refine dpC (c3) ?_ | refine cpC (c4) ?_ | refine dpC (c4) ?_ | refine cpC (c5) ?_ | refine dpC (c5) ?_ | refine cpC (hc) ?_ | refine dpC (hc) ?_ | refine bM hq ?_ | refine hKK (i + 1, _) [some 0] _ _ ⟨⟨by dsimp only; omega, hput2⟩⟩ ⟨by dsimp only; omega⟩ (by exact bkI) | refine x0C ?_ | refine spC (fun hb => ?_) fun hb => ?_ | refine aJ (fun hb => ?_) ?_ | refine taC ?_ | refine saC ?_ | exact sdV | refine aA ?_ ?_ | refine aB mixed ?_))
      all_goals (rw [f7] at hb; cases hb)
     | true =>
      rw [hb2] at hq hs
      have hput2 := hput true (by rw [hs]) _ hq
      clear hput hL hI hok hdd hd
      (repeat' ((conv => whnf); first | refine x0C (eB ?_ rfl) | (exfalso; omega) | refine cpC (hgv) ?_ | refine dpC (hgv) ?_ | refine cpC (c1) ?_ | refine dpC (c1) ?_ | refine cpC (c2) ?_ | refine dpC (c2) ?_ | refine cpC (c3) ?_ | refine dpC (c3) ?_ | refine cpC (c4) ?_ | refine dpC (c4) ?_ | refine cpC (c5) ?_ | refine dpC (c5) ?_ | refine cpC (hc) ?_ | refine dpC (hc) ?_ | refine bM hq ?_ | refine hKK (i + 1, _) [some 0] _ _ ⟨⟨by dsimp only; omega, hput2⟩⟩ ⟨by dsimp only; omega⟩ (by exact bkI) | refine x0C ?_ | refine spC (fun hb => ?_) fun hb => ?_ | refine aJ (fun hb => ?_) ?_ | refine taC ?_ | refine saC ?_ | exact sdV | refine aA ?_ ?_ | refine aB mixed ?_))
      all_goals (rw [f7] at hb; cases hb)
   ·rw [if_neg hk2] at f3; cases f3
 ·(repeat' ((conv => whnf); first | refine x0C (eB ?_ rfl) | (exfalso; omega) | refine x0C ?_ | refine spC (fun hb => ?_) fun hb => ?_ | refine aJ (fun hb => ?_) ?_ | refine taC ?_ | refine saC ?_ | exact sdV | refine aA ?_ ?_ | refine aB mixed ?_))
  all_goals (first | rfl | exact decide_eq_true (by omega))
end Go.SX
namespace Go.SX
def evL (l : List aD) (i : Nat) : aD := l.getD i (U.dflt .event)
def Ej (l : List aD) (c : Nat → Bool) : List aD := ((List.range l.length).filter c).map (evL l)
def cC (g : aK) (l : List aD) : List Nat := (List.range l.length).filter fun i => gO g (evL l i)
def Cw (l L : List aD) (c : Nat → Bool) : Prop := ∀ g, kU g L = ((cC g l).filter c).map (evL l)
theorem nW {α β : Type} (f : α → β) (p : β → Bool) : ∀ l : List α, (l.map f).filter p = (l.filter fun x => p (f x)).map f
 | [] => rfl
 | a :: l => by
  have := nW f p l
  simp only [List.map_cons, List.filter_cons]
  split <;> simp [this]
theorem Le (l : List aD) (c : Nat → Bool) : Cw l (Ej l c) c := by
 intro g
 unfold kU Ej cC
 rw [nW, List.filter_filter, List.filter_filter]
 congr 1
 congr 1
 funext i
 rw [Bool.and_comm]
def Kq (l : List aD) (σ : Nat → Bool) (within : Int) (i : Nat) : Bool := (List.range l.length).any fun k => decide ((evL l k).kind = 2) && decide ((evL l k).image = (evL l i).image) && inB ((evL l k).at_ - (evL l i).at_) 0 within && σ k
theorem Sz (l : List aD) (σ : Nat → Bool) (within : Int) (i : Nat) : Qt (Ej l σ) (evL l i) within = Kq l σ within i := by
 unfold Qt Ej Kq
 rw [List.any_map, List.any_filter]
 congr 1
 funext k
 simp only [Function.comp]
 rw [Bool.and_comm]
theorem Kj (l : List aD) (σ : Nat → Bool) (within : Int) : Cw l (G8 (Ej l σ) within) (fun i => σ i && Kq l σ within i) := by
 intro g
 unfold kU G8 cC
 rw [List.filter_filter]
 have hd := Sz l σ within
 generalize Qt (Ej l σ) = dB at hd
 unfold Ej
 rw [nW, List.filter_filter, List.filter_filter]
 congr 1
 congr 1
 funext i
 rw [hd]
 cases hs : gO g (evL l i) with
 | false => simp
 | true =>
  have : (evL l i).kind = 1 := by
   unfold gO at hs
   simp only [Bool.and_eq_true, decide_eq_true_eq] at hs
   exact hs.1.1.1.1.1
  simp [this, Bool.and_comm]
def q0t (g : aK) (l : List aD) (c : Nat → Bool) : Bool := (cC g l).any c
theorem q0k {l L : List aD} {c : Nat → Bool} (h : Cw l L c) (g : aK) : (Pp g L).isSome = q0t g l c := by
 unfold Pp q0t
 rw [h g]
 generalize cC g l = S
 induction S with
 | nil => rfl
 | cons i S ih =>
  rw [List.filter_cons, List.any_cons]
  cases c i with
  | true => rfl
  | false => simpa using ih
def aY (S : List Nat) (k : Nat) : Nat := S.getD k 0
def pfC (g : aK) (a b : aD) : Bool := decide (g.low ≤ Da a.look b.look) && decide (b.at_ - a.at_ ≤ g.within)
def Ik (g : aK) (l : List aD) (S : List Nat) (c : Nat → Bool) : Bool := (List.range S.length).any fun k => (List.range k).any fun j => pfC g (evL l (aY S j)) (evL l (aY S k)) && (c (aY S j) && c (aY S k))
theorem S5 {α : Type} {a b : α} : ∀ {S : List α}, [a, b].Sublist S ↔ ∃ k j : Nat, j < k ∧ S[j]? = some a ∧ S[k]? = some b
 | [] => by simp
 | x :: S => by
  have ih := S5 (a := a) (b := b) (S := S)
  constructor
  ·intro h
   cases h with
   | cons _ h =>
    obtain ⟨k, j, h1, h2, h3⟩ := ih.1 h
    exact ⟨k + 1, j + 1, by omega, by simpa using h2, by simpa using h3⟩
   | cons_cons _ h =>
    have hb : b ∈ S := List.singleton_sublist.1 h
    obtain ⟨i, hi, e⟩ := List.getElem_of_mem hb
    exact ⟨i + 1, 0, by omega, rfl, by rw [List.getElem?_cons_succ, List.getElem?_eq_getElem hi, e]⟩
  ·rintro ⟨k, j, h1, h2, h3⟩
   cases k with
   | zero => omega
   | succ k =>
    cases j with
    | zero =>
     simp at h2 h3; subst h2
     exact List.Sublist.cons_cons _ (List.singleton_sublist.2 (List.mem_of_getElem? h3))
    | succ j => exact .cons _ (ih.2 ⟨k, j, by omega, by simpa using h2, by simpa using h3⟩)
theorem lM {g : aK} {l : List aD} {i : Nat} (h : i ∈ cC g l) : i < l.length := by
 unfold cC at h
 simpa using (List.mem_filter.1 h).1
theorem Ly (g : aK) (l : List aD) : (cC g l).Pairwise (· < ·) := List.Pairwise.filter _ List.pairwise_lt_range
theorem zE {g : aK} {l : List aD} {j k i i' : Nat} (hj : j < k) (h1 : (cC g l)[j]? = some i) (h2 : (cC g l)[k]? = some i') : i < i' := by
 obtain ⟨h3, e3⟩ := List.getElem?_eq_some_iff.1 h1
 obtain ⟨h4, e4⟩ := List.getElem?_eq_some_iff.1 h2
 have := List.pairwise_iff_getElem.1 (Ly g l) j k h3 h4 hj
 rw [e3, e4] at this; exact this
theorem cG {S : List Nat} {k i : Nat} (h : S[k]? = some i) : aY S k = i := by unfold aY; rw [List.getD_eq_getElem?_getD, h]; rfl
def Rp (l : List aD) : Prop := ∀ i j, i < j → j < l.length → (evL l i).at_ ≤ (evL l j).at_
theorem Pg {l : List aD} (hl : Rp l) (g : aK) {i j : Nat} (h : i < j) (hj : j < l.length) : pfB g (evL l i) (evL l j) = pfC g (evL l i) (evL l j) := by
 have := hl i j h hj
 unfold pfB pfC
 congr 2
 unfold Da
 rw [show max ((evL l i).at_ - (evL l j).at_) ((evL l j).at_ - (evL l i).at_) = (evL l j).at_ - (evL l i).at_ by omega]
theorem Ws {l L : List aD} {c : Nat → Bool} (hl : Rp l) (h : Cw l L c) (g : aK) : (A6 g L).isSome = Ik g l (cC (eC g.kids) l) c := by
 have h1 : (A6 g L).isSome = (rZ g (kU (eC g.kids) L)).isSome := by
  unfold A6
  split
  ·rename_i e; rw [e]; rfl
  ·rename_i e; rw [e]; rfl
 rw [h1, Bool.eq_iff_iff, ← H5, h (eC g.kids)]
 unfold Ik
 simp only [List.any_eq_true, List.mem_range]
 constructor
 ·rintro ⟨a, b, h2, h3⟩
  obtain ⟨m, h4, h5⟩ := List.sublist_map_iff.1 h2
  match m, h5, h4 with
  | [i, j], h5, h4 =>
   simp at h5
   obtain ⟨rfl, rfl⟩ := h5
   have h6 := h4.trans List.filter_sublist
   have hm : ∀ x ∈ [i, j], c x = true := fun x hx => (List.mem_filter.1 (h4.subset hx)).2
   obtain ⟨k, q, hq, hi, hj⟩ := S5.1 h6
   have hlt := zE hq hi hj
   have hjl := lM (List.mem_of_getElem? hj)
   have hk := (List.getElem?_eq_some_iff.1 hj).1
   refine ⟨k, hk, q, hq, ?_⟩
   rw [cG hi, cG hj, ← Pg hl g hlt hjl, h3, hm i (by simp), hm j (by simp)]; rfl
 ·rintro ⟨k, hk, q, hq, h2⟩
  simp only [Bool.and_eq_true] at h2
  obtain ⟨h2, h3, h4⟩ := h2
  have hi := List.getElem?_eq_getElem (show q < (cC (eC g.kids) l).length by omega)
  have hj := List.getElem?_eq_getElem hk
  rw [cG hi] at h2 h3
  rw [cG hj] at h2 h4
  have hlt := zE hq hi hj
  have hjl := lM (List.mem_of_getElem? hj)
  rw [← Pg hl g hlt hjl] at h2
  refine ⟨_, _, ?_, h2⟩
  have := ((S5.2 ⟨k, q, hq, hi, hj⟩).filter c).map (evL l)
  simpa [List.filter_cons, h3, h4] using this
def Sd (g : aK) (l : List aD) (S : List Nat) (c : Nat → Bool) : Nat → Nat → Bool
 | 0, k => decide ((evL l (aY S k)).at_ - g.from_ ≤ 1440 * g.days) && c (aY S k)
 | t + 1, k => ((List.range k).any fun j => inB ((evL l (aY S k)).at_ - (evL l (aY S j)).at_) g.within (1440 * g.days) && Sd g l S c t j) && c (aY S k)
def vP (g : aK) (l : List aD) (S : List Nat) (c : Nat → Bool) : Bool := (List.range S.length).any fun k => Sd g l S c (g.times - 1).toNat k
theorem qB (g : aK) : ∀ (l : List aD) (a b : aD), eO g (l ++ [a, b]) ↔ eO g (l ++ [a]) ∧ bG g a b = true
 | [], a, b => by simp [eO]
 | [x], a, b => by simp [eO]
 | x :: y :: l, a, b => by
  have := qB g (y :: l) a b
  simp only [List.cons_append] at this
  simp only [List.cons_append, eO, this, and_assoc]
theorem J1 (g : aK) (l : List aD) (a b : aD) : Gl g none (l ++ [a, b]) ↔ Gl g none (l ++ [a]) := by cases l <;> exact Iff.rfl
theorem Jb {α : Type} {A B : List α} {y z : α} (h : (A ++ [y]).Sublist (B ++ [z])) : A.Sublist B := by
 have h := h.reverse
 simp only [List.reverse_append, List.reverse_cons, List.reverse_nil, List.nil_append, List.singleton_append] at h
 cases h with
 | cons _ h => have := h.reverse; simp at this; exact (List.sublist_append_left A [y]).trans this
 | cons_cons _ h => have := h.reverse; simpa using this
theorem Bn {α : Type} {A L : List α} {x : α} (h : (A ++ [x]).Sublist L) : ∃ j, L[j]? = some x ∧ (A ++ [x]).Sublist (L.take (j + 1)) := by
 obtain ⟨L1, L2, rfl, h1, h2⟩ := List.append_sublist_iff.1 h
 obtain ⟨P, Q, rfl⟩ := List.append_of_mem (List.singleton_sublist.1 h2)
 refine ⟨L1.length + P.length, by rw [List.getElem?_append_right (by omega)]; simp, ?_⟩
 rw [show (L1 ++ (P ++ x :: Q)).take (L1.length + P.length + 1) = L1 ++ (P ++ [x]) by
  rw [← List.append_assoc, show x :: Q = [x] ++ Q from rfl, ← List.append_assoc, List.take_append_of_le_length (by simp; omega), List.take_of_length_le (by simp; omega), List.append_assoc]]
 exact h1.append (List.sublist_append_right ..)
theorem oQ {S : List Nat} {k : Nat} (h : k < S.length) : S.take (k + 1) = S.take k ++ [aY S k] := by
 rw [List.take_add_one, List.getElem?_eq_getElem h, cG (List.getElem?_eq_getElem h)]; rfl
def q1o (g : aK) (l : List aD) (c : Nat → Bool) (I : List Nat) : Prop := (∀ i ∈ I, c i = true) ∧ eO g (I.map (evL l)) ∧ Gl g none (I.map (evL l))
theorem zU (g : aK) (l : List aD) (S : List Nat) (c : Nat → Bool) : ∀ (t k : Nat), k < S.length → (Sd g l S c t k = true ↔ ∃ I : List Nat, (I ++ [aY S k]).Sublist (S.take (k + 1)) ∧ I.length = t ∧ q1o g l c (I ++ [aY S k]))
 | 0, k, hk => by
  unfold Sd
  constructor
  ·intro h
   simp only [Bool.and_eq_true, decide_eq_true_eq] at h
   refine ⟨[], by rw [oQ hk]; exact List.sublist_append_right .., rfl, by simpa using h.2, trivial, ?_⟩
   show jW g _ = true
   unfold jW
   simp; omega
  ·rintro ⟨I, h1, h2, h3, h4, h5⟩
   obtain rfl := List.length_eq_zero_iff.1 h2
   have h5 : jW g (evL l (aY S k)) = true := h5
   unfold jW at h5
   simp only [decide_eq_true_eq] at h5
   rw [decide_eq_true (by omega), h3 _ (by simp)]; rfl
 | t + 1, k, hk => by
  unfold Sd
  constructor
  ·intro h
   simp only [Bool.and_eq_true, List.any_eq_true, List.mem_range] at h
   obtain ⟨⟨j, hj, h1, h2⟩, h3⟩ := h
   obtain ⟨I, h4, h5, h6, h7, h8⟩ := (zU g l S c t j (by omega)).1 h2
   refine ⟨I ++ [aY S j], ?_, by simp [h5], fun i hi => ?_, ?_, ?_⟩
   ·rw [oQ hk]
    refine List.Sublist.append (h4.trans ?_) (List.Sublist.refl _)
    rw [show S.take (j + 1) = (S.take k).take (j + 1) by rw [List.take_take, Nat.min_eq_left (by omega)]]
    exact List.take_sublist _ _
   ·rcases List.mem_append.1 hi with hi | hi
    ·exact h6 i hi
    ·simp at hi; rw [hi]; exact h3
   ·rw [List.append_assoc, List.map_append]
    refine (qB g (I.map (evL l)) (evL l (aY S j)) (evL l (aY S k))).2 ⟨by simpa using h7, h1⟩
   ·rw [List.append_assoc, List.map_append]
    exact (J1 g (I.map (evL l)) _ _).2 (by simpa using h8)
  ·rintro ⟨I, h1, h2, h3, h4, h5⟩
   rcases List.eq_nil_or_concat I with rfl | ⟨I', x, rfl⟩
   ·simp at h2
   rw [List.concat_eq_append] at h1 h2 h3 h4 h5
   rw [oQ hk] at h1
   obtain ⟨j, hj, h6⟩ := Bn (Jb h1)
   have hjk : j < k := by have := (List.getElem?_eq_some_iff.1 hj).1; simp at this; omega
   rw [List.getElem?_take, if_pos hjk] at hj
   have hx := cG hj
   subst hx
   rw [List.take_take, Nat.min_eq_left (by omega)] at h6
   rw [List.append_assoc, List.map_append] at h4 h5
   have h7 := (qB g (I'.map (evL l)) _ _).1 h4
   have h8 := (J1 g (I'.map (evL l)) _ _).1 h5
   simp only [Bool.and_eq_true, List.any_eq_true, List.mem_range]
   refine ⟨⟨j, hjk, h7.2, (zU g l S c t j (by omega)).2 ⟨I', h6, by simpa using h2, fun i hi => h3 i (by rcases List.mem_append.1 hi with hi | hi <;> simp_all), by simpa using h7.1, by simpa using h8⟩⟩, h3 _ (by simp)⟩
theorem Re {l L : List aD} {c : Nat → Bool} (h : Cw l L c) (g : aK) (ht : 1 ≤ g.times) : (oY g L).isSome = vP g l (cC (eC g.kids) l) c := by
 have h1 : (oY g L).isSome = (cZ g (kU (eC g.kids) L) g.times none).2 := by
  unfold oY
  rw [tE]
  cases (cZ g (kU (eC g.kids) L) g.times none).2 <;> rfl
 have hn : g.times = ((g.times - 1).toNat + 1 : Nat) := by omega
 rw [h1, Bool.eq_iff_iff, h (eC g.kids)]
 unfold vP
 simp only [List.any_eq_true, List.mem_range]
 generalize (g.times - 1).toNat = t at hn
 rw [hn]
 constructor
 ·intro h2
  obtain ⟨c', h3, h4, h5, h6, _⟩ := nS g _ _ _ h2
  obtain ⟨m, h7, rfl⟩ := List.sublist_map_iff.1 h3
  have hm : ∀ x ∈ m, c x = true := fun x hx => (List.mem_filter.1 (h7.subset hx)).2
  rcases List.eq_nil_or_concat m with rfl | ⟨I, x, rfl⟩
  ·simp at h4
  rw [List.concat_eq_append] at h7 h4 hm h5 h6
  obtain ⟨j, hj, h8⟩ := Bn (h7.trans List.filter_sublist)
  have hjl := (List.getElem?_eq_some_iff.1 hj).1
  have hx := cG hj
  subst hx
  exact ⟨j, hjl, (zU g l _ c t j hjl).2 ⟨I, h8, by simpa using h4, hm, h5, h6⟩⟩
 ·rintro ⟨k, hk, h2⟩
  obtain ⟨I, h3, h4, h5, h6, h7⟩ := (zU g l _ c t k hk).1 h2
  refine mZ g _ _ _ ((I ++ [aY (cC (eC g.kids) l) k]).map (evL l)) ?_ (by simp [h4]) h6 h7
  refine List.Sublist.map _ ?_
  have h8 := (h3.trans (List.take_sublist _ _)).filter c
  rwa [List.filter_eq_self.2 h5] at h8
def lE (g : aK) (l : List aD) (c : Nat → Bool) : Bool := if g.kind = 1 then q0t g l c else if g.kind = 2 then Ik g l (cC (eC g.kids) l) c else vP g l (cC (eC g.kids) l) c
mutual
def Q3 : aK → List aD → (Nat → Bool) → Bool
 | ⟨kind, rows, from_, to_, low, high, clear, days, times, within, cents, kids⟩, l, σ =>
  if kind ≤ 3 then lE ⟨kind, rows, from_, to_, low, high, clear, days, times, within, cents, kids⟩ l σ
  else if kind = 4 then lE (eC kids) l (fun i => σ i && Kq l σ within i)
  else if kind = 5 then metAllC kids l σ else metAnyC kids l σ
def metAllC : List aK → List aD → (Nat → Bool) → Bool
 | [], _, _ => true
 | k :: ks, l, σ => Q3 k l σ && metAllC ks l σ
def metAnyC : List aK → List aD → (Nat → Bool) → Bool
 | [], _, _ => false
 | k :: ks, l, σ => Q3 k l σ || metAnyC ks l σ
end
theorem qA (g : aK) (l : List aD) (σ : Nat → Bool) : Q3 g l σ = if g.kind ≤ 3 then lE g l σ else if g.kind = 4 then lE (eC g.kids) l (fun i => σ i && Kq l σ g.within i) else if g.kind = 5 then metAllC g.kids l σ else metAnyC g.kids l σ := by
 cases g; rw [Q3]
theorem iY {ks : List aK} (h : (ks.length : Int) = 1) : eC ks ∈ ks := by
 match ks with
 | [] => simp at h
 | k :: _ => exact List.mem_cons_self
theorem Po {l L : List aD} {c : Nat → Bool} (hl : Rp l) (h : Cw l L c) (g : aK) (hok : okB g = true) (hk : g.kind ≤ 3) : (dD g L).isSome = lE g l c := by
 have hk1 := (bP hok).1
 rw [oZ]
 unfold lE
 split
 ·exact q0k h g
 ·split
  ·exact Ws hl h g
  ·rw [if_pos (by omega)]
   exact Re h g (lT hok (by omega)).1
theorem Ef (r : Sen) (c : Int) (acc : Sen) : (kW r c acc).isSome = (r.isSome || acc.isSome) := by
 unfold kW
 cases r with
 | none => rfl
 | some x =>
  cases acc with
  | none => rfl
  | some y => dsimp only; split <;> rfl
mutual
theorem Fs : ∀ (g : aK) (d n : Int) (l : List aD) (σ : Nat → Bool), cB g d = some n → Rp l → (dD g (Ej l σ)).isSome = Q3 g l σ
 | ⟨kind, rows, from_, to_, low, high, clear, days, times, within, cents, kids⟩, d, n, l, σ, hs, hl => by
  have hall := all_c kids
  have hany := any_c kids
  obtain ⟨hok, hd, q, hL, rfl⟩ := cR hs
  generalize hg : (⟨kind, rows, from_, to_, low, high, clear, days, times, within, cents, kids⟩ : aK) = g at *
  have hkd : g.kids = kids := by rw [← hg]
  rw [qA]
  split
  ·rename_i e
   exact Po hl (Le l σ) g hok e
  ·rename_i e1
   rw [oZ, if_neg (by omega), if_neg (by omega), if_neg (by omega)]
   split
   ·rename_i e
    have h1 := uA hok (by omega) (by omega) (by omega)
    rw [Y0 _ _ h1]
    obtain ⟨x, hx, _⟩ := bX hL (iY h1)
    obtain ⟨hok2, _⟩ := cR hx
    have hk3 : (eC g.kids).kind ≤ 3 := by
     have h2 := hok
     unfold okB dU at h2
     simp only [Bool.and_eq_true] at h2
     have h3 := h2.2.2
     rw [Bool.not_eq_true', List.any_eq_false] at h3
     have := h3 _ (iY h1)
     unfold qF at this
     rw [if_neg (by omega), if_pos e] at this
     simpa using this
    exact Po hl (Kj l σ g.within) _ hok2 hk3
   ·rename_i e4
    rw [hkd] at hL ⊢
    split
    ·exact hall _ _ l σ hL hl 0 []
    ·have := hany _ _ l σ hL hl g.cents none
     rw [this]; exact Bool.or_false _
theorem all_c : ∀ (ks : List aK) (d n : Int) (l : List aD) (σ : Nat → Bool), sizeL ks d = some n → Rp l → ∀ (p : Int) (im : List Int), (meanAll ks (Ej l σ) p im).isSome = metAllC ks l σ
 | [], d, n, l, σ, hs, hl, p, im => by rw [meanAll, metAllC]; rfl
 | k :: ks, d, n, l, σ, hs, hl, p, im => by
  rw [sizeL] at hs
  split at hs
  ·cases hs
  ·rename_i m hm
   split at hs
   ·cases hs
   ·rename_i q hq
    rw [meanAll, metAllC, ← Fs k d m l σ hm hl]
    cases dD k (Ej l σ) with
    | none => rfl
    | some x => rw [Option.isSome_some, Bool.true_and]; exact all_c ks d q l σ hq hl _ _
theorem any_c : ∀ (ks : List aK) (d n : Int) (l : List aD) (σ : Nat → Bool), sizeL ks d = some n → Rp l → ∀ (cs : List Int) (acc : Sen), (meanAny ks cs (Ej l σ) acc).isSome = (metAnyC ks l σ || acc.isSome)
 | [], d, n, l, σ, hs, hl, cs, acc => by rw [meanAny, metAnyC]; rfl
 | k :: ks, d, n, l, σ, hs, hl, cs, acc => by
  rw [sizeL] at hs
  split at hs
  ·cases hs
  ·rename_i m hm
   split at hs
   ·cases hs
   ·rename_i q hq
    rw [meanAny, metAnyC, ← Fs k d m l σ hm hl, any_c ks d q l σ hq hl, Ef]
    cases (dD k (Ej l σ)).isSome <;> cases metAnyC ks l σ <;> rfl
end
end Go.SX
namespace Go.SX
open Go.Proofs
set_option maxHeartbeats 400000000
set_option maxRecDepth 100000
theorem Vu (g : aK) (e : aD) (hg : (g.rows.length : Int) ≤ 9223372036854775807) (he : (e.rows.length : Int) ≤ 9223372036854775807) : aG Tryz.prog Dc 86 [aP g, evA e] [] (bS (gO g e)) [] := by
 have h1 := mP e.rows g.rows he hg
 have h2 := min_ e.sun g.low g.high
 refine aC Ax aF Tryz.func86 (c := _) rfl Tryz.call86 200 ?_
 (repeat' ((conv => whnf); first | refine x0C (eB ?_ rfl) | (exfalso; omega) | refine cpC (h1) ?_ | refine dpC (h1) ?_ | refine cpC (h2) ?_ | refine dpC (h2) ?_ | refine x0C ?_ | refine spC (fun hb => ?_) fun hb => ?_ | refine aJ (fun hb => ?_) ?_ | refine taC ?_ | refine saC ?_ | exact sdV | refine aA ?_ ?_ | refine aB mixed ?_))
 all_goals clear h1 h2
 all_goals (first | (simp_all [gO]; done) | (simp_all [gO]; omega) | (simp_all [gO]; grind))
@[reducible] def cpH (n : Int) (K : Obj) (B : List Nd) (l : List aD) : List (HS Cd) := [.vart none [iS n, .slice 3 0 3 0 B.length, .mapp 1], .obj K, .vart none [.ptr 0 0, eS l], .rows U.node B]
@[reducible] def cpD (n : Int) (K : Obj) (B : List Nd) (l : List aD) : List (HS Cd) := [.vart none [iS n, .slice 4 0 3 0 B.length, .mapp 1], .obj K, .vart none [.ptr 0 0, eS l], .dead, .rows U.node B]
def zK (g : aK) (l : List aD) (i : Nat) : List Int := ((List.range i).filter fun j => gO g (evL l j)).map Int.ofNat
def Wg (g : aK) (l : List aD) : List Int := (cC g l).map Int.ofNat
theorem Dn (g : aK) (l : List aD) (i : Nat) : zK g l (i + 1) = if gO g (l.getD (i : Int).toNat (Cd.dflt U.event)) then zK g l i ++ [(i : Int)] else zK g l i := by
 unfold zK
 rw [List.range_succ, List.filter_append, List.map_append]
 rw [show gO g (l.getD (i : Int).toNat (Cd.dflt U.event)) = gO g (evL l i) by rw [Int.toNat_natCast]; rfl]
 cases h : gO g (evL l i) with
 | true => simp [List.filter_cons, h]
 | false => simp [List.filter_cons, h]
theorem Hr (g : aK) (l : List aD) (i : Nat) : (zK g l i).length ≤ i := by
 unfold zK
 rw [List.length_map]
 exact Nat.le_trans (List.length_filter_le _ _) (by simp)
theorem qV (n : Int) (K : Obj) (B : List Nd) (l : List aD) (hl : l.length ≤ 16) (hE : ∀ e ∈ l, jM e) (g : aK) (hg : (g.rows.length : Int) ≤ 9223372036854775807) : aG Tryz.prog Dc 50 [.ptr 2 0, aP g] (cpH n K B l) (.p (.dsl U.int (Wg g l))) (cpH n K B l) := by
 refine aC Ax aF Tryz.func50 (c := _) rfl Tryz.call50 300 ?_
 (repeat' ((conv => whnf); first | (exfalso; omega) | refine x0C ?_ | refine spC (fun hb => ?_) fun hb => ?_ | refine aJ (fun hb => ?_) ?_ | refine taC ?_ | refine saC ?_ | exact sdV | refine aA ?_ ?_ | refine aB mixed ?_))
 refine aT [some 0, some 1, some 2, some 3, some 4, none] (fun q : Nat × List Int => [(5, .slice 5 0 1 0 q.2.length), (13, iS q.1)]) (fun q => [(5, .rows U.int q.2)]) (fun q => q.1 ≤ l.length ∧ q.2 = zK g l q.1) (fun q => l.length - q.1) (0, []) ⟨Nat.zero_le _, rfl⟩ (by exact bkI) ?_
 rintro ⟨i, J⟩ ⟨hi, hJ⟩ KK hKK
 dsimp only at hi hJ hKK ⊢
 have hJl : J.length ≤ i := by rw [hJ]; exact Hr g l i
 rcases Nat.lt_or_ge i l.length with hlt | hge
 ·have hgi := getD_some (d := Cd.dflt U.event) hlt
  have hs := Dn g l i
  have hm := Vu g (l.getD (i : Int).toNat (Cd.dflt U.event)) hg (hE _ (List.mem_of_getElem? hgi))
  cases hb : gO g (l.getD (i : Int).toNat (Cd.dflt U.event)) with
  | true =>
   rw [hb] at hm hs
   have hW : List.take J.length J ++ List.take 1 (List.drop 0 [(i : Int)]) = zK g l (i + 1) := by rw [hs, if_pos rfl, ← hJ, List.take_length]; rfl
   (repeat' ((conv => whnf); first | (exfalso; omega) | refine cpC (hm) ?_ | refine dpC (hm) ?_ | refine hKK (i + 1, List.take J.length J ++ List.take 1 (List.drop 0 [(i : Int)])) [some 0, some 1, some 2, some 3, some 4, some 8] _ _ ⟨⟨by dsimp only; omega, hW⟩⟩ ⟨by dsimp only; omega⟩ (by exact bkI) | refine x0C ?_ | refine spC (fun hb => ?_) fun hb => ?_ | refine aJ (fun hb => ?_) ?_ | refine taC ?_ | refine saC ?_ | exact sdV | refine aA ?_ ?_ | refine aB mixed ?_))
  | false =>
   rw [hb] at hm hs
   have hW : J = zK g l (i + 1) := by rw [hs, if_neg (by simp), hJ]
   (repeat' ((conv => whnf); first | (exfalso; omega) | refine cpC (hm) ?_ | refine dpC (hm) ?_ | refine hKK (i + 1, J) [some 0, some 1, some 2, some 3, some 4, some 5] _ _ ⟨⟨by dsimp only; omega, hW⟩⟩ ⟨by dsimp only; omega⟩ (by exact bkI) | refine x0C ?_ | refine spC (fun hb => ?_) fun hb => ?_ | refine aJ (fun hb => ?_) ?_ | refine taC ?_ | refine saC ?_ | exact sdV | refine aA ?_ ?_ | refine aB mixed ?_))
 ·have hJe : J = Wg g l := by rw [hJ, show i = l.length by omega]; rfl
  subst hJe
  (repeat' ((conv => whnf); first | (exfalso; omega) | exact enC [some 0, some 1, some 2, some 3] | refine x0C ?_ | refine spC (fun hb => ?_) fun hb => ?_ | refine aJ (fun hb => ?_) ?_ | refine taC ?_ | refine saC ?_ | exact sdV | refine aA ?_ ?_ | refine aB mixed ?_))
end Go.SX
