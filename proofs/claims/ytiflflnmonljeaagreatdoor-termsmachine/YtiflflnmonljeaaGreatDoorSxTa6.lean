/-
  Walks: Ta6, Ta7, Ta8, Ta9, Tb1, Tp3, Tb2, Tp4: what single functions of the program compute.
-/
import Derived.Test.YtiflflnmonljeaaGreatDoorSxVm
set_option linter.unusedVariables false
set_option linter.unusedSimpArgs false
namespace Go.SX
open Go.Proofs
set_option maxHeartbeats 400000000
set_option maxRecDepth 100000
theorem Ip (rows : List Int) (hl : (rows.length : Int) ≤ 9223372036854775807) : aG Tryz.prog Dc 137 [pC rows] [] (bS (bC rows)) [] := by
 refine aC Ax aF Tryz.func137 (c := _) rfl Tryz.call137 200 ?_
 (repeat' ((conv => whnf); first | (exfalso; omega) | refine x0C ?_ | refine spC (fun hb => ?_) fun hb => ?_ | refine aJ (fun hb => ?_) ?_ | refine taC ?_ | refine saC ?_ | exact sdV | refine aA ?_ ?_ | refine aB mixed ?_))
 refine bW (fun i : Nat => [(3, iS i)]) (fun _ => []) (fun i => i ≤ rows.length ∧ i ≤ 25 ∧ (rows.take i).all nM = true) (fun i => 25 - i) 0 ⟨by omega, by omega, by simp⟩ (by exact bkV) ?_
 rintro i ⟨h1, h2, h3⟩ K hK
 by_cases hc : i < rows.length ∧ i < 25
 ·have hg := getD_some (d := Cd.dflt U.int) hc.1
  cases hr : nM (rows.getD (i : Int).toNat (Cd.dflt U.int)) with
  | true =>
   have h4 := (aM _ _ _).1 hr
   have h5 : (rows.take (i + 1)).all nM = true := by
    rw [List.take_add_one, hg, List.all_append, h3]
    simpa using hr
   (repeat' ((conv => whnf); first | (exfalso; omega) | refine hK (i + 1) [some 0] _ _ ⟨⟨by omega, by omega, h5⟩⟩ ⟨by omega⟩ (by exact bkV) | refine x0C ?_ | refine spC (fun hb => ?_) fun hb => ?_ | refine aJ (fun hb => ?_) ?_ | refine taC ?_ | refine saC ?_ | exact sdV | refine aA ?_ ?_ | refine aB mixed ?_))
  | false =>
   have h4 := (Tf _ _ _).1 hr
   have ha : bC rows = false := by
    cases ha : bC rows with
    | false => rfl
    | true =>
     simp only [bC, Bool.and_eq_true] at ha
     rw [List.all_eq_true.1 ha.2 _ (List.mem_of_getElem? hg)] at hr
     cases hr
   rw [ha]
   (repeat' ((conv => whnf); first | (exfalso; omega) | refine x0C ?_ | refine spC (fun hb => ?_) fun hb => ?_ | refine aJ (fun hb => ?_) ?_ | refine taC ?_ | refine saC ?_ | exact sdV | refine aA ?_ ?_ | refine aB mixed ?_))
   all_goals exact vwV
 ·have ha : bC rows = decide ((rows.length : Int) = 24) := by
   unfold bC
   by_cases hl : rows.length = 24
   ·rw [List.take_of_length_le (by omega)] at h3
    rw [h3, Bool.and_true]
   ·rw [decide_eq_false (by omega), Bool.false_and]
  rw [ha]
  (repeat' ((conv => whnf); first | refine x0C (eB ?_ rfl) | (exfalso; omega) | refine x0C ?_ | refine spC (fun hb => ?_) fun hb => ?_ | refine aJ (fun hb => ?_) ?_ | refine taC ?_ | refine saC ?_ | exact sdV | refine aA ?_ ?_ | refine aB mixed ?_))
  all_goals rfl
def Qh (rows : List Int) (y x : Nat) : Bool := (rows.getD y 0).toNat.testBit x
theorem pA {rows : List Int} (h : bC rows = true) {y : Nat} (hy : y < 24) : nM (rows.getD y 0) = true := by
 have hlen := jQ h
 simp only [bC, Bool.and_eq_true] at h
 refine List.all_eq_true.1 h.2 _ ?_
 rw [List.getD_eq_getElem?_getD, List.getElem?_eq_getElem (by omega)]
 exact List.getElem_mem _
theorem Ht (rows : List Int) (h : bC rows = true) (y x : Nat) (hy : y < 24) (hx : x < 48) : aG Tryz.prog Dc 164 [pC rows, iS x, iS y] [] (bS (Qh rows y x)) [] := by
 have hlen := jQ h
 have hr := (aM _ _ _).1 (pA h hy)
 have hb := Uq (r := rows.getD y 0) hr.1 hx
 unfold Qh
 rw [← hb]
 refine aC Ax aF Tryz.func164 (c := _) rfl Tryz.call164 100 ?_
 (repeat' ((conv => whnf); first | refine x0C (eB ?_ rfl) | (exfalso; omega) | refine x0C ?_ | refine spC (fun hb => ?_) fun hb => ?_ | refine aJ (fun hb => ?_) ?_ | refine taC ?_ | refine saC ?_ | exact sdV | refine aA ?_ ?_ | refine aB mixed ?_))
 all_goals rfl
def fN (rows : List Int) : Nat → List Zi
 | 0 => []
 | n + 1 => if Qh rows (n / 48) (n % 48) then fN rows n ++ [⟨((n % 48 : Nat) : Int), ((n / 48 : Nat) : Int)⟩] else fN rows n
theorem Vh {rows : List Int} {y x : Nat} (hx : x < 48) (h : Qh rows y x = true) : fN rows (48 * y + x + 1) = fN rows (48 * y + x) ++ [⟨x, y⟩] := by
 rw [fN, show (48 * y + x) / 48 = y by omega, show (48 * y + x) % 48 = x by omega, if_pos h]
theorem Tm {rows : List Int} {y x : Nat} (hx : x < 48) (h : Qh rows y x = false) : fN rows (48 * y + x + 1) = fN rows (48 * y + x) := by
 rw [fN, show (48 * y + x) / 48 = y by omega, show (48 * y + x) % 48 = x by omega, h]; simp
theorem H9 (rows : List Int) : ∀ n, (fN rows n).length ≤ n
 | 0 => by simp [fN]
 | n + 1 => by
  have := H9 rows n
  rw [fN]
  split <;> simp <;> omega
theorem W5 (rows : List Int) (hl : (rows.length : Int) ≤ 9223372036854775807) : aG Tryz.prog Dc 158 [pC rows] [] (.p (.dsl U.cell (if bC rows then fN rows 1152 else []))) [] := by
 have h := Ip rows hl
 cases ha : bC rows with
 | false =>
  rw [ha] at h
  refine aC Ax aF Tryz.func158 (c := _) rfl Tryz.call158 200 ?_
  (repeat' ((conv => whnf); first | (exfalso; omega) | refine cpC (h) ?_ | refine dpC (h) ?_ | refine x0C ?_ | refine spC (fun hb => ?_) fun hb => ?_ | refine aJ (fun hb => ?_) ?_ | refine taC ?_ | refine saC ?_ | exact sdV | refine aA ?_ ?_ | refine aB mixed ?_))
  all_goals exact vwV
 | true =>
  rw [ha] at h
  refine aC Ax aF Tryz.func158 (c := _) rfl Tryz.call158 200 ?_
  (repeat' ((conv => whnf); first | (exfalso; omega) | refine cpC (h) ?_ | refine dpC (h) ?_ | refine x0C ?_ | refine spC (fun hb => ?_) fun hb => ?_ | refine aJ (fun hb => ?_) ?_ | refine taC ?_ | refine saC ?_ | exact sdV | refine aA ?_ ?_ | refine aB mixed ?_))
  refine sQ (fun y : Nat => [(3, .slice 1 0 2 0 (fN rows (48 * y)).length), (4, iS y)]) (fun y => [.var [lS rows], .rows U.cell (fN rows (48 * y))]) (fun y => y ≤ 24) (fun y => 24 - y) 0 (Nat.zero_le _) [some 0, none] (by exact bkV) ?_
  intro y hy K hK
  rcases Nat.lt_or_ge y 24 with hlt | hge
  ·(repeat' ((conv => whnf); first | (exfalso; omega) | refine x0C ?_ | refine spC (fun hb => ?_) fun hb => ?_ | refine aJ (fun hb => ?_) ?_ | refine taC ?_ | refine saC ?_ | exact sdV | refine aA ?_ ?_ | refine aB mixed ?_))
   refine sQ (fun x : Nat => [(3, .slice 1 0 2 0 (fN rows (48 * y + x)).length), (5, iS x)]) (fun x => [.var [lS rows], .rows U.cell (fN rows (48 * y + x))]) (fun x => x ≤ 48) (fun x => 48 - x) 0 (Nat.zero_le _) [some 0, some 1] (by exact bkV) ?_
   intro x hx K' hK'
   have hcl := H9 rows (48 * y + x)
   rcases Nat.lt_or_ge x 48 with hxl | hxg
   ·have hh := Ht rows ha y x hlt hxl
    cases hb : Qh rows y x with
    | true =>
     rw [hb] at hh
     have he := Vh hxl hb
     (repeat' ((conv => whnf); first | (exfalso; omega) | refine cpC (hh) ?_ | refine dpC (hh) ?_ | refine hK' (x + 1) [some 0, some 3] _ _ ⟨by omega⟩ ⟨by omega⟩ (by (dsimp only; rw [show 48 * y + (x + 1) = 48 * y + x + 1 by omega, he, List.take_length]; exact bkV)) | refine x0C ?_ | refine spC (fun hb => ?_) fun hb => ?_ | refine aJ (fun hb => ?_) ?_ | refine taC ?_ | refine saC ?_ | exact sdV | refine aA ?_ ?_ | refine aB mixed ?_))
    | false =>
     rw [hb] at hh
     have he := Tm hxl hb
     (repeat' ((conv => whnf); first | (exfalso; omega) | refine cpC (hh) ?_ | refine dpC (hh) ?_ | refine hK' (x + 1) [some 0, some 1] _ _ ⟨by omega⟩ ⟨by omega⟩ (by (dsimp only; rw [show 48 * y + (x + 1) = 48 * y + x + 1 by omega, he]; exact bkV)) | refine x0C ?_ | refine spC (fun hb => ?_) fun hb => ?_ | refine aJ (fun hb => ?_) ?_ | refine taC ?_ | refine saC ?_ | exact sdV | refine aA ?_ ?_ | refine aB mixed ?_))
   ·obtain rfl : x = 48 := by omega
    (repeat' ((conv => whnf); first | (exfalso; omega) | refine hK (y + 1) [some 0, some 1] _ _ ⟨by omega⟩ ⟨by omega⟩ (by (dsimp only; rw [show 48 * (y + 1) = 48 * y + 48 by omega]; exact bkV)) | refine x0C ?_ | refine spC (fun hb => ?_) fun hb => ?_ | refine aJ (fun hb => ?_) ?_ | refine taC ?_ | refine saC ?_ | exact sdV | refine aA ?_ ?_ | refine aB mixed ?_))
  ·obtain rfl : y = 24 := by omega
   (repeat' ((conv => whnf); first | (exfalso; omega) | refine x0C ?_ | refine spC (fun hb => ?_) fun hb => ?_ | refine aJ (fun hb => ?_) ?_ | refine taC ?_ | refine saC ?_ | exact sdV | refine aA ?_ ?_ | refine aB mixed ?_))
   all_goals exact vwV
theorem H4 (rows : List Int) (hl : (rows.length : Int) ≤ 9223372036854775807) : aG Tryz.prog Dc 149 [pC rows] [] (iS (if bC rows then (fN rows 1152).length else 0)) [] := by
 have h := W5 rows hl
 cases ha : bC rows with
 | false =>
  rw [ha] at h
  refine aC Ax aF Tryz.func149 (c := _) rfl Tryz.call149 60 ?_
  (repeat' ((conv => whnf); first | refine x0C (eI ?_ rfl) | refine cpC (h) ?_ | refine dpC (h) ?_ | refine x0C ?_ | refine spC (fun hb => ?_) fun hb => ?_ | refine aJ (fun hb => ?_) ?_ | refine taC ?_ | refine saC ?_ | exact sdV | refine aA ?_ ?_ | refine aB mixed ?_))
  all_goals rfl
 | true =>
  rw [ha] at h
  refine aC Ax aF Tryz.func149 (c := _) rfl Tryz.call149 60 ?_
  (repeat' ((conv => whnf); first | refine x0C (eI ?_ rfl) | refine cpC (h) ?_ | refine dpC (h) ?_ | refine x0C ?_ | refine spC (fun hb => ?_) fun hb => ?_ | refine aJ (fun hb => ?_) ?_ | refine taC ?_ | refine saC ?_ | exact sdV | refine aA ?_ ?_ | refine aB mixed ?_))
  all_goals rfl
theorem I3 {rows : List Int} : ∀ n : Nat, (0 < (fN rows n).length ↔ ∃ k, k < n ∧ Qh rows (k / 48) (k % 48) = true)
 | 0 => by simp [fN]
 | n + 1 => by
  have ih := I3 (rows := rows) n
  rw [fN]
  split
  ·rename_i h
   simp only [List.length_append, List.length_cons, List.length_nil]
   exact ⟨fun _ => ⟨n, by omega, h⟩, fun _ => by omega⟩
  ·rename_i h
   rw [ih]
   constructor
   ·rintro ⟨k, h1, h2⟩; exact ⟨k, by omega, h2⟩
   ·rintro ⟨k, h1, h2⟩
    by_cases hk : k = n
    ·subst hk; exact absurd h2 h
    ·exact ⟨k, by omega, h2⟩
theorem Pw {m : Nat} (hm : m < 2 ^ 48) : m ≠ 0 ↔ ∃ x, x < 48 ∧ m.testBit x = true := by
 constructor
 ·intro h
  obtain ⟨x, hx⟩ := Nat.exists_testBit_of_ne_zero h
  refine ⟨x, ?_, hx⟩
  rcases Nat.lt_or_ge x 48 with h1 | h1
  ·exact h1
  ·rw [Nat.testBit_lt_two_pow (Nat.lt_of_lt_of_le hm (Nat.pow_le_pow_right (by omega) h1))] at hx; cases hx
 ·rintro ⟨x, _, hx⟩ h
  subst h; simp at hx
theorem Fh {rows : List Int} (h : bC rows = true) : decide (0 < ((fN rows 1152).length : Int)) = rows.any (fun r => decide (r ≠ 0)) := by
 have hlen := jQ h
 rw [Bool.eq_iff_iff, decide_eq_true_iff, List.any_eq_true]
 have := I3 (rows := rows) 1152
 rw [show (0 < ((fN rows 1152).length : Int)) ↔ 0 < (fN rows 1152).length by omega, this]
 constructor
 ·rintro ⟨k, h1, h2⟩
  have hy : k / 48 < 24 := by omega
  have hr := (aM _ _ _).1 (pA h hy)
  refine ⟨rows.getD (k / 48) 0, ?_, ?_⟩
  ·rw [List.getD_eq_getElem?_getD, List.getElem?_eq_getElem (by omega)]; exact List.getElem_mem _
  ·have := (Pw (m := (rows.getD (k / 48) 0).toNat) (by omega)).2 ⟨k % 48, by omega, h2⟩
   simp only [decide_eq_true_eq]
   omega
 ·rintro ⟨r, h1, h2⟩
  obtain ⟨y, hy, rfl⟩ := List.getElem_of_mem h1
  have hr := (aM _ _ _).1 (pA h (show y < 24 by omega))
  have e : rows.getD y 0 = rows[y] := by rw [List.getD_eq_getElem?_getD, List.getElem?_eq_getElem hy]; rfl
  rw [e] at hr
  simp only [decide_eq_true_eq] at h2
  obtain ⟨x, hx, hb⟩ := (Pw (m := (rows[y]).toNat) (by omega)).1 (by omega)
  refine ⟨48 * y + x, by omega, ?_⟩
  rw [show (48 * y + x) / 48 = y by omega, show (48 * y + x) % 48 = x by omega]
  unfold Qh
  rw [e]; exact hb
theorem Q4 (f t : Int) : aG Tryz.prog Dc 150 [.agg [iS f, iS t]] [] (bS (rL f t)) [] := by
 have h1 := Y1 f 0 1000000
 have h2 := Y1 t 0 1000000
 refine aC Ax aF Tryz.func150 (c := _) rfl Tryz.call150 100 ?_
 (repeat' ((conv => whnf); first | refine x0C (eB ?_ rfl) | refine cpC (h1) ?_ | refine dpC (h1) ?_ | refine cpC (h2) ?_ | refine dpC (h2) ?_ | refine x0C ?_ | refine spC (fun hb => ?_) fun hb => ?_ | refine aJ (fun hb => ?_) ?_ | refine taC ?_ | refine saC ?_ | exact sdV | refine aA ?_ ?_ | refine aB mixed ?_))
 all_goals clear h1 h2
 all_goals (first | (simp_all [rL]; done) | (simp_all [rL]; omega) | (simp_all [rL]; grind))
theorem P0 (g : aK) (most : Int) : aG Tryz.prog Dc 152 [aP g, iS most] [] (bS (Gx g most)) [] := by
 have h1 := Y1 (g.kids.getD (0 : Int).toNat (Cd.dflt U.goal)).kind 1 most
 refine aC Ax aF Tryz.func152 (c := _) rfl Tryz.call152 100 ?_
 unfold Gx
 (repeat' ((conv => whnf); first | refine x0C (eB ?_ rfl) | (exfalso; omega) | refine cpC (h1) ?_ | refine dpC (h1) ?_ | refine x0C ?_ | refine spC (fun hb => ?_) fun hb => ?_ | refine aJ (fun hb => ?_) ?_ | refine taC ?_ | refine saC ?_ | exact sdV | refine aA ?_ ?_ | refine aB mixed ?_))
 ·rw [decide_eq_true (by assumption), Bool.true_and]; rfl
 ·rw [decide_eq_false (by assumption), Bool.false_and]
theorem gH (g own : aK) (a c : Bool) : aG Tryz.prog Dc 148 [aP g, aP own, bS a, bS c] [] (bS (gM g own a c)) [] := by
 refine aC Ax aF Tryz.func148 (c := _) rfl Tryz.call148 200 ?_
 (repeat' ((conv => whnf); first | refine x0C (eB ?_ rfl) | refine x0C ?_ | refine spC (fun hb => ?_) fun hb => ?_ | refine aJ (fun hb => ?_) ?_ | refine taC ?_ | refine saC ?_ | exact sdV | refine aA ?_ ?_ | refine aB mixed ?_))
 all_goals (first | (simp_all [gM]; done) | (simp_all [gM]; omega) | (simp_all [gM]; grind))
@[reducible] def Qe (f t lo hi : Int) (cl : Bool) (d tm w : Int) : aK := ⟨0, [], f, t, lo, hi, cl, d, tm, w, [], []⟩
theorem Dx (g : aK) (hg : Fu g) : aG Tryz.prog Dc 135 [aP g] [] (bS (iP g)) [] := by
 obtain ⟨hl1, hl2, hl3⟩ := hg
 have b1 := gH g (Qe g.from_ g.to_ g.low g.high g.clear 0 0 0) true false
 have b2 := gH g (Qe 0 0 g.low 0 false 0 0 g.within) false false
 have b3 := gH g (Qe g.from_ 0 0 0 false g.days g.times g.within) false false
 have b4 := gH g (Qe 0 0 0 0 false 0 0 g.within) false false
 have b5 := gH g (Qe 0 0 0 0 false 0 0 0) false false
 have b6 := gH g (Qe 0 0 0 0 false 0 0 0) false true
 have o1 := P0 g 1
 have o3 := P0 g 3
 have h0 := Ip g.rows hl1
 have h1 := H4 g.rows hl1
 have h2 := Q4 g.from_ g.to_
 have h4 := Y1 g.low 0 90
 have h5 := Y1 g.high g.low 90
 have h6 := Y1 g.low 1 8
 have h7 := Y1 g.within 1 1000000
 have h8 := Y1 g.days 1 60
 have h9 := Y1 g.times 1 6
 have ha1 := Y1 g.within 0 (1440 * g.days)
 have ha2 := Y1 g.within 0 1000000
 have ha3 := Y1 g.from_ 0 1000000
 have ha4 := Y1 g.kids.length 2 4
 have i2 := fun h => (aM g.days 1 60).1 h
 have hcp : bC g.rows = true → decide (0 < (if bC g.rows then ((fN g.rows 1152).length : Int) else 0)) = g.rows.any (fun r => decide (r ≠ 0)) := fun h => by rw [h, if_pos rfl]; exact Fh h
 by_cases hk : g.kind = 6
 ·unfold iP
  rw [if_neg (by omega), if_neg (by omega), if_neg (by omega), if_neg (by omega), if_neg (by omega), if_pos hk]
  clear b1 b2 b3 b4 b5 o1 o3 h0 h1 h2 h4 h5 h6 h7 h8 h9 ha1 ha2 ha3 hcp
  dsimp only [Qe] at b6
  generalize gM g _ _ _ = x6 at b6 ⊢
  refine aC Ax aF Tryz.func135 (c := _) rfl Tryz.call135 400 ?_
  (repeat' ((conv => whnf); first | refine x0C (eB ?_ rfl) | (exfalso; omega) | refine x0C ?_ | refine spC (fun hb => ?_) fun hb => ?_ | refine aJ (fun hb => ?_) ?_ | refine taC ?_ | refine saC ?_ | exact sdV | refine aA ?_ ?_ | refine aB mixed ?_))
  refine bW (fun i : Nat => [(4, iS i)]) (fun _ => []) (fun i => i ≤ g.cents.length ∧ (g.cents.take i).all (fun n => inB n 0 1000000000) = true) (fun i => g.cents.length - i) 0 ⟨by omega, by simp⟩ (by exact bkV) ?_
  rintro i ⟨c1, c3⟩ K hK
  rcases Nat.lt_or_ge i g.cents.length with hlt | hge
  ·have hg := getD_some (d := Cd.dflt U.int) hlt
   have hx := Y1 (g.cents.getD (i : Int).toNat (Cd.dflt U.int)) 0 1000000000
   cases hr : inB (g.cents.getD (i : Int).toNat (Cd.dflt U.int)) 0 1000000000 with
   | true =>
    rw [hr] at hx
    have c5 : (g.cents.take (i + 1)).all (fun n => inB n 0 1000000000) = true := by
     rw [List.take_add_one, hg, List.all_append, c3]
     simpa using hr
    (repeat' ((conv => whnf); first | (exfalso; omega) | refine cpC (hx) ?_ | refine dpC (hx) ?_ | refine hK (i + 1) [some 0, some 1] _ _ ⟨⟨by omega, c5⟩⟩ ⟨by omega⟩ (by exact bkV) | refine x0C ?_ | refine spC (fun hb => ?_) fun hb => ?_ | refine aJ (fun hb => ?_) ?_ | refine taC ?_ | refine saC ?_ | exact sdV | refine aA ?_ ?_ | refine aB mixed ?_))
   | false =>
    rw [hr] at hx
    have ha : g.cents.all (fun n => inB n 0 1000000000) = false := by
     rw [List.all_eq_false]
     exact ⟨_, List.mem_of_getElem? hg, by rw [hr]; simp⟩
    rw [ha]
    (repeat' ((conv => whnf); first | refine x0C (eB ?_ rfl) | (exfalso; omega) | refine cpC (hx) ?_ | refine dpC (hx) ?_ | refine x0C ?_ | refine spC (fun hb => ?_) fun hb => ?_ | refine aJ (fun hb => ?_) ?_ | refine taC ?_ | refine saC ?_ | exact sdV | refine aA ?_ ?_ | refine aB mixed ?_))
    all_goals rfl
  ·rw [List.take_of_length_le hge] at c3
   rw [c3]
   (repeat' ((conv => whnf); first | refine x0C (eB ?_ rfl) | (exfalso; omega) | refine rdC (b6) ?_ | refine cpC (ha4) ?_ | refine dpC (ha4) ?_ | refine x0C ?_ | refine spC (fun hb => ?_) fun hb => ?_ | refine aJ (fun hb => ?_) ?_ | refine taC ?_ | refine saC ?_ | exact sdV | refine aA ?_ ?_ | refine aB mixed ?_))
   all_goals clear b6 ha4
   all_goals (first | (simp_all []; done) | (simp_all []; omega) | (simp_all []; grind))
 ·unfold iP
  generalize (if bC g.rows then ((fN g.rows 1152).length : Int) else 0) = n at *
  generalize bC g.rows = ar at *
  generalize (g.rows.any fun r => decide (r ≠ 0)) = nz at *
  dsimp only [Qe] at b1 b2 b3 b4 b5
  generalize gM g _ _ _ = x1 at b1 ⊢
  generalize gM g _ _ _ = x2 at b2 ⊢
  generalize gM g _ _ _ = x3 at b3 ⊢
  generalize gM g _ _ _ = x4 at b4 ⊢
  generalize gM g _ _ _ = x5 at b5 ⊢
  generalize Gx g 1 = y1 at *
  generalize Gx g 3 = y3 at *
  generalize rL g.from_ g.to_ = sp at *
  refine aC Ax aF Tryz.func135 (c := _) rfl Tryz.call135 400 ?_
  (repeat' ((conv => whnf); first | refine x0C (eB ?_ rfl) | (exfalso; omega) | (have := i2 (by assumption); refine saC ?_) | refine rdC (b1) ?_ | refine rdC (b2) ?_ | refine rdC (b3) ?_ | refine rdC (b4) ?_ | refine rdC (b5) ?_ | refine cpC (o1) ?_ | refine dpC (o1) ?_ | refine cpC (o3) ?_ | refine dpC (o3) ?_ | refine cpC (h0) ?_ | refine dpC (h0) ?_ | refine cpC (h1) ?_ | refine dpC (h1) ?_ | refine cpC (h2) ?_ | refine dpC (h2) ?_ | refine cpC (h4) ?_ | refine dpC (h4) ?_ | refine cpC (h5) ?_ | refine dpC (h5) ?_ | refine cpC (h6) ?_ | refine dpC (h6) ?_ | refine cpC (h7) ?_ | refine dpC (h7) ?_ | refine cpC (h8) ?_ | refine dpC (h8) ?_ | refine cpC (h9) ?_ | refine dpC (h9) ?_ | refine cpC (ha1) ?_ | refine dpC (ha1) ?_ | refine cpC (ha2) ?_ | refine dpC (ha2) ?_ | refine cpC (ha3) ?_ | refine dpC (ha3) ?_ | refine cpC (ha4) ?_ | refine dpC (ha4) ?_ | refine x0C ?_ | refine spC (fun hb => ?_) fun hb => ?_ | refine aJ (fun hb => ?_) ?_ | refine taC ?_ | refine saC ?_ | exact sdV | refine aA ?_ ?_ | refine aB mixed ?_))
  all_goals clear b1 b2 b3 b4 b5 b6 o1 o3 h0 h1 h2 h4 h5 h6 h7 h8 h9 ha1 ha2 ha3 ha4
  all_goals (first | (simp_all []; done) | (simp_all []; omega) | (simp_all []; grind))
theorem yX : ∀ (l : List aK) (k : List aK) (d n : Int), cntL (l ++ k) d n = cntL k d (cntL l d n)
 | [], k, d, n => by simp [cntL]
 | x :: l, k, d, n => by
  simp only [List.cons_append, cntL]
  split
  ·exact yX l k d _
  ·rw [Bw k d n (by omega)]
theorem Y9 : ∀ (j : Nat) (g : aK) (d : Int), 5 ≤ d + j → F7 g d ≤ 13 + 12 * j
 | j, g, d, hj => by
  rw [sX]
  split
  ·omega
  ·rename_i hc
   simp only [Bool.or_eq_true, decide_eq_true_eq, not_or] at hc
   cases j with
   | zero => omega
   | succ j =>
    have key : ∀ (l : List aK) (n : Int), n ≤ 12 + (13 + 12 * j) → cntL l (d + 1) n ≤ 12 + (13 + 12 * j) := by
     intro l
     induction l with
     | nil => intro n hn; rw [cntL]; exact hn
     | cons k l ih =>
      intro n hn
      rw [cntL]
      split
      ·have := Y9 j k (d + 1) (by omega)
       exact ih _ (by omega)
      ·exact hn
    have := key g.kids 1 (by omega)
    omega
theorem Ue : ∀ (j : Nat) (g : aK) (d : Int), d + j = 5 → 1 ≤ d → oN g → aG Tryz.prog Dc 108 [aP g, iS d] [] (iS (F7 g d)) [] := by
 intro j
 induction j with
 | zero =>
  intro g d hj hd hG
  rw [show F7 g d = 13 by rw [sX]; simp; omega]
  refine aC Ax aF Tryz.func108 (c := _) rfl Tryz.call108 400 ?_
  (repeat' ((conv => whnf); first | refine x0C (eI ?_ rfl) | (exfalso; omega) | refine x0C ?_ | refine spC (fun hb => ?_) fun hb => ?_ | refine aJ (fun hb => ?_) ?_ | refine taC ?_ | refine saC ?_ | exact sdV | refine aA ?_ ?_ | refine aB mixed ?_))
  all_goals rfl
 | succ j ih =>
  intro g d hj hd hG
  have hgl := ((dF g).1 hG).1
  have hkl := hgl.kids
  have hkk := ((dF g).1 hG).2
  have h1 := Dx g hgl
  rw [sX, show decide (4 < d) = false by simp; omega, Bool.false_or]
  cases hok : iP g with
  | false =>
   rw [hok] at h1
   refine aC Ax aF Tryz.func108 (c := _) rfl Tryz.call108 400 ?_
   (repeat' ((conv => whnf); first | refine x0C (eI ?_ rfl) | (exfalso; omega) | refine cpC (h1) ?_ | refine dpC (h1) ?_ | refine x0C ?_ | refine spC (fun hb => ?_) fun hb => ?_ | refine aJ (fun hb => ?_) ?_ | refine taC ?_ | refine saC ?_ | exact sdV | refine aA ?_ ?_ | refine aB mixed ?_))
   all_goals rfl
  | true =>
   rw [hok] at h1
   simp only [Bool.not_true]
   refine aC Ax aF Tryz.func108 (c := _) rfl Tryz.call108 400 ?_
   (repeat' ((conv => whnf); first | (exfalso; omega) | refine cpC (h1) ?_ | refine dpC (h1) ?_ | refine x0C ?_ | refine spC (fun hb => ?_) fun hb => ?_ | refine aJ (fun hb => ?_) ?_ | refine taC ?_ | refine saC ?_ | exact sdV | refine aA ?_ ?_ | refine aB mixed ?_))
   clear h1
   refine bW (fun i : Nat => [(5, iS (cntL (g.kids.take i) (d + 1) 1)), (6, iS i)]) (fun _ => []) (fun i => i ≤ g.kids.length) (fun i => g.kids.length - i) 0 (Nat.zero_le _) (by exact bkV) ?_
   intro i hi K hK
   have hpos := cntL_pos (g.kids.take i) (d + 1) 1 (by omega)
   have happ := yX (g.kids.take i) (g.kids.drop i) (d + 1) 1
   rw [List.take_append_drop] at happ
   rcases Nat.lt_or_ge i g.kids.length with hlt | hge
   ·have hg := getD_some (d := Cd.dflt U.goal) hlt
    have hx := ih _ (d + 1) (by omega) (by omega) (fM hkk (List.mem_of_getElem? hg))
    have ht : g.kids.take (i + 1) = g.kids.take i ++ [g.kids.getD (i : Int).toNat (Cd.dflt U.goal)] := by rw [List.take_add_one, hg]; rfl
    have hs := yX (g.kids.take i) [g.kids.getD (i : Int).toNat (Cd.dflt U.goal)] (d + 1) 1
    rw [← ht] at hs
    have hm := Y9 j (g.kids.getD (i : Int).toNat (Cd.dflt U.goal)) (d + 1) (by omega)
    have hp := oW (g.kids.getD (i : Int).toNat (Cd.dflt U.goal)) (d + 1)
    generalize cntL (g.kids.take i) (d + 1) 1 = n at *
    by_cases hn : n ≤ 12
    ·rw [cntL, if_pos hn, cntL] at hs
     (repeat' ((conv => whnf); first | (exfalso; omega) | refine cpC (hx) ?_ | refine dpC (hx) ?_ | refine hK (i + 1) [some 0] _ _ ⟨by omega⟩ ⟨by omega⟩ (by (dsimp only; rw [hs]; exact bkV)) | refine x0C ?_ | refine spC (fun hb => ?_) fun hb => ?_ | refine aJ (fun hb => ?_) ?_ | refine taC ?_ | refine saC ?_ | exact sdV | refine aA ?_ ?_ | refine aB mixed ?_))
    ·rw [Bw (g.kids.drop i) (d + 1) n (by omega)] at happ
     rw [happ]
     (repeat' ((conv => whnf); first | refine x0C (eI ?_ rfl) | (exfalso; omega) | refine x0C ?_ | refine spC (fun hb => ?_) fun hb => ?_ | refine aJ (fun hb => ?_) ?_ | refine taC ?_ | refine saC ?_ | exact sdV | refine aA ?_ ?_ | refine aB mixed ?_))
     all_goals rfl
   ·rw [List.drop_of_length_le hge, cntL] at happ
    rw [happ]
    generalize cntL (g.kids.take i) (d + 1) 1 = n at *
    (repeat' ((conv => whnf); first | refine x0C (eI ?_ rfl) | (exfalso; omega) | refine x0C ?_ | refine spC (fun hb => ?_) fun hb => ?_ | refine aJ (fun hb => ?_) ?_ | refine taC ?_ | refine saC ?_ | exact sdV | refine aA ?_ ?_ | refine aB mixed ?_))
    all_goals rfl
theorem Rx (g : aK) (hG : oN g) : aG Tryz.prog Dc 73 [aP g] [] (bS (cA g)) [] := by
 have h := Ue 4 g 1 (by omega) (by omega) hG
 rw [Jy]
 refine aC Ax aF Tryz.func73 (c := _) rfl Tryz.call73 60 ?_
 (repeat' ((conv => whnf); first | refine x0C (eB ?_ rfl) | refine cpC (h) ?_ | refine dpC (h) ?_ | refine x0C ?_ | refine spC (fun hb => ?_) fun hb => ?_ | refine aJ (fun hb => ?_) ?_ | refine taC ?_ | refine saC ?_ | exact sdV | refine aA ?_ ?_ | refine aB mixed ?_))
 all_goals rfl
def Jo (fn : Int → Int → Int) (a b : List Int) (i : Nat) : List Int := (List.range 24).map fun y => if y < i then fn (a.getD y 0) (b.getD y 0) else 0
def La (fn : Int → Int → Int) (a b : List Int) : List Int := (List.range 24).map fun y => fn (a.getD y 0) (b.getD y 0)
theorem Mv (fn : Int → Int → Int) (a b : List Int) (i : Nat) : (Jo fn a b i).length = 24 := by simp [Jo]
theorem Ha (fn : Int → Int → Int) (a b : List Int) : Jo fn a b 0 = List.replicate 24 0 := by simp [Jo]; rfl
theorem Ky (fn : Int → Int → Int) (a b : List Int) : Jo fn a b 24 = La fn a b := by
 unfold Jo La
 refine List.map_congr_left fun y hy => ?_
 rw [if_pos (List.mem_range.1 hy)]
theorem Tt (f g : Nat → Int) {n i : Nat} (hi : i < n) (h : ∀ y, y < n → y ≠ i → f y = g y) : ((List.range n).map f).set i (g i) = (List.range n).map g := by
 refine List.ext_getElem (by simp) fun j h1 h2 => ?_
 simp only [List.length_set, List.length_map, List.length_range] at h1
 rw [List.getElem_set]
 split
 ·rename_i e; subst e; simp
 ·rename_i e; simp; exact h j h1 (Ne.symm e)
theorem Lk (fn : Int → Int → Int) (a b : List Int) {i : Nat} (hi : i < 24) : (Jo fn a b i).set i (fn (a.getD i 0) (b.getD i 0)) = Jo fn a b (i + 1) := by
 have := Tt (fun y => if y < i then fn (a.getD y 0) (b.getD y 0) else 0) (fun y => if y < i + 1 then fn (a.getD y 0) (b.getD y 0) else 0) hi (fun y hy hne => by
  by_cases h : y < i
  ·rw [if_pos h, if_pos (by omega)]
  ·rw [if_neg h, if_neg (by omega)])
 rw [if_pos (by omega)] at this
 exact this
theorem V9 : aG Tryz.prog Dc 147 [] [] (.agg [.slice 0 0 1 0 24]) [.rows U.int (List.replicate 24 0)] := by
 refine aC Ax aF Tryz.func147 (c := _) rfl Tryz.call147 60 ?_
 (repeat' ((conv => whnf); first | (exfalso; omega) | exact enC [some 1] | refine x0C ?_ | refine spC (fun hb => ?_) fun hb => ?_ | refine aJ (fun hb => ?_) ?_ | refine taC ?_ | refine saC ?_ | exact sdV | refine aA ?_ ?_ | refine aB mixed ?_))
theorem T7 {f : FuncId} (fn : Int → Int → Int) (hf : ∀ p q, aG Tryz.prog Dc f [iS p, iS q] [] (iS (fn p q)) []) (a b : List Int) (ha : (a.length : Int) ≤ 9223372036854775807) (hb : (b.length : Int) ≤ 9223372036854775807) :
  aG Tryz.prog Dc 133 [pC a, pC b, .fn (.func f) [] []] [] (.tuple [pC (if bC a && bC b then La fn a b else []), iS (if bC a && bC b then 0 else 50)]) [] := by
 have h1 := yM a ha
 have h2 := yM b hb
 have h3 := V9
 cases hva : bC a with
 | false =>
  rw [hva] at h1
  refine aC Ax aF Tryz.func133 (c := _) rfl Tryz.call133 200 ?_
  (repeat' ((conv => whnf); first | (exfalso; omega) | refine cpC (h1) ?_ | refine dpC (h1) ?_ | refine cpC (h2) ?_ | refine dpC (h2) ?_ | refine x0C ?_ | refine spC (fun hb => ?_) fun hb => ?_ | refine aJ (fun hb => ?_) ?_ | refine taC ?_ | refine saC ?_ | exact sdV | refine aA ?_ ?_ | refine aB mixed ?_))
  all_goals exact vwV
 | true =>
  cases hvb : bC b with
  | false =>
   rw [hva] at h1
   rw [hvb] at h2
   refine aC Ax aF Tryz.func133 (c := _) rfl Tryz.call133 200 ?_
   (repeat' ((conv => whnf); first | (exfalso; omega) | refine cpC (h1) ?_ | refine dpC (h1) ?_ | refine cpC (h2) ?_ | refine dpC (h2) ?_ | refine x0C ?_ | refine spC (fun hb => ?_) fun hb => ?_ | refine aJ (fun hb => ?_) ?_ | refine taC ?_ | refine saC ?_ | exact sdV | refine aA ?_ ?_ | refine aB mixed ?_))
   all_goals exact vwV
  | true =>
   rw [hva] at h1
   rw [hvb] at h2
   simp only [Bool.and_self, if_true]
   have l1 := jQ hva
   have l2 := jQ hvb
   refine aC Ax aF Tryz.func133 (c := _) rfl Tryz.call133 200 ?_
   (repeat' ((conv => whnf); first | (exfalso; omega) | refine cpC (h1) ?_ | refine dpC (h1) ?_ | refine cpC (h2) ?_ | refine dpC (h2) ?_ | refine chC [] h3 ?_ | refine x0C ?_ | refine spC (fun hb => ?_) fun hb => ?_ | refine aJ (fun hb => ?_) ?_ | refine taC ?_ | refine saC ?_ | exact sdV | refine aA ?_ ?_ | refine aB mixed ?_))
   refine bW (fun i : Nat => [(23, iS i)]) (fun i => [(3, .rows U.int (Jo fn a b i))]) (fun i => i ≤ 24) (fun i => 24 - i) 0 (Nat.zero_le _) (by (rw [Ha]; exact bkV)) ?_
   intro i hi K hK
   have hz := Mv fn a b i
   rcases Nat.lt_or_ge i 24 with hlt | hge
   ·have hx := hf (a.getD (i : Int).toNat (Cd.dflt U.int)) (b.getD (i : Int).toNat (Cd.dflt U.int))
    have hs : (Jo fn a b i).set (0 + (i : Int).toNat) (fn (a.getD (i : Int).toNat (Cd.dflt U.int)) (b.getD (i : Int).toNat (Cd.dflt U.int))) = Jo fn a b (i + 1) := by
     rw [Nat.zero_add]; exact Lk fn a b hlt
    (repeat' ((conv => whnf); first | (exfalso; omega) | refine cpC (hx) ?_ | refine dpC (hx) ?_ | refine hK (i + 1) [some 0, some 1, some 2, some 3, some 4] _ _ ⟨by omega⟩ ⟨by omega⟩ (by (dsimp only; rw [← hs]; exact bkV)) | refine x0C ?_ | refine spC (fun hb => ?_) fun hb => ?_ | refine aJ (fun hb => ?_) ?_ | refine taC ?_ | refine saC ?_ | exact sdV | refine aA ?_ ?_ | refine aB mixed ?_))
   ·obtain rfl : i = 24 := by omega
    rw [Ky] at hz ⊢
    (repeat' ((conv => whnf); first | (exfalso; omega) | refine x0C ?_ | refine spC (fun hb => ?_) fun hb => ?_ | refine aJ (fun hb => ?_) ?_ | refine taC ?_ | refine saC ?_ | exact sdV | refine aA ?_ ?_ | refine aB mixed ?_))
    all_goals exact vwV
theorem q0b (p q : Int) : aG Tryz.prog Dc 134 [iS p, iS q] [] (iS (bL .andNot .i64 p q)) [] := by
 refine aC Ax aF Tryz.func134 (c := _) rfl Tryz.call134 60 ?_
 (repeat' ((conv => whnf); first | refine x0C (eI ?_ rfl) | refine x0C ?_ | refine spC (fun hb => ?_) fun hb => ?_ | refine aJ (fun hb => ?_) ?_ | refine taC ?_ | refine saC ?_ | exact sdV | refine aA ?_ ?_ | refine aB mixed ?_))
 all_goals rfl
def Yr (p q : Int) : Int := bL .andNot .i64 p q
theorem Eb (a b : List Int) (ha : (a.length : Int) ≤ 9223372036854775807) (hb : (b.length : Int) ≤ 9223372036854775807) :
  aG Tryz.prog Dc 106 [pC a, pC b] [] (.tuple [pC (if bC a && bC b then La Yr a b else []), iS (if bC a && bC b then 0 else 50)]) [] := by
 have h := T7 (f := 134) Yr q0b a b ha hb
 refine aC Ax aF Tryz.func106 (c := _) rfl Tryz.call106 60 ?_
 (repeat' ((conv => whnf); first | refine cpC (h) ?_ | refine dpC (h) ?_ | refine x0C ?_ | refine spC (fun hb => ?_) fun hb => ?_ | refine aJ (fun hb => ?_) ?_ | refine taC ?_ | refine saC ?_ | exact sdV | refine aA ?_ ?_ | refine aB mixed ?_))
 all_goals exact vwV
theorem Rm (a b : List Int) (ha : bC a = true) (hb : bC b = true) : decide (La Yr b a = List.replicate 24 0) = O3 a b := by
 unfold O3
 rw [ha, hb, Bool.true_and, Bool.true_and, Bool.eq_iff_iff, decide_eq_true_iff, List.all_eq_true]
 have e : La Yr b a = (List.range 24).map fun y => (wN (b.getD y 0) (a.getD y 0) : Int) := by
  unfold La
  refine List.map_congr_left fun y hy => ?_
  exact Du (pA hb (List.mem_range.1 hy)) (pA ha (List.mem_range.1 hy))
 rw [e]
 have e2 : List.replicate 24 (0 : Int) = (List.range 24).map fun _ => (0 : Int) := rfl
 rw [e2]
 constructor
 ·intro h y hy
  have := List.map_inj_left.1 h y hy
  simp only [decide_eq_true_eq]
  have h2 : wN (b.getD y 0) (a.getD y 0) = 0 := by simpa using this
  exact h2
 ·intro h
  refine List.map_congr_left fun y hy => ?_
  have := h y hy
  simp only [decide_eq_true_eq] at this
  have h2 : wN (b.getD y 0) (a.getD y 0) = 0 := this
  show ((wN (b.getD y 0) (a.getD y 0) : Nat) : Int) = 0
  rw [h2]; rfl
theorem mP (a b : List Int) (ha : (a.length : Int) ≤ 9223372036854775807) (hb : (b.length : Int) ≤ 9223372036854775807) : aG Tryz.prog Dc 68 [pC a, pC b] [] (bS (O3 a b)) [] := by
 have h := Eb b a hb ha
 cases hva : bC a with
 | false =>
  rw [hva, Bool.and_false] at h
  rw [show O3 a b = false by unfold O3; rw [hva]; rfl]
  refine aC Ax aF Tryz.func68 (c := _) rfl Tryz.call68 100 ?_
  (repeat' ((conv => whnf); first | refine x0C (eB ?_ rfl) | (exfalso; omega) | refine cpC (h) ?_ | refine dpC (h) ?_ | refine x0C ?_ | refine spC (fun hb => ?_) fun hb => ?_ | refine aJ (fun hb => ?_) ?_ | refine taC ?_ | refine saC ?_ | exact sdV | refine aA ?_ ?_ | refine aB mixed ?_))
  all_goals rfl
 | true =>
  cases hvb : bC b with
  | false =>
   rw [hvb, Bool.false_and] at h
   rw [show O3 a b = false by unfold O3; rw [hvb, Bool.and_false]; rfl]
   refine aC Ax aF Tryz.func68 (c := _) rfl Tryz.call68 100 ?_
   (repeat' ((conv => whnf); first | refine x0C (eB ?_ rfl) | (exfalso; omega) | refine cpC (h) ?_ | refine dpC (h) ?_ | refine x0C ?_ | refine spC (fun hb => ?_) fun hb => ?_ | refine aJ (fun hb => ?_) ?_ | refine taC ?_ | refine saC ?_ | exact sdV | refine aA ?_ ?_ | refine aB mixed ?_))
   all_goals rfl
  | true =>
   rw [hva, hvb] at h
   rw [← Rm a b hva hvb]
   simp only [Bool.and_self, if_true] at h
   refine aC Ax aF Tryz.func68 (c := _) rfl Tryz.call68 100 ?_
   have hz : (La Yr b a).length = 24 := by simp [La]
   (repeat' ((conv => whnf); first | refine x0C (eB ?_ rfl) | (exfalso; omega) | refine cpC (h) ?_ | refine dpC (h) ?_ | refine x0C ?_ | refine spC (fun hb => ?_) fun hb => ?_ | refine aJ (fun hb => ?_) ?_ | refine taC ?_ | refine saC ?_ | exact sdV | refine aA ?_ ?_ | refine aB mixed ?_))
   exact Bool.and_true _
def jM (e : aD) : Prop := (e.rows.length : Int) ≤ 9223372036854775807
@[reducible] def eS (l : List aD) : SV Cd := .p (.dsl U.event l)
theorem Kp (e : aD) (he : jM e) : aG Tryz.prog Dc 35 [evA e] [] (bS (eJ e)) [] := by
 have h1 := tin e.at_ 0 1000000
 have h2 := tin e.image 0 999
 have h3 := tin e.sun (-90) 90
 have h4 := tin e.look (-4) 4
 have h5 := yM e.rows he
 refine aC Ax aF Tryz.func35 (c := _) rfl Tryz.call35 200 ?_
 (repeat' ((conv => whnf); first | refine x0C (eB ?_ rfl) | (exfalso; omega) | refine cpC (h1) ?_ | refine dpC (h1) ?_ | refine cpC (h2) ?_ | refine dpC (h2) ?_ | refine cpC (h3) ?_ | refine dpC (h3) ?_ | refine cpC (h4) ?_ | refine dpC (h4) ?_ | refine cpC (h5) ?_ | refine dpC (h5) ?_ | refine x0C ?_ | refine spC (fun hb => ?_) fun hb => ?_ | refine aJ (fun hb => ?_) ?_ | refine taC ?_ | refine saC ?_ | exact sdV | refine aA ?_ ?_ | refine aB mixed ?_))
 all_goals clear h1 h2 h3 h4 h5
 all_goals (first | (simp_all [eJ]; done) | (simp_all [eJ]; omega) | (simp_all [eJ]; grind))
theorem Rc (e : aD) (he : jM e) : aG Tryz.prog Dc 109 [evA e] [] (bS (eJ e)) [] := by
 have h1 := Zd e.at_ 0 1000000
 have h2 := Zd e.image 0 999
 have h3 := Zd e.sun (-90) 90
 have h4 := Zd e.look (-4) 4
 have h5 := Ip e.rows he
 refine aC Ax aF Tryz.func109 (c := _) rfl Tryz.call109 200 ?_
 (repeat' ((conv => whnf); first | refine x0C (eB ?_ rfl) | (exfalso; omega) | refine cpC (h1) ?_ | refine dpC (h1) ?_ | refine cpC (h2) ?_ | refine dpC (h2) ?_ | refine cpC (h3) ?_ | refine dpC (h3) ?_ | refine cpC (h4) ?_ | refine dpC (h4) ?_ | refine cpC (h5) ?_ | refine dpC (h5) ?_ | refine x0C ?_ | refine spC (fun hb => ?_) fun hb => ?_ | refine aJ (fun hb => ?_) ?_ | refine taC ?_ | refine saC ?_ | exact sdV | refine aA ?_ ?_ | refine aB mixed ?_))
 all_goals clear h1 h2 h3 h4 h5
 all_goals (first | (simp_all [eJ]; done) | (simp_all [eJ]; omega) | (simp_all [eJ]; grind))
theorem Xa (g : aK) (hg : Fu g) (e : aD) (he : jM e) : aG Tryz.prog Dc 36 [aP g, evA e] [] (bS (gO g e)) [] := by
 have h3 := tin e.sun g.low g.high
 have h5 := mP e.rows g.rows he hg.rows
 refine aC Ax aF Tryz.func36 (c := _) rfl Tryz.call36 200 ?_
 (repeat' ((conv => whnf); first | refine x0C (eB ?_ rfl) | (exfalso; omega) | refine cpC (h3) ?_ | refine dpC (h3) ?_ | refine cpC (h5) ?_ | refine dpC (h5) ?_ | refine x0C ?_ | refine spC (fun hb => ?_) fun hb => ?_ | refine aJ (fun hb => ?_) ?_ | refine taC ?_ | refine saC ?_ | exact sdV | refine aA ?_ ?_ | refine aB mixed ?_))
 all_goals clear h3 h5
 all_goals (first | (simp_all [gO]; done) | (simp_all [gO]; omega) | (simp_all [gO]; grind))
theorem xW (g : aK) (hG : oN g) (e : aD) (he : jM e) : aG Tryz.prog Dc 18 [aP g, evA e] [] (bS (decide (g.kind = 1) && cA g && eJ e && gO g e)) [] := by
 have h1 := jV g hG
 have h2 := Kp e he
 have h3 := Xa g ((dF g).1 hG).1 e he
 refine aC Ax aF Tryz.func18 (c := _) rfl Tryz.call18 200 ?_
 (repeat' ((conv => whnf); first | refine x0C (eB ?_ rfl) | (exfalso; omega) | refine cpC (h1) ?_ | refine dpC (h1) ?_ | refine cpC (h2) ?_ | refine dpC (h2) ?_ | refine cpC (h3) ?_ | refine dpC (h3) ?_ | refine x0C ?_ | refine spC (fun hb => ?_) fun hb => ?_ | refine aJ (fun hb => ?_) ?_ | refine taC ?_ | refine saC ?_ | exact sdV | refine aA ?_ ?_ | refine aB mixed ?_))
 all_goals clear h1 h2 h3
 all_goals (first | (simp_all []; done) | (simp_all []; omega) | (simp_all []; grind))
theorem kL (a b : aD) : aG Tryz.prog Dc 75 [evA a, evA b] [] (bS (fU a b)) [] := by
 refine aC Ax aF Tryz.func75 (c := _) rfl Tryz.call75 100 ?_
 (repeat' ((conv => whnf); first | refine x0C (eB ?_ rfl) | refine x0C ?_ | refine spC (fun hb => ?_) fun hb => ?_ | refine aJ (fun hb => ?_) ?_ | refine taC ?_ | refine saC ?_ | exact sdV | refine aA ?_ ?_ | refine aB mixed ?_))
 all_goals (first | (simp_all [fU]; done) | (simp_all [fU]; omega) | (simp_all [fU]; grind))
end Go.SX
namespace Go.SX
def wG (a b : Int) : Int := if a < b then -1 else if b < a then 1 else 0
def Jp (a b : aD) : Int := if wG a.at_ b.at_ ≠ 0 then wG a.at_ b.at_ else if wG a.kind b.kind ≠ 0 then wG a.kind b.kind else wG a.image b.image
theorem Ju (a b : aD) : decide (0 ≤ Jp a b) = !fU a b := by
 unfold Jp wG fU
 rw [Bool.eq_iff_iff]
 simp only [decide_eq_true_eq, Bool.not_eq_true', Bool.or_eq_false_iff, Bool.and_eq_false_iff, decide_eq_false_iff_not]
 repeat' split
 all_goals omega
def wL (l : List aD) (e : aD) : Bool := l.any fun d => decide (d.kind = 1) && decide (d.image = e.image)
def evt (l : List aD) (i : Nat) : aD := l.getD i (U.dflt .event)
def oM (l : List aD) (i : Nat) : Bool := eJ (evt l i) && (decide (i = 0) || fU (evt l (i - 1)) (evt l i)) && !(decide ((evt l i).kind = 1) && wL (l.take i) (evt l i))
def uY (l : List aD) : Bool := (List.range l.length).all (oM l)
def aX (l : List aD) : Bool := decide ((l.length : Int) ≤ 120) && uY l
def hU (l : List aD) : List Int := (l.filter fun e => decide (e.kind = 1)).map (·.image)
theorem Tk (l : List aD) (e : aD) : wL l e = true ↔ e.image ∈ hU l := by
 unfold wL hU
 simp only [List.any_eq_true, Bool.and_eq_true, decide_eq_true_eq, List.mem_map, List.mem_filter]
 constructor
 ·rintro ⟨d, h1, h2, h3⟩; exact ⟨d, ⟨h1, h2⟩, h3⟩
 ·rintro ⟨d, ⟨h1, h2⟩, h3⟩; exact ⟨d, h1, h2, h3⟩
theorem Fx {l : List aD} {i : Nat} (hi : i < l.length) (h : oM l i = false) : uY l = false := by
 unfold uY
 rw [List.all_eq_false]
 exact ⟨i, List.mem_range.2 hi, by rw [h]; simp⟩
theorem Ai {l : List aD} : ∀ i : Nat, i ≤ l.length → (∀ j, j < i → oM l j = true) → i = l.length → uY l = true := by
 intro i hi h e
 unfold uY
 rw [List.all_eq_true]
 intro j hj
 exact h j (by rw [e]; exact List.mem_range.1 hj)
theorem Lm {l : List aD} {i : Nat} {e : aD} (h : l[i]? = some e) (hk : e.kind = 1) : hU (l.take (i + 1)) = hU (l.take i) ++ [e.image] := by
 unfold hU
 rw [List.take_add_one, h]
 simp [List.filter_append, hk]
theorem Mk {l : List aD} {i : Nat} {e : aD} (h : l[i]? = some e) (hk : e.kind ≠ 1) : hU (l.take (i + 1)) = hU (l.take i) := by
 unfold hU
 rw [List.take_add_one, h]
 simp [List.filter_append, hk]
end Go.SX
namespace Go.SX
open Go.Proofs
set_option maxHeartbeats 400000000
set_option maxRecDepth 100000
theorem L3 (a : Int) : aG Tryz.prog Dc 107 [iS a] [] (bS false) [] := by
 refine aC Ax aF Tryz.func107 (c := _) rfl Tryz.call107 60 ?_
 (repeat' ((conv => whnf); first | refine x0C (eB ?_ rfl) | refine x0C ?_ | refine spC (fun hb => ?_) fun hb => ?_ | refine aJ (fun hb => ?_) ?_ | refine taC ?_ | refine saC ?_ | exact sdV | refine aA ?_ ?_ | refine aB mixed ?_))
 all_goals (first | (simp_all []; done) | (simp_all []; omega) | (simp_all []; grind))
theorem jA (a b : Int) : aG Tryz.prog Dc 70 [iS a, iS b] [] (iS (wG a b)) [] := by
 have h1 := L3 a
 have h2 := L3 b
 refine aC Ax aF Tryz.func70 (c := _) rfl Tryz.call70 100 ?_
 (repeat' ((conv => whnf); first | refine x0C (eI ?_ rfl) | (exfalso; omega) | refine cpC (h1) ?_ | refine dpC (h1) ?_ | refine cpC (h2) ?_ | refine dpC (h2) ?_ | refine x0C ?_ | refine spC (fun hb => ?_) fun hb => ?_ | refine aJ (fun hb => ?_) ?_ | refine taC ?_ | refine saC ?_ | exact sdV | refine aA ?_ ?_ | refine aB mixed ?_))
 all_goals clear h1 h2
 all_goals (first | (simp_all [wG]; done) | (simp_all [wG]; omega) | (simp_all [wG]; grind))
theorem Ap (a b c : Int) : aG Tryz.prog Dc 69 [.p (.dsl U.int [a, b, c])] [] (iS (if a ≠ 0 then a else if b ≠ 0 then b else c)) [] := by
 refine aC Ax aF Tryz.func69 (c := _) rfl Tryz.call69 200 ?_
 (repeat' ((conv => whnf); first | (exfalso; omega) | refine x0C ?_ | refine spC (fun hb => ?_) fun hb => ?_ | refine aJ (fun hb => ?_) ?_ | refine taC ?_ | refine saC ?_ | exact sdV | refine aA ?_ ?_ | refine aB mixed ?_))
 refine bW (fun i : Nat => [(8, iS i)]) (fun _ => []) (fun i => i = 0 ∨ (i = 1 ∧ a = 0) ∨ (i = 2 ∧ a = 0 ∧ b = 0) ∨ (i = 3 ∧ a = 0 ∧ b = 0 ∧ c = 0)) (fun i => 3 - i) 0 (.inl rfl) (by exact bkV) ?_
 intro i hi K hK
 rcases hi with rfl | ⟨rfl, h0⟩ | ⟨rfl, h0, h1⟩ | ⟨rfl, h0, h1, h2⟩
 ·(repeat' ((conv => whnf); first | refine x0C (eI ?_ rfl) | (exfalso; omega) | refine hK 1 [] _ _ ⟨.inr (.inl ⟨rfl, by assumption⟩)⟩ ⟨by omega⟩ (by exact bkV) | refine x0C ?_ | refine spC (fun hb => ?_) fun hb => ?_ | refine aJ (fun hb => ?_) ?_ | refine taC ?_ | refine saC ?_ | exact sdV | refine aA ?_ ?_ | refine aB mixed ?_))
  rw [if_pos (by assumption)]; rfl
 ·(repeat' ((conv => whnf); first | refine x0C (eI ?_ rfl) | (exfalso; omega) | refine hK 2 [] _ _ ⟨.inr (.inr (.inl ⟨rfl, h0, by assumption⟩))⟩ ⟨by omega⟩ (by exact bkV) | refine x0C ?_ | refine spC (fun hb => ?_) fun hb => ?_ | refine aJ (fun hb => ?_) ?_ | refine taC ?_ | refine saC ?_ | exact sdV | refine aA ?_ ?_ | refine aB mixed ?_))
  rw [if_neg (by omega), if_pos (by assumption)]; rfl
 ·(repeat' ((conv => whnf); first | refine x0C (eI ?_ rfl) | (exfalso; omega) | refine hK 3 [] _ _ ⟨.inr (.inr (.inr ⟨rfl, h0, h1, by assumption⟩))⟩ ⟨by omega⟩ (by exact bkV) | refine x0C ?_ | refine spC (fun hb => ?_) fun hb => ?_ | refine aJ (fun hb => ?_) ?_ | refine taC ?_ | refine saC ?_ | exact sdV | refine aA ?_ ?_ | refine aB mixed ?_))
  rw [if_neg (by omega), if_neg (by omega)]; rfl
 ·(repeat' ((conv => whnf); first | refine x0C (eI ?_ rfl) | (exfalso; omega) | refine x0C ?_ | refine spC (fun hb => ?_) fun hb => ?_ | refine aJ (fun hb => ?_) ?_ | refine taC ?_ | refine saC ?_ | exact sdV | refine aA ?_ ?_ | refine aB mixed ?_))
  rw [if_neg (by omega), if_neg (by omega), h2]
theorem yW (a b : aD) : aG Tryz.prog Dc 37 [evA a, evA b] [] (iS (Jp a b)) [] := by
 have h1 := jA a.at_ b.at_
 have h2 := jA a.kind b.kind
 have h3 := jA a.image b.image
 have h4 := Ap (wG a.at_ b.at_) (wG a.kind b.kind) (wG a.image b.image)
 unfold Jp
 generalize wG a.at_ b.at_ = x at *
 generalize wG a.kind b.kind = y at *
 generalize wG a.image b.image = z at *
 have h5 : aG Tryz.prog Dc 69 [.slice 0 0 1 0 3] [.rows U.int [x, y, z]] (iS (if x ≠ 0 then x else if y ≠ 0 then y else z)) [.rows U.int [x, y, z]] := B7 h4 (by exact snV) rfl
 refine aC Ax aF Tryz.func37 (c := _) rfl Tryz.call37 200 ?_
 (repeat' ((conv => whnf); first | refine x0C (eI ?_ rfl) | (exfalso; omega) | refine cpC (h1) ?_ | refine dpC (h1) ?_ | refine cpC (h2) ?_ | refine dpC (h2) ?_ | refine cpC (h3) ?_ | refine dpC (h3) ?_ | (refine bZ [some 2] h5 rfl rfl ⟨rfl, trivial⟩ ?_) | refine x0C ?_ | refine spC (fun hb => ?_) fun hb => ?_ | refine aJ (fun hb => ?_) ?_ | refine taC ?_ | refine saC ?_ | exact sdV | refine aA ?_ ?_ | refine aB mixed ?_))
 all_goals rfl
end Go.SX
namespace Go.SX
abbrev Sen := Option (Int × List Int)
def Pp (g : aK) (l : List aD) : Sen := match kU g l with
 | [] => none
 | a :: _ => some (0, [a.image])
def eC (ks : List aK) : aK := ks.getD 0 (U.dflt .goal)
def A6 (g : aK) (l : List aD) : Sen := match rZ g (kU (eC g.kids) l) with
 | none => none
 | some (a, b) => some (0, L7 [a.image, b.image])
def oY (g : aK) (l : List aD) : Sen := match uQ g (kU (eC g.kids) l) g.times none with
 | none => none
 | some r => some (0, L7 r)
def kW (r : Sen) (c : Int) (acc : Sen) : Sen := match r with
 | none => acc
 | some (p, im) => match acc with
  | none => some (p + c, im)
  | some (q, im') => if p + c < q then some (p + c, im) else some (q, im')
mutual
def dD : aK → List aD → Sen
 | ⟨kind, rows, from_, to_, low, high, clear, days, times, within, cents, kids⟩, l =>
  if kind = 1 then Pp ⟨kind, rows, from_, to_, low, high, clear, days, times, within, cents, kids⟩ l
  else if kind = 2 then A6 ⟨kind, rows, from_, to_, low, high, clear, days, times, within, cents, kids⟩ l
  else if kind = 3 then oY ⟨kind, rows, from_, to_, low, high, clear, days, times, within, cents, kids⟩ l
  else if kind = 4 then meanH kids (G8 l within)
  else if kind = 5 then meanAll kids l 0 []
  else meanAny kids cents l none
def meanH : List aK → List aD → Sen
 | [], _ => none
 | k :: _, l => dD k l
def meanAll : List aK → List aD → Int → List Int → Sen
 | [], _, p, im => some (p, im)
 | k :: ks, l, p, im => match dD k l with
  | none => none
  | some (q, jm) => meanAll ks l (p + q) (L7 (im ++ jm))
def meanAny : List aK → List Int → List aD → Sen → Sen
 | [], _, _, acc => acc
 | k :: ks, cs, l, acc => meanAny ks cs.tail l (kW (dD k l) (cs.getD 0 0) acc)
end
theorem oZ (g : aK) (l : List aD) : dD g l = if g.kind = 1 then Pp g l else if g.kind = 2 then A6 g l else if g.kind = 3 then oY g l else if g.kind = 4 then meanH g.kids (G8 l g.within) else if g.kind = 5 then meanAll g.kids l 0 [] else meanAny g.kids g.cents l none := by
 cases g; rw [dD]
theorem Y0 (ks : List aK) (l : List aD) (h : (ks.length : Int) = 1) : meanH ks l = dD (eC ks) l := by
 match ks with
 | [] => simp at h
 | k :: _ => rw [meanH]; rfl
theorem F8 (ks : List aK) (k : aK) (l : List aD) : ∀ (p : Int) (im : List Int), meanAll (ks ++ [k]) l p im = match meanAll ks l p im with
  | none => none
  | some (q, jm) => match dD k l with
   | none => none
   | some (r, km) => some (q + r, L7 (jm ++ km)) := by
 induction ks with
 | nil =>
  intro p im
  simp only [List.nil_append, meanAll]
 | cons a ks ih =>
  intro p im
  simp only [List.cons_append, meanAll]
  cases dD a l with
  | none => rfl
  | some x => exact ih _ _
theorem T4 {ks : List aK} {l : List aD} : ∀ {p : Int} {im : List Int}, (∃ k ∈ ks, dD k l = none) → meanAll ks l p im = none := by
 induction ks with
 | nil => rintro p im ⟨k, hk, _⟩; cases hk
 | cons a ks ih =>
  rintro p im ⟨k, hk, hn⟩
  rw [meanAll]
  rcases List.mem_cons.1 hk with rfl | hk
  ·rw [hn]
  ·cases dD a l with
   | none => rfl
   | some x => exact ih ⟨k, hk, hn⟩
theorem G7 (ks : List aK) (k : aK) (l : List aD) : ∀ (cs : List Int) (acc : Sen), meanAny (ks ++ [k]) cs l acc = kW (dD k l) (cs.getD ks.length 0) (meanAny ks cs l acc) := by
 induction ks with
 | nil => intro cs acc; simp only [List.nil_append, meanAny, List.length_nil]
 | cons a ks ih =>
  intro cs acc
  simp only [List.cons_append, meanAny, List.length_cons]
  rw [ih]
  congr 1
  cases cs <;> simp
def Asc : List Int → Prop
 | [] => True
 | a :: l => (∀ b ∈ l, a < b) ∧ Asc l
theorem E5 {n x : Int} : ∀ {l : List Int}, x ∈ Bk l n ↔ x ∈ l ∨ x = n
 | [] => by simp [Bk]
 | a :: l => by
  rw [Bk]
  split
  ·simp only [List.mem_cons, E5 (l := l)]; grind
  ·split
   ·simp only [List.mem_cons]; grind
   ·simp only [List.mem_cons]; grind
theorem Br {n : Int} : ∀ {l : List Int}, Asc l → Asc (Bk l n)
 | [], _ => by simp [Bk, Asc]
 | a :: l, h => by
  rw [Bk]
  obtain ⟨h1, h2⟩ := h
  split
  ·refine ⟨fun b hb => ?_, Br h2⟩
   rcases E5.1 hb with hb | rfl
   ·exact h1 b hb
   ·assumption
  ·split
   ·exact ⟨h1, h2⟩
   ·refine ⟨fun b hb => ?_, h1, h2⟩
    rcases List.mem_cons.1 hb with rfl | hb
    ·omega
    ·have := h1 b hb; omega
theorem Al {n : Int} : ∀ {l : List Int}, (Bk l n).length ≤ l.length + 1
 | [] => by simp [Bk]
 | a :: l => by
  rw [Bk]
  have := Al (n := n) (l := l)
  split
  ·simp; omega
  ·split <;> simp
def Ov (l m : List Int) : List Int := m.foldl Bk l
theorem Y4 {x : Int} : ∀ {m l : List Int}, x ∈ Ov l m ↔ x ∈ l ∨ x ∈ m
 | [], l => by simp [Ov]
 | a :: m, l => by
  have := Y4 (x := x) (m := m) (l := Bk l a)
  simp only [Ov, List.foldl_cons] at *
  rw [this, E5]; simp; grind
theorem Bh : ∀ {m l : List Int}, Asc l → Asc (Ov l m)
 | [], l, h => h
 | a :: m, l, h => Bh (m := m) (Br h)
theorem Ad : ∀ {m l : List Int}, (Ov l m).length ≤ l.length + m.length
 | [], l => by simp [Ov]
 | a :: m, l => by
  have := Ad (m := m) (l := Bk l a)
  have := Al (n := a) (l := l)
  simp only [Ov, List.foldl_cons, List.length_cons] at *
  omega
theorem Ah {x : Int} {m : List Int} : x ∈ L7 m ↔ x ∈ m := by
 have := Y4 (x := x) (m := m) (l := [])
 simpa [Ov, L7] using this
theorem Li {m : List Int} : Asc (L7 m) := Bh (l := []) trivial
theorem D6 {m : List Int} : (L7 m).length ≤ m.length := by
 have := Ad (m := m) (l := [])
 simpa [Ov, L7] using this
theorem He : ∀ {l m : List Int}, Asc l → Asc m → (∀ x, x ∈ l ↔ x ∈ m) → l = m
 | [], [], _, _, _ => rfl
 | [], b :: m, _, _, h => by have := (h b).2 (by simp); simp at this
 | a :: l, [], _, _, h => by have := (h a).1 (by simp); simp at this
 | a :: l, b :: m, h1, h2, h => by
  have ha := (h a).1 (by simp)
  have hb := (h b).2 (by simp)
  have e : a = b := by
   rcases List.mem_cons.1 ha with ha | ha
   ·exact ha
   ·rcases List.mem_cons.1 hb with hb | hb
    ·exact hb.symm
    ·have := h1.1 b hb; have := h2.1 a ha; omega
  subst e
  congr 1
  refine He h1.2 h2.2 fun x => ?_
  constructor
  ·intro hx
   have := (h x).1 (by simp [hx])
   rcases List.mem_cons.1 this with rfl | h3
   ·have := h1.1 x hx; omega
   ·exact h3
  ·intro hx
   have := (h x).2 (by simp [hx])
   rcases List.mem_cons.1 this with rfl | h3
   ·have := h2.1 x hx; omega
   ·exact h3
def mG (g : aK) (last : Option aD) (a : aD) : Bool := match last with | none => jW g a | some b => bG g b a
theorem G2 (g : aK) (need : Int) (last : Option aD) : uQ g [] need last = if need = 0 then some [] else none := by
 rw [uQ.eq_def]
theorem xI (g : aK) (a : aD) (l : List aD) (need : Int) (last : Option aD) : uQ g (a :: l) need last = if need = 0 then some [] else if decide (need ≤ (bD g (a :: l)).headD 0) && mG g last a then (match uQ g l (need - 1) (some a) with | some r => some (a.image :: r) | none => none) else uQ g l need last := by
 rw [uQ.eq_def]; rfl
theorem wD (g : aK) : ∀ (l : List aD) (need : Int) (last : Option aD) (r : List Int), 0 ≤ need → uQ g l need last = some r → (r.length : Int) = need := by
 intro l
 induction l with
 | nil =>
  intro need last r hn h
  rw [G2] at h
  split at h
  ·injection h with h; subst h; simp; omega
  ·cases h
 | cons a l ih =>
  intro need last r hn h
  rw [xI] at h
  split at h
  ·injection h with h; subst h; simp; omega
  ·split at h
   ·split at h
    ·rename_i r' hr
     injection h with h; subst h
     have := ih (need - 1) _ _ (by omega) hr
     simp; omega
    ·cases h
   ·exact ih need last r hn h
theorem bP {g : aK} (h : okB g = true) : (1 ≤ g.kind ∧ g.kind ≤ 6) ∧ E6 g = true ∧ kI g = true ∧ fW g = true := by
 unfold okB dU at h
 simp only [Bool.and_eq_true, aM] at h
 exact ⟨h.1.1.1, h.1.2, h.2.1.1.1, h.2.1.1.2⟩
theorem lT {g : aK} (h : okB g = true) (hk : g.kind = 3) : 1 ≤ g.times ∧ g.times ≤ 6 := by
 have := (bP h).2.1
 unfold E6 at this
 rw [hk] at this
 simp [aM] at this
 omega
theorem Tj {g : aK} (h : okB g = true) (hk : g.kind = 3) : 1 ≤ g.days ∧ g.days ≤ 60 ∧ 0 ≤ g.within ∧ g.within ≤ 1440 * g.days ∧ 0 ≤ g.from_ ∧ g.from_ ≤ 1000000 := by
 have := (bP h).2.1
 unfold E6 at this
 rw [hk] at this
 simp [aM] at this
 omega
theorem Av {g : aK} (h : okB g = true) : ∀ c ∈ g.cents, 0 ≤ c ∧ c ≤ 1000000000 := by
 have := (bP h).2.2.2
 unfold fW at this
 split at this
 ·simp [aM] at this
  exact this.2
 ·intro c hc
  have : g.cents.length = 0 := by simpa using this
  rw [List.length_eq_zero_iff.1 this] at hc; cases hc
theorem uA {g : aK} (h : okB g = true) (h1 : g.kind ≠ 1) (h5 : g.kind ≠ 5) (h6 : g.kind ≠ 6) : (g.kids.length : Int) = 1 := by
 have := (bP h).2.2.1
 unfold kI at this
 simpa [h1, h5, h6] using this
theorem sO {g : aK} {d n : Int} (h : cB g d = some n) : 1 ≤ n := by
 have := zH g d
 rw [h] at this
 exact this.1
theorem fJ : ∀ {l : List aK} {d n : Int}, sizeL l d = some n → 0 ≤ n
 | [], d, n, h => by rw [sizeL] at h; injection h with h; omega
 | k :: l, d, n, h => by
  rw [sizeL] at h
  split at h
  ·cases h
  ·rename_i m hm
   split at h
   ·cases h
   ·rename_i q hq
    injection h with h
    have := sO hm
    have := fJ hq
    omega
theorem cR {g : aK} {d n : Int} (h : cB g d = some n) : okB g = true ∧ d ≤ 4 ∧ ∃ m, sizeL g.kids (d + 1) = some m ∧ n = 1 + m := by
 rw [eZ] at h
 split at h
 ·cases h
 ·rename_i hc
  simp only [Bool.or_eq_true, decide_eq_true_eq, Bool.not_eq_true', not_or, Bool.not_eq_false] at hc
  split at h
  ·cases h
  ·rename_i m hm
   injection h with h
   exact ⟨hc.2, by omega, m, hm, h.symm⟩
theorem rF {r : Sen} {c : Int} {acc : Sen} {q : Int} {jm : List Int} (h : kW r c acc = some (q, jm)) : acc = some (q, jm) ∨ ∃ p, r = some (p, jm) ∧ q = p + c := by
 unfold kW at h
 split at h
 ·exact .inl h
 ·rename_i p im
  split at h
  ·injection h with h; injection h with h1 h2; subst h2; exact .inr ⟨p, rfl, h1.symm⟩
  ·split at h
   ·injection h with h; injection h with h1 h2; subst h2; exact .inr ⟨p, rfl, h1.symm⟩
   ·exact .inl h
mutual
theorem jF : ∀ (g : aK) (d n : Int) (l : List aD) (p : Int) (im : List Int), cB g d = some n → dD g l = some (p, im) → 0 ≤ p ∧ p ≤ 1000000000 * n ∧ (im.length : Int) ≤ 6 * n
 | ⟨kind, rows, from_, to_, low, high, clear, days, times, within, cents, kids⟩, d, n, l, p, im, hs, hm => by
  have hall := all_bound kids
  have hany := any_bound kids
  have hhd := hd_bound kids
  obtain ⟨hok, hd, m, hL, rfl⟩ := cR hs
  have h0 := fJ hL
  rw [oZ] at hm
  split at hm
  ·unfold Pp at hm
   split at hm
   ·cases hm
   ·injection hm with hm; injection hm with h1 h2; subst h1; subst h2; simp; omega
  ·split at hm
   ·unfold A6 at hm
    split at hm
    ·cases hm
    ·rename_i a b _
     have := D6 (m := [a.image, b.image])
     injection hm with hm; injection hm with h1 h2; subst h1; subst h2; simp at this; omega
   ·split at hm
    ·rename_i hk
     have ht := lT hok hk
     unfold oY at hm
     split at hm
     ·cases hm
     ·rename_i r hr
      have h3 := wD _ _ _ _ _ (by omega) hr
      have := D6 (m := r)
      injection hm with hm; injection hm with h1 h2; subst h1; subst h2; omega
    ·split at hm
     ·have := hhd _ _ _ _ _ hL hm
      omega
     ·split at hm
      ·have := hall _ _ _ _ _ _ _ hL hm
       simp at this
       omega
      ·rcases hany _ _ _ _ _ _ _ hL (Av hok) hm with h | h
       ·cases h
       ·omega
theorem hd_bound : ∀ (ks : List aK) (d n : Int) (l : List aD) (p : Int) (im : List Int), sizeL ks d = some n → meanH ks l = some (p, im) → 0 ≤ p ∧ p ≤ 1000000000 * n ∧ (im.length : Int) ≤ 6 * n
 | [], d, n, l, p, im, hs, hm => by rw [meanH] at hm; cases hm
 | k :: ks, d, n, l, p, im, hs, hm => by
  rw [meanH] at hm
  rw [sizeL] at hs
  split at hs
  ·cases hs
  ·rename_i m hm'
   split at hs
   ·cases hs
   ·rename_i q hq
    injection hs with hs
    have := jF k d m l p im hm' hm
    have := fJ hq
    omega
theorem all_bound : ∀ (ks : List aK) (d n : Int) (l : List aD) (p : Int) (im : List Int) (q : Int) (jm : List Int), sizeL ks d = some n → meanAll ks l p im = some (q, jm) → p ≤ q ∧ q ≤ p + 1000000000 * n ∧ (jm.length : Int) ≤ im.length + 6 * n
 | [], d, n, l, p, im, q, jm, hs, hm => by
  rw [meanAll] at hm; injection hm with hm; injection hm with h1 h2; subst h1; subst h2
  have := fJ hs
  omega
 | k :: ks, d, n, l, p, im, q, jm, hs, hm => by
  rw [meanAll] at hm
  rw [sizeL] at hs
  split at hs
  ·cases hs
  ·rename_i m hm'
   split at hs
   ·cases hs
   ·rename_i x hx
    injection hs with hs
    split at hm
    ·cases hm
    ·rename_i q' jm' hq'
     have h1 := jF k d m l _ _ hm' hq'
     have h2 := all_bound ks d x l _ _ _ _ hx hm
     have h3 := D6 (m := im ++ jm')
     simp at h3
     omega
theorem any_bound : ∀ (ks : List aK) (cs : List Int) (d n : Int) (l : List aD) (acc : Sen) (q : Int) (jm : List Int), sizeL ks d = some n → (∀ c ∈ cs, 0 ≤ c ∧ c ≤ 1000000000) → meanAny ks cs l acc = some (q, jm) → acc = some (q, jm) ∨ (0 ≤ q ∧ q ≤ 1000000000 * (n + 1) ∧ (jm.length : Int) ≤ 6 * n)
 | [], cs, d, n, l, acc, q, jm, hs, hc, hm => by rw [meanAny] at hm; exact .inl hm
 | k :: ks, cs, d, n, l, acc, q, jm, hs, hc, hm => by
  rw [meanAny] at hm
  rw [sizeL] at hs
  split at hs
  ·cases hs
  ·rename_i m hm'
   split at hs
   ·cases hs
   ·rename_i x hx
    injection hs with hs
    have hm1 := sO hm'
    have hx0 := fJ hx
    rcases any_bound ks cs.tail d x l _ q jm hx (fun c h => hc c (List.mem_of_mem_tail h)) hm with h | h
    ·rcases rF h with h | ⟨p, h1, h2⟩
     ·exact .inl h
     ·have h3 := jF k d m l _ _ hm' h1
      have h4 : 0 ≤ cs.getD 0 0 ∧ cs.getD 0 0 ≤ 1000000000 := by
       cases cs with
       | nil => simp
       | cons c cs => exact hc c (by simp)
      right; omega
    ·right; omega
end
end Go.SX
namespace Go.SX
def pfB (g : aK) (a b : aD) : Bool := decide (g.low ≤ Da a.look b.look) && decide (Da a.at_ b.at_ ≤ g.within)
theorem yE (g : aK) (a : aD) (l : List aD) : rZ g (a :: l) = match l.find? (pfB g a) with | some b => some (a, b) | none => rZ g l := by
 rw [rZ]; rfl
theorem Ls {α : Type} {p : α → Bool} {xs : List α} {i : Nat} {x : α} (h1 : xs[i]? = some x) (h2 : p x = true) (h3 : (xs.take i).any p = false) : xs.find? p = some x := by
 obtain ⟨hi, e⟩ := List.getElem?_eq_some_iff.1 h1
 rw [List.find?_eq_some_iff_getElem]
 refine ⟨h2, i, hi, e, fun j hj => ?_⟩
 rw [List.any_eq_false] at h3
 have := h3 (xs[j]'(by omega)) (List.mem_iff_getElem.2 ⟨j, by simp; omega, by simp⟩)
 simpa using this
theorem Iq {α : Type} {p : α → Bool} {xs : List α} (h : xs.any p = false) : xs.find? p = none := by
 rw [List.find?_eq_none]
 rw [List.any_eq_false] at h
 exact h
theorem jK {α : Type} {xs : List α} {i : Nat} {d : α} (h : i < xs.length) : xs.drop i = xs.getD i d :: xs.drop (i + 1) := by
 rw [List.drop_eq_getElem_cons h, List.getD_eq_getElem?_getD, List.getElem?_eq_getElem h]; rfl
end Go.SX
namespace Go.SX
def oB (g : aK) (a : aD) (ps : List (aD × Int)) : Int := ps.foldl (fun m p => if bG g a p.1 then max m (1 + p.2) else m) 1
theorem gF (g : aK) (a : aD) (l : List aD) : bD g (a :: l) = oB g a (l.zip (bD g l)) :: bD g l := by rw [bD]; rfl
@[simp] theorem dO (g : aK) : ∀ l : List aD, (bD g l).length = l.length
 | [] => rfl
 | a :: l => by rw [gF, List.length_cons, List.length_cons, dO g l]
theorem xQ (g : aK) (a : aD) (ps : List (aD × Int)) (p : aD × Int) : oB g a (ps ++ [p]) = if bG g a p.1 then max (oB g a ps) (1 + p.2) else oB g a ps := by
 unfold oB; rw [List.foldl_append]; rfl
theorem nH (g : aK) (a : aD) (B : Int) (h0 : 0 ≤ B) : ∀ (n : Nat) (ps : List (aD × Int)), ps.length = n → (∀ p ∈ ps, p.2 ≤ B) → 1 ≤ oB g a ps ∧ oB g a ps ≤ 1 + B := by
 intro n
 induction n with
 | zero => intro ps hl _; rw [List.length_eq_zero_iff.1 hl]; simp [oB]; omega
 | succ n ih =>
  intro ps hl hp
  rcases List.eq_nil_or_concat ps with rfl | ⟨qs, p, rfl⟩
  ·cases hl
  ·rw [List.concat_eq_append] at hl hp ⊢
   have h1 := ih qs (by simpa using hl) fun q hq => hp q (by simp [hq])
   have h2 := hp p (by simp)
   rw [xQ]
   split <;> omega
theorem nV (g : aK) : ∀ (l : List aD), ∀ x ∈ bD g l, 1 ≤ x ∧ x ≤ l.length
 | [], x, h => by simp [bD] at h
 | a :: l, x, h => by
  rw [gF] at h
  have ih := nV g l
  rcases List.mem_cons.1 h with rfl | h
  ·have := nH g a l.length (by omega) _ (l.zip (bD g l)) rfl fun p hp => (ih p.2 (List.of_mem_zip hp).2).2
   simp only [List.length_cons]; omega
  ·have := ih x h
   simp only [List.length_cons]; omega
def qI (g : aK) (m : List aD) (j : Nat) : List Int := List.replicate j 0 ++ bD g (m.drop j)
theorem Fa (g : aK) (m : List aD) {j : Nat} (h : j ≤ m.length) : (qI g m j).length = m.length := by
 simp [qI, dO]; omega
theorem R3 (g : aK) (m : List aD) : qI g m m.length = List.replicate m.length 0 := by simp [qI, bD]
theorem Hv (g : aK) (m : List aD) : qI g m 0 = bD g m := by simp [qI]
def cU (g : aK) (m : List aD) (i t : Nat) : List Int := List.replicate i 0 ++ oB g (m.getD i (U.dflt .event)) (((m.drop (i + 1)).zip (bD g (m.drop (i + 1)))).take t) :: bD g (m.drop (i + 1))
theorem S0 (g : aK) (m : List aD) {i : Nat} (h : i < m.length) : (qI g m (i + 1)).set i 1 = cU g m i 0 := by
 unfold qI cU
 rw [List.replicate_succ', List.append_assoc, List.set_append_right _ _ (by simp)]
 simp [oB]
theorem Gw (g : aK) (m : List aD) {i t : Nat} (h : i < m.length) (ht : t = m.length - (i + 1)) : cU g m i t = qI g m i := by
 unfold cU qI
 rw [jK (d := U.dflt .event) h, gF, List.take_of_length_le (by simp [dO]; omega)]
theorem Hk (g : aK) (m : List aD) {i t : Nat} (h : i < m.length) : (cU g m i t).length = m.length := by
 simp [cU, dO]; omega
theorem F0 (g : aK) (m : List aD) {i t : Nat} (h : i < m.length) : (cU g m i t).getD i 0 = oB g (m.getD i (U.dflt .event)) (((m.drop (i + 1)).zip (bD g (m.drop (i + 1)))).take t) := by
 unfold cU
 simp [List.getD_eq_getElem?_getD]
theorem J6 (g : aK) (m : List aD) {i t : Nat} (h : i + 1 + t < m.length) : (cU g m i t).getD (i + 1 + t) 0 = (bD g (m.drop (i + 1))).getD t 0 := by
 unfold cU
 simp only [List.getD_eq_getElem?_getD]
 rw [List.getElem?_append_right (by simp; omega)]
 simp only [List.length_replicate]
 rw [show i + 1 + t - i = t + 1 by omega, List.getElem?_cons_succ]
theorem xL (g : aK) (m : List aD) {i t : Nat} (h : i + 1 + t < m.length) : oB g (m.getD i (U.dflt .event)) (((m.drop (i + 1)).zip (bD g (m.drop (i + 1)))).take (t + 1)) =
  if bG g (m.getD i (U.dflt .event)) (m.getD (i + 1 + t) (U.dflt .event)) then max ((cU g m i t).getD i 0) (1 + (cU g m i t).getD (i + 1 + t) 0) else (cU g m i t).getD i 0 := by
 rw [F0 g m (by omega), J6 g m h]
 have hz : ((m.drop (i + 1)).zip (bD g (m.drop (i + 1))))[t]? = some (m.getD (i + 1 + t) (U.dflt .event), (bD g (m.drop (i + 1))).getD t 0) := by
  have h1 : t < (m.drop (i + 1)).length := by simp; omega
  have h2 : t < (bD g (m.drop (i + 1))).length := by rw [dO]; exact h1
  rw [List.getElem?_zip_eq_some]
  refine ⟨?_, ?_⟩
  ·rw [List.getElem?_drop, List.getD_eq_getElem?_getD, List.getElem?_eq_getElem h]; rfl
  ·show _ = some ((bD g (m.drop (i + 1))).getD t 0)
   rw [List.getD_eq_getElem?_getD, List.getElem?_eq_getElem h2]; rfl
 rw [List.take_add_one, hz, show (some (m.getD (i + 1 + t) (U.dflt .event), (bD g (m.drop (i + 1))).getD t 0)).toList = [(m.getD (i + 1 + t) (U.dflt .event), (bD g (m.drop (i + 1))).getD t 0)] from rfl, xQ]
theorem Dk (g : aK) (m : List aD) {i t : Nat} (h : i + 1 + t < m.length) (hf : bG g (m.getD i (U.dflt .event)) (m.getD (i + 1 + t) (U.dflt .event)) = false) : cU g m i (t + 1) = cU g m i t := by
 have := xL g m h
 rw [hf, F0 g m (by omega)] at this
 unfold cU
 rw [this]; rfl
theorem Fj (g : aK) (m : List aD) {i t : Nat} (h : i + 1 + t < m.length) (hf : bG g (m.getD i (U.dflt .event)) (m.getD (i + 1 + t) (U.dflt .event)) = true) : (cU g m i t).set i (max ((cU g m i t).getD i 0) (1 + (cU g m i t).getD (i + 1 + t) 0)) = cU g m i (t + 1) := by
 have := xL g m h
 rw [hf] at this
 simp only [if_true] at this
 rw [← this]
 unfold cU
 rw [List.set_append_right _ _ (by simp)]
 simp
theorem V6 (g : aK) (m : List aD) {i t : Nat} (h : i + 1 + t < m.length) : (1 ≤ (cU g m i t).getD i 0 ∧ (cU g m i t).getD i 0 ≤ m.length) ∧ (cU g m i t).getD (i + 1 + t) 0 ≤ m.length ∧ 0 ≤ (cU g m i t).getD (i + 1 + t) 0 := by
 rw [F0 g m (by omega), J6 g m h]
 have hb := nV g (m.drop (i + 1))
 have h2 : t < (bD g (m.drop (i + 1))).length := by rw [dO]; simp; omega
 have h3 : (bD g (m.drop (i + 1))).getD t 0 ∈ bD g (m.drop (i + 1)) := by
  rw [List.getD_eq_getElem?_getD, List.getElem?_eq_getElem h2]; exact List.getElem_mem _
 have h4 := hb _ h3
 have h5 := nH g (m.getD i (U.dflt .event)) (m.length - (i + 1) : Nat) (by omega) _ (((m.drop (i + 1)).zip (bD g (m.drop (i + 1)))).take t) rfl fun p hp => by
  have := (hb p.2 (List.of_mem_zip (List.mem_of_mem_take hp)).2).2
  simpa using this
 simp only [List.length_drop] at h4
 omega
end Go.SX
namespace Go.SX
def cZ (g : aK) : List aD → Int → Option aD → List Int × Bool
 | [], need, _ => if need = 0 then ([], true) else ([], false)
 | a :: l, need, last => if need = 0 then ([], true) else if decide (need ≤ (bD g (a :: l)).headD 0) && mG g last a then (a.image :: (cZ g l (need - 1) (some a)).1, (cZ g l (need - 1) (some a)).2) else cZ g l need last
theorem tE (g : aK) : ∀ (l : List aD) (need : Int) (last : Option aD), uQ g l need last = if (cZ g l need last).2 then some (cZ g l need last).1 else none
 | [], need, last => by
  rw [G2, cZ]
  split <;> rfl
 | a :: l, need, last => by
  rw [xI, cZ]
  split
  ·rfl
  ·split
   ·rw [tE g l (need - 1) (some a)]
    cases (cZ g l (need - 1) (some a)).2 <;> rfl
   ·exact tE g l need last
theorem qH (g : aK) (l : List aD) (last : Option aD) : cZ g l 0 last = ([], true) := by
 cases l <;> rw [cZ, if_pos rfl]
theorem I7 (g : aK) {need : Int} (last : Option aD) (h : need ≠ 0) : cZ g [] need last = ([], false) := by rw [cZ, if_neg h]
theorem uS (g : aK) {a : aD} {l : List aD} {need : Int} {last : Option aD} (h : need ≠ 0) (h1 : need ≤ (bD g (a :: l)).headD 0) (h2 : mG g last a = true) : cZ g (a :: l) need last = (a.image :: (cZ g l (need - 1) (some a)).1, (cZ g l (need - 1) (some a)).2) := by
 rw [cZ, if_neg h, if_pos (by rw [h2, decide_eq_true h1]; rfl)]
theorem pP (g : aK) {a : aD} {l : List aD} {need : Int} {last : Option aD} (h : need ≠ 0) (h1 : ¬ need ≤ (bD g (a :: l)).headD 0 ∨ mG g last a = false) : cZ g (a :: l) need last = cZ g l need last := by
 rw [cZ, if_neg h, if_neg]
 rcases h1 with h1 | h1
 ·rw [decide_eq_false h1]; simp
 ·rw [h1, Bool.and_false]; simp
theorem sY (g : aK) : ∀ (l : List aD) (need : Int) (last : Option aD), (cZ g l need last).1.length ≤ l.length
 | [], need, last => by rw [cZ]; split <;> simp
 | a :: l, need, last => by
  rw [cZ]
  split
  ·simp
  ·split
   ·have := sY g l (need - 1) (some a)
    simp; omega
   ·have := sY g l need last
    simp; omega
theorem wR (g : aK) : ∀ (m : List aD) (i : Nat), bD g (m.drop i) = (bD g m).drop i
 | [], i => by simp [bD]
 | a :: m, 0 => rfl
 | a :: m, i + 1 => by rw [gF, List.drop_succ_cons, List.drop_succ_cons]; exact wR g m i
theorem qY (g : aK) (m : List aD) (i : Nat) : (bD g (m.drop i)).headD 0 = (bD g m).getD i 0 := by
 rw [wR, List.headD_eq_head?_getD, List.head?_drop, List.getD_eq_getElem?_getD]
end Go.SX
namespace Go.SX
theorem Q5 {l : List Int} (h : l ≠ []) : L7 l ≠ [] := by
 obtain ⟨a, m, rfl⟩ := List.exists_cons_of_ne_nil h
 intro e
 have := (Ah (x := a) (m := a :: m)).2 (by simp)
 rw [e] at this; cases this
theorem E4 {g : aK} (h : okB g = true) (h5 : g.kind = 5 ∨ g.kind = 6) : 2 ≤ (g.kids.length : Int) ∧ (g.kids.length : Int) ≤ 4 := by
 have := (bP h).2.2.1
 unfold kI at this
 rw [if_neg (by omega), if_pos h5, aM] at this
 exact this
mutual
theorem D7 : ∀ (g : aK) (d n : Int) (l : List aD) (p : Int) (im : List Int), cB g d = some n → dD g l = some (p, im) → im ≠ []
 | ⟨kind, rows, from_, to_, low, high, clear, days, times, within, cents, kids⟩, d, n, l, p, im, hs, hm => by
  have hall := all_ne kids
  have hany := any_ne kids
  have hhd := hd_ne kids
  obtain ⟨hok, hd, m, hL, rfl⟩ := cR hs
  rw [oZ] at hm
  split at hm
  ·unfold Pp at hm
   split at hm
   ·cases hm
   ·injection hm with hm; injection hm with h1 h2; subst h2; simp
  ·split at hm
   ·unfold A6 at hm
    split at hm
    ·cases hm
    ·injection hm with hm; injection hm with h1 h2; subst h2; exact Q5 (by simp)
   ·split at hm
    ·rename_i hk
     have ht := lT hok hk
     unfold oY at hm
     split at hm
     ·cases hm
     ·rename_i r hr
      have h3 := wD _ _ _ _ _ (by omega) hr
      injection hm with hm; injection hm with h1 h2; subst h2
      exact Q5 fun e => by subst e; simp at h3; dsimp only at ht; omega
    ·split at hm
     ·exact hhd _ _ _ _ _ hL hm
     ·split at hm
      ·rename_i hk
       have h2 := E4 hok (.inl hk)
       exact hall _ _ _ _ _ _ _ hL (.inr (fun e => by simp [e] at h2)) hm
      ·rcases hany _ _ _ _ _ _ _ hL hm with h | h
       ·cases h
       ·exact h
theorem hd_ne : ∀ (ks : List aK) (d n : Int) (l : List aD) (p : Int) (im : List Int), sizeL ks d = some n → meanH ks l = some (p, im) → im ≠ []
 | [], d, n, l, p, im, hs, hm => by rw [meanH] at hm; cases hm
 | k :: ks, d, n, l, p, im, hs, hm => by
  rw [meanH] at hm
  rw [sizeL] at hs
  split at hs
  ·cases hs
  ·rename_i m hm'
   exact D7 k d m l p im hm' hm
theorem all_ne : ∀ (ks : List aK) (d n : Int) (l : List aD) (p : Int) (im : List Int) (q : Int) (jm : List Int), sizeL ks d = some n → (im ≠ [] ∨ ks ≠ []) → meanAll ks l p im = some (q, jm) → jm ≠ []
 | [], d, n, l, p, im, q, jm, hs, h, hm => by
  rw [meanAll] at hm; injection hm with hm; injection hm with h1 h2; subst h2
  exact h.resolve_right (fun e => e rfl)
 | k :: ks, d, n, l, p, im, q, jm, hs, h, hm => by
  rw [meanAll] at hm
  rw [sizeL] at hs
  split at hs
  ·cases hs
  ·rename_i m hm'
   split at hs
   ·cases hs
   ·rename_i x hx
    split at hm
    ·cases hm
    ·rename_i q' jm' hq'
     have h1 := D7 k d m l _ _ hm' hq'
     exact all_ne ks d x l _ _ _ _ hx (.inl (Q5 (by simp [h1]))) hm
theorem any_ne : ∀ (ks : List aK) (cs : List Int) (d n : Int) (l : List aD) (acc : Sen) (q : Int) (jm : List Int), sizeL ks d = some n → meanAny ks cs l acc = some (q, jm) → acc = some (q, jm) ∨ jm ≠ []
 | [], cs, d, n, l, acc, q, jm, hs, hm => by rw [meanAny] at hm; exact .inl hm
 | k :: ks, cs, d, n, l, acc, q, jm, hs, hm => by
  rw [meanAny] at hm
  rw [sizeL] at hs
  split at hs
  ·cases hs
  ·rename_i m hm'
   split at hs
   ·cases hs
   ·rename_i x hx
    rcases any_ne ks cs.tail d x l _ q jm hx hm with h | h
    ·rcases rF h with h | ⟨p, h1, h2⟩
     ·exact .inl h
     ·exact .inr (D7 k d m l _ _ hm' h1)
    ·exact .inr h
end
theorem mC : ∀ {ks : List aK} {d n : Int} (i : Nat), sizeL ks d = some n → ∃ m, sizeL (ks.take i) d = some m ∧ m ≤ n
 | ks, d, n, 0, h => ⟨0, by rw [List.take_zero, sizeL], fJ h⟩
 | [], d, n, i + 1, h => ⟨n, h, Int.le_refl _⟩
 | k :: ks, d, n, i + 1, h => by
  rw [sizeL] at h
  split at h
  ·cases h
  ·rename_i m hm
   split at h
   ·cases h
   ·rename_i x hx
    injection h with h
    obtain ⟨y, h1, h2⟩ := mC i hx
    refine ⟨m + y, ?_, by omega⟩
    rw [List.take_succ_cons, sizeL, hm, h1]
theorem bX : ∀ {ks : List aK} {d n : Int} {k : aK}, sizeL ks d = some n → k ∈ ks → ∃ m, cB k d = some m ∧ m ≤ n
 | [], d, n, k, h, hk => by cases hk
 | a :: ks, d, n, k, h, hk => by
  rw [sizeL] at h
  split at h
  ·cases h
  ·rename_i m hm
   split at h
   ·cases h
   ·rename_i x hx
    injection h with h
    have h1 := fJ hx
    have h2 := sO hm
    rcases List.mem_cons.1 hk with rfl | hk
    ·exact ⟨m, hm, by omega⟩
    ·obtain ⟨y, h3, h4⟩ := bX hx hk
     exact ⟨y, h3, by omega⟩
theorem dW {α : Type} {xs : List α} {i : Nat} {d : α} (h : i < xs.length) : xs.take (i + 1) = xs.take i ++ [xs.getD i d] := by
 rw [List.take_add_one, List.getD_eq_getElem?_getD, List.getElem?_eq_getElem h]; rfl
end Go.SX
