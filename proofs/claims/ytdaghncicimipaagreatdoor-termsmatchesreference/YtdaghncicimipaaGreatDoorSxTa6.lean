/-
  Walks: Ta6, Ta7, Ta8, Ta9, Tb0, Tb1, Tp3, Tb2, Tb3: what single functions of the program compute.
-/
import Derived.Test.YtdaghncicimipaaGreatDoorSxTp0
namespace Go.SX
open Go.Proofs
set_option linter.unusedSimpArgs false
set_option linter.unusedVariables false
set_option maxHeartbeats 4000000
set_option maxRecDepth 100000
theorem rvalid (rows : List Int) (hl : (rows.length : Int) ≤ 9223372036854775807) : Meets Tryz.prog Dc 70 [areaA rows] [] (bS (areaB rows)) [] := by
  refine meets_of_gx Ax tab_ok Tryz.func70 (c := _) rfl Tryz.call70 200 ?_
  (repeat' ((conv => whnf); first | (exfalso; omega) | refine x0C ?_ | refine spC (fun hb => ?_) fun hb => ?_ | refine nilC (fun hb => ?_) ?_ | refine taC ?_ | refine saC ?_ | exact sdV | refine side_and ?_ ?_ | refine drawX_of mixed ?_))
  refine loop_up (fun i : Nat => [(3, iS i)]) (fun _ => []) (fun i => i ≤ rows.length ∧ i ≤ 25 ∧ (rows.take i).all rowOK = true) (fun i => 25 - i) 0 ⟨by omega, by omega, by simp⟩ (by exact bkV) ?_
  rintro i ⟨h1, h2, h3⟩ K hK
  by_cases hc : i < rows.length ∧ i < 25
  · have hg := getD_some (d := Cd.dflt U.int) hc.1
    cases hr : rowOK (rows.getD (i : Int).toNat (Cd.dflt U.int)) with
    | true =>
      have h4 := (inB_iff _ _ _).1 hr
      have h5 : (rows.take (i + 1)).all rowOK = true := by
        rw [List.take_add_one, hg, List.all_append, h3]
        simpa using hr
      (repeat' ((conv => whnf); first | (exfalso; omega) | refine hK (i + 1) [some 0] _ _ ⟨⟨by omega, by omega, h5⟩⟩ ⟨by omega⟩ (by exact bkV) | refine x0C ?_ | refine spC (fun hb => ?_) fun hb => ?_ | refine nilC (fun hb => ?_) ?_ | refine taC ?_ | refine saC ?_ | exact sdV | refine side_and ?_ ?_ | refine drawX_of mixed ?_))
    | false =>
      have h4 := (inB_not _ _ _).1 hr
      have ha : areaB rows = false := by
        cases ha : areaB rows with
        | false => rfl
        | true =>
          simp only [areaB, Bool.and_eq_true] at ha
          rw [List.all_eq_true.1 ha.2 _ (List.mem_of_getElem? hg)] at hr
          cases hr
      rw [ha]
      (repeat' ((conv => whnf); first | (exfalso; omega) | refine x0C ?_ | refine spC (fun hb => ?_) fun hb => ?_ | refine nilC (fun hb => ?_) ?_ | refine taC ?_ | refine saC ?_ | exact sdV | refine side_and ?_ ?_ | refine drawX_of mixed ?_))
      all_goals exact vwV
  · have ha : areaB rows = decide ((rows.length : Int) = 24) := by
      unfold areaB
      by_cases hl : rows.length = 24
      · rw [List.take_of_length_le (by omega)] at h3
        rw [h3, Bool.and_true]
      · rw [decide_eq_false (by omega), Bool.false_and]
    rw [ha]
    (repeat' ((conv => whnf); first | refine x0C (eB ?_ rfl) | (exfalso; omega) | refine x0C ?_ | refine spC (fun hb => ?_) fun hb => ?_ | refine nilC (fun hb => ?_) ?_ | refine taC ?_ | refine saC ?_ | exact sdV | refine side_and ?_ ?_ | refine drawX_of mixed ?_))
    all_goals rfl
def bitB (rows : List Int) (y x : Nat) : Bool := (rows.getD y 0).toNat.testBit x
theorem area_row {rows : List Int} (h : areaB rows = true) {y : Nat} (hy : y < 24) : rowOK (rows.getD y 0) = true := by
  have hlen := area_len h
  simp only [areaB, Bool.and_eq_true] at h
  refine List.all_eq_true.1 h.2 _ ?_
  rw [List.getD_eq_getElem?_getD, List.getElem?_eq_getElem (by omega)]
  exact List.getElem_mem _
theorem has_meets (rows : List Int) (h : areaB rows = true) (y x : Nat) (hy : y < 24) (hx : x < 48) : Meets Tryz.prog Dc 149 [areaA rows, iS x, iS y] [] (bS (bitB rows y x)) [] := by
  have hlen := area_len h
  have hr := (inB_iff _ _ _).1 (area_row h hy)
  have hb := shr_bit (r := rows.getD y 0) hr.1 hx
  unfold bitB
  rw [← hb]
  refine meets_of_gx Ax tab_ok Tryz.func149 (c := _) rfl Tryz.call149 100 ?_
  (repeat' ((conv => whnf); first | refine x0C (eB ?_ rfl) | (exfalso; omega) | refine x0C ?_ | refine spC (fun hb => ?_) fun hb => ?_ | refine nilC (fun hb => ?_) ?_ | refine taC ?_ | refine saC ?_ | exact sdV | refine side_and ?_ ?_ | refine drawX_of mixed ?_))
  all_goals rfl
def cellN (rows : List Int) : Nat → List Cell
  | 0 => []
  | n + 1 => if bitB rows (n / 48) (n % 48) then cellN rows n ++ [⟨((n % 48 : Nat) : Int), ((n / 48 : Nat) : Int)⟩] else cellN rows n
theorem cellN_t {rows : List Int} {y x : Nat} (hx : x < 48) (h : bitB rows y x = true) : cellN rows (48 * y + x + 1) = cellN rows (48 * y + x) ++ [⟨x, y⟩] := by
  rw [cellN, show (48 * y + x) / 48 = y by omega, show (48 * y + x) % 48 = x by omega, if_pos h]
theorem cellN_f {rows : List Int} {y x : Nat} (hx : x < 48) (h : bitB rows y x = false) : cellN rows (48 * y + x + 1) = cellN rows (48 * y + x) := by
  rw [cellN, show (48 * y + x) / 48 = y by omega, show (48 * y + x) % 48 = x by omega, h]; simp
theorem cellN_len (rows : List Int) : ∀ n, (cellN rows n).length ≤ n
  | 0 => by simp [cellN]
  | n + 1 => by
    have := cellN_len rows n
    rw [cellN]
    split <;> simp <;> omega
theorem cells_meets (rows : List Int) (hl : (rows.length : Int) ≤ 9223372036854775807) : Meets Tryz.prog Dc 132 [areaA rows] [] (.p (.dsl U.cell (if areaB rows then cellN rows 1152 else []))) [] := by
  have h := rvalid rows hl
  cases ha : areaB rows with
  | false =>
    rw [ha] at h
    refine meets_of_gx Ax tab_ok Tryz.func132 (c := _) rfl Tryz.call132 200 ?_
    (repeat' ((conv => whnf); first | (exfalso; omega) | refine cpC (h) ?_ | refine dpC (h) ?_ | refine x0C ?_ | refine spC (fun hb => ?_) fun hb => ?_ | refine nilC (fun hb => ?_) ?_ | refine taC ?_ | refine saC ?_ | exact sdV | refine side_and ?_ ?_ | refine drawX_of mixed ?_))
    all_goals exact vwV
  | true =>
    rw [ha] at h
    refine meets_of_gx Ax tab_ok Tryz.func132 (c := _) rfl Tryz.call132 200 ?_
    (repeat' ((conv => whnf); first | (exfalso; omega) | refine cpC (h) ?_ | refine dpC (h) ?_ | refine x0C ?_ | refine spC (fun hb => ?_) fun hb => ?_ | refine nilC (fun hb => ?_) ?_ | refine taC ?_ | refine saC ?_ | exact sdV | refine side_and ?_ ?_ | refine drawX_of mixed ?_))
    refine loop_inv (fun y : Nat => [(3, .slice 1 0 2 0 (cellN rows (48 * y)).length), (4, iS y)]) (fun y => [.var [lS rows], .rows U.cell (cellN rows (48 * y))]) (fun y => y ≤ 24) (fun y => 24 - y) 0 (Nat.zero_le _) [some 0, none] (by exact bkV) ?_
    intro y hy K hK
    rcases Nat.lt_or_ge y 24 with hlt | hge
    · (repeat' ((conv => whnf); first | (exfalso; omega) | refine x0C ?_ | refine spC (fun hb => ?_) fun hb => ?_ | refine nilC (fun hb => ?_) ?_ | refine taC ?_ | refine saC ?_ | exact sdV | refine side_and ?_ ?_ | refine drawX_of mixed ?_))
      refine loop_inv (fun x : Nat => [(3, .slice 1 0 2 0 (cellN rows (48 * y + x)).length), (5, iS x)]) (fun x => [.var [lS rows], .rows U.cell (cellN rows (48 * y + x))]) (fun x => x ≤ 48) (fun x => 48 - x) 0 (Nat.zero_le _) [some 0, some 1] (by exact bkV) ?_
      intro x hx K' hK'
      have hcl := cellN_len rows (48 * y + x)
      rcases Nat.lt_or_ge x 48 with hxl | hxg
      · have hh := has_meets rows ha y x hlt hxl
        cases hb : bitB rows y x with
        | true =>
          rw [hb] at hh
          have he := cellN_t hxl hb
          (repeat' ((conv => whnf); first | (exfalso; omega) | refine cpC (hh) ?_ | refine dpC (hh) ?_ | refine hK' (x + 1) [some 0, some 3] _ _ ⟨by omega⟩ ⟨by omega⟩ (by (dsimp only; rw [show 48 * y + (x + 1) = 48 * y + x + 1 by omega, he, List.take_length]; exact bkV)) | refine x0C ?_ | refine spC (fun hb => ?_) fun hb => ?_ | refine nilC (fun hb => ?_) ?_ | refine taC ?_ | refine saC ?_ | exact sdV | refine side_and ?_ ?_ | refine drawX_of mixed ?_))
        | false =>
          rw [hb] at hh
          have he := cellN_f hxl hb
          (repeat' ((conv => whnf); first | (exfalso; omega) | refine cpC (hh) ?_ | refine dpC (hh) ?_ | refine hK' (x + 1) [some 0, some 1] _ _ ⟨by omega⟩ ⟨by omega⟩ (by (dsimp only; rw [show 48 * y + (x + 1) = 48 * y + x + 1 by omega, he]; exact bkV)) | refine x0C ?_ | refine spC (fun hb => ?_) fun hb => ?_ | refine nilC (fun hb => ?_) ?_ | refine taC ?_ | refine saC ?_ | exact sdV | refine side_and ?_ ?_ | refine drawX_of mixed ?_))
      · obtain rfl : x = 48 := by omega
        (repeat' ((conv => whnf); first | (exfalso; omega) | refine hK (y + 1) [some 0, some 1] _ _ ⟨by omega⟩ ⟨by omega⟩ (by (dsimp only; rw [show 48 * (y + 1) = 48 * y + 48 by omega]; exact bkV)) | refine x0C ?_ | refine spC (fun hb => ?_) fun hb => ?_ | refine nilC (fun hb => ?_) ?_ | refine taC ?_ | refine saC ?_ | exact sdV | refine side_and ?_ ?_ | refine drawX_of mixed ?_))
    · obtain rfl : y = 24 := by omega
      (repeat' ((conv => whnf); first | (exfalso; omega) | refine x0C ?_ | refine spC (fun hb => ?_) fun hb => ?_ | refine nilC (fun hb => ?_) ?_ | refine taC ?_ | refine saC ?_ | exact sdV | refine side_and ?_ ?_ | refine drawX_of mixed ?_))
      all_goals exact vwV
theorem rcount_meets (rows : List Int) (hl : (rows.length : Int) ≤ 9223372036854775807) : Meets Tryz.prog Dc 98 [areaA rows] [] (iS (if areaB rows then (cellN rows 1152).length else 0)) [] := by
  have h := cells_meets rows hl
  cases ha : areaB rows with
  | false =>
    rw [ha] at h
    refine meets_of_gx Ax tab_ok Tryz.func98 (c := _) rfl Tryz.call98 60 ?_
    (repeat' ((conv => whnf); first | refine x0C (eI ?_ rfl) | refine cpC (h) ?_ | refine dpC (h) ?_ | refine x0C ?_ | refine spC (fun hb => ?_) fun hb => ?_ | refine nilC (fun hb => ?_) ?_ | refine taC ?_ | refine saC ?_ | exact sdV | refine side_and ?_ ?_ | refine drawX_of mixed ?_))
    all_goals rfl
  | true =>
    rw [ha] at h
    refine meets_of_gx Ax tab_ok Tryz.func98 (c := _) rfl Tryz.call98 60 ?_
    (repeat' ((conv => whnf); first | refine x0C (eI ?_ rfl) | refine cpC (h) ?_ | refine dpC (h) ?_ | refine x0C ?_ | refine spC (fun hb => ?_) fun hb => ?_ | refine nilC (fun hb => ?_) ?_ | refine taC ?_ | refine saC ?_ | exact sdV | refine side_and ?_ ?_ | refine drawX_of mixed ?_))
    all_goals rfl
theorem cellN_any {rows : List Int} : ∀ n : Nat, (0 < (cellN rows n).length ↔ ∃ k, k < n ∧ bitB rows (k / 48) (k % 48) = true)
  | 0 => by simp [cellN]
  | n + 1 => by
    have ih := cellN_any (rows := rows) n
    rw [cellN]
    split
    · rename_i h
      simp only [List.length_append, List.length_cons, List.length_nil]
      exact ⟨fun _ => ⟨n, by omega, h⟩, fun _ => by omega⟩
    · rename_i h
      rw [ih]
      constructor
      · rintro ⟨k, h1, h2⟩; exact ⟨k, by omega, h2⟩
      · rintro ⟨k, h1, h2⟩
        by_cases hk : k = n
        · subst hk; exact absurd h2 h
        · exact ⟨k, by omega, h2⟩
theorem bit_ne {m : Nat} (hm : m < 2 ^ 48) : m ≠ 0 ↔ ∃ x, x < 48 ∧ m.testBit x = true := by
  constructor
  · intro h
    obtain ⟨x, hx⟩ := Nat.exists_testBit_of_ne_zero h
    refine ⟨x, ?_, hx⟩
    rcases Nat.lt_or_ge x 48 with h1 | h1
    · exact h1
    · rw [Nat.testBit_lt_two_pow (Nat.lt_of_lt_of_le hm (Nat.pow_le_pow_right (by omega) h1))] at hx; cases hx
  · rintro ⟨x, _, hx⟩ h
    subst h; simp at hx
theorem cellN_pos {rows : List Int} (h : areaB rows = true) : decide (0 < ((cellN rows 1152).length : Int)) = rows.any (fun r => decide (r ≠ 0)) := by
  have hlen := area_len h
  rw [Bool.eq_iff_iff, decide_eq_true_iff, List.any_eq_true]
  have := cellN_any (rows := rows) 1152
  rw [show (0 < ((cellN rows 1152).length : Int)) ↔ 0 < (cellN rows 1152).length by omega, this]
  constructor
  · rintro ⟨k, h1, h2⟩
    have hy : k / 48 < 24 := by omega
    have hr := (inB_iff _ _ _).1 (area_row h hy)
    refine ⟨rows.getD (k / 48) 0, ?_, ?_⟩
    · rw [List.getD_eq_getElem?_getD, List.getElem?_eq_getElem (by omega)]; exact List.getElem_mem _
    · have := (bit_ne (m := (rows.getD (k / 48) 0).toNat) (by omega)).2 ⟨k % 48, by omega, h2⟩
      simp only [decide_eq_true_eq]
      omega
  · rintro ⟨r, h1, h2⟩
    obtain ⟨y, hy, rfl⟩ := List.getElem_of_mem h1
    have hr := (inB_iff _ _ _).1 (area_row h (show y < 24 by omega))
    have e : rows.getD y 0 = rows[y] := by rw [List.getD_eq_getElem?_getD, List.getElem?_eq_getElem hy]; rfl
    rw [e] at hr
    simp only [decide_eq_true_eq] at h2
    obtain ⟨x, hx, hb⟩ := (bit_ne (m := (rows[y]).toNat) (by omega)).1 (by omega)
    refine ⟨48 * y + x, by omega, ?_⟩
    rw [show (48 * y + x) / 48 = y by omega, show (48 * y + x) % 48 = x by omega]
    unfold bitB
    rw [e]; exact hb
end Go.SX

namespace Go.SX
open Go.Proofs
set_option linter.unusedSimpArgs false
set_option linter.unusedVariables false
set_option maxHeartbeats 4000000
set_option maxRecDepth 100000
theorem spell_meets (f t : Int) : Meets Tryz.prog Dc 120 [.agg [iS f, iS t]] [] (bS (spellB f t)) [] := by
  have h1 := in13 f 0 1000000
  have h2 := in13 t 0 1000000
  refine meets_of_gx Ax tab_ok Tryz.func120 (c := _) rfl Tryz.call120 100 ?_
  (repeat' ((conv => whnf); first | refine x0C (eB ?_ rfl) | refine cpC (h1) ?_ | refine dpC (h1) ?_ | refine cpC (h2) ?_ | refine dpC (h2) ?_ | refine x0C ?_ | refine spC (fun hb => ?_) fun hb => ?_ | refine nilC (fun hb => ?_) ?_ | refine taC ?_ | refine saC ?_ | exact sdV | refine side_and ?_ ?_ | refine drawX_of mixed ?_))
  all_goals clear h1 h2
  all_goals (first | (simp_all [spellB]; done) | (simp_all [spellB]; omega) | (simp_all [spellB]; grind))
theorem one_meets (g : Goal) (most : Int) : Meets Tryz.prog Dc 122 [goalA g, iS most] [] (bS (oneB g most)) [] := by
  have h1 := in13 (g.kids.getD (0 : Int).toNat (Cd.dflt U.goal)).kind 1 most
  refine meets_of_gx Ax tab_ok Tryz.func122 (c := _) rfl Tryz.call122 100 ?_
  unfold oneB
  (repeat' ((conv => whnf); first | refine x0C (eB ?_ rfl) | (exfalso; omega) | refine cpC (h1) ?_ | refine dpC (h1) ?_ | refine x0C ?_ | refine spC (fun hb => ?_) fun hb => ?_ | refine nilC (fun hb => ?_) ?_ | refine taC ?_ | refine saC ?_ | exact sdV | refine side_and ?_ ?_ | refine drawX_of mixed ?_))
  · rw [decide_eq_true (by assumption), Bool.true_and]; rfl
  · rw [decide_eq_false (by assumption), Bool.false_and]
theorem bare_meets (g own : Goal) (a c : Bool) : Meets Tryz.prog Dc 119 [goalA g, goalA own, bS a, bS c] [] (bS (bareB g own a c)) [] := by
  refine meets_of_gx Ax tab_ok Tryz.func119 (c := _) rfl Tryz.call119 200 ?_
  (repeat' ((conv => whnf); first | refine x0C (eB ?_ rfl) | refine x0C ?_ | refine spC (fun hb => ?_) fun hb => ?_ | refine nilC (fun hb => ?_) ?_ | refine taC ?_ | refine saC ?_ | exact sdV | refine side_and ?_ ?_ | refine drawX_of mixed ?_))
  all_goals (first | (simp_all [bareB]; done) | (simp_all [bareB]; omega) | (simp_all [bareB]; grind))
@[reducible] def own0 (f t lo hi : Int) (cl : Bool) (d tm w : Int) : Goal := ⟨0, [], f, t, lo, hi, cl, d, tm, w, [], []⟩
theorem kind_meets (g : Goal) (hg : GLen g) : Meets Tryz.prog Dc 84 [goalA g] [] (bS (kindB' g)) [] := by
  obtain ⟨hl1, hl2, hl3⟩ := hg
  have b1 := bare_meets g (own0 g.from_ g.to_ g.low g.high g.clear 0 0 0) true false
  have b2 := bare_meets g (own0 0 0 g.low 0 false 0 0 g.within) false false
  have b3 := bare_meets g (own0 g.from_ 0 0 0 false g.days g.times g.within) false false
  have b4 := bare_meets g (own0 0 0 0 0 false 0 0 g.within) false false
  have b5 := bare_meets g (own0 0 0 0 0 false 0 0 0) false false
  have b6 := bare_meets g (own0 0 0 0 0 false 0 0 0) false true
  have o1 := one_meets g 1
  have o3 := one_meets g 3
  have h0 := rvalid g.rows hl1
  have h1 := rcount_meets g.rows hl1
  have h2 := spell_meets g.from_ g.to_
  have h4 := in13 g.low 0 90
  have h5 := in13 g.high g.low 90
  have h6 := in13 g.low 1 8
  have h7 := in13 g.within 1 1000000
  have h8 := in13 g.days 1 60
  have h9 := in13 g.times 1 6
  have ha1 := in13 g.within 0 (1440 * g.days)
  have ha2 := in13 g.within 0 1000000
  have ha3 := in13 g.from_ 0 1000000
  have ha4 := in13 g.kids.length 2 4
  have i2 := fun h => (inB_iff g.days 1 60).1 h
  have hcp : areaB g.rows = true → decide (0 < (if areaB g.rows then ((cellN g.rows 1152).length : Int) else 0)) = g.rows.any (fun r => decide (r ≠ 0)) := fun h => by rw [h, if_pos rfl]; exact cellN_pos h
  by_cases hk : g.kind = 6
  · unfold kindB'
    rw [if_neg (by omega), if_neg (by omega), if_neg (by omega), if_neg (by omega), if_neg (by omega), if_pos hk]
    clear b1 b2 b3 b4 b5 o1 o3 h0 h1 h2 h4 h5 h6 h7 h8 h9 ha1 ha2 ha3 hcp
    dsimp only [own0] at b6
    generalize bareB g _ _ _ = x6 at b6 ⊢
    refine meets_of_gx Ax tab_ok Tryz.func84 (c := _) rfl Tryz.call84 400 ?_
    (repeat' ((conv => whnf); first | refine x0C (eB ?_ rfl) | (exfalso; omega) | refine x0C ?_ | refine spC (fun hb => ?_) fun hb => ?_ | refine nilC (fun hb => ?_) ?_ | refine taC ?_ | refine saC ?_ | exact sdV | refine side_and ?_ ?_ | refine drawX_of mixed ?_))
    refine loop_up (fun i : Nat => [(4, iS i)]) (fun _ => []) (fun i => i ≤ g.cents.length ∧ (g.cents.take i).all (fun n => inB n 0 1000000000) = true) (fun i => g.cents.length - i) 0 ⟨by omega, by simp⟩ (by exact bkV) ?_
    rintro i ⟨c1, c3⟩ K hK
    rcases Nat.lt_or_ge i g.cents.length with hlt | hge
    · have hg := getD_some (d := Cd.dflt U.int) hlt
      have hx := in13 (g.cents.getD (i : Int).toNat (Cd.dflt U.int)) 0 1000000000
      cases hr : inB (g.cents.getD (i : Int).toNat (Cd.dflt U.int)) 0 1000000000 with
      | true =>
        rw [hr] at hx
        have c5 : (g.cents.take (i + 1)).all (fun n => inB n 0 1000000000) = true := by
          rw [List.take_add_one, hg, List.all_append, c3]
          simpa using hr
        (repeat' ((conv => whnf); first | (exfalso; omega) | refine cpC (hx) ?_ | refine dpC (hx) ?_ | refine hK (i + 1) [some 0, some 1] _ _ ⟨⟨by omega, c5⟩⟩ ⟨by omega⟩ (by exact bkV) | refine x0C ?_ | refine spC (fun hb => ?_) fun hb => ?_ | refine nilC (fun hb => ?_) ?_ | refine taC ?_ | refine saC ?_ | exact sdV | refine side_and ?_ ?_ | refine drawX_of mixed ?_))
      | false =>
        rw [hr] at hx
        have ha : g.cents.all (fun n => inB n 0 1000000000) = false := by
          rw [List.all_eq_false]
          exact ⟨_, List.mem_of_getElem? hg, by rw [hr]; simp⟩
        rw [ha]
        (repeat' ((conv => whnf); first | refine x0C (eB ?_ rfl) | (exfalso; omega) | refine cpC (hx) ?_ | refine dpC (hx) ?_ | refine x0C ?_ | refine spC (fun hb => ?_) fun hb => ?_ | refine nilC (fun hb => ?_) ?_ | refine taC ?_ | refine saC ?_ | exact sdV | refine side_and ?_ ?_ | refine drawX_of mixed ?_))
        all_goals rfl
    · rw [List.take_of_length_le hge] at c3
      rw [c3]
      (repeat' ((conv => whnf); first | refine x0C (eB ?_ rfl) | (exfalso; omega) | refine rdC (b6) ?_ | refine cpC (ha4) ?_ | refine dpC (ha4) ?_ | refine x0C ?_ | refine spC (fun hb => ?_) fun hb => ?_ | refine nilC (fun hb => ?_) ?_ | refine taC ?_ | refine saC ?_ | exact sdV | refine side_and ?_ ?_ | refine drawX_of mixed ?_))
      all_goals clear b6 ha4
      all_goals (first | (simp_all []; done) | (simp_all []; omega) | (simp_all []; grind))
  · unfold kindB'
    generalize (if areaB g.rows then ((cellN g.rows 1152).length : Int) else 0) = n at *
    generalize areaB g.rows = ar at *
    generalize (g.rows.any fun r => decide (r ≠ 0)) = nz at *
    dsimp only [own0] at b1 b2 b3 b4 b5
    generalize bareB g _ _ _ = x1 at b1 ⊢
    generalize bareB g _ _ _ = x2 at b2 ⊢
    generalize bareB g _ _ _ = x3 at b3 ⊢
    generalize bareB g _ _ _ = x4 at b4 ⊢
    generalize bareB g _ _ _ = x5 at b5 ⊢
    generalize oneB g 1 = y1 at *
    generalize oneB g 3 = y3 at *
    generalize spellB g.from_ g.to_ = sp at *
    refine meets_of_gx Ax tab_ok Tryz.func84 (c := _) rfl Tryz.call84 400 ?_
    (repeat' ((conv => whnf); first | refine x0C (eB ?_ rfl) | (exfalso; omega) | (have := i2 (by assumption); refine saC ?_) | refine rdC (b1) ?_ | refine rdC (b2) ?_ | refine rdC (b3) ?_ | refine rdC (b4) ?_ | refine rdC (b5) ?_ | refine cpC (o1) ?_ | refine dpC (o1) ?_ | refine cpC (o3) ?_ | refine dpC (o3) ?_ | refine cpC (h0) ?_ | refine dpC (h0) ?_ | refine cpC (h1) ?_ | refine dpC (h1) ?_ | refine cpC (h2) ?_ | refine dpC (h2) ?_ | refine cpC (h4) ?_ | refine dpC (h4) ?_ | refine cpC (h5) ?_ | refine dpC (h5) ?_ | refine cpC (h6) ?_ | refine dpC (h6) ?_ | refine cpC (h7) ?_ | refine dpC (h7) ?_ | refine cpC (h8) ?_ | refine dpC (h8) ?_ | refine cpC (h9) ?_ | refine dpC (h9) ?_ | refine cpC (ha1) ?_ | refine dpC (ha1) ?_ | refine cpC (ha2) ?_ | refine dpC (ha2) ?_ | refine cpC (ha3) ?_ | refine dpC (ha3) ?_ | refine cpC (ha4) ?_ | refine dpC (ha4) ?_ | refine x0C ?_ | refine spC (fun hb => ?_) fun hb => ?_ | refine nilC (fun hb => ?_) ?_ | refine taC ?_ | refine saC ?_ | exact sdV | refine side_and ?_ ?_ | refine drawX_of mixed ?_))
    all_goals clear b1 b2 b3 b4 b5 b6 o1 o3 h0 h1 h2 h4 h5 h6 h7 h8 h9 ha1 ha2 ha3 ha4
    all_goals (first | (simp_all []; done) | (simp_all []; omega) | (simp_all []; grind))
end Go.SX

namespace Go.SX
open Go.Proofs
set_option linter.unusedSimpArgs false
set_option linter.unusedVariables false
set_option maxHeartbeats 4000000
set_option maxRecDepth 100000
theorem cntL_stop {l : List Goal} {d n : Int} (h : 12 < n) : cntL l d n = n := cntL_big l d n h
theorem cntL_app : ∀ (l : List Goal) (k : List Goal) (d n : Int), cntL (l ++ k) d n = cntL k d (cntL l d n)
  | [], k, d, n => by simp [cntL]
  | x :: l, k, d, n => by
    simp only [List.cons_append, cntL]
    split
    · exact cntL_app l k d _
    · rw [cntL_big k d n (by omega)]
theorem cntG_max : ∀ (j : Nat) (g : Goal) (d : Int), 5 ≤ d + j → cntG g d ≤ 13 + 12 * j
  | j, g, d, hj => by
    rw [cntG_eq]
    split
    · omega
    · rename_i hc
      simp only [Bool.or_eq_true, decide_eq_true_eq, not_or] at hc
      cases j with
      | zero => omega
      | succ j =>
        have key : ∀ (l : List Goal) (n : Int), n ≤ 12 + (13 + 12 * j) → cntL l (d + 1) n ≤ 12 + (13 + 12 * j) := by
          intro l
          induction l with
          | nil => intro n hn; rw [cntL]; exact hn
          | cons k l ih =>
            intro n hn
            rw [cntL]
            split
            · have := cntG_max j k (d + 1) (by omega)
              exact ih _ (by omega)
            · exact hn
        have := key g.kids 1 (by omega)
        omega
theorem count13 : ∀ (j : Nat) (g : Goal) (d : Int), d + j = 5 → 1 ≤ d → GAll g → Meets Tryz.prog Dc 59 [goalA g, iS d] [] (iS (cntG g d)) [] := by
  intro j
  induction j with
  | zero =>
    intro g d hj hd hG
    rw [show cntG g d = 13 by rw [cntG_eq]; simp; omega]
    refine meets_of_gx Ax tab_ok Tryz.func59 (c := _) rfl Tryz.call59 400 ?_
    (repeat' ((conv => whnf); first | refine x0C (eI ?_ rfl) | (exfalso; omega) | refine x0C ?_ | refine spC (fun hb => ?_) fun hb => ?_ | refine nilC (fun hb => ?_) ?_ | refine taC ?_ | refine saC ?_ | exact sdV | refine side_and ?_ ?_ | refine drawX_of mixed ?_))
    all_goals rfl
  | succ j ih =>
    intro g d hj hd hG
    have hgl := ((GAll_iff g).1 hG).1
    have hkl := hgl.kids
    have hkk := ((GAll_iff g).1 hG).2
    have h1 := kind_meets g hgl
    rw [cntG_eq, show decide (4 < d) = false by simp; omega, Bool.false_or]
    cases hok : kindB' g with
    | false =>
      rw [hok] at h1
      refine meets_of_gx Ax tab_ok Tryz.func59 (c := _) rfl Tryz.call59 400 ?_
      (repeat' ((conv => whnf); first | refine x0C (eI ?_ rfl) | (exfalso; omega) | refine cpC (h1) ?_ | refine dpC (h1) ?_ | refine x0C ?_ | refine spC (fun hb => ?_) fun hb => ?_ | refine nilC (fun hb => ?_) ?_ | refine taC ?_ | refine saC ?_ | exact sdV | refine side_and ?_ ?_ | refine drawX_of mixed ?_))
      all_goals rfl
    | true =>
      rw [hok] at h1
      simp only [Bool.not_true]
      refine meets_of_gx Ax tab_ok Tryz.func59 (c := _) rfl Tryz.call59 400 ?_
      (repeat' ((conv => whnf); first | (exfalso; omega) | refine cpC (h1) ?_ | refine dpC (h1) ?_ | refine x0C ?_ | refine spC (fun hb => ?_) fun hb => ?_ | refine nilC (fun hb => ?_) ?_ | refine taC ?_ | refine saC ?_ | exact sdV | refine side_and ?_ ?_ | refine drawX_of mixed ?_))
      clear h1
      refine loop_up (fun i : Nat => [(5, iS (cntL (g.kids.take i) (d + 1) 1)), (6, iS i)]) (fun _ => []) (fun i => i ≤ g.kids.length) (fun i => g.kids.length - i) 0 (Nat.zero_le _) (by exact bkV) ?_
      intro i hi K hK
      have hpos := cntL_pos (g.kids.take i) (d + 1) 1 (by omega)
      have happ := cntL_app (g.kids.take i) (g.kids.drop i) (d + 1) 1
      rw [List.take_append_drop] at happ
      rcases Nat.lt_or_ge i g.kids.length with hlt | hge
      · have hg := getD_some (d := Cd.dflt U.goal) hlt
        have hx := ih _ (d + 1) (by omega) (by omega) (GAllL_mem hkk (List.mem_of_getElem? hg))
        have ht : g.kids.take (i + 1) = g.kids.take i ++ [g.kids.getD (i : Int).toNat (Cd.dflt U.goal)] := by rw [List.take_add_one, hg]; rfl
        have hs := cntL_app (g.kids.take i) [g.kids.getD (i : Int).toNat (Cd.dflt U.goal)] (d + 1) 1
        rw [← ht] at hs
        have hm := cntG_max j (g.kids.getD (i : Int).toNat (Cd.dflt U.goal)) (d + 1) (by omega)
        have hp := cntG_pos (g.kids.getD (i : Int).toNat (Cd.dflt U.goal)) (d + 1)
        generalize cntL (g.kids.take i) (d + 1) 1 = n at *
        by_cases hn : n ≤ 12
        · rw [cntL, if_pos hn, cntL] at hs
          (repeat' ((conv => whnf); first | (exfalso; omega) | refine cpC (hx) ?_ | refine dpC (hx) ?_ | refine hK (i + 1) [some 0] _ _ ⟨by omega⟩ ⟨by omega⟩ (by (dsimp only; rw [hs]; exact bkV)) | refine x0C ?_ | refine spC (fun hb => ?_) fun hb => ?_ | refine nilC (fun hb => ?_) ?_ | refine taC ?_ | refine saC ?_ | exact sdV | refine side_and ?_ ?_ | refine drawX_of mixed ?_))
        · rw [cntL_big (g.kids.drop i) (d + 1) n (by omega)] at happ
          rw [happ]
          (repeat' ((conv => whnf); first | refine x0C (eI ?_ rfl) | (exfalso; omega) | refine x0C ?_ | refine spC (fun hb => ?_) fun hb => ?_ | refine nilC (fun hb => ?_) ?_ | refine taC ?_ | refine saC ?_ | exact sdV | refine side_and ?_ ?_ | refine drawX_of mixed ?_))
          all_goals rfl
      · rw [List.drop_of_length_le hge, cntL] at happ
        rw [happ]
        generalize cntL (g.kids.take i) (d + 1) 1 = n at *
        (repeat' ((conv => whnf); first | refine x0C (eI ?_ rfl) | (exfalso; omega) | refine x0C ?_ | refine spC (fun hb => ?_) fun hb => ?_ | refine nilC (fun hb => ?_) ?_ | refine taC ?_ | refine saC ?_ | exact sdV | refine side_and ?_ ?_ | refine drawX_of mixed ?_))
        all_goals rfl
theorem valid13 (g : Goal) (hG : GAll g) : Meets Tryz.prog Dc 38 [goalA g] [] (bS (validG g)) [] := by
  have h := count13 4 g 1 (by omega) (by omega) hG
  rw [valid_cnt]
  refine meets_of_gx Ax tab_ok Tryz.func38 (c := _) rfl Tryz.call38 60 ?_
  (repeat' ((conv => whnf); first | refine x0C (eB ?_ rfl) | refine cpC (h) ?_ | refine dpC (h) ?_ | refine x0C ?_ | refine spC (fun hb => ?_) fun hb => ?_ | refine nilC (fun hb => ?_) ?_ | refine taC ?_ | refine saC ?_ | exact sdV | refine side_and ?_ ?_ | refine drawX_of mixed ?_))
  all_goals rfl
end Go.SX

namespace Go.SX
open Go.Proofs
set_option linter.unusedSimpArgs false
set_option linter.unusedVariables false
set_option maxHeartbeats 4000000
set_option maxRecDepth 100000
def zipP (fn : Int → Int → Int) (a b : List Int) (i : Nat) : List Int := (List.range 24).map fun y => if y < i then fn (a.getD y 0) (b.getD y 0) else 0
def zipR (fn : Int → Int → Int) (a b : List Int) : List Int := (List.range 24).map fun y => fn (a.getD y 0) (b.getD y 0)
theorem zipP_len (fn : Int → Int → Int) (a b : List Int) (i : Nat) : (zipP fn a b i).length = 24 := by simp [zipP]
theorem zipP_zero (fn : Int → Int → Int) (a b : List Int) : zipP fn a b 0 = List.replicate 24 0 := by simp [zipP]; rfl
theorem zipP_end (fn : Int → Int → Int) (a b : List Int) : zipP fn a b 24 = zipR fn a b := by
  unfold zipP zipR
  refine List.map_congr_left fun y hy => ?_
  rw [if_pos (List.mem_range.1 hy)]
theorem tab_set (f g : Nat → Int) {n i : Nat} (hi : i < n) (h : ∀ y, y < n → y ≠ i → f y = g y) : ((List.range n).map f).set i (g i) = (List.range n).map g := by
  refine List.ext_getElem (by simp) fun j h1 h2 => ?_
  simp only [List.length_set, List.length_map, List.length_range] at h1
  rw [List.getElem_set]
  split
  · rename_i e; subst e; simp
  · rename_i e; simp; exact h j h1 (Ne.symm e)
theorem zipP_set (fn : Int → Int → Int) (a b : List Int) {i : Nat} (hi : i < 24) : (zipP fn a b i).set i (fn (a.getD i 0) (b.getD i 0)) = zipP fn a b (i + 1) := by
  have := tab_set (fun y => if y < i then fn (a.getD y 0) (b.getD y 0) else 0) (fun y => if y < i + 1 then fn (a.getD y 0) (b.getD y 0) else 0) hi (fun y hy hne => by
    by_cases h : y < i
    · rw [if_pos h, if_pos (by omega)]
    · rw [if_neg h, if_neg (by omega)])
  rw [if_pos (by omega)] at this
  exact this
theorem empty_meets : Meets Tryz.prog Dc 147 [] [] (.agg [.slice 0 0 1 0 24]) [.rows U.int (List.replicate 24 0)] := by
  refine meets_of_gx Ax tab_ok Tryz.func147 (c := _) rfl Tryz.call147 60 ?_
  (repeat' ((conv => whnf); first | (exfalso; omega) | (refine end_fn [some 1] (.inr rfl) ?_ ?_ rfl rfl; (focus exact vwV); exact hsV) | refine x0C ?_ | refine spC (fun hb => ?_) fun hb => ?_ | refine nilC (fun hb => ?_) ?_ | refine taC ?_ | refine saC ?_ | exact sdV | refine side_and ?_ ?_ | refine drawX_of mixed ?_))
theorem mixed_meets {f : FuncId} (fn : Int → Int → Int) (hf : ∀ p q, Meets Tryz.prog Dc f [iS p, iS q] [] (iS (fn p q)) []) (a b : List Int) (ha : (a.length : Int) ≤ 9223372036854775807) (hb : (b.length : Int) ≤ 9223372036854775807) :
    Meets Tryz.prog Dc 129 [areaA a, areaA b, .fn (.func f) [] []] [] (.tuple [areaA (if areaB a && areaB b then zipR fn a b else []), iS (if areaB a && areaB b then 0 else 50)]) [] := by
  have h1 := gvalid a ha
  have h2 := gvalid b hb
  have h3 := empty_meets
  cases hva : areaB a with
  | false =>
    rw [hva] at h1
    refine meets_of_gx Ax tab_ok Tryz.func129 (c := _) rfl Tryz.call129 200 ?_
    (repeat' ((conv => whnf); first | (exfalso; omega) | refine cpC (h1) ?_ | refine dpC (h1) ?_ | refine cpC (h2) ?_ | refine dpC (h2) ?_ | refine x0C ?_ | refine spC (fun hb => ?_) fun hb => ?_ | refine nilC (fun hb => ?_) ?_ | refine taC ?_ | refine saC ?_ | exact sdV | refine side_and ?_ ?_ | refine drawX_of mixed ?_))
    all_goals exact vwV
  | true =>
    cases hvb : areaB b with
    | false =>
      rw [hva] at h1
      rw [hvb] at h2
      refine meets_of_gx Ax tab_ok Tryz.func129 (c := _) rfl Tryz.call129 200 ?_
      (repeat' ((conv => whnf); first | (exfalso; omega) | refine cpC (h1) ?_ | refine dpC (h1) ?_ | refine cpC (h2) ?_ | refine dpC (h2) ?_ | refine x0C ?_ | refine spC (fun hb => ?_) fun hb => ?_ | refine nilC (fun hb => ?_) ?_ | refine taC ?_ | refine saC ?_ | exact sdV | refine side_and ?_ ?_ | refine drawX_of mixed ?_))
      all_goals exact vwV
    | true =>
      rw [hva] at h1
      rw [hvb] at h2
      simp only [Bool.and_self, if_true]
      have l1 := area_len hva
      have l2 := area_len hvb
      refine meets_of_gx Ax tab_ok Tryz.func129 (c := _) rfl Tryz.call129 200 ?_
      (repeat' ((conv => whnf); first | (exfalso; omega) | refine cpC (h1) ?_ | refine dpC (h1) ?_ | refine cpC (h2) ?_ | refine dpC (h2) ?_ | (refine callh [] h3 rfl rfl trivial ?_) | refine x0C ?_ | refine spC (fun hb => ?_) fun hb => ?_ | refine nilC (fun hb => ?_) ?_ | refine taC ?_ | refine saC ?_ | exact sdV | refine side_and ?_ ?_ | refine drawX_of mixed ?_))
      refine loop_up (fun i : Nat => [(23, iS i)]) (fun i => [(3, .rows U.int (zipP fn a b i))]) (fun i => i ≤ 24) (fun i => 24 - i) 0 (Nat.zero_le _) (by (rw [zipP_zero]; exact bkV)) ?_
      intro i hi K hK
      have hz := zipP_len fn a b i
      rcases Nat.lt_or_ge i 24 with hlt | hge
      · have hx := hf (a.getD (i : Int).toNat (Cd.dflt U.int)) (b.getD (i : Int).toNat (Cd.dflt U.int))
        have hs : (zipP fn a b i).set (0 + (i : Int).toNat) (fn (a.getD (i : Int).toNat (Cd.dflt U.int)) (b.getD (i : Int).toNat (Cd.dflt U.int))) = zipP fn a b (i + 1) := by
          rw [Nat.zero_add]; exact zipP_set fn a b hlt
        (repeat' ((conv => whnf); first | (exfalso; omega) | refine cpC (hx) ?_ | refine dpC (hx) ?_ | refine hK (i + 1) [some 0, some 1, some 2, some 3, some 4] _ _ ⟨by omega⟩ ⟨by omega⟩ (by (dsimp only; rw [← hs]; exact bkV)) | refine x0C ?_ | refine spC (fun hb => ?_) fun hb => ?_ | refine nilC (fun hb => ?_) ?_ | refine taC ?_ | refine saC ?_ | exact sdV | refine side_and ?_ ?_ | refine drawX_of mixed ?_))
      · obtain rfl : i = 24 := by omega
        rw [zipP_end] at hz ⊢
        (repeat' ((conv => whnf); first | (exfalso; omega) | refine x0C ?_ | refine spC (fun hb => ?_) fun hb => ?_ | refine nilC (fun hb => ?_) ?_ | refine taC ?_ | refine saC ?_ | exact sdV | refine side_and ?_ ?_ | refine drawX_of mixed ?_))
        all_goals exact vwV
theorem less1 (p q : Int) : Meets Tryz.prog Dc 130 [iS p, iS q] [] (iS (bitop .andNot .i64 p q)) [] := by
  refine meets_of_gx Ax tab_ok Tryz.func130 (c := _) rfl Tryz.call130 60 ?_
  (repeat' ((conv => whnf); first | refine x0C (eI ?_ rfl) | refine x0C ?_ | refine spC (fun hb => ?_) fun hb => ?_ | refine nilC (fun hb => ?_) ?_ | refine taC ?_ | refine saC ?_ | exact sdV | refine side_and ?_ ?_ | refine drawX_of mixed ?_))
  all_goals rfl
def andN (p q : Int) : Int := bitop .andNot .i64 p q
theorem less_meets (a b : List Int) (ha : (a.length : Int) ≤ 9223372036854775807) (hb : (b.length : Int) ≤ 9223372036854775807) :
    Meets Tryz.prog Dc 96 [areaA a, areaA b] [] (.tuple [areaA (if areaB a && areaB b then zipR andN a b else []), iS (if areaB a && areaB b then 0 else 50)]) [] := by
  have h := mixed_meets (f := 130) andN less1 a b ha hb
  refine meets_of_gx Ax tab_ok Tryz.func96 (c := _) rfl Tryz.call96 60 ?_
  (repeat' ((conv => whnf); first | refine cpC (h) ?_ | refine dpC (h) ?_ | refine x0C ?_ | refine spC (fun hb => ?_) fun hb => ?_ | refine nilC (fun hb => ?_) ?_ | refine taC ?_ | refine saC ?_ | exact sdV | refine side_and ?_ ?_ | refine drawX_of mixed ?_))
  all_goals exact vwV
theorem cont_eq (a b : List Int) (ha : areaB a = true) (hb : areaB b = true) : decide (zipR andN b a = List.replicate 24 0) = contB a b := by
  unfold contB
  rw [ha, hb, Bool.true_and, Bool.true_and, Bool.eq_iff_iff, decide_eq_true_iff, List.all_eq_true]
  have e : zipR andN b a = (List.range 24).map fun y => (lessN (b.getD y 0) (a.getD y 0) : Int) := by
    unfold zipR
    refine List.map_congr_left fun y hy => ?_
    exact andNot_row (area_row hb (List.mem_range.1 hy)) (area_row ha (List.mem_range.1 hy))
  rw [e]
  have e2 : List.replicate 24 (0 : Int) = (List.range 24).map fun _ => (0 : Int) := rfl
  rw [e2]
  constructor
  · intro h y hy
    have := List.map_inj_left.1 h y hy
    simp only [decide_eq_true_eq]
    have h2 : lessN (b.getD y 0) (a.getD y 0) = 0 := by simpa using this
    exact h2
  · intro h
    refine List.map_congr_left fun y hy => ?_
    have := h y hy
    simp only [decide_eq_true_eq] at this
    have h2 : lessN (b.getD y 0) (a.getD y 0) = 0 := this
    show ((lessN (b.getD y 0) (a.getD y 0) : Nat) : Int) = 0
    rw [h2]; rfl
theorem contains_meets (a b : List Int) (ha : (a.length : Int) ≤ 9223372036854775807) (hb : (b.length : Int) ≤ 9223372036854775807) : Meets Tryz.prog Dc 69 [areaA a, areaA b] [] (bS (contB a b)) [] := by
  have h := less_meets b a hb ha
  cases hva : areaB a with
  | false =>
    rw [hva, Bool.and_false] at h
    rw [show contB a b = false by unfold contB; rw [hva]; rfl]
    refine meets_of_gx Ax tab_ok Tryz.func69 (c := _) rfl Tryz.call69 100 ?_
    (repeat' ((conv => whnf); first | refine x0C (eB ?_ rfl) | (exfalso; omega) | refine cpC (h) ?_ | refine dpC (h) ?_ | refine x0C ?_ | refine spC (fun hb => ?_) fun hb => ?_ | refine nilC (fun hb => ?_) ?_ | refine taC ?_ | refine saC ?_ | exact sdV | refine side_and ?_ ?_ | refine drawX_of mixed ?_))
    all_goals rfl
  | true =>
    cases hvb : areaB b with
    | false =>
      rw [hvb, Bool.false_and] at h
      rw [show contB a b = false by unfold contB; rw [hvb, Bool.and_false]; rfl]
      refine meets_of_gx Ax tab_ok Tryz.func69 (c := _) rfl Tryz.call69 100 ?_
      (repeat' ((conv => whnf); first | refine x0C (eB ?_ rfl) | (exfalso; omega) | refine cpC (h) ?_ | refine dpC (h) ?_ | refine x0C ?_ | refine spC (fun hb => ?_) fun hb => ?_ | refine nilC (fun hb => ?_) ?_ | refine taC ?_ | refine saC ?_ | exact sdV | refine side_and ?_ ?_ | refine drawX_of mixed ?_))
      all_goals rfl
    | true =>
      rw [hva, hvb] at h
      rw [← cont_eq a b hva hvb]
      simp only [Bool.and_self, if_true] at h
      refine meets_of_gx Ax tab_ok Tryz.func69 (c := _) rfl Tryz.call69 100 ?_
      have hz : (zipR andN b a).length = 24 := by simp [zipR]
      (repeat' ((conv => whnf); first | refine x0C (eB ?_ rfl) | (exfalso; omega) | refine cpC (h) ?_ | refine dpC (h) ?_ | refine x0C ?_ | refine spC (fun hb => ?_) fun hb => ?_ | refine nilC (fun hb => ?_) ?_ | refine taC ?_ | refine saC ?_ | exact sdV | refine side_and ?_ ?_ | refine drawX_of mixed ?_))
      exact Bool.and_true _
end Go.SX

namespace Go.SX
open Go.Proofs
set_option linter.unusedSimpArgs false
set_option linter.unusedVariables false
set_option maxHeartbeats 4000000
set_option maxRecDepth 100000
theorem rempty : Meets Tryz.prog Dc 148 [] [] (.agg [.slice 0 0 1 0 24]) [.rows U.int (List.replicate 24 0)] := by
  refine meets_of_gx Ax tab_ok Tryz.func148 (c := _) rfl Tryz.call148 60 ?_
  (repeat' ((conv => whnf); first | (exfalso; omega) | (refine end_fn [some 1] (.inr rfl) ?_ ?_ rfl rfl; (focus exact vwV); exact hsV) | refine x0C ?_ | refine spC (fun hb => ?_) fun hb => ?_ | refine nilC (fun hb => ?_) ?_ | refine taC ?_ | refine saC ?_ | exact sdV | refine side_and ?_ ?_ | refine drawX_of mixed ?_))
def outF (a b : List Int) (y x : Nat) (j : Nat) : Int := if j < y then (lessN (a.getD j 0) (b.getD j 0) : Int) else if j = y then ((lessN (a.getD j 0) (b.getD j 0) % 2 ^ x : Nat) : Int) else 0
def outL (a b : List Int) (y x : Nat) : List Int := (List.range 24).map (outF a b y x)
def lessR (a b : List Int) : List Int := (List.range 24).map fun j => (lessN (a.getD j 0) (b.getD j 0) : Int)
theorem outL_len (a b : List Int) (y x : Nat) : (outL a b y x).length = 24 := by simp [outL]
theorem outL_zero (a b : List Int) : outL a b 0 0 = List.replicate 24 0 := by
  have e2 : List.replicate 24 (0 : Int) = (List.range 24).map fun _ => (0 : Int) := rfl
  rw [e2]
  refine List.map_congr_left fun j _ => ?_
  unfold outF
  split
  · omega
  · split
    · simp [Nat.mod_one]
    · rfl
theorem outL_end (a b : List Int) : outL a b 24 0 = lessR a b := by
  refine List.map_congr_left fun j hj => ?_
  unfold outF
  rw [if_pos (List.mem_range.1 hj)]
theorem outL_row {a b : List Int} (ha : areaB a = true) {y : Nat} (hy : y < 24) : outL a b y 48 = outL a b (y + 1) 0 := by
  refine List.map_congr_left fun j hj => ?_
  unfold outF
  by_cases h1 : j < y
  · rw [if_pos h1, if_pos (by omega)]
  · by_cases h2 : j = y
    · rw [if_neg h1, if_pos h2, if_pos (by omega), Nat.mod_eq_of_lt (lessN_lt (area_row ha (by omega)))]
    · rw [if_neg h1, if_neg h2, if_neg (by omega)]
      split
      · simp [Nat.mod_one]
      · rfl
theorem outL_get (a b : List Int) {y : Nat} (x : Nat) (hy : y < 24) : (outL a b y x).getD y 0 = ((lessN (a.getD y 0) (b.getD y 0) % 2 ^ x : Nat) : Int) := by
  unfold outL
  rw [List.getD_eq_getElem?_getD, List.getElem?_map, List.getElem?_range hy]
  simp [outF]
theorem outL_t {a b : List Int} (ha : areaB a = true) (hb : areaB b = true) {y x : Nat} (hy : y < 24) (hx : x < 48) (h1 : bitB a y x = true) (h2 : bitB b y x = false) :
    (outL a b y x).set y (bitop .or .i64 ((outL a b y x).getD y 0) (shlop .i64 1 x)) = outL a b y (x + 1) := by
  have hbit : (lessN (a.getD y 0) (b.getD y 0)).testBit x = true := by
    rw [lessN_bit (area_row ha hy) (area_row hb hy)]
    unfold bitB at h1 h2
    rw [h1, h2]; rfl
  rw [outL_get a b x hy, mod_step_t hx hbit]
  have := tab_set (outF a b y x) (outF a b y (x + 1)) hy (fun j hj hne => by
    unfold outF
    split
    · rfl
    · first | rfl | rw [if_neg hne, if_neg hne])
  rw [show outF a b y (x + 1) y = ((lessN (a.getD y 0) (b.getD y 0) % 2 ^ (x + 1) : Nat) : Int) by simp [outF]] at this
  exact this
theorem outL_f {a b : List Int} (ha : areaB a = true) (hb : areaB b = true) {y x : Nat} (hy : y < 24) (h : (bitB a y x && !bitB b y x) = false) : outL a b y (x + 1) = outL a b y x := by
  have hbit : (lessN (a.getD y 0) (b.getD y 0)).testBit x = false := by
    rw [lessN_bit (area_row ha hy) (area_row hb hy)]
    exact h
  refine List.map_congr_left fun j hj => ?_
  unfold outF
  split
  · rfl
  · split
    · rename_i h2; subst h2; rw [mod_step_f hbit]
    · rfl
theorem joined_meets (a b : List Int) (ha : (a.length : Int) ≤ 9223372036854775807) (hb : (b.length : Int) ≤ 9223372036854775807) :
    Meets Tryz.prog Dc 131 [areaA a, areaA b, .agg [.arr U.bool 4 [false, false, true, false]]] [] (.tuple [areaA (if areaB a && areaB b then lessR a b else []), iS (if areaB a && areaB b then 0 else 50)]) [] := by
  have h1 := rvalid a ha
  have h2 := rvalid b hb
  have h3 := rempty
  cases hva : areaB a with
  | false =>
    rw [hva] at h1
    refine meets_of_gx Ax tab_ok Tryz.func131 (c := _) rfl Tryz.call131 200 ?_
    (repeat' ((conv => whnf); first | (exfalso; omega) | refine cpC (h1) ?_ | refine dpC (h1) ?_ | refine cpC (h2) ?_ | refine dpC (h2) ?_ | refine x0C ?_ | refine spC (fun hb => ?_) fun hb => ?_ | refine nilC (fun hb => ?_) ?_ | refine taC ?_ | refine saC ?_ | exact sdV | refine side_and ?_ ?_ | refine drawX_of mixed ?_))
    all_goals exact vwV
  | true =>
    cases hvb : areaB b with
    | false =>
      rw [hva] at h1
      rw [hvb] at h2
      refine meets_of_gx Ax tab_ok Tryz.func131 (c := _) rfl Tryz.call131 200 ?_
      (repeat' ((conv => whnf); first | (exfalso; omega) | refine cpC (h1) ?_ | refine dpC (h1) ?_ | refine cpC (h2) ?_ | refine dpC (h2) ?_ | refine x0C ?_ | refine spC (fun hb => ?_) fun hb => ?_ | refine nilC (fun hb => ?_) ?_ | refine taC ?_ | refine saC ?_ | exact sdV | refine side_and ?_ ?_ | refine drawX_of mixed ?_))
      all_goals exact vwV
    | true =>
      rw [hva] at h1
      rw [hvb] at h2
      simp only [Bool.and_self, if_true]
      refine meets_of_gx Ax tab_ok Tryz.func131 (c := _) rfl Tryz.call131 200 ?_
      (repeat' ((conv => whnf); first | (exfalso; omega) | refine cpC (h1) ?_ | refine dpC (h1) ?_ | refine cpC (h2) ?_ | refine dpC (h2) ?_ | (refine callh [] h3 rfl rfl trivial ?_) | refine x0C ?_ | refine spC (fun hb => ?_) fun hb => ?_ | refine nilC (fun hb => ?_) ?_ | refine taC ?_ | refine saC ?_ | exact sdV | refine side_and ?_ ?_ | refine drawX_of mixed ?_))
      refine loop_up (fun y : Nat => [(9, iS y)]) (fun y => [(4, .rows U.int (outL a b y 0))]) (fun y => y ≤ 24) (fun y => 24 - y) 0 (Nat.zero_le _) (by (rw [outL_zero]; exact bkV)) ?_
      intro y hy K hK
      rcases Nat.lt_or_ge y 24 with hlt | hge
      · (repeat' ((conv => whnf); first | (exfalso; omega) | refine x0C ?_ | refine spC (fun hb => ?_) fun hb => ?_ | refine nilC (fun hb => ?_) ?_ | refine taC ?_ | refine saC ?_ | exact sdV | refine side_and ?_ ?_ | refine drawX_of mixed ?_))
        refine loop_up (fun x : Nat => [(10, iS x)]) (fun x => [(4, .rows U.int (outL a b y x))]) (fun x => x ≤ 48) (fun x => 48 - x) 0 (Nat.zero_le _) (by exact bkV) ?_
        intro x hx K' hK'
        have hz := outL_len a b y x
        rcases Nat.lt_or_ge x 48 with hxl | hxg
        · have g1 := has_meets a hva y x hlt hxl
          have g2 := has_meets b hvb y x hlt hxl
          have hm : ((x : Nat) : Int).tmod 48 = x := by rw [Int.tmod_eq_emod_of_nonneg (by omega)]; omega
          have hm0 : ¬ (((x : Nat) : Int).tmod 48 < 0) := by rw [hm]; omega
          have hm1 : 0 ≤ ((x : Nat) : Int).tmod 48 := by rw [hm]; omega
          cases h1' : bitB a y x <;> cases h2' : bitB b y x <;> rw [h1'] at g1 <;> rw [h2'] at g2
          · have he := outL_f hva hvb (x := x) hlt (by rw [h1', h2']; rfl)
            (repeat' ((conv => whnf); first | (exfalso; omega) | refine cpC (g1) ?_ | refine dpC (g1) ?_ | refine cpC (g2) ?_ | refine dpC (g2) ?_ | refine hK' (x + 1) [some 0, some 1, some 2, some 3, some 4, some 5] _ _ ⟨by omega⟩ ⟨by omega⟩ (by (dsimp only; rw [he]; exact bkV)) | refine x0C ?_ | refine spC (fun hb => ?_) fun hb => ?_ | refine nilC (fun hb => ?_) ?_ | refine taC ?_ | refine saC ?_ | exact sdV | refine side_and ?_ ?_ | refine drawX_of mixed ?_))
          · have he := outL_f hva hvb (x := x) hlt (by rw [h1', h2']; rfl)
            (repeat' ((conv => whnf); first | (exfalso; omega) | refine cpC (g1) ?_ | refine dpC (g1) ?_ | refine cpC (g2) ?_ | refine dpC (g2) ?_ | refine hK' (x + 1) [some 0, some 1, some 2, some 3, some 4, some 5] _ _ ⟨by omega⟩ ⟨by omega⟩ (by (dsimp only; rw [he]; exact bkV)) | refine x0C ?_ | refine spC (fun hb => ?_) fun hb => ?_ | refine nilC (fun hb => ?_) ?_ | refine taC ?_ | refine saC ?_ | exact sdV | refine side_and ?_ ?_ | refine drawX_of mixed ?_))
          · have he := outL_t hva hvb hlt hxl h1' h2'
            have he' : (outL a b y x).set (0 + ((y : Nat) : Int).toNat) (bitop .or .i64 ((outL a b y x).getD (0 + ((y : Nat) : Int).toNat) (Cd.dflt U.int)) (shlop .i64 1 (((x : Nat) : Int).tmod 48))) = outL a b y (x + 1) := by
              rw [hm, Nat.zero_add, Int.toNat_natCast]; exact he
            (repeat' ((conv => whnf); first | (exfalso; omega) | refine cpC (g1) ?_ | refine dpC (g1) ?_ | refine cpC (g2) ?_ | refine dpC (g2) ?_ | (refine call_in Ax tab_ok Tryz.func150 (c := _) rfl Tryz.call150 100 ?_) | refine hK' (x + 1) [some 0, some 1, some 2, some 3, some 4, some 5] _ _ ⟨by omega⟩ ⟨by omega⟩ (by (dsimp only; rw [← he']; exact bkV)) | refine x0C ?_ | refine spC (fun hb => ?_) fun hb => ?_ | refine nilC (fun hb => ?_) ?_ | refine taC ?_ | refine saC ?_ | exact sdV | refine side_and ?_ ?_ | refine drawX_of mixed ?_))
          · have he := outL_f hva hvb (x := x) hlt (by rw [h1', h2']; rfl)
            (repeat' ((conv => whnf); first | (exfalso; omega) | refine cpC (g1) ?_ | refine dpC (g1) ?_ | refine cpC (g2) ?_ | refine dpC (g2) ?_ | refine hK' (x + 1) [some 0, some 1, some 2, some 3, some 4, some 5] _ _ ⟨by omega⟩ ⟨by omega⟩ (by (dsimp only; rw [he]; exact bkV)) | refine x0C ?_ | refine spC (fun hb => ?_) fun hb => ?_ | refine nilC (fun hb => ?_) ?_ | refine taC ?_ | refine saC ?_ | exact sdV | refine side_and ?_ ?_ | refine drawX_of mixed ?_))
        · obtain rfl : x = 48 := by omega
          (repeat' ((conv => whnf); first | (exfalso; omega) | refine hK (y + 1) [some 0, some 1, some 2, some 3, some 4, some 5] _ _ ⟨by omega⟩ ⟨by omega⟩ (by (dsimp only; rw [← outL_row hva hlt]; exact bkV)) | refine x0C ?_ | refine spC (fun hb => ?_) fun hb => ?_ | refine nilC (fun hb => ?_) ?_ | refine taC ?_ | refine saC ?_ | exact sdV | refine side_and ?_ ?_ | refine drawX_of mixed ?_))
      · obtain rfl : y = 24 := by omega
        have hz : (lessR a b).length = 24 := by simp [lessR]
        rw [outL_end]
        (repeat' ((conv => whnf); first | (exfalso; omega) | refine x0C ?_ | refine spC (fun hb => ?_) fun hb => ?_ | refine nilC (fun hb => ?_) ?_ | refine taC ?_ | refine saC ?_ | exact sdV | refine side_and ?_ ?_ | refine drawX_of mixed ?_))
        all_goals exact vwV
theorem rless_meets (a b : List Int) (ha : (a.length : Int) ≤ 9223372036854775807) (hb : (b.length : Int) ≤ 9223372036854775807) :
    Meets Tryz.prog Dc 97 [areaA a, areaA b] [] (.tuple [areaA (if areaB a && areaB b then lessR a b else []), iS (if areaB a && areaB b then 0 else 50)]) [] := by
  have h := joined_meets a b ha hb
  refine meets_of_gx Ax tab_ok Tryz.func97 (c := _) rfl Tryz.call97 60 ?_
  (repeat' ((conv => whnf); first | (exfalso; omega) | refine cpC (h) ?_ | refine dpC (h) ?_ | refine x0C ?_ | refine spC (fun hb => ?_) fun hb => ?_ | refine nilC (fun hb => ?_) ?_ | refine taC ?_ | refine saC ?_ | exact sdV | refine side_and ?_ ?_ | refine drawX_of mixed ?_))
  all_goals exact vwV
theorem lessR_area {a b : List Int} (ha : areaB a = true) : areaB (lessR a b) = true := by
  unfold areaB lessR
  simp only [List.length_map, List.length_range, Bool.and_eq_true, List.all_map, List.all_eq_true, decide_eq_true_eq]
  refine ⟨by decide, fun y hy => ?_⟩
  have := lessN_lt (b := b.getD y 0) (area_row ha (List.mem_range.1 hy))
  show inB (lessN (a.getD y 0) (b.getD y 0) : Int) 0 281474976710655 = true
  rw [inB_iff]
  omega
theorem rcontains (a b : List Int) (ha : (a.length : Int) ≤ 9223372036854775807) (hb : (b.length : Int) ≤ 9223372036854775807) : Meets Tryz.prog Dc 71 [areaA a, areaA b] [] (bS (contB a b)) [] := by
  have h := rless_meets b a hb ha
  cases hva : areaB a with
  | false =>
    rw [hva, Bool.and_false] at h
    rw [show contB a b = false by unfold contB; rw [hva]; rfl]
    refine meets_of_gx Ax tab_ok Tryz.func71 (c := _) rfl Tryz.call71 100 ?_
    (repeat' ((conv => whnf); first | refine x0C (eB ?_ rfl) | (exfalso; omega) | refine cpC (h) ?_ | refine dpC (h) ?_ | refine x0C ?_ | refine spC (fun hb => ?_) fun hb => ?_ | refine nilC (fun hb => ?_) ?_ | refine taC ?_ | refine saC ?_ | exact sdV | refine side_and ?_ ?_ | refine drawX_of mixed ?_))
    all_goals rfl
  | true =>
    cases hvb : areaB b with
    | false =>
      rw [hvb, Bool.false_and] at h
      rw [show contB a b = false by unfold contB; rw [hvb, Bool.and_false]; rfl]
      refine meets_of_gx Ax tab_ok Tryz.func71 (c := _) rfl Tryz.call71 100 ?_
      (repeat' ((conv => whnf); first | refine x0C (eB ?_ rfl) | (exfalso; omega) | refine cpC (h) ?_ | refine dpC (h) ?_ | refine x0C ?_ | refine spC (fun hb => ?_) fun hb => ?_ | refine nilC (fun hb => ?_) ?_ | refine taC ?_ | refine saC ?_ | exact sdV | refine side_and ?_ ?_ | refine drawX_of mixed ?_))
      all_goals rfl
    | true =>
      rw [hva, hvb] at h
      simp only [Bool.and_self, if_true] at h
      have har := lessR_area (b := a) hvb
      have hc := rcount_meets (lessR b a) (by simp [lessR])
      have hp := cellN_pos har
      rw [har, if_pos rfl] at hc
      have he : decide (((cellN (lessR b a) 1152).length : Int) = 0) = contB a b := by
        rw [← cont_eq a b hva hvb]
        have e1 : zipR andN b a = lessR b a := by
          unfold zipR lessR
          refine List.map_congr_left fun y hy => ?_
          exact andNot_row (area_row hvb (List.mem_range.1 hy)) (area_row hva (List.mem_range.1 hy))
        rw [e1]
        have e2 : (lessR b a = List.replicate 24 0) ↔ (lessR b a).any (fun r => decide (r ≠ 0)) = false := by
          rw [List.any_eq_false, List.eq_replicate_iff]
          constructor
          · rintro ⟨_, h⟩ x hx; simp [h x hx]
          · intro h; exact ⟨by simp [lessR], fun x hx => by simpa using h x hx⟩
        rw [Bool.eq_iff_iff, decide_eq_true_iff, decide_eq_true_iff, e2, ← hp, decide_eq_false_iff_not]
        omega
      rw [← he]
      refine meets_of_gx Ax tab_ok Tryz.func71 (c := _) rfl Tryz.call71 100 ?_
      (repeat' ((conv => whnf); first | refine x0C (eB ?_ rfl) | (exfalso; omega) | refine cpC (h) ?_ | refine dpC (h) ?_ | refine cpC (hc) ?_ | refine dpC (hc) ?_ | refine x0C ?_ | refine spC (fun hb => ?_) fun hb => ?_ | refine nilC (fun hb => ?_) ?_ | refine taC ?_ | refine saC ?_ | exact sdV | refine side_and ?_ ?_ | refine drawX_of mixed ?_))
      all_goals rfl
end Go.SX

namespace Go.SX
open Go.Proofs
set_option linter.unusedSimpArgs false
set_option linter.unusedVariables false
set_option maxHeartbeats 4000000
set_option maxRecDepth 100000
/-- an event whose list is short enough -/
def ELen (e : Event) : Prop := (e.rows.length : Int) ≤ 9223372036854775807
@[reducible] def eS (l : List Event) : SV Cd := .p (.dsl U.event l)
theorem tformed (e : Event) (he : ELen e) : Meets Tryz.prog Dc 40 [evA e] [] (bS (formB e)) [] := by
  have h1 := tin e.at_ 0 1000000
  have h2 := tin e.image 0 999
  have h3 := tin e.sun (-90) 90
  have h4 := tin e.look (-4) 4
  have h5 := gvalid e.rows he
  refine meets_of_gx Ax tab_ok Tryz.func40 (c := _) rfl Tryz.call40 200 ?_
  (repeat' ((conv => whnf); first | refine x0C (eB ?_ rfl) | (exfalso; omega) | refine cpC (h1) ?_ | refine dpC (h1) ?_ | refine cpC (h2) ?_ | refine dpC (h2) ?_ | refine cpC (h3) ?_ | refine dpC (h3) ?_ | refine cpC (h4) ?_ | refine dpC (h4) ?_ | refine cpC (h5) ?_ | refine dpC (h5) ?_ | refine x0C ?_ | refine spC (fun hb => ?_) fun hb => ?_ | refine nilC (fun hb => ?_) ?_ | refine taC ?_ | refine saC ?_ | exact sdV | refine side_and ?_ ?_ | refine drawX_of mixed ?_))
  all_goals clear h1 h2 h3 h4 h5
  all_goals (first | (simp_all [formB]; done) | (simp_all [formB]; omega) | (simp_all [formB]; grind))
theorem rformed (e : Event) (he : ELen e) : Meets Tryz.prog Dc 45 [evA e] [] (bS (formB e)) [] := by
  have h1 := in15 e.at_ 0 1000000
  have h2 := in15 e.image 0 999
  have h3 := in15 e.sun (-90) 90
  have h4 := in15 e.look (-4) 4
  have h5 := rvalid e.rows he
  refine meets_of_gx Ax tab_ok Tryz.func45 (c := _) rfl Tryz.call45 200 ?_
  (repeat' ((conv => whnf); first | refine x0C (eB ?_ rfl) | (exfalso; omega) | refine cpC (h1) ?_ | refine dpC (h1) ?_ | refine cpC (h2) ?_ | refine dpC (h2) ?_ | refine cpC (h3) ?_ | refine dpC (h3) ?_ | refine cpC (h4) ?_ | refine dpC (h4) ?_ | refine cpC (h5) ?_ | refine dpC (h5) ?_ | refine x0C ?_ | refine spC (fun hb => ?_) fun hb => ?_ | refine nilC (fun hb => ?_) ?_ | refine taC ?_ | refine saC ?_ | exact sdV | refine side_and ?_ ?_ | refine drawX_of mixed ?_))
  all_goals clear h1 h2 h3 h4 h5
  all_goals (first | (simp_all [formB]; done) | (simp_all [formB]; omega) | (simp_all [formB]; grind))
theorem tseen (g : Goal) (hg : GLen g) (e : Event) (he : ELen e) : Meets Tryz.prog Dc 44 [goalA g, evA e] [] (bS (seesB g e)) [] := by
  have h3 := tin e.sun g.low g.high
  have h5 := contains_meets e.rows g.rows he hg.rows
  refine meets_of_gx Ax tab_ok Tryz.func44 (c := _) rfl Tryz.call44 200 ?_
  (repeat' ((conv => whnf); first | refine x0C (eB ?_ rfl) | (exfalso; omega) | refine cpC (h3) ?_ | refine dpC (h3) ?_ | refine cpC (h5) ?_ | refine dpC (h5) ?_ | refine x0C ?_ | refine spC (fun hb => ?_) fun hb => ?_ | refine nilC (fun hb => ?_) ?_ | refine taC ?_ | refine saC ?_ | exact sdV | refine side_and ?_ ?_ | refine drawX_of mixed ?_))
  all_goals clear h3 h5
  all_goals (first | (simp_all [seesB]; done) | (simp_all [seesB]; omega) | (simp_all [seesB]; grind))
theorem rsees (g : Goal) (hg : GLen g) (e : Event) (he : ELen e) : Meets Tryz.prog Dc 46 [goalA g, evA e] [] (bS (seesB g e)) [] := by
  have h5 := rcontains e.rows g.rows he hg.rows
  refine meets_of_gx Ax tab_ok Tryz.func46 (c := _) rfl Tryz.call46 200 ?_
  (repeat' ((conv => whnf); first | refine x0C (eB ?_ rfl) | (exfalso; omega) | refine cpC (h5) ?_ | refine dpC (h5) ?_ | refine x0C ?_ | refine spC (fun hb => ?_) fun hb => ?_ | refine nilC (fun hb => ?_) ?_ | refine taC ?_ | refine saC ?_ | exact sdV | refine side_and ?_ ?_ | refine drawX_of mixed ?_))
  all_goals clear h5
  all_goals (first | (simp_all [seesB, inB]; done) | (simp_all [seesB, inB]; omega) | (simp_all [seesB, inB]; grind))
theorem sees_meets (g : Goal) (hG : GAll g) (e : Event) (he : ELen e) : Meets Tryz.prog Dc 23 [goalA g, evA e] [] (bS (decide (g.kind = 1) && validG g && formB e && seesB g e)) [] := by
  have h1 := valid_meets g hG
  have h2 := tformed e he
  have h3 := tseen g ((GAll_iff g).1 hG).1 e he
  refine meets_of_gx Ax tab_ok Tryz.func23 (c := _) rfl Tryz.call23 200 ?_
  (repeat' ((conv => whnf); first | refine x0C (eB ?_ rfl) | (exfalso; omega) | refine cpC (h1) ?_ | refine dpC (h1) ?_ | refine cpC (h2) ?_ | refine dpC (h2) ?_ | refine cpC (h3) ?_ | refine dpC (h3) ?_ | refine x0C ?_ | refine spC (fun hb => ?_) fun hb => ?_ | refine nilC (fun hb => ?_) ?_ | refine taC ?_ | refine saC ?_ | exact sdV | refine side_and ?_ ?_ | refine drawX_of mixed ?_))
  all_goals clear h1 h2 h3
  all_goals (first | (simp_all []; done) | (simp_all []; omega) | (simp_all []; grind))
theorem rSees_meets (g : Goal) (hG : GAll g) (e : Event) (he : ELen e) : Meets Tryz.prog Dc 24 [goalA g, evA e] [] (bS (decide (g.kind = 1) && validG g && formB e && seesB g e)) [] := by
  have h1 := valid13 g hG
  have h2 := rformed e he
  have h3 := rsees g ((GAll_iff g).1 hG).1 e he
  refine meets_of_gx Ax tab_ok Tryz.func24 (c := _) rfl Tryz.call24 200 ?_
  (repeat' ((conv => whnf); first | refine x0C (eB ?_ rfl) | (exfalso; omega) | refine cpC (h1) ?_ | refine dpC (h1) ?_ | refine cpC (h2) ?_ | refine dpC (h2) ?_ | refine cpC (h3) ?_ | refine dpC (h3) ?_ | refine x0C ?_ | refine spC (fun hb => ?_) fun hb => ?_ | refine nilC (fun hb => ?_) ?_ | refine taC ?_ | refine saC ?_ | exact sdV | refine side_and ?_ ?_ | refine drawX_of mixed ?_))
  all_goals clear h1 h2 h3
  all_goals (first | (simp_all []; done) | (simp_all []; omega) | (simp_all []; grind))
theorem before_meets (a b : Event) : Meets Tryz.prog Dc 53 [evA a, evA b] [] (bS (befB a b)) [] := by
  refine meets_of_gx Ax tab_ok Tryz.func53 (c := _) rfl Tryz.call53 100 ?_
  (repeat' ((conv => whnf); first | refine x0C (eB ?_ rfl) | refine x0C ?_ | refine spC (fun hb => ?_) fun hb => ?_ | refine nilC (fun hb => ?_) ?_ | refine taC ?_ | refine saC ?_ | exact sdV | refine side_and ?_ ?_ | refine drawX_of mixed ?_))
  all_goals (first | (simp_all [befB]; done) | (simp_all [befB]; omega) | (simp_all [befB]; grind))
end Go.SX

/-
  Plain law: valid events.
-/
namespace Go.SX
set_option linter.unusedSimpArgs false
set_option linter.unusedVariables false
def cmpS (a b : Int) : Int := if a < b then -1 else if b < a then 1 else 0
def cmpE (a b : Event) : Int := if cmpS a.at_ b.at_ ≠ 0 then cmpS a.at_ b.at_ else if cmpS a.kind b.kind ≠ 0 then cmpS a.kind b.kind else cmpS a.image b.image
theorem cmpE_lt (a b : Event) : decide (0 ≤ cmpE a b) = !befB a b := by
  unfold cmpE cmpS befB
  rw [Bool.eq_iff_iff]
  simp only [decide_eq_true_eq, Bool.not_eq_true', Bool.or_eq_false_iff, Bool.and_eq_false_iff, decide_eq_false_iff_not]
  repeat' split
  all_goals omega
def dupB (l : List Event) (e : Event) : Bool := l.any fun d => decide (d.kind = 1) && decide (d.image = e.image)
def evt (l : List Event) (i : Nat) : Event := l.getD i (U.dflt .event)
def okAt (l : List Event) (i : Nat) : Bool := formB (evt l i) && (decide (i = 0) || befB (evt l (i - 1)) (evt l i)) && !(decide ((evt l i).kind = 1) && dupB (l.take i) (evt l i))
def ordB (l : List Event) : Bool := (List.range l.length).all (okAt l)
def validE (l : List Event) : Bool := decide ((l.length : Int) ≤ 120) && ordB l
def shotIs (l : List Event) : List Int := (l.filter fun e => decide (e.kind = 1)).map (·.image)
theorem dup_mem (l : List Event) (e : Event) : dupB l e = true ↔ e.image ∈ shotIs l := by
  unfold dupB shotIs
  simp only [List.any_eq_true, Bool.and_eq_true, decide_eq_true_eq, List.mem_map, List.mem_filter]
  constructor
  · rintro ⟨d, h1, h2, h3⟩; exact ⟨d, ⟨h1, h2⟩, h3⟩
  · rintro ⟨d, ⟨h1, h2⟩, h3⟩; exact ⟨d, h1, h2, h3⟩
theorem ord_bad {l : List Event} {i : Nat} (hi : i < l.length) (h : okAt l i = false) : ordB l = false := by
  unfold ordB
  rw [List.all_eq_false]
  exact ⟨i, List.mem_range.2 hi, by rw [h]; simp⟩
theorem ord_take {l : List Event} : ∀ i : Nat, i ≤ l.length → (∀ j, j < i → okAt l j = true) → i = l.length → ordB l = true := by
  intro i hi h e
  unfold ordB
  rw [List.all_eq_true]
  intro j hj
  exact h j (by rw [e]; exact List.mem_range.1 hj)
theorem shotIs_t {l : List Event} {i : Nat} {e : Event} (h : l[i]? = some e) (hk : e.kind = 1) : shotIs (l.take (i + 1)) = shotIs (l.take i) ++ [e.image] := by
  unfold shotIs
  rw [List.take_add_one, h]
  simp [List.filter_append, hk]
theorem shotIs_f {l : List Event} {i : Nat} {e : Event} (h : l[i]? = some e) (hk : e.kind ≠ 1) : shotIs (l.take (i + 1)) = shotIs (l.take i) := by
  unfold shotIs
  rw [List.take_add_one, h]
  simp [List.filter_append, hk]
end Go.SX

namespace Go.SX
open Go.Proofs
set_option linter.unusedSimpArgs false
set_option linter.unusedVariables false
set_option maxHeartbeats 4000000
set_option maxRecDepth 100000
theorem nan_meets (a : Int) : Meets Tryz.prog Dc 90 [iS a] [] (bS false) [] := by
  refine meets_of_gx Ax tab_ok Tryz.func90 (c := _) rfl Tryz.call90 60 ?_
  (repeat' ((conv => whnf); first | refine x0C (eB ?_ rfl) | refine x0C ?_ | refine spC (fun hb => ?_) fun hb => ?_ | refine nilC (fun hb => ?_) ?_ | refine taC ?_ | refine saC ?_ | exact sdV | refine side_and ?_ ?_ | refine drawX_of mixed ?_))
  all_goals (first | (simp_all []; done) | (simp_all []; omega) | (simp_all []; grind))
theorem cmp_meets (a b : Int) : Meets Tryz.prog Dc 67 [iS a, iS b] [] (iS (cmpS a b)) [] := by
  have h1 := nan_meets a
  have h2 := nan_meets b
  refine meets_of_gx Ax tab_ok Tryz.func67 (c := _) rfl Tryz.call67 100 ?_
  (repeat' ((conv => whnf); first | refine x0C (eI ?_ rfl) | (exfalso; omega) | refine cpC (h1) ?_ | refine dpC (h1) ?_ | refine cpC (h2) ?_ | refine dpC (h2) ?_ | refine x0C ?_ | refine spC (fun hb => ?_) fun hb => ?_ | refine nilC (fun hb => ?_) ?_ | refine taC ?_ | refine saC ?_ | exact sdV | refine side_and ?_ ?_ | refine drawX_of mixed ?_))
  all_goals clear h1 h2
  all_goals (first | (simp_all [cmpS]; done) | (simp_all [cmpS]; omega) | (simp_all [cmpS]; grind))
theorem or_meets (a b c : Int) : Meets Tryz.prog Dc 66 [.p (.dsl U.int [a, b, c])] [] (iS (if a ≠ 0 then a else if b ≠ 0 then b else c)) [] := by
  refine meets_of_gx Ax tab_ok Tryz.func66 (c := _) rfl Tryz.call66 200 ?_
  (repeat' ((conv => whnf); first | (exfalso; omega) | refine x0C ?_ | refine spC (fun hb => ?_) fun hb => ?_ | refine nilC (fun hb => ?_) ?_ | refine taC ?_ | refine saC ?_ | exact sdV | refine side_and ?_ ?_ | refine drawX_of mixed ?_))
  refine loop_up (fun i : Nat => [(8, iS i)]) (fun _ => []) (fun i => i = 0 ∨ (i = 1 ∧ a = 0) ∨ (i = 2 ∧ a = 0 ∧ b = 0) ∨ (i = 3 ∧ a = 0 ∧ b = 0 ∧ c = 0)) (fun i => 3 - i) 0 (.inl rfl) (by exact bkV) ?_
  intro i hi K hK
  rcases hi with rfl | ⟨rfl, h0⟩ | ⟨rfl, h0, h1⟩ | ⟨rfl, h0, h1, h2⟩
  · (repeat' ((conv => whnf); first | refine x0C (eI ?_ rfl) | (exfalso; omega) | refine hK 1 [] _ _ ⟨.inr (.inl ⟨rfl, by assumption⟩)⟩ ⟨by omega⟩ (by exact bkV) | refine x0C ?_ | refine spC (fun hb => ?_) fun hb => ?_ | refine nilC (fun hb => ?_) ?_ | refine taC ?_ | refine saC ?_ | exact sdV | refine side_and ?_ ?_ | refine drawX_of mixed ?_))
    rw [if_pos (by assumption)]; rfl
  · (repeat' ((conv => whnf); first | refine x0C (eI ?_ rfl) | (exfalso; omega) | refine hK 2 [] _ _ ⟨.inr (.inr (.inl ⟨rfl, h0, by assumption⟩))⟩ ⟨by omega⟩ (by exact bkV) | refine x0C ?_ | refine spC (fun hb => ?_) fun hb => ?_ | refine nilC (fun hb => ?_) ?_ | refine taC ?_ | refine saC ?_ | exact sdV | refine side_and ?_ ?_ | refine drawX_of mixed ?_))
    rw [if_neg (by omega), if_pos (by assumption)]; rfl
  · (repeat' ((conv => whnf); first | refine x0C (eI ?_ rfl) | (exfalso; omega) | refine hK 3 [] _ _ ⟨.inr (.inr (.inr ⟨rfl, h0, h1, by assumption⟩))⟩ ⟨by omega⟩ (by exact bkV) | refine x0C ?_ | refine spC (fun hb => ?_) fun hb => ?_ | refine nilC (fun hb => ?_) ?_ | refine taC ?_ | refine saC ?_ | exact sdV | refine side_and ?_ ?_ | refine drawX_of mixed ?_))
    rw [if_neg (by omega), if_neg (by omega)]; rfl
  · (repeat' ((conv => whnf); first | refine x0C (eI ?_ rfl) | (exfalso; omega) | refine x0C ?_ | refine spC (fun hb => ?_) fun hb => ?_ | refine nilC (fun hb => ?_) ?_ | refine taC ?_ | refine saC ?_ | exact sdV | refine side_and ?_ ?_ | refine drawX_of mixed ?_))
    rw [if_neg (by omega), if_neg (by omega), h2]
theorem compare_meets (a b : Event) : Meets Tryz.prog Dc 41 [evA a, evA b] [] (iS (cmpE a b)) [] := by
  have h1 := cmp_meets a.at_ b.at_
  have h2 := cmp_meets a.kind b.kind
  have h3 := cmp_meets a.image b.image
  have h4 := or_meets (cmpS a.at_ b.at_) (cmpS a.kind b.kind) (cmpS a.image b.image)
  unfold cmpE
  generalize cmpS a.at_ b.at_ = x at *
  generalize cmpS a.kind b.kind = y at *
  generalize cmpS a.image b.image = z at *
  have h5 : Meets Tryz.prog Dc 66 [.slice 0 0 1 0 3] [.rows U.int [x, y, z]] (iS (if x ≠ 0 then x else if y ≠ 0 then y else z)) [.rows U.int [x, y, z]] := mownC h4 (by exact snV) rfl
  refine meets_of_gx Ax tab_ok Tryz.func41 (c := _) rfl Tryz.call41 200 ?_
  (repeat' ((conv => whnf); first | refine x0C (eI ?_ rfl) | (exfalso; omega) | refine cpC (h1) ?_ | refine dpC (h1) ?_ | refine cpC (h2) ?_ | refine dpC (h2) ?_ | refine cpC (h3) ?_ | refine dpC (h3) ?_ | (refine dcallh [some 2] h5 rfl rfl ⟨rfl, trivial⟩ ?_) | refine x0C ?_ | refine spC (fun hb => ?_) fun hb => ?_ | refine nilC (fun hb => ?_) ?_ | refine taC ?_ | refine saC ?_ | exact sdV | refine side_and ?_ ?_ | refine drawX_of mixed ?_))
  all_goals rfl
end Go.SX

namespace Go.SX
open Go.Proofs
set_option linter.unusedSimpArgs false
set_option linter.unusedVariables false
set_option maxHeartbeats 4000000
set_option maxRecDepth 100000
/-- the map of the images shown -/
def shownL : List Int → Nat → List MapEntry
  | [], _ => []
  | k :: l, s => ⟨.int .i64 k, .bool true, s⟩ :: shownL l (s + 1)
theorem shownL_snoc (k : Int) : ∀ (l : List Int) (s : Nat), shownL (l ++ [k]) s = shownL l s ++ [⟨.int .i64 k, .bool true, s + l.length⟩]
  | [], s => rfl
  | x :: l, s => by simp only [List.cons_append, shownL, shownL_snoc k l (s + 1), List.length_cons]; rw [show s + 1 + l.length = s + (l.length + 1) by omega]
theorem shown_find (n : Int) : ∀ (l : List Int) (s i : Nat), (n ∈ l → ∃ j, Instr.findNow (.int .i64) (.int .i64 n) (shownL l s) i = some (some (j, .bool true))) ∧ (n ∉ l → Instr.findNow (.int .i64) (.int .i64 n) (shownL l s) i = some none)
  | [], s, i => ⟨fun h => by simp at h, fun _ => rfl⟩
  | x :: l, s, i => by
    have ih := shown_find n l (s + 1) (i + 1)
    simp only [shownL, Instr.findNow, Instr.sameNow, if_true]
    by_cases hx : n = x
    · subst hx
      simp
    · have : (n == x) = false := by simpa using hx
      rw [this]
      exact ⟨fun h => ih.1 (by simpa [hx] using h), fun h => ih.2 (by simp [hx] at h; exact h)⟩
def shownM (l : List Int) : Obj := .map (shownL l 0).toArray l.length
theorem tvalid_meets (l : List Event) (hl : (l.length : Int) ≤ 9223372036854775807) (hE : ∀ e ∈ l, ELen e) : Meets Tryz.prog Dc 21 [eS l] [] (bS (validE l)) [] := by
  refine meets_of_gx Ax tab_ok Tryz.func21 (c := _) rfl Tryz.call21 400 ?_
  (repeat' ((conv => whnf); first | (exfalso; omega) | refine x0C ?_ | refine spC (fun hb => ?_) fun hb => ?_ | refine nilC (fun hb => ?_) ?_ | refine taC ?_ | refine saC ?_ | exact sdV | refine side_and ?_ ?_ | refine drawX_of mixed ?_))
  refine loop_up (fun i : Nat => [(9, iS i)]) (fun i => [(0, .obj (shownM (shotIs (l.take i))))]) (fun i => i ≤ l.length ∧ ∀ j, j < i → okAt l j = true) (fun i => l.length - i) 0 ⟨Nat.zero_le _, by omega⟩ (by exact bkV) ?_
  rintro i ⟨hi, hall⟩ K hK
  rcases Nat.lt_or_ge i l.length with hlt | hge
  · have hg := getD_some (d := Cd.dflt U.event) hlt
    have hbad : okAt l i = false → validE l = false := fun h => by unfold validE; rw [ord_bad hlt h, Bool.and_false]
    have hstep : okAt l i = true → ∀ j, j < i + 1 → okAt l j = true := fun h j hj => by
      rcases Nat.lt_or_ge j i with h1 | h1
      · exact hall j h1
      · rw [show j = i by omega]; exact h
    have hok : okAt l i = (formB (l.getD (i : Int).toNat (Cd.dflt U.event)) && (decide (i = 0) || befB (l.getD ((i : Int) - 1).toNat (Cd.dflt U.event)) (l.getD (i : Int).toNat (Cd.dflt U.event))) && !(decide ((l.getD (i : Int).toNat (Cd.dflt U.event)).kind = 1) && dupB (l.take i) (l.getD (i : Int).toNat (Cd.dflt U.event)))) := by
      unfold okAt evt
      rw [show ((i : Int) - 1).toNat = i - 1 by omega]; rfl
    have hd := dup_mem (l.take i) (l.getD (i : Int).toNat (Cd.dflt U.event))
    have hf := tformed _ (hE _ (List.mem_of_getElem? hg))
    have hc := compare_meets (l.getD ((i : Int) - 1).toNat (Cd.dflt U.event)) (l.getD (i : Int).toNat (Cd.dflt U.event))
    have hcb : 0 ≤ cmpE (l.getD ((i : Int) - 1).toNat (Cd.dflt U.event)) (l.getD (i : Int).toNat (Cd.dflt U.event)) ↔ befB (l.getD ((i : Int) - 1).toNat (Cd.dflt U.event)) (l.getD (i : Int).toNat (Cd.dflt U.event)) = false := by
      have := cmpE_lt (l.getD ((i : Int) - 1).toNat (Cd.dflt U.event)) (l.getD (i : Int).toNat (Cd.dflt U.event))
      rw [Bool.eq_iff_iff] at this
      simpa using this
    have b1 : formB (l.getD (i : Int).toNat (Cd.dflt U.event)) = false → okAt l i = false := fun h => by rw [hok, h]; rfl
    have b2 : 0 < (i : Int) → 0 ≤ cmpE (l.getD ((i : Int) - 1).toNat (Cd.dflt U.event)) (l.getD (i : Int).toNat (Cd.dflt U.event)) → okAt l i = false := fun h1 h2 => by
      rw [hok, decide_eq_false (show ¬ i = 0 by omega), hcb.1 h2, Bool.or_false, Bool.and_false, Bool.false_and]
    have b3 : (l.getD (i : Int).toNat (Cd.dflt U.event)).kind = 1 → dupB (l.take i) (l.getD (i : Int).toNat (Cd.dflt U.event)) = true → okAt l i = false := fun h1 h2 => by
      rw [hok, decide_eq_true h1, h2]; exact Bool.and_false _
    have b4 : formB (l.getD (i : Int).toNat (Cd.dflt U.event)) = true → (¬ 0 < (i : Int) ∨ ¬ 0 ≤ cmpE (l.getD ((i : Int) - 1).toNat (Cd.dflt U.event)) (l.getD (i : Int).toNat (Cd.dflt U.event))) → (¬ (l.getD (i : Int).toNat (Cd.dflt U.event)).kind = 1 ∨ dupB (l.take i) (l.getD (i : Int).toNat (Cd.dflt U.event)) = false) → okAt l i = true := fun h1 h2 h3 => by
      rw [hok, h1, Bool.true_and]
      have e1 : (decide (i = 0) || befB (l.getD ((i : Int) - 1).toNat (Cd.dflt U.event)) (l.getD (i : Int).toNat (Cd.dflt U.event))) = true := by
        rcases h2 with h2 | h2
        · rw [decide_eq_true (show i = 0 by omega)]; rfl
        · rw [hcb, Bool.not_eq_false] at h2; rw [h2, Bool.or_true]
      rw [e1, Bool.true_and]
      rcases h3 with h3 | h3
      · rw [decide_eq_false h3]; rfl
      · rw [h3, Bool.and_false]; rfl
    have hst := shotIs_t hg
    have hsf := shotIs_f hg
    by_cases hm : (l.getD (i : Int).toNat (Cd.dflt U.event)).image ∈ shotIs (l.take i)
    · obtain ⟨j, hj⟩ := (shown_find _ (shotIs (l.take i)) 0 0).1 hm
      have hdt := hd.2 hm
      (repeat' ((conv => whnf); first | refine x0C (eB ?_ rfl) | (exfalso; omega) | refine cpC (hf) ?_ | refine dpC (hf) ?_ | refine cpC (hc) ?_ | refine dpC (hc) ?_ | refine ask_in hj ?_ | (refine hK (i + 1) [some 0] _ _ ⟨⟨by omega, hstep ?_⟩⟩ ⟨by omega⟩ (by (rw [hsf (by omega)]; exact bkV))) | refine x0C ?_ | refine spC (fun hb => ?_) fun hb => ?_ | refine nilC (fun hb => ?_) ?_ | refine taC ?_ | refine saC ?_ | exact sdV | refine side_and ?_ ?_ | refine drawX_of mixed ?_))
      all_goals first | exact (hbad (b1 (by assumption))).symm | exact (hbad (b2 (by assumption) (by assumption))).symm | exact (hbad (b3 (by assumption) (by assumption))).symm | exact b4 (by assumption) (by first | exact .inl (by assumption) | exact .inr (by assumption)) (by first | exact .inl (by assumption) | exact .inr (by assumption))
    · have hj := (shown_find _ (shotIs (l.take i)) 0 0).2 hm
      have hdf : dupB (l.take i) (l.getD (i : Int).toNat (Cd.dflt U.event)) = false := by
        cases h : dupB (l.take i) (l.getD (i : Int).toNat (Cd.dflt U.event)) with
        | false => rfl
        | true => exact absurd (hd.1 h) hm
      have hput : ((shownL (shotIs (l.take i)) 0).toArray.push ⟨.int .i64 (l.getD (i : Int).toNat (Cd.dflt U.event)).image, .bool true, (shotIs (l.take i)).length⟩) = (shownL (shotIs (l.take i) ++ [(l.getD (i : Int).toNat (Cd.dflt U.event)).image]) 0).toArray := by
        rw [shownL_snoc, List.push_toArray, Nat.zero_add]
      (repeat' ((conv => whnf); first | refine x0C (eB ?_ rfl) | (exfalso; omega) | refine cpC (hf) ?_ | refine dpC (hf) ?_ | refine cpC (hc) ?_ | refine dpC (hc) ?_ | refine ask_in hj ?_ | refine side_and ⟨hj⟩ ?_ | (refine hK (i + 1) [some 0] _ _ ⟨⟨by omega, hstep ?_⟩⟩ ⟨by omega⟩ (by (rw [hsf (by omega)]; exact bkV))) | (refine hK (i + 1) [some 0] _ _ ⟨⟨by omega, hstep ?_⟩⟩ ⟨by omega⟩ (by (rw [hst (by omega)]; unfold shownM; rw [← hput, List.length_append]; exact bkV))) | refine x0C ?_ | refine spC (fun hb => ?_) fun hb => ?_ | refine nilC (fun hb => ?_) ?_ | refine taC ?_ | refine saC ?_ | exact sdV | refine side_and ?_ ?_ | refine drawX_of mixed ?_))
      all_goals first | exact (hbad (b1 (by assumption))).symm | exact (hbad (b2 (by assumption) (by assumption))).symm | exact (hbad (b3 (by assumption) (by assumption))).symm | exact b4 (by assumption) (by first | exact .inl (by assumption) | exact .inr (by assumption)) (by first | exact .inl (by assumption) | exact .inr (by assumption))
  · have ho := ord_take i hi hall (by omega)
    unfold validE
    rw [ho, Bool.and_true]
    (repeat' ((conv => whnf); first | refine x0C (eB ?_ rfl) | (exfalso; omega) | refine x0C ?_ | refine spC (fun hb => ?_) fun hb => ?_ | refine nilC (fun hb => ?_) ?_ | refine taC ?_ | refine saC ?_ | exact sdV | refine side_and ?_ ?_ | refine drawX_of mixed ?_))
    all_goals rfl
end Go.SX
