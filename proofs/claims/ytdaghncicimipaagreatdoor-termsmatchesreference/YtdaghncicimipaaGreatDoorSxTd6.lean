/-
  Walks: Td6: what single functions of the program compute.
-/
import Derived.Test.YtdaghncicimipaaGreatDoorSxTp9
namespace Go.SX
open Go.Proofs
set_option linter.unusedSimpArgs false
set_option linter.unusedVariables false
set_option maxHeartbeats 4000000
set_option maxRecDepth 100000
def isT : Operand → Nat → Bool
  | .tmp a, b => Nat.beq a b
  | _, _ => false
/-- two sums of goals may wrap around -/
def AxG : Aux Cd Dc := { Ax with wro := fun a b => (isT a 183 && isT b 185) || (isT a 182 && isT b 186) }
/-- a goal, written out -/
@[reducible] def etaG (g : Goal) : Goal := ⟨g.kind, g.rows, g.from_, g.to_, g.low, g.high, g.clear, g.days, g.times, g.within, g.cents, g.kids⟩
theorem etaG_eq (g : Goal) : etaG g = g := by cases g; rfl
theorem wrap64 (n : Int) : -9223372036854775808 ≤ IntKind.i64.wrap n ∧ IntKind.i64.wrap n ≤ 9223372036854775807 := by
  have e : IntKind.i64.wrap n = if n % 18446744073709551616 ≥ 9223372036854775808 then n % 18446744073709551616 - 18446744073709551616 else n % 18446744073709551616 := by
    unfold IntKind.wrap
    simp [IntKind.bits, IntKind.signed]
  rw [e]
  split <;> omega
theorem rgoals5 (j : Nat) (x : List A5) (hx : ∀ y ∈ x, A5OK y) (hxl : (x.length : Int) ≤ 9223372036854775807) (deep at_ most : Int) (h1 : 0 ≤ at_ ∧ at_ + most ≤ 1000) (h3 : 3 ≤ most ∧ most ≤ 9) (hdeep : 1 ≤ deep ∧ deep ≤ 3)
    (h5 : at_ + 1 < x.length) (rec : Int → Int → Goal × Int × Int) (hrec : ∀ a m : Int, 0 ≤ a → a + m ≤ 1000 → 1 ≤ m → m ≤ 9 → Meets Tryz.prog Dc 57 [a5S x, iS a, iS (deep + 1), iS m] [] (.tuple [goalA (rec a m).1, iS (rec a m).2.1, iS (rec a m).2.2]) [])
    (hrok : ∀ (a m : Int), 1 ≤ m → a + m ≤ at_ + most → at_ < a → GoalOK j m (rec a m)) (hk : 1 + pickS ((x.getD at_.toNat (Cd.dflt U.arr5)).a.tdiv 144) 6 = 5 ∨ 1 + pickS ((x.getD at_.toNat (Cd.dflt U.arr5)).a.tdiv 144) 6 = 6) :
    Meets Tryz.prog Dc 57 [a5S x, iS at_, iS deep, iS most] [] (.tuple [goalA ⟨1 + pickS ((x.getD at_.toNat (Cd.dflt U.arr5)).a.tdiv 144) 6, [], 0, 0, 0, 0, false, 0, 0, 0, if 1 + pickS ((x.getD at_.toNat (Cd.dflt U.arr5)).a.tdiv 144) 6 = 6 then (kidsN rec (x.getD at_.toNat (Cd.dflt U.arr5)) at_ most (endI rec (x.getD at_.toNat (Cd.dflt U.arr5)) at_ most (2 + pickS (x.getD at_.toNat (Cd.dflt U.arr5)).b 3) 4 0)).cents else [], (kidsN rec (x.getD at_.toNat (Cd.dflt U.arr5)) at_ most (endI rec (x.getD at_.toNat (Cd.dflt U.arr5)) at_ most (2 + pickS (x.getD at_.toNat (Cd.dflt U.arr5)).b 3) 4 0)).kids⟩, iS (kidsN rec (x.getD at_.toNat (Cd.dflt U.arr5)) at_ most (endI rec (x.getD at_.toNat (Cd.dflt U.arr5)) at_ most (2 + pickS (x.getD at_.toNat (Cd.dflt U.arr5)).b 3) 4 0)).used, iS (kidsN rec (x.getD at_.toNat (Cd.dflt U.arr5)) at_ most (endI rec (x.getD at_.toNat (Cd.dflt U.arr5)) at_ most (2 + pickS (x.getD at_.toNat (Cd.dflt U.arr5)).b 3) 4 0)).count]) [] := by
  obtain ⟨hy, hz⟩ := two_ok hx h1.1 h5
  have htd := tdiv_i64 (n := 144) hy.a (by omega)
  have hp := pick13 ((x.getD at_.toNat (Cd.dflt U.arr5)).a.tdiv 144) 6 htd (by omega)
  have hb2 := pickS_bd (c := (x.getD at_.toNat (Cd.dflt U.arr5)).a.tdiv 144) (n := 6) (by omega)
  have hya := hy.a
  unfold I64 at hya
  have q1 := pick13 (x.getD at_.toNat (Cd.dflt U.arr5)).b 3 hy.b (by omega)
  have r1 := pickS_bd (c := (x.getD at_.toNat (Cd.dflt U.arr5)).b) (n := 3) (by omega)
  rcases hk with hk | hk
  · refine meets_of_gx AxG tab_ok Tryz.func57 (c := _) rfl Tryz.call57 400 ?_
    (repeat' ((conv => whnf); first | (exfalso; omega) | refine cpC (hp) ?_ | refine dpC (hp) ?_ | refine cpC (q1) ?_ | refine dpC (q1) ?_ | refine x0C ?_ | refine spC (fun hb => ?_) fun hb => ?_ | refine nilC (fun hb => ?_) ?_ | refine taC ?_ | refine saC ?_ | exact sdV | refine side_and ?_ ?_ | refine drawX_of mixed ?_))
    refine loop_upT [some 0, some 1, some 2, some 3, none] (fun q : Nat × List Goal × List Int => [(16, iS (kidsN rec (x.getD at_.toNat (Cd.dflt U.arr5)) at_ most q.1).used), (17, iS (kidsN rec (x.getD at_.toNat (Cd.dflt U.arr5)) at_ most q.1).count), (19, iS q.1)]) (fun q => [(3, .vart none [iS (1 + pickS ((x.getD at_.toNat (Cd.dflt U.arr5)).a.tdiv 144) 6), .p (.lit (.slice none 0 0)), iS 0, iS 0, iS 0, iS 0, bS false, iS 0, iS 0, iS 0, .p (.lit (.slice none 0 0)), .slice 4 0 12 0 q.2.1.length]), (4, .rows U.goal q.2.1)]) (fun q => q.1 ≤ 4 ∧ KidOK j most q.1 (kidsN rec (x.getD at_.toNat (Cd.dflt U.arr5)) at_ most q.1) ∧ endI rec (x.getD at_.toNat (Cd.dflt U.arr5)) at_ most (2 + pickS (x.getD at_.toNat (Cd.dflt U.arr5)).b 3) 4 0 = endI rec (x.getD at_.toNat (Cd.dflt U.arr5)) at_ most (2 + pickS (x.getD at_.toNat (Cd.dflt U.arr5)).b 3) (4 - q.1) q.1 ∧ q.2.1 = (kidsN rec (x.getD at_.toNat (Cd.dflt U.arr5)) at_ most q.1).kids ∧ q.2.2 = []) (fun q => 4 - q.1) (0, [], []) ⟨by omega, kid_start h3.1, rfl, rfl, rfl⟩ (by exact bkI) ?_
    rintro ⟨i, kids, cents⟩ ⟨hi, hko, hend, hkids, hcents⟩ K hK
    dsimp only at *
    have hkl : kids.length = i := by rw [hkids]; exact hko.kl
    have hcl : cents.length ≤ i := by rw [hcents]; exact Nat.zero_le _
    have hku := hko.used
    have hlo := hko.low
    have hhi := hko.high
    have hhi2 : (kidsN rec (x.getD at_.toNat (U.dflt .arr5)) at_ most i).count ≤ most := by split at hhi <;> omega
    cases hg : goB rec (x.getD at_.toNat (U.dflt .arr5)) at_ most (2 + pickS (x.getD at_.toNat (U.dflt .arr5)).b 3) i with
    | false =>
      have he : endI rec (x.getD at_.toNat (U.dflt .arr5)) at_ most (2 + pickS (x.getD at_.toNat (U.dflt .arr5)).b 3) 4 0 = i := by
        rw [hend]
        cases hf : 4 - i with
        | zero => rfl
        | succ f => rw [endI, if_neg (by rw [hg]; simp)]
      rw [he, ← hkids]
      have hgo : ¬ (i : Int) < 2 + pickS (x.getD at_.toNat (U.dflt .arr5)).b 3 ∨ (¬ (i : Int) < 2 ∧ ¬ (kidsN rec (x.getD at_.toNat (U.dflt .arr5)) at_ most i).count < most) := by
        unfold goB at hg
        simp only [Bool.and_eq_false_iff, Bool.or_eq_false_iff, decide_eq_false_iff_not] at hg
        exact hg
      rw [if_neg (by omega)]
      (repeat' ((conv => whnf); first | (exfalso; omega) | refine x0C ?_ | refine spC (fun hb => ?_) fun hb => ?_ | refine nilC (fun hb => ?_) ?_ | refine taC ?_ | refine saC ?_ | exact sdV | refine side_and ?_ ?_ | refine drawX_of mixed ?_))
      all_goals exact vwV
    | true =>
      have hgo : (i : Int) < 2 + pickS (x.getD at_.toNat (U.dflt .arr5)).b 3 ∧ ((i : Int) < 2 ∨ (kidsN rec (x.getD at_.toNat (U.dflt .arr5)) at_ most i).count < most) := by
        have := hg
        unfold goB at this
        simp only [Bool.and_eq_true, Bool.or_eq_true, decide_eq_true_eq] at this
        exact this
      have hi3 : i < 4 := by omega
      have hst := kid_step h3.1 hrok hko hg
      have hone : 1 ≤ most - (kidsN rec (x.getD at_.toNat (U.dflt .arr5)) at_ most i).count - max 0 (1 - (i : Int)) := by
        rcases Nat.lt_or_ge i 1 with h0 | h0
        · have hc0 : i = 0 → (kidsN rec (x.getD at_.toNat (U.dflt .arr5)) at_ most i).count = 1 := fun e => by subst e; rfl
          have := hc0 (by omega)
          omega
        · rcases Nat.lt_or_ge i 2 with h1' | h1'
          · rw [if_pos (by omega)] at hhi; omega
          · rcases hgo.2 with h2 | h2 <;> omega
      have hr := hrec (at_ + (kidsN rec (x.getD at_.toNat (U.dflt .arr5)) at_ most i).used) (most - (kidsN rec (x.getD at_.toNat (U.dflt .arr5)) at_ most i).count - max 0 (1 - (i : Int))) (by omega) (by omega) hone (by omega)
      have hok := hrok (at_ + (kidsN rec (x.getD at_.toNat (U.dflt .arr5)) at_ most i).used) (most - (kidsN rec (x.getD at_.toNat (U.dflt .arr5)) at_ most i).count - max 0 (1 - (i : Int))) hone (by omega) (by omega)
      have hop := hok.pos
      have hol := hok.le
      have hou := hok.used
      have hend2 : endI rec (x.getD at_.toNat (U.dflt .arr5)) at_ most (2 + pickS (x.getD at_.toNat (U.dflt .arr5)).b 3) 4 0 = endI rec (x.getD at_.toNat (U.dflt .arr5)) at_ most (2 + pickS (x.getD at_.toNat (U.dflt .arr5)).b 3) (4 - (i + 1)) (i + 1) := by
        rw [hend, show 4 - i = (4 - (i + 1)) + 1 by omega, endI, if_pos hg]
      have hW : (List.take kids.length kids ++ List.take 1 (List.drop 0 [etaG (rec (at_ + (kidsN rec (x.getD at_.toNat (U.dflt .arr5)) at_ most i).used) (most - (kidsN rec (x.getD at_.toNat (U.dflt .arr5)) at_ most i).count - max 0 (1 - (i : Int)))).1])) = (kidsN rec (x.getD at_.toNat (U.dflt .arr5)) at_ most (i + 1)).kids := by
        rw [List.take_length, hkids, etaG_eq]; rfl
      (repeat' ((conv => whnf); first | (exfalso; omega) | refine cpC (hr) ?_ | refine dpC (hr) ?_ | refine hK (i + 1, (List.take kids.length kids ++ List.take 1 (List.drop 0 [etaG (rec (at_ + (kidsN rec (x.getD at_.toNat (U.dflt .arr5)) at_ most i).used) (most - (kidsN rec (x.getD at_.toNat (U.dflt .arr5)) at_ most i).count - max 0 (1 - (i : Int)))).1])), cents) [some 0, some 1, some 2, some 3, some 7] _ _ ⟨⟨by dsimp only; omega, hst, hend2, hW, hcents⟩⟩ ⟨by dsimp only; omega⟩ (by exact bkI) | refine x0C ?_ | refine spC (fun hb => ?_) fun hb => ?_ | refine nilC (fun hb => ?_) ?_ | refine taC ?_ | refine saC ?_ | exact sdV | refine side_and ?_ ?_ | refine drawX_of mixed ?_))
  · refine meets_of_gx AxG tab_ok Tryz.func57 (c := _) rfl Tryz.call57 400 ?_
    (repeat' ((conv => whnf); first | (exfalso; omega) | refine cpC (hp) ?_ | refine dpC (hp) ?_ | refine cpC (q1) ?_ | refine dpC (q1) ?_ | refine x0C ?_ | refine spC (fun hb => ?_) fun hb => ?_ | refine nilC (fun hb => ?_) ?_ | refine taC ?_ | refine saC ?_ | exact sdV | refine side_and ?_ ?_ | refine drawX_of mixed ?_))
    refine loop_upT [some 0, some 1, some 2, some 3, none, none] (fun q : Nat × List Goal × List Int => [(16, iS (kidsN rec (x.getD at_.toNat (Cd.dflt U.arr5)) at_ most q.1).used), (17, iS (kidsN rec (x.getD at_.toNat (Cd.dflt U.arr5)) at_ most q.1).count), (19, iS q.1)]) (fun q => [(3, .vart none [iS (1 + pickS ((x.getD at_.toNat (Cd.dflt U.arr5)).a.tdiv 144) 6), .p (.lit (.slice none 0 0)), iS 0, iS 0, iS 0, iS 0, bS false, iS 0, iS 0, iS 0, .slice 4 0 1 0 q.2.2.length, .slice 5 0 12 0 q.2.1.length]), (4, .rows U.int q.2.2), (5, .rows U.goal q.2.1)]) (fun q => q.1 ≤ 4 ∧ KidOK j most q.1 (kidsN rec (x.getD at_.toNat (Cd.dflt U.arr5)) at_ most q.1) ∧ endI rec (x.getD at_.toNat (Cd.dflt U.arr5)) at_ most (2 + pickS (x.getD at_.toNat (Cd.dflt U.arr5)).b 3) 4 0 = endI rec (x.getD at_.toNat (Cd.dflt U.arr5)) at_ most (2 + pickS (x.getD at_.toNat (Cd.dflt U.arr5)).b 3) (4 - q.1) q.1 ∧ q.2.1 = (kidsN rec (x.getD at_.toNat (Cd.dflt U.arr5)) at_ most q.1).kids ∧ q.2.2 = (kidsN rec (x.getD at_.toNat (Cd.dflt U.arr5)) at_ most q.1).cents) (fun q => 4 - q.1) (0, [], []) ⟨by omega, kid_start h3.1, rfl, rfl, rfl⟩ (by exact bkI) ?_
    rintro ⟨i, kids, cents⟩ ⟨hi, hko, hend, hkids, hcents⟩ K hK
    dsimp only at *
    have hkl : kids.length = i := by rw [hkids]; exact hko.kl
    have hcl : cents.length ≤ i := by rw [hcents]; exact Nat.le_of_eq hko.cl
    have hku := hko.used
    have hlo := hko.low
    have hhi := hko.high
    have hhi2 : (kidsN rec (x.getD at_.toNat (U.dflt .arr5)) at_ most i).count ≤ most := by split at hhi <;> omega
    cases hg : goB rec (x.getD at_.toNat (U.dflt .arr5)) at_ most (2 + pickS (x.getD at_.toNat (U.dflt .arr5)).b 3) i with
    | false =>
      have he : endI rec (x.getD at_.toNat (U.dflt .arr5)) at_ most (2 + pickS (x.getD at_.toNat (U.dflt .arr5)).b 3) 4 0 = i := by
        rw [hend]
        cases hf : 4 - i with
        | zero => rfl
        | succ f => rw [endI, if_neg (by rw [hg]; simp)]
      rw [he, ← hkids, ← hcents]
      have hgo : ¬ (i : Int) < 2 + pickS (x.getD at_.toNat (U.dflt .arr5)).b 3 ∨ (¬ (i : Int) < 2 ∧ ¬ (kidsN rec (x.getD at_.toNat (U.dflt .arr5)) at_ most i).count < most) := by
        unfold goB at hg
        simp only [Bool.and_eq_false_iff, Bool.or_eq_false_iff, decide_eq_false_iff_not] at hg
        exact hg
      rw [if_pos hk]
      (repeat' ((conv => whnf); first | (exfalso; omega) | refine x0C ?_ | refine spC (fun hb => ?_) fun hb => ?_ | refine nilC (fun hb => ?_) ?_ | refine taC ?_ | refine saC ?_ | exact sdV | refine side_and ?_ ?_ | refine drawX_of mixed ?_))
      all_goals exact vwV
    | true =>
      have hgo : (i : Int) < 2 + pickS (x.getD at_.toNat (U.dflt .arr5)).b 3 ∧ ((i : Int) < 2 ∨ (kidsN rec (x.getD at_.toNat (U.dflt .arr5)) at_ most i).count < most) := by
        have := hg
        unfold goB at this
        simp only [Bool.and_eq_true, Bool.or_eq_true, decide_eq_true_eq] at this
        exact this
      have hi3 : i < 4 := by omega
      have hst := kid_step h3.1 hrok hko hg
      have hone : 1 ≤ most - (kidsN rec (x.getD at_.toNat (U.dflt .arr5)) at_ most i).count - max 0 (1 - (i : Int)) := by
        rcases Nat.lt_or_ge i 1 with h0 | h0
        · have hc0 : i = 0 → (kidsN rec (x.getD at_.toNat (U.dflt .arr5)) at_ most i).count = 1 := fun e => by subst e; rfl
          have := hc0 (by omega)
          omega
        · rcases Nat.lt_or_ge i 2 with h1' | h1'
          · rw [if_pos (by omega)] at hhi; omega
          · rcases hgo.2 with h2 | h2 <;> omega
      have hr := hrec (at_ + (kidsN rec (x.getD at_.toNat (U.dflt .arr5)) at_ most i).used) (most - (kidsN rec (x.getD at_.toNat (U.dflt .arr5)) at_ most i).count - max 0 (1 - (i : Int))) (by omega) (by omega) hone (by omega)
      have hok := hrok (at_ + (kidsN rec (x.getD at_.toNat (U.dflt .arr5)) at_ most i).used) (most - (kidsN rec (x.getD at_.toNat (U.dflt .arr5)) at_ most i).count - max 0 (1 - (i : Int))) hone (by omega) (by omega)
      have hop := hok.pos
      have hol := hok.le
      have hou := hok.used
      have hend2 : endI rec (x.getD at_.toNat (U.dflt .arr5)) at_ most (2 + pickS (x.getD at_.toNat (U.dflt .arr5)).b 3) 4 0 = endI rec (x.getD at_.toNat (U.dflt .arr5)) at_ most (2 + pickS (x.getD at_.toNat (U.dflt .arr5)).b 3) (4 - (i + 1)) (i + 1) := by
        rw [hend, show 4 - i = (4 - (i + 1)) + 1 by omega, endI, if_pos hg]
      have hW : (List.take kids.length kids ++ List.take 1 (List.drop 0 [etaG (rec (at_ + (kidsN rec (x.getD at_.toNat (U.dflt .arr5)) at_ most i).used) (most - (kidsN rec (x.getD at_.toNat (U.dflt .arr5)) at_ most i).count - max 0 (1 - (i : Int)))).1])) = (kidsN rec (x.getD at_.toNat (U.dflt .arr5)) at_ most (i + 1)).kids := by
        rw [List.take_length, hkids, etaG_eq]; rfl
      have hV : (List.take cents.length cents ++ List.take 1 (List.drop 0 [pickS (IntKind.i64.wrap ((x.getD at_.toNat (U.dflt .arr5)).c + IntKind.i64.wrap ((i : Int) * (x.getD at_.toNat (U.dflt .arr5)).d))) 1000])) = (kidsN rec (x.getD at_.toNat (U.dflt .arr5)) at_ most (i + 1)).cents := by
        rw [List.take_length, hcents]; rfl
      have q2 := pick13 (IntKind.i64.wrap ((x.getD at_.toNat (U.dflt .arr5)).c + IntKind.i64.wrap ((i : Int) * (x.getD at_.toNat (U.dflt .arr5)).d))) 1000 (wrap64 _) (by omega)
      (repeat' ((conv => whnf); first | (exfalso; omega) | refine cpC (hr) ?_ | refine dpC (hr) ?_ | refine cpC (q2) ?_ | refine dpC (q2) ?_ | refine hK (i + 1, (List.take kids.length kids ++ List.take 1 (List.drop 0 [etaG (rec (at_ + (kidsN rec (x.getD at_.toNat (U.dflt .arr5)) at_ most i).used) (most - (kidsN rec (x.getD at_.toNat (U.dflt .arr5)) at_ most i).count - max 0 (1 - (i : Int)))).1])), (List.take cents.length cents ++ List.take 1 (List.drop 0 [pickS (IntKind.i64.wrap ((x.getD at_.toNat (U.dflt .arr5)).c + IntKind.i64.wrap ((i : Int) * (x.getD at_.toNat (U.dflt .arr5)).d))) 1000]))) [some 0, some 1, some 2, some 3, some 10, some 8] _ _ ⟨⟨by dsimp only; omega, hst, hend2, hW, hV⟩⟩ ⟨by dsimp only; omega⟩ (by exact bkI) | refine x0C ?_ | refine spC (fun hb => ?_) fun hb => ?_ | refine nilC (fun hb => ?_) ?_ | refine taC ?_ | refine saC ?_ | exact sdV | refine side_and ?_ ?_ | refine drawX_of mixed ?_))
end Go.SX
