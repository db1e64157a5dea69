/-
  Walks: Ue1: what single functions of the program compute.
-/
import Derived.Test.YtijedffphgckmaaGreatDoorSxUd3
set_option linter.unusedVariables false
set_option linter.unusedSimpArgs false
namespace Go.SX
open Go.Proofs
set_option maxHeartbeats 4000000
set_option maxRecDepth 100000
theorem allOKL_mem : ∀ {l : List Goal} {k : Goal}, allOKL l = true → k ∈ l → allOK k = true
  | [], k, _, h => by simp at h
  | x :: l, k, ha, h => by
    rw [allOKL, Bool.and_eq_true] at ha
    rcases List.mem_cons.1 h with rfl | h
    · exact ha.1
    · exact allOKL_mem ha.2 h
theorem kid_valid {g k : Goal} (h : validG g = true) (hk : k ∈ g.kids) : validG k = true := by
  rw [valid_law] at h ⊢
  obtain ⟨h1, h2, h3⟩ := h
  rw [allOK_eq, Bool.and_eq_true] at h1
  rw [deepG_eq] at h2
  rw [manyG_eq] at h3
  have := manyL_mem hk
  have := deepL_mem hk
  exact ⟨allOKL_mem h1.2 hk, by omega, by omega⟩
def withG (o : Order) (g : Goal) : Order := ⟨o.id, o.owner, g, o.price, o.group, o.urgent, o.known, o.due⟩
theorem part_ord {o : Order} {k : Goal} (h : ordB o = true) (hk : validG k = true) : ordB (withG o k) = true := by
  rw [ordB_iff] at h ⊢
  exact ⟨h.id, h.owner, h.price, h.group, h.known, h.due, hk⟩
theorem front_part (o : Order) (k : Goal) : frontW (withG o k) = frontW o := rfl
theorem print_eq {o : Order} (h : ordB o = true) : printS o = (joinW (orderW o), 0) := by unfold printS; rw [h]; rfl
theorem text_len (o : Order) : (joinW (orderW o)).length ≤ 22 * (15 + (goalW o.goal).length) := by
  have h3 := joinW_len (orderW_sh o)
  rw [orderW_len] at h3
  exact h3
theorem goalW_pos (g : Goal) : 1 ≤ (goalW g).length := by
  rw [goalW_eq]
  split
  · simp [seeW]
  · split
    · unfold headW
      split
      · simp
      · split <;> simp
    · simp
theorem len_manyL : ∀ l : List Goal, (l.length : Int) ≤ manyL l
  | [] => by simp [manyL]
  | k :: l => by rw [manyL, List.length_cons]; have := manyG_pos k; have := len_manyL l; omega
theorem kids_len {g : Goal} (h : validG g = true) : g.kids.length ≤ 12 := by
  have h1 := ((valid_law g).1 h).2.2
  have h2 := len_manyL g.kids
  rw [manyG_eq] at h1
  omega
theorem lparts (l : List Int) (hl : l.length = 7) (hz : ∀ z ∈ l, I64 z) (y : List A5) (hy : ∀ z ∈ y, A5OK z) (hyl : (y.length : Int) ≤ 9223372036854775807) : Meets Tryz.prog Dc 7 [a7A l, a5S y] [] (bS true) [] := by
  have hs := lsane
  have hm := lmade l hl hz y hy hyl
  have ho := made_ord l y
  obtain ⟨hw1, hw2⟩ := made_len (o := madeS l y) (y := y) rfl
  generalize madeS l y = o at *
  have hv : validG o.goal = true := ((ordB_iff o).1 ho).goal
  have hG := valid_gall hv
  have hp := oprint o hG
  rw [print_eq ho] at hp
  dsimp only at hp
  have ht := otokens (joinW (orderW o)) (by omega)
  rw [tokens_join] at ht
  have hvO := ovalid o hG
  rw [ho] at hvO
  have hpar := parts_order o hv
  have hkl := kids_len hv
  refine meets_of_gx Ax tab_ok Tryz.func7 (c := _) rfl Tryz.call7 600 ?_
  (repeat' ((conv => whnf); first | (exfalso; omega) | refine cpC (hs) ?_ | refine dpC (hs) ?_ | refine cpC (hm) ?_ | refine dpC (hm) ?_ | refine cpC (hp) ?_ | refine dpC (hp) ?_ | refine cpC (ht) ?_ | refine dpC (ht) ?_ | refine cpC (hvO) ?_ | refine dpC (hvO) ?_ | refine x0C ?_ | refine spC (fun hb => ?_) fun hb => ?_ | refine nilC (fun hb => ?_) ?_ | refine taC ?_ | refine saC ?_ | exact sdV | refine side_and ?_ ?_ | refine drawX_of mixed ?_))
  refine loop_up (fun st : Nat × Nat => [(9, iS st.1), (10, iS st.2)]) (fun _ => []) (fun st => st.2 ≤ o.goal.kids.length ∧ 14 ≤ st.1 ∧ Parts (orderW o) st.1 (o.goal.kids.drop st.2)) (fun st => o.goal.kids.length - st.2) (14, 0) ⟨Nat.zero_le _, Nat.le_refl _, hpar⟩ (by exact bkI) ?_
  clear hs hm hp ht hvO hpar
  rintro ⟨at_, i⟩ ⟨hi, hat, hP⟩ K hK
  have hi : i ≤ o.goal.kids.length := hi
  have hat : 14 ≤ at_ := hat
  have hP : Parts (orderW o) at_ (o.goal.kids.drop i) := hP
  have hlt := hP.lt
  have hoL := orderW_len o
  rcases Nat.lt_or_ge i o.goal.kids.length with hik | hik
  · rw [drop_getD (d := Cd.dflt U.goal) hik] at hP
    obtain ⟨P, hP1, hP2, hP3⟩ := hP
    have hkm : o.goal.kids.getD (i : Int).toNat (Cd.dflt U.goal) ∈ o.goal.kids := List.mem_of_getElem? (getD_some (d := Cd.dflt U.goal) hik)
    rw [show o.goal.kids.getD i (Cd.dflt U.goal) = o.goal.kids.getD (i : Int).toNat (Cd.dflt U.goal) from rfl] at hP2 hP3
    have hkv := kid_valid hv hkm
    have hkp := goalW_pos (o.goal.kids.getD (i : Int).toNat (Cd.dflt U.goal))
    have hkG := valid_gall hkv
    have hpo := part_ord ho hkv
    have hP4 := hP3.lt
    have htl := text_len (withG o (o.goal.kids.getD (i : Int).toNat (Cd.dflt U.goal)))
    have hol := orderW_len (withG o (o.goal.kids.getD (i : Int).toNat (Cd.dflt U.goal)))
    have hp := oprint (withG o (o.goal.kids.getD (i : Int).toNat (Cd.dflt U.goal))) hkG
    rw [print_eq hpo] at hp
    have hgw : (withG o (o.goal.kids.getD (i : Int).toNat (Cd.dflt U.goal))).goal = o.goal.kids.getD (i : Int).toNat (Cd.dflt U.goal) := rfl
    rw [hgw] at htl hol
    have ht := otokens (joinW (orderW (withG o (o.goal.kids.getD (i : Int).toNat (Cd.dflt U.goal))))) (by omega)
    rw [tokens_join] at ht
    have hvO := ovalid (withG o (o.goal.kids.getD (i : Int).toNat (Cd.dflt U.goal))) hkG
    rw [hpo] at hvO
    dsimp only [ordA, withG] at hp hvO
    (repeat' ((conv => whnf); first | (exfalso; omega) | refine cpC (hp) ?_ | refine dpC (hp) ?_ | refine cpC (ht) ?_ | refine dpC (ht) ?_ | refine cpC (hvO) ?_ | refine dpC (hvO) ?_ | refine x0C ?_ | refine spC (fun hb => ?_) fun hb => ?_ | refine nilC (fun hb => ?_) ?_ | refine taC ?_ | refine saC ?_ | exact sdV | refine side_and ?_ ?_ | refine drawX_of mixed ?_))
    have hW : List.drop (Int.toNat 14) (List.take ((orderW (withG o (o.goal.kids.getD (i : Int).toNat (Cd.dflt U.goal)))).length - 1 : Int).toNat (orderW (withG o (o.goal.kids.getD (i : Int).toNat (Cd.dflt U.goal))))) = goalW (o.goal.kids.getD (i : Int).toNat (Cd.dflt U.goal)) := by
      rw [show ((orderW (withG o (o.goal.kids.getD (i : Int).toNat (Cd.dflt U.goal)))).length - 1 : Int).toNat = 14 + (goalW (o.goal.kids.getD (i : Int).toNat (Cd.dflt U.goal))).length by omega, orderW_eq, hgw, List.take_left' (by rw [List.length_append, frontW_len])]
      exact List.drop_left' (frontW_len _)
    have hF : List.drop (Int.toNat 0) (List.take (Int.toNat 14) (orderW (withG o (o.goal.kids.getD (i : Int).toNat (Cd.dflt U.goal))))) = List.drop (Int.toNat 0) (List.take (Int.toNat 14) (orderW o)) := by
      rw [orderW_eq, orderW_eq, List.append_assoc, List.append_assoc]
      show List.take 14 _ = List.take 14 _
      rw [List.take_left' (frontW_len _), List.take_left' (frontW_len _), front_part]
    rw [hW]
    generalize hk : o.goal.kids.getD (i : Int).toNat (Cd.dflt U.goal) = k at *
    have hst := fun j : Nat => lstrings (List.drop (j : Int).toNat (List.take ((j : Int) + (goalW k).length).toNat (orderW o))) (goalW k) (by simp only [List.length_drop, List.length_take]; omega) (by omega)
    have hst2 := lstrings (List.drop (Int.toNat 0) (List.take (Int.toNat 14) (orderW o))) (List.drop (Int.toNat 0) (List.take (Int.toNat 14) (orderW (withG o k)))) (by simp only [List.length_drop, List.length_take]; omega) (by simp only [List.length_drop, List.length_take]; omega)
    rw [decide_eq_true hF.symm] at hst2
    refine loop_up (fun st : Int × Nat => [(16, iS st.1), (17, iS st.2)]) (fun _ => []) (fun st => (st.1 = -1 ∧ at_ ≤ st.2 ∧ st.2 ≤ P) ∨ (∃ j : Nat, st.1 = j ∧ at_ ≤ j ∧ j ≤ P ∧ st.2 = j + 1)) (fun st => P + 1 - st.2) (-1, at_) (.inl ⟨rfl, Nat.le_refl _, hP1⟩) (by exact bkI) ?_
    rintro ⟨f, j⟩ hj K2 hK2
    have hj : (f = -1 ∧ at_ ≤ j ∧ j ≤ P) ∨ (∃ z : Nat, f = z ∧ at_ ≤ z ∧ z ≤ P ∧ j = z + 1) := hj
    rcases hj with ⟨rfl, hj1, hj2⟩ | ⟨z, rfl, hj1, hj2, rfl⟩
    · have hst := hst j
      by_cases hE : List.drop (j : Int).toNat (List.take ((j : Int) + (goalW k).length).toNat (orderW o)) = goalW k
      · rw [decide_eq_true hE] at hst
        (repeat' ((conv => whnf); first | (exfalso; omega) | refine cpC (hst) ?_ | refine dpC (hst) ?_ | refine hK2 ((j : Int), j + 1) [some 0, some 1, some 2] _ _ ⟨.inr ⟨j, rfl, hj1, hj2, rfl⟩⟩ ⟨by omega⟩ (by exact bkI) | refine x0C ?_ | refine spC (fun hb => ?_) fun hb => ?_ | refine nilC (fun hb => ?_) ?_ | refine taC ?_ | refine saC ?_ | exact sdV | refine side_and ?_ ?_ | refine drawX_of mixed ?_))
      · rw [decide_eq_false hE] at hst
        have hjP : j ≠ P := fun e => hE (by
          subst e
          rw [show ((j : Int) + (goalW k).length).toNat = j + (goalW k).length by omega, show (j : Int).toNat = j from rfl, ← List.take_drop]
          exact hP2)
        (repeat' ((conv => whnf); first | (exfalso; omega) | refine cpC (hst) ?_ | refine dpC (hst) ?_ | refine hK2 (-1, j + 1) [some 0, some 1, some 2] _ _ ⟨.inl ⟨rfl, by omega, by omega⟩⟩ ⟨by omega⟩ (by exact bkI) | refine x0C ?_ | refine spC (fun hb => ?_) fun hb => ?_ | refine nilC (fun hb => ?_) ?_ | refine taC ?_ | refine saC ?_ | exact sdV | refine side_and ?_ ?_ | refine drawX_of mixed ?_))
    · have hPn : Parts (orderW o) (z + (goalW k).length) (o.goal.kids.drop (i + 1)) := hP3.mono _ (by omega)
      (repeat' ((conv => whnf); first | (exfalso; omega) | refine cpC (hst2) ?_ | refine dpC (hst2) ?_ | refine hK (z + (goalW k).length, i + 1) [some 0, some 1] _ _ ⟨⟨by omega, by omega, hPn⟩⟩ ⟨by omega⟩ (by exact bkI) | refine x0C ?_ | refine spC (fun hb => ?_) fun hb => ?_ | refine nilC (fun hb => ?_) ?_ | refine taC ?_ | refine saC ?_ | exact sdV | refine side_and ?_ ?_ | refine drawX_of mixed ?_))
  · (repeat' ((conv => whnf); first | refine x0C (eB ?_ rfl) | (exfalso; omega) | refine x0C ?_ | refine spC (fun hb => ?_) fun hb => ?_ | refine nilC (fun hb => ?_) ?_ | refine taC ?_ | refine saC ?_ | exact sdV | refine side_and ?_ ?_ | refine drawX_of mixed ?_))
    all_goals exact decide_eq_true (by (show (at_ : Int) < ((orderW o).length : Int)); omega)
end Go.SX
