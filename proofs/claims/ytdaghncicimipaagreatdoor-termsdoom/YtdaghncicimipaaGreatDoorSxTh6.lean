/-
  Walks: Th6: what single functions of the program compute.
-/
import Derived.Test.YtdaghncicimipaaGreatDoorSxTh0
import Derived.Test.YtdaghncicimipaaGreatDoorSxTe3
namespace Go.SX
open Go.Proofs
set_option linter.unusedSimpArgs false
set_option linter.unusedVariables false
set_option maxHeartbeats 4000000
set_option maxRecDepth 100000
theorem cut_is (l : List Event) (k : Nat) : List.drop (Int.toNat 0) (List.take (k : Int).toNat l) = l.take k := by rw [Int.toNat_natCast]; rfl
theorem str_at {l : List Event} (h : StrE l) {i j : Nat} (hij : i < j) (hj : j < l.length) : (l.getD i dE).at_ ≤ (l.getD j dE).at_ := by
  rw [List.getD_eq_getElem?_getD, List.getD_eq_getElem?_getD, List.getElem?_eq_getElem hj, List.getElem?_eq_getElem (by omega)]
  have := List.pairwise_iff_getElem.1 h i j (by omega) hj hij
  rw [befB_iff] at this
  show l[i].at_ ≤ l[j].at_
  omega
theorem str_take {l : List Event} (h : StrE l) {k : Nat} (hk : k < l.length) : ∀ e ∈ l.take (k + 1), e.at_ ≤ (l.getD k dE).at_ := by
  intro e he
  obtain ⟨i, hi, rfl⟩ := List.getElem_of_mem he
  rw [List.length_take] at hi
  rw [List.getElem_take]
  rcases Nat.lt_or_ge i k with h' | h'
  · have := str_at h h' hk
    rwa [List.getD_eq_getElem?_getD, List.getElem?_eq_getElem (by omega)] at this
  · have e : i = k := by omega
    subst e
    rw [List.getD_eq_getElem?_getD, List.getElem?_eq_getElem hk]
    exact Int.le_refl _
theorem str_drop {l : List Event} (h : StrE l) {k : Nat} (hk : k < l.length) : ∀ e ∈ l, e ∈ l.take k ∨ (l.getD k dE).at_ ≤ e.at_ := by
  intro e he
  obtain ⟨i, hi, rfl⟩ := List.getElem_of_mem he
  rcases Nat.lt_or_ge i k with h' | h'
  · exact .inl (List.mem_iff_getElem?.2 ⟨i, by rw [List.getElem?_take, if_pos h', List.getElem?_eq_getElem hi]⟩)
  · right
    rcases Nat.lt_or_ge k i with h2 | h2
    · have := str_at h h2 hi
      rwa [show l.getD i dE = l[i] from by rw [List.getD_eq_getElem?_getD, List.getElem?_eq_getElem hi]; rfl] at this
    · have e : i = k := by omega
      subst e
      rw [List.getD_eq_getElem?_getD, List.getElem?_eq_getElem hk]
      exact Int.le_refl _
theorem ldoom (xs : List A5) (ys : List A4) (hx : ∀ y ∈ xs, A5OK y) (hxl : (xs.length : Int) ≤ 9223372036854775807) (hy : ∀ y ∈ ys, A4OK y) (hyl : (ys.length : Int) ≤ 9223372036854775807) (known now later : Int) (hkn : I64 known) (hnw : I64 now) (hlt : I64 later) : Meets Tryz.prog Dc 7 [.agg [a5S xs, a4S ys], iS known, iS now, iS later] [] (bS true) [] := by
  have h0 := lsane
  have h1 := lmade xs ys hx hxl hy hyl
  have hgv := goal_valid xs
  have hsm := events_small xs ys
  obtain ⟨hev, hel⟩ := events_valid (goalS xs) ys
  generalize eventsS (goalS xs) ys = l at *
  generalize goalS xs = g at *
  have hG := valid_gall hgv
  have hE := valid_elen hev
  have h2 := pickL known ((l.length : Int) + 1) hkn (by omega)
  have h3 := pickL now 2000 hnw (by omega)
  have h4 := pickL later 2000 hlt (by omega)
  have b2 := pickS_bd (c := known) (n := (l.length : Int) + 1) (by omega)
  have b3 := pickS_bd (c := now) (n := 2000) (by omega)
  have b4 := pickS_bd (c := later) (n := 2000) (by omega)
  generalize pickS known ((l.length : Int) + 1) = K at *
  generalize pickS now 2000 = T at *
  generalize pickS later 2000 = Z at *
  obtain ⟨k, rfl⟩ : ∃ k : Nat, K = k := ⟨K.toNat, by omega⟩
  obtain ⟨hlen, hform, hstr, hdup⟩ := valid_parts hev
  obtain ⟨m, hm⟩ : ∃ m, m = List.drop (Int.toNat 0) (List.take (k : Int).toNat l) := ⟨_, rfl⟩
  have hmt : m = l.take k := by rw [hm, cut_is]
  have hsub : m.Sublist l := by rw [hmt]; exact List.take_sublist _ _
  have hml := hsub.length_le
  have hmv := valid_part hsub hev
  have hat : ∀ e ∈ l, 0 ≤ e.at_ ∧ e.at_ ≤ 9400 ∧ e.image ≤ 899 := fun e he => by
    have h5 := hsm e he
    have h6 := hform e he
    unfold formB at h6
    simp only [Bool.and_eq_true, inB_iff] at h6
    omega
  -- when one asks early, and late
  have hok1 : ∀ t : Int, ((k : Int) = 0 ∨ (l.getD ((k : Int) - 1).toNat (Cd.dflt U.event)).at_ < t) → 0 ≤ t → t ≤ 100000 → okF g m t = true := fun t ht t0 t1 => by
    refine okF_mk (fun e he => ⟨?_, (hat e (hsub.subset he)).2.2⟩) (by omega) hgv hmv
    rw [hmt] at he
    match k, b2, ht, he with
    | 0, _, _, he => simp at he
    | k + 1, b2, ht, he =>
      have h5 := str_take hstr (k := k) (by omega) e he
      rw [show (((k + 1 : Nat) : Int) - 1).toNat = k by omega] at ht
      have h6 := ht.resolve_left (by omega)
      have h6 : (l.getD k dE).at_ < t := h6
      omega
  have hok2 : ∀ u : Int, ((l.length : Int) = 0 ∨ (l.getD ((l.length : Int) - 1).toNat (Cd.dflt U.event)).at_ < u) → 0 ≤ u → u ≤ 100000 → okF g l u = true := fun u hu u0 u1 => by
    refine okF_mk (fun e he => ⟨?_, (hat e he).2.2⟩) (by omega) hgv hev
    have hp : 0 < l.length := List.length_pos_of_mem he
    have h5 := str_take hstr (k := l.length - 1) (by omega) e (by rw [show l.length - 1 + 1 = l.length by omega, List.take_length]; exact he)
    rw [show ((l.length : Int) - 1).toNat = l.length - 1 by omega] at hu
    have h6 : (l.getD (l.length - 1) dE).at_ < u := hu.resolve_left (by omega)
    omega
  have hD1 : ∀ t : Int, ((k : Int) = 0 ∨ (l.getD ((k : Int) - 1).toNat (Cd.dflt U.event)).at_ < t) → 0 ≤ t → t ≤ 100000 → Meets Tryz.prog Dc 25 [goalA g, eS (List.drop (Int.toNat 0) (List.take (k : Int).toNat l)), iS t] [] (.tuple [bS (finA g m t).isNone, iS 0]) [] := fun t ht t0 t1 => by
    have h5 := tdoom g hG m (by omega) (fun e he => hE e (hsub.subset he)) t
    rw [hok1 t ht t0 t1, if_pos rfl, Bool.true_and] at h5
    rw [← hm]; exact h5
  have hD2 : ∀ u : Int, ((l.length : Int) = 0 ∨ (l.getD ((l.length : Int) - 1).toNat (Cd.dflt U.event)).at_ < u) → 0 ≤ u → u ≤ 100000 → Meets Tryz.prog Dc 25 [goalA g, eS l, iS u] [] (.tuple [bS (finA g l u).isNone, iS 0]) [] := fun t ht t0 t1 => by
    have h5 := tdoom g hG l (by omega) hE t
    rw [hok2 t ht t0 t1, if_pos rfl, Bool.true_and] at h5
    exact h5
  have hN : ∀ t u : Int, ((k : Int) = 0 ∨ (l.getD ((k : Int) - 1).toNat (Cd.dflt U.event)).at_ < t) → 0 ≤ t → t ≤ 100000 → ((l.length : Int) = 0 ∨ (l.getD ((l.length : Int) - 1).toNat (Cd.dflt U.event)).at_ < u) → u ≤ 100000 → ((l.length : Int) ≤ k ∨ t ≤ (l.getD (k : Int).toNat (Cd.dflt U.event)).at_) → t ≤ u → (finA g m t).isNone = true → (finA g l u).isNone = true := fun t u ht t0 t1 hu u1 hk htu hn => by
    rw [Option.isNone_iff_eq_none] at hn ⊢
    refine fin_never (hok1 t ht t0 t1) (hok2 u hu (by omega) u1) hn (fun e he => ?_) htu
    rcases hk with hk | hk
    · left; rw [hmt, List.take_of_length_le (by omega)]; exact he
    · rcases Nat.lt_or_ge k l.length with h | h
      · rw [hmt]
        rw [Int.toNat_natCast] at hk
        have hk : t ≤ (l.getD k dE).at_ := hk
        rcases str_drop hstr h e he with h5 | h5
        · exact .inl h5
        · exact .inr (by omega)
      · left; rw [hmt, List.take_of_length_le h]; exact he
  have hM1 : ∀ t : Int, (meanG g m).isSome = true → (finA g m t).isNone = false := fun t h => by rw [fin_met h]; rfl
  have hM2 : ∀ t : Int, (meanG g l).isSome = true → (finA g l t).isNone = false := fun t h => by rw [fin_met h]; rfl
  have h5 := tmet g hG m (by omega) (fun e he => hE e (hsub.subset he))
  have h6 := tmet g hG l (by omega) hE
  have e5 : (askS g m).2.2.1 = (meanG g m).isSome ∧ (askS g m).2.2.2 = 0 := by
    rw [ask_valid hgv hmv]; cases meanG g m <;> exact ⟨rfl, rfl⟩
  have e6 : (askS g l).2.2.1 = (meanG g l).isSome ∧ (askS g l).2.2.2 = 0 := by
    rw [ask_valid hgv hev]; cases meanG g l <;> exact ⟨rfl, rfl⟩
  rw [e5.1, e5.2, hm] at h5
  rw [e6.1, e6.2] at h6
  rw [← hm] at h5
  generalize (meanG g m).isSome = a at *
  generalize (meanG g l).isSome = b at *
  rw [hm] at h5
  generalize hW : (fun t => (finA g m t).isNone) = W
  have eW : ∀ t, (finA g m t).isNone = W t := fun t => by rw [← hW]
  generalize hS : (fun t => (finA g l t).isNone) = S
  have eS' : ∀ t, (finA g l t).isNone = S t := fun t => by rw [← hS]
  simp only [eW, eS'] at hD1 hD2 hN hM1 hM2
  clear hok1 hok2 eW eS' hW hS e5 e6 hdup hform hsm
  have hg1 : (k : Int) = 0 ∨ 0 ≤ (l.getD ((k : Int) - 1).toNat (Cd.dflt U.event)).at_ ∧ (l.getD ((k : Int) - 1).toNat (Cd.dflt U.event)).at_ ≤ 9400 := by
    rcases Nat.eq_zero_or_pos k with h | h
    · exact .inl (by omega)
    · right
      have hgi := getD_some (d := Cd.dflt U.event) (i := ((k : Int) - 1).toNat) (show ((k : Int) - 1).toNat < l.length by omega)
      rw [Int.toNat_natCast] at hgi
      have := hat _ (List.mem_of_getElem? hgi)
      omega
  have hg2 : (l.length : Int) = 0 ∨ 0 ≤ (l.getD ((l.length : Int) - 1).toNat (Cd.dflt U.event)).at_ ∧ (l.getD ((l.length : Int) - 1).toNat (Cd.dflt U.event)).at_ ≤ 9400 := by
    rcases Nat.eq_zero_or_pos l.length with h | h
    · exact .inl (by omega)
    · right
      have hgi := getD_some (d := Cd.dflt U.event) (i := ((l.length : Int) - 1).toNat) (show ((l.length : Int) - 1).toNat < l.length by omega)
      rw [Int.toNat_natCast] at hgi
      have := hat _ (List.mem_of_getElem? hgi)
      omega
  have hg3 : (l.length : Int) ≤ k ∨ 0 ≤ (l.getD (k : Int).toNat (Cd.dflt U.event)).at_ ∧ (l.getD (k : Int).toNat (Cd.dflt U.event)).at_ ≤ 9400 := by
    rcases Nat.lt_or_ge k l.length with h | h
    · right
      have hgi := getD_some (d := Cd.dflt U.event) h
      have := hat _ (List.mem_of_getElem? hgi)
      omega
    · exact .inl (by omega)
  have hq1 : (l.getD ((k : Int) - 1).toNat (Cd.dflt U.event)).at_ = (l.getD ((k : Int) - 1).toNat (U.dflt .event)).at_ := rfl
  have hq2 : (l.getD ((l.length : Int) - 1).toNat (Cd.dflt U.event)).at_ = (l.getD ((l.length : Int) - 1).toNat (U.dflt .event)).at_ := rfl
  have hq3 : (l.getD (k : Int).toNat (Cd.dflt U.event)).at_ = (l.getD (k : Int).toNat (U.dflt .event)).at_ := rfl
  refine meets_of_gx Ax tab_ok Tryz.func7 (c := _) rfl Tryz.call7 400 ?_
  (repeat' ((conv => whnf); first | refine x0C (eB ?_ rfl) | (exfalso; omega) | refine cpC (h0) ?_ | refine dpC (h0) ?_ | refine cpC (h1) ?_ | refine dpC (h1) ?_ | refine cpC (h2) ?_ | refine dpC (h2) ?_ | refine cpC (h3) ?_ | refine dpC (h3) ?_ | refine cpC (h4) ?_ | refine dpC (h4) ?_ | refine cpC ((hD1 _ (by omega) (by omega) (by omega))) ?_ | refine dpC ((hD1 _ (by omega) (by omega) (by omega))) ?_ | refine cpC ((hD2 _ (by omega) (by omega) (by omega))) ?_ | refine dpC ((hD2 _ (by omega) (by omega) (by omega))) ?_ | refine cpC (h5) ?_ | refine dpC (h5) ?_ | refine cpC (h6) ?_ | refine dpC (h6) ?_ | refine x0C ?_ | refine spC (fun hb => ?_) fun hb => ?_ | refine nilC (fun hb => ?_) ?_ | refine taC ?_ | refine saC ?_ | exact sdV | refine side_and ?_ ?_ | refine drawX_of mixed ?_))
  all_goals (first
    | rfl
    | assumption
    | exact absurd ((hM1 _ (by assumption)).symm.trans (by assumption)) Bool.false_ne_true
    | exact absurd ((hM2 _ (by assumption)).symm.trans (by assumption)) Bool.false_ne_true
    | (refine hN _ _ ?_ ?_ ?_ ?_ ?_ ?_ ?_ (by assumption) <;> omega))
end Go.SX
