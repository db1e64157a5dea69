/-
  Plain law: the images of a goal are those of exposures; what the statements about prices and images say.
-/
import Derived.Test.YtdaghncicimipaaGreatDoorSxTp9
import Derived.Test.YtdaghncicimipaaGreatDoorSxTd2
import Derived.Test.YtdaghncicimipaaGreatDoorSxTd7
import Derived.Test.YtdaghncicimipaaGreatDoorSxTd9
namespace Go.SX
set_option linter.unusedSimpArgs false
set_option linter.unusedVariables false
def hasShot (l : List Event) (x : Int) : Prop := ∃ e ∈ l, e.kind = 1 ∧ e.image = x
theorem hasShot_mono {l m : List Event} {x : Int} (h : hasShot l x) (hs : ∀ e ∈ l, e ∈ m) : hasShot m x := by
  obtain ⟨e, h1, h2⟩ := h
  exact ⟨e, hs e h1, h2⟩
theorem seen_shot {g : Goal} {l : List Event} {e : Event} (h : e ∈ seenS g l) : hasShot l e.image := by
  unfold seenS at h
  obtain ⟨h1, h2⟩ := List.mem_filter.1 h
  unfold seesB at h2
  simp only [Bool.and_eq_true, decide_eq_true_eq] at h2
  exact ⟨e, h1, h2.1.1.1.1.1, rfl⟩
theorem pair_mem {g : Goal} : ∀ {l : List Event} {a b : Event}, pairS g l = some (a, b) → a ∈ l ∧ b ∈ l
  | [], a, b, h => by rw [pairS] at h; cases h
  | x :: l, a, b, h => by
    rw [pairS] at h
    split at h
    · rename_i c hc
      injection h with h
      injection h with h1 h2
      subst h1 h2
      exact ⟨List.mem_cons_self, List.mem_cons_of_mem _ (List.mem_of_find?_eq_some hc)⟩
    · obtain ⟨h1, h2⟩ := pair_mem h
      exact ⟨List.mem_cons_of_mem _ h1, List.mem_cons_of_mem _ h2⟩
theorem take_mem (g : Goal) : ∀ (l : List Event) (need : Int) (last : Option Event) (r : List Int), takeS g l need last = some r → ∀ x ∈ r, ∃ e ∈ l, e.image = x
  | [], need, last, r, h, x, hx => by
    rw [takeS_nil] at h
    split at h
    · injection h with h; subst h; cases hx
    · cases h
  | a :: l, need, last, r, h, x, hx => by
    rw [takeS_cons] at h
    split at h
    · injection h with h; subst h; cases hx
    · split at h
      · split at h
        · rename_i r' hr'
          injection h with h; subst h
          rcases List.mem_cons.1 hx with rfl | hx
          · exact ⟨a, List.mem_cons_self, rfl⟩
          · obtain ⟨e, h1, h2⟩ := take_mem g l _ _ _ hr' x hx
            exact ⟨e, List.mem_cons_of_mem _ h1, h2⟩
        · cases h
      · obtain ⟨e, h1, h2⟩ := take_mem g l _ _ _ h x hx
        exact ⟨e, List.mem_cons_of_mem _ h1, h2⟩
mutual
theorem mean_shots : ∀ (g : Goal) (l : List Event) (p : Int) (im : List Int), meanG g l = some (p, im) → ∀ x ∈ im, hasShot l x
  | ⟨kind, rows, from_, to_, low, high, clear, days, times, within, cents, kids⟩, l, p, im, hm => by
    have hall := all_shots kids
    have hany := any_shots kids
    have hhd := hd_shots kids
    intro x hx
    rw [meanG_eq] at hm
    split at hm
    · unfold seeM at hm
      split at hm
      · cases hm
      · rename_i a t ha
        injection hm with hm; injection hm with h1 h2; subst h2
        rw [List.mem_singleton.1 hx]
        exact seen_shot (ha ▸ List.mem_cons_self)
    · split at hm
      · unfold pairM at hm
        split at hm
        · cases hm
        · rename_i a b hp
          obtain ⟨h3, h4⟩ := pair_mem hp
          injection hm with hm; injection hm with h1 h2; subst h2
          rw [mem_setS] at hx
          rcases List.mem_cons.1 hx with rfl | hx
          · exact seen_shot h3
          · rw [List.mem_singleton.1 hx]; exact seen_shot h4
      · split at hm
        · unfold everyM at hm
          split at hm
          · cases hm
          · rename_i r hr
            injection hm with hm; injection hm with h1 h2; subst h2
            rw [mem_setS] at hx
            obtain ⟨e, h3, rfl⟩ := take_mem _ _ _ _ _ hr x hx
            exact seen_shot h3
        · split at hm
          · exact hasShot_mono (hhd _ _ _ hm x hx) fun e he => (List.mem_filter.1 he).1
          · split at hm
            · exact hall _ _ _ _ _ hm (fun y hy => by cases hy) x hx
            · exact hany _ _ _ _ _ (fun q jm h => by cases h) hm x hx
theorem hd_shots : ∀ (ks : List Goal) (l : List Event) (p : Int) (im : List Int), meanH ks l = some (p, im) → ∀ x ∈ im, hasShot l x
  | [], l, p, im, hm => by rw [meanH] at hm; cases hm
  | k :: ks, l, p, im, hm => by
    rw [meanH] at hm
    exact mean_shots k l p im hm
theorem all_shots : ∀ (ks : List Goal) (l : List Event) (p : Int) (im : List Int) (q : Int) (jm : List Int), meanAll ks l p im = some (q, jm) → (∀ x ∈ im, hasShot l x) → ∀ x ∈ jm, hasShot l x
  | [], l, p, im, q, jm, hm, h => by
    rw [meanAll] at hm; injection hm with hm; injection hm with h1 h2; subst h2; exact h
  | k :: ks, l, p, im, q, jm, hm, h => by
    rw [meanAll] at hm
    split at hm
    · cases hm
    · rename_i q' jm' hq'
      refine all_shots ks l _ _ _ _ hm fun x hx => ?_
      rw [mem_setS] at hx
      rcases List.mem_append.1 hx with hx | hx
      · exact h x hx
      · exact mean_shots k l _ _ hq' x hx
theorem any_shots : ∀ (ks : List Goal) (cs : List Int) (l : List Event) (acc : Sen) (q : Int) (jm : List Int), (∀ q jm, acc = some (q, jm) → ∀ x ∈ jm, hasShot l x) → meanAny ks cs l acc = some (q, jm) → ∀ x ∈ jm, hasShot l x
  | [], cs, l, acc, q, jm, h, hm => by rw [meanAny] at hm; exact h _ _ hm
  | k :: ks, cs, l, acc, q, jm, h, hm => by
    rw [meanAny] at hm
    refine any_shots ks cs.tail l _ q jm (fun q jm hs => ?_) hm
    rcases stepAny_some hs with hs | ⟨p, h1, h2⟩
    · exact h _ _ hs
    · exact mean_shots k l _ _ h1
end
mutual
theorem mean_asc : ∀ (g : Goal) (l : List Event) (p : Int) (im : List Int), meanG g l = some (p, im) → Asc im
  | ⟨kind, rows, from_, to_, low, high, clear, days, times, within, cents, kids⟩, l, p, im, hm => by
    have hall := all_asc kids
    have hany := any_asc kids
    have hhd := hd_asc kids
    rw [meanG_eq] at hm
    split at hm
    · unfold seeM at hm
      split at hm
      · cases hm
      · injection hm with hm; injection hm with h1 h2; subst h2
        simp [Asc]
    · split at hm
      · unfold pairM at hm
        split at hm
        · cases hm
        · injection hm with hm; injection hm with h1 h2; subst h2; exact asc_setS
      · split at hm
        · unfold everyM at hm
          split at hm
          · cases hm
          · injection hm with hm; injection hm with h1 h2; subst h2; exact asc_setS
        · split at hm
          · exact hhd _ _ _ hm
          · split at hm
            · exact hall _ _ _ _ _ hm trivial
            · exact hany _ _ _ _ _ (fun q jm h => by cases h) hm
theorem hd_asc : ∀ (ks : List Goal) (l : List Event) (p : Int) (im : List Int), meanH ks l = some (p, im) → Asc im
  | [], l, p, im, hm => by rw [meanH] at hm; cases hm
  | k :: ks, l, p, im, hm => by
    rw [meanH] at hm
    exact mean_asc k l p im hm
theorem all_asc : ∀ (ks : List Goal) (l : List Event) (p : Int) (im : List Int) (q : Int) (jm : List Int), meanAll ks l p im = some (q, jm) → Asc im → Asc jm
  | [], l, p, im, q, jm, hm, h => by
    rw [meanAll] at hm; injection hm with hm; injection hm with h1 h2; subst h2; exact h
  | k :: ks, l, p, im, q, jm, hm, h => by
    rw [meanAll] at hm
    split at hm
    · cases hm
    · exact all_asc ks l _ _ _ _ hm asc_setS
theorem any_asc : ∀ (ks : List Goal) (cs : List Int) (l : List Event) (acc : Sen) (q : Int) (jm : List Int), (∀ q jm, acc = some (q, jm) → Asc jm) → meanAny ks cs l acc = some (q, jm) → Asc jm
  | [], cs, l, acc, q, jm, h, hm => by rw [meanAny] at hm; exact h _ _ hm
  | k :: ks, cs, l, acc, q, jm, h, hm => by
    rw [meanAny] at hm
    refine any_asc ks cs.tail l _ q jm (fun q jm hs => ?_) hm
    rcases stepAny_some hs with hs | ⟨p, h1, h2⟩
    · exact h _ _ hs
    · exact mean_asc k l _ _ h1
end
theorem asc_lt : ∀ {l : List Int}, Asc l → l.Pairwise (· < ·)
  | [], _ => List.Pairwise.nil
  | a :: l, h => List.Pairwise.cons h.1 (asc_lt h.2)
theorem nodup_len {l m : List Int} (h1 : l.Nodup) (h2 : m.Nodup) (h : ∀ x, x ∈ l ↔ x ∈ m) : l.length = m.length := by
  have := (List.perm_ext_iff_of_nodup h1 h2).2 h
  exact this.length_eq
/-- each image belongs to one exposure -/
theorem shots_count {l : List Event} {im : List Int} (hv : validE l = true) (hA : Asc im) (hs : ∀ x ∈ im, hasShot l x) : ((onI im l).filter fun e => decide (e.kind = 1)).length = im.length := by
  have hO : ordB l = true := by unfold validE at hv; simp only [Bool.and_eq_true] at hv; exact hv.2
  have hD := ((ord_iff l).1 hO).2.2
  have h1 : ((((onI im l).filter fun e => decide (e.kind = 1)).map fun e => e.image)).Nodup := by
    rw [List.Nodup, List.pairwise_map]
    have h2 : ((onI im l).filter fun e => decide (e.kind = 1)).Pairwise noDup := hD.sublist (List.filter_sublist.trans List.filter_sublist)
    refine List.Pairwise.imp_of_mem (fun ha hb h => ?_) h2
    have ka := (List.mem_filter.1 ha).2
    have kb := (List.mem_filter.1 hb).2
    simp only [decide_eq_true_eq] at ka kb
    intro e
    exact h ⟨ka, kb, e⟩
  have h3 : im.Nodup := (asc_lt hA).imp fun h => by omega
  have h4 := nodup_len h1 h3 fun x => by
    constructor
    · intro hx
      obtain ⟨e, he, rfl⟩ := List.mem_map.1 hx
      have := (List.mem_filter.1 (List.mem_filter.1 he).1).2
      simpa using this
    · intro hx
      obtain ⟨e, he, hk, rfl⟩ := hs x hx
      refine List.mem_map.2 ⟨e, List.mem_filter.2 ⟨List.mem_filter.2 ⟨he, by simpa using hx⟩, by simpa using hk⟩, rfl⟩
  simpa using h4
end Go.SX

namespace Go.SX
open Go.Proofs
set_option linter.unusedSimpArgs false
set_option linter.unusedVariables false
set_option maxHeartbeats 4000000
set_option maxRecDepth 100000
mutual
theorem size_gall : ∀ (g : Goal) (d n : Int), sizeG g d = some n → GAll g
  | ⟨kind, rows, from_, to_, low, high, clear, days, times, within, cents, kids⟩, d, n, hs => by
    have hL := sizeL_gall kids
    obtain ⟨hok, hd, m, hm, rfl⟩ := size_ok hs
    rw [GAll_iff]
    refine ⟨?_, hL _ _ hm⟩
    unfold okB at hok
    simp only [Bool.and_eq_true] at hok
    obtain ⟨⟨⟨h1, h2⟩, h3⟩, h4⟩ := hok
    unfold partsB at h4
    simp only [Bool.and_eq_true, Bool.or_eq_true, decide_eq_true_eq] at h4
    obtain ⟨⟨⟨h5, h6⟩, h7⟩, h8⟩ := h4
    have hk : (kids.length : Int) ≤ 4 := by
      unfold manyB at h5
      split at h5
      · simp only [decide_eq_true_eq] at h5; (try dsimp only at h5); omega
      · split at h5
        · rw [inB_iff] at h5; exact h5.2
        · simp only [decide_eq_true_eq] at h5; (try dsimp only at h5); omega
    have hc : (cents.length : Int) ≤ 4 := by
      unfold centsB at h6
      split at h6
      · simp only [Bool.and_eq_true, decide_eq_true_eq] at h6; (try dsimp only at h6); omega
      · simp only [decide_eq_true_eq] at h6; (try dsimp only at h6); omega
    have hr : (rows.length : Int) ≤ 24 := by
      rcases h7 with h7 | h7
      · unfold limB at h3
        rw [if_pos h7] at h3
        simp only [Bool.and_eq_true] at h3
        have ha := h3.1.1.1.1.1
        unfold areaB at ha
        simp only [Bool.and_eq_true, decide_eq_true_eq] at ha
        try dsimp only at ha
        omega
      · (try dsimp only at h7); omega
    exact ⟨by dsimp only; omega, by dsimp only; omega, by dsimp only; omega⟩
theorem sizeL_gall : ∀ (l : List Goal) (d n : Int), sizeL l d = some n → GAllL l
  | [], d, n, hs => by rw [GAllL]; trivial
  | k :: l, d, n, hs => by
    rw [sizeL] at hs
    rw [GAllL]
    split at hs
    · cases hs
    · rename_i m hm
      split at hs
      · cases hs
      · rename_i q hq
        exact ⟨size_gall k d m hm, sizeL_gall l d q hq⟩
end
theorem valid_gall {g : Goal} (h : validG g = true) : GAll g := by
  unfold validG at h
  split at h
  · cases h
  · rename_i n hn
    exact size_gall g 1 n hn
theorem valid_size {g : Goal} (h : validG g = true) : ∃ n, sizeG g 1 = some n := by
  unfold validG at h
  split at h
  · cases h
  · rename_i n hn
    exact ⟨n, hn⟩
theorem lmade (xs : List A5) (ys : List A4) (hx : ∀ y ∈ xs, A5OK y) (hxl : (xs.length : Int) ≤ 9223372036854775807) (hy : ∀ y ∈ ys, A4OK y) (hyl : (ys.length : Int) ≤ 9223372036854775807) : Meets Tryz.prog Dc 10 [.agg [a5S xs, a4S ys]] [] (.tuple [goalA (goalS xs), eS (eventsS (goalS xs) ys)]) [] := by
  have h1 := rGoal xs hx hxl
  have h2 := revents (goalS xs) (valid_gall (goal_valid xs)) ys hy hyl
  generalize eventsS (goalS xs) ys = l at *
  generalize goalS xs = g at *
  refine meets_of_gx Ax tab_ok Tryz.func10 (c := _) rfl Tryz.call10 100 ?_
  (repeat' ((conv => whnf); first | (exfalso; omega) | refine cpC (h1) ?_ | refine dpC (h1) ?_ | refine cpC (h2) ?_ | refine dpC (h2) ?_ | refine x0C ?_ | refine spC (fun hb => ?_) fun hb => ?_ | refine nilC (fun hb => ?_) ?_ | refine taC ?_ | refine saC ?_ | exact sdV | refine side_and ?_ ?_ | refine drawX_of mixed ?_))
  all_goals exact vwV
/-- what is asked of valid things -/
theorem ask_valid {g : Goal} {l : List Event} (hg : validG g = true) (hl : validE l = true) : askS g l = match meanG g l with | some (p, im) => (p, im, true, 0) | none => (0, [], false, 0) := by
  unfold askS
  rw [hg, hl]; rfl
theorem lmore (xs : List A5) (ys : List A4) (hx : ∀ y ∈ xs, A5OK y) (hxl : (xs.length : Int) ≤ 9223372036854775807) (hy : ∀ y ∈ ys, A4OK y) (hyl : (ys.length : Int) ≤ 9223372036854775807) (set : Int) (hset : I64 set) : Meets Tryz.prog Dc 5 [.agg [a5S xs, a4S ys], iS set] [] (bS true) [] := by
  have h0 := lsane
  have h1 := lmade xs ys hx hxl hy hyl
  have h2 := pickL set 65536 hset (by omega)
  have hgv := goal_valid xs
  obtain ⟨hev, hel⟩ := events_valid (goalS xs) ys
  generalize eventsS (goalS xs) ys = l at *
  generalize goalS xs = g at *
  have hG := valid_gall hgv
  have hE := valid_elen hev
  generalize pickS set 65536 = s at *
  have h3 := lof l s (by omega)
  have hsub := ofS_sub l s
  generalize ofS l s = m at *
  have hmv := valid_part hsub hev
  have hml := hsub.length_le
  have h4 := tprice g hG m (by omega) (fun e he => hE e (hsub.subset he))
  have h5 := tprice g hG l (by omega) hE
  rw [ask_valid hgv hmv] at h4
  rw [ask_valid hgv hev] at h5
  obtain ⟨n, hn⟩ := valid_size hgv
  have hp := mean_part g 1 n hn hsub
  have hb := mean_bound g 1 n l
  cases hm : meanG g m with
  | none =>
    rw [hm] at h4
    generalize meanG g l = r at h5
    cases r with
    | none =>
      dsimp only at h4 h5
      refine meets_of_gx Ax tab_ok Tryz.func5 (c := _) rfl Tryz.call5 200 ?_
      (repeat' ((conv => whnf); first | refine x0C (eB ?_ rfl) | (exfalso; omega) | refine cpC (h0) ?_ | refine dpC (h0) ?_ | refine cpC (h1) ?_ | refine dpC (h1) ?_ | refine cpC (h2) ?_ | refine dpC (h2) ?_ | refine cpC (h3) ?_ | refine dpC (h3) ?_ | refine cpC (h4) ?_ | refine dpC (h4) ?_ | refine cpC (h5) ?_ | refine dpC (h5) ?_ | refine x0C ?_ | refine spC (fun hb => ?_) fun hb => ?_ | refine nilC (fun hb => ?_) ?_ | refine taC ?_ | refine saC ?_ | exact sdV | refine side_and ?_ ?_ | refine drawX_of mixed ?_))
      all_goals rfl
    | some q =>
      obtain ⟨q, jm⟩ := q
      dsimp only at h4 h5
      refine meets_of_gx Ax tab_ok Tryz.func5 (c := _) rfl Tryz.call5 200 ?_
      (repeat' ((conv => whnf); first | refine x0C (eB ?_ rfl) | (exfalso; omega) | refine cpC (h0) ?_ | refine dpC (h0) ?_ | refine cpC (h1) ?_ | refine dpC (h1) ?_ | refine cpC (h2) ?_ | refine dpC (h2) ?_ | refine cpC (h3) ?_ | refine dpC (h3) ?_ | refine cpC (h4) ?_ | refine dpC (h4) ?_ | refine cpC (h5) ?_ | refine dpC (h5) ?_ | refine x0C ?_ | refine spC (fun hb => ?_) fun hb => ?_ | refine nilC (fun hb => ?_) ?_ | refine taC ?_ | refine saC ?_ | exact sdV | refine side_and ?_ ?_ | refine drawX_of mixed ?_))
      all_goals rfl
  | some p =>
    obtain ⟨p, im⟩ := p
    obtain ⟨q, jm, hq, hqp⟩ := hp p im hm
    have hb' := hb q jm hn hq
    rw [hm] at h4
    rw [hq] at h5
    dsimp only at h4 h5
    refine meets_of_gx Ax tab_ok Tryz.func5 (c := _) rfl Tryz.call5 200 ?_
    (repeat' ((conv => whnf); first | refine x0C (eB ?_ rfl) | (exfalso; omega) | refine cpC (h0) ?_ | refine dpC (h0) ?_ | refine cpC (h1) ?_ | refine dpC (h1) ?_ | refine cpC (h2) ?_ | refine dpC (h2) ?_ | refine cpC (h3) ?_ | refine dpC (h3) ?_ | refine cpC (h4) ?_ | refine dpC (h4) ?_ | refine cpC (h5) ?_ | refine dpC (h5) ?_ | refine x0C ?_ | refine spC (fun hb => ?_) fun hb => ?_ | refine nilC (fun hb => ?_) ?_ | refine taC ?_ | refine saC ?_ | exact sdV | refine side_and ?_ ?_ | refine drawX_of mixed ?_))
    all_goals (first | rfl | (simp; omega) | simp_all)
end Go.SX

namespace Go.SX
open Go.Proofs
set_option linter.unusedSimpArgs false
set_option linter.unusedVariables false
set_option maxHeartbeats 4000000
set_option maxRecDepth 100000
/-- the own events of the first i events and, of the next one, the first k images -/
def ownN (im : List Int) (l : List Event) (i : Nat) : List Event := onI im (l.take i)
def ownK (im : List Int) (l : List Event) (i k : Nat) : List Event := ownN im l i ++ if (l.getD i (U.dflt .event)).image ∈ im.take k then [l.getD i (U.dflt .event)] else []
def shotN (l : List Event) : Int := ((l.filter fun e => decide (e.kind = 1)).length : Int)
theorem shotN_app (a b : List Event) : shotN (a ++ b) = shotN a + shotN b := by unfold shotN; simp
theorem shotN_le (a : List Event) : 0 ≤ shotN a ∧ shotN a ≤ a.length := by
  unfold shotN
  have := List.length_filter_le (fun e : Event => decide (e.kind = 1)) a
  omega
theorem ownN_len (im : List Int) (l : List Event) (i : Nat) : (ownN im l i).length ≤ i := by
  unfold ownN onI
  exact Nat.le_trans (List.length_filter_le _ _) (by simp; omega)
theorem ownK_len (im : List Int) (l : List Event) (i k : Nat) : (ownK im l i k).length ≤ i + 1 := by
  have := ownN_len im l i
  unfold ownK
  rw [List.length_append]
  split <;> simp <;> omega
theorem ownK_zero (im : List Int) (l : List Event) (i : Nat) : ownK im l i 0 = ownN im l i := by unfold ownK; simp
theorem ownK_end (im : List Int) (l : List Event) {i k : Nat} (hi : i < l.length) (hk : im.length ≤ k) : ownK im l i k = ownN im l (i + 1) := by
  unfold ownK ownN onI
  rw [List.take_of_length_le hk, take_getD (d := U.dflt .event) hi, List.filter_append]
  congr 1
  by_cases h : (l.getD i (U.dflt .event)).image ∈ im
  · rw [if_pos h, List.filter_cons, if_pos (by simpa using h)]; rfl
  · rw [if_neg h, List.filter_cons, if_neg (by simpa using h)]; rfl
theorem ownK_hit (im : List Int) (hA : Asc im) (l : List Event) {i k : Nat} (hk : k < im.length) (h : (l.getD i (U.dflt .event)).image = im.getD k 0) : ownK im l i (k + 1) = ownK im l i k ++ [l.getD i (U.dflt .event)] := by
  have hN : im.Nodup := (asc_lt hA).imp fun h => by omega
  unfold ownK
  rw [take_getD (d := 0) hk, h, if_pos (by simp), if_neg, List.append_nil]
  intro hm
  rw [List.getD_eq_getElem?_getD, List.getElem?_eq_getElem hk] at hm
  obtain ⟨j, hj, e⟩ := List.getElem_of_mem hm
  rw [List.getElem_take] at e
  simp only [List.length_take] at hj
  have := (List.nodup_iff_pairwise_ne.1 hN)
  exact absurd e (List.pairwise_iff_getElem.1 this j k (by omega) hk (by omega))
theorem ownK_miss (im : List Int) (l : List Event) {i k : Nat} (hk : k < im.length) (h : ¬ (l.getD i (U.dflt .event)).image = im.getD k 0) : ownK im l i k = ownK im l i (k + 1) := by
  unfold ownK
  rw [take_getD (d := 0) hk]
  congr 1
  by_cases hm : (l.getD i (U.dflt .event)).image ∈ im.take k
  · rw [if_pos hm, if_pos (List.mem_append_left _ hm)]
  · rw [if_neg hm, if_neg (by rw [List.mem_append, List.mem_singleton]; rintro (h1 | h1) <;> contradiction)]
theorem asc_step {im : List Int} (hA : Asc im) {k : Nat} (h0 : 0 < k) (hk : k < im.length) : im.getD (k - 1) 0 < im.getD k 0 := by
  rw [List.getD_eq_getElem?_getD, List.getD_eq_getElem?_getD, List.getElem?_eq_getElem hk, List.getElem?_eq_getElem (by omega)]
  exact List.pairwise_iff_getElem.1 (asc_lt hA) (k - 1) k (by omega) hk (by omega)
theorem luses (xs : List A5) (ys : List A4) (hx : ∀ y ∈ xs, A5OK y) (hxl : (xs.length : Int) ≤ 9223372036854775807) (hy : ∀ y ∈ ys, A4OK y) (hyl : (ys.length : Int) ≤ 9223372036854775807) : Meets Tryz.prog Dc 8 [.agg [a5S xs, a4S ys]] [] (bS true) [] := by
  have h0 := lsane
  have h1 := lmade xs ys hx hxl hy hyl
  have hgv := goal_valid xs
  obtain ⟨hev, hel⟩ := events_valid (goalS xs) ys
  generalize eventsS (goalS xs) ys = l at *
  generalize goalS xs = g at *
  have hG := valid_gall hgv
  have hE := valid_elen hev
  have h2 := tuses g hG l (by omega) hE
  have h3 := tprice g hG l (by omega) hE
  rw [ask_valid hgv hev] at h2 h3
  obtain ⟨n, hn⟩ := valid_size hgv
  obtain ⟨p, im, is, hA, hil, hisq, hS, h2, h3, h4⟩ : ∃ (p : Int) (im : List Int) (is : Bool), Asc im ∧ im.length ≤ 1000 ∧ ((is == decide (0 < (im.length : Int))) = true) ∧ shotN (onI im l) = im.length ∧ Meets Tryz.prog Dc 18 [goalA g, eS l] [] (.tuple [lS im, iS 0]) [] ∧ Meets Tryz.prog Dc 16 [goalA g, eS l] [] (.tuple [iS p, bS is, iS 0]) [] ∧ Meets Tryz.prog Dc 16 [goalA g, eS (onI im l)] [] (.tuple [iS p, bS is, iS 0]) [] := by
    have hsub : ∀ im, (onI im l).Sublist l := fun im => List.filter_sublist
    have hP := fun im => tprice g hG (onI im l) (by have := (hsub im).length_le; omega) (fun e he => hE e ((hsub im).subset he))
    have hpart := fun im => mean_part g 1 n hn (hsub im)
    cases hm : meanG g l with
    | none =>
      rw [hm] at h2 h3
      refine ⟨0, [], false, trivial, by decide, by decide, ?_, h2, h3, ?_⟩
      · unfold shotN onI; simp
      · have h5 := hP []
        rw [ask_valid hgv (valid_part (hsub []) hev)] at h5
        cases hm' : meanG g (onI [] l) with
        | none => rw [hm'] at h5; exact h5
        | some q =>
          obtain ⟨q, jm⟩ := q
          obtain ⟨r, km, hr, _⟩ := hpart [] q jm hm'
          rw [hm] at hr; cases hr
    | some q =>
      obtain ⟨p, im⟩ := q
      rw [hm] at h2 h3
      have hne := mean_ne g 1 n l p im hn hm
      have hb := mean_bound g 1 n l p im hn hm
      have hA := mean_asc g l p im hm
      have hn12 : n ≤ 12 := by
        unfold validG at hgv
        rw [hn] at hgv
        simpa using hgv
      obtain ⟨q, jm, hq, hqp⟩ := mean_on g 1 n l hn p im hm im fun x hx => hx
      obtain ⟨r, km, hr, hrq⟩ := hpart im q jm hq
      rw [hm] at hr
      injection hr with hr; injection hr with hr1 hr2
      subst hr1
      refine ⟨p, im, true, hA, by omega, ?_, ?_, h2, h3, ?_⟩
      · have : 0 < im.length := List.length_pos_iff.2 hne
        simp [this]
      · unfold shotN
        rw [shots_count hev hA (mean_shots g l p im hm)]
      · have h5 := hP im
        rw [ask_valid hgv (valid_part (hsub im) hev), hq] at h5
        rw [show q = p by omega] at h5
        exact h5
  refine meets_of_gx Ax tab_ok Tryz.func8 (c := _) rfl Tryz.call8 300 ?_
  (repeat' ((conv => whnf); first | (exfalso; omega) | refine cpC (h0) ?_ | refine dpC (h0) ?_ | refine cpC (h1) ?_ | refine dpC (h1) ?_ | refine cpC (h2) ?_ | refine dpC (h2) ?_ | refine cpC (h3) ?_ | refine dpC (h3) ?_ | refine x0C ?_ | refine spC (fun hb => ?_) fun hb => ?_ | refine nilC (fun hb => ?_) ?_ | refine taC ?_ | refine saC ?_ | exact sdV | refine side_and ?_ ?_ | refine drawX_of mixed ?_))
  · exfalso; rw [hb] at hisq; cases hisq
  refine loop_upT [some 0, some 1, none] (fun q : Nat × List Event => [(10, .slice 2 0 7 0 q.2.length), (11, iS (shotN q.2)), (12, iS q.1)]) (fun q => [(2, .rows U.event q.2)]) (fun q => q.1 ≤ l.length ∧ q.2 = ownN im l q.1) (fun q => l.length - q.1) (0, []) ⟨Nat.zero_le _, by simp [ownN, onI]⟩ (by exact bkI) ?_
  rintro ⟨i, J⟩ ⟨hi, hJ⟩ K hK
  dsimp only at hi hJ hK ⊢
  rcases Nat.lt_or_ge i l.length with hlt | hge
  · have hJl : J.length ≤ i := by rw [hJ]; exact ownN_len _ _ _
    have hsn : 0 ≤ shotN J ∧ shotN J ≤ J.length := shotN_le J
    (repeat' ((conv => whnf); first | (exfalso; omega) | refine x0C ?_ | refine spC (fun hb => ?_) fun hb => ?_ | refine nilC (fun hb => ?_) ?_ | refine taC ?_ | refine saC ?_ | exact sdV | refine side_and ?_ ?_ | refine drawX_of mixed ?_))
    refine loop_upT [some 0, some 1, some 2] (fun q : Nat × List Event × Int => [(10, .slice 2 0 7 0 q.2.1.length), (11, iS q.2.2), (13, iS q.1)]) (fun q => [(2, .rows U.event q.2.1)]) (fun q => q.1 ≤ im.length ∧ q.2.1 = ownK im l i q.1 ∧ q.2.2 = shotN q.2.1) (fun q => im.length - q.1) (0, J, shotN J) ⟨Nat.zero_le _, by dsimp only; rw [ownK_zero, hJ], rfl⟩ (by exact bkI) ?_
    rintro ⟨k, Q, N⟩ ⟨hk, hQ, hN⟩ K' hK'
    dsimp only at hk hQ hN hK' ⊢
    subst hN
    have hQl : Q.length ≤ i + 1 := by rw [hQ]; exact ownK_len _ _ _ _
    have hqn : 0 ≤ shotN Q ∧ shotN Q ≤ Q.length := shotN_le Q
    rcases Nat.lt_or_ge k im.length with hkl | hkg
    · have hW : (l.getD (i : Int).toNat (Cd.dflt U.event)).image = im.getD (k : Int).toNat (Cd.dflt U.int) → List.take Q.length Q ++ List.take 1 (List.drop 0 [l.getD (i : Int).toNat (Cd.dflt U.event)]) = ownK im l i (k + 1) := fun h => by
        have e := ownK_hit im hA l (i := i) (k := k) hkl h
        rw [e, ← hQ, List.take_length]; rfl
      have hN : ¬ (l.getD (i : Int).toNat (Cd.dflt U.event)).image = im.getD (k : Int).toNat (Cd.dflt U.int) → Q = ownK im l i (k + 1) := fun h => by
        have e := ownK_miss im l (i := i) (k := k) hkl h
        rw [← e, hQ]
      have hs1 : (l.getD (i : Int).toNat (Cd.dflt U.event)).kind = 1 → shotN (List.take Q.length Q ++ List.take 1 (List.drop 0 [l.getD (i : Int).toNat (Cd.dflt U.event)])) = shotN Q + 1 := fun h => by
        rw [shotN_app, List.take_length]
        congr 1
        show shotN [l.getD (i : Int).toNat (Cd.dflt U.event)] = 1
        unfold shotN
        rw [List.filter_cons, if_pos (decide_eq_true h)]
        rfl
      have hs2 : ¬ (l.getD (i : Int).toNat (Cd.dflt U.event)).kind = 1 → shotN (List.take Q.length Q ++ List.take 1 (List.drop 0 [l.getD (i : Int).toNat (Cd.dflt U.event)])) = shotN Q := fun h => by
        rw [shotN_app, List.take_length]
        have : shotN [l.getD (i : Int).toNat (Cd.dflt U.event)] = 0 := by
          unfold shotN
          rw [List.filter_cons, if_neg (by rw [decide_eq_false h]; simp)]
          rfl
        have e : shotN Q + shotN [l.getD (i : Int).toNat (Cd.dflt U.event)] = shotN Q := by omega
        exact e
      (repeat' ((conv => whnf); first | (exfalso; omega) | (have e := hs1 (by assumption); refine hK' (k + 1, List.take Q.length Q ++ List.take 1 (List.drop 0 [l.getD (i : Int).toNat (Cd.dflt U.event)]), shotN Q + 1) [some 0, some 1, some 4] _ _ ⟨⟨by dsimp only; omega, hW (by assumption), e.symm⟩⟩ ⟨by dsimp only; omega⟩ (by exact bkI)) | (have e := hs2 (by assumption); refine hK' (k + 1, List.take Q.length Q ++ List.take 1 (List.drop 0 [l.getD (i : Int).toNat (Cd.dflt U.event)]), shotN Q) [some 0, some 1, some 4] _ _ ⟨⟨by dsimp only; omega, hW (by assumption), e.symm⟩⟩ ⟨by dsimp only; omega⟩ (by exact bkI)) | refine hK' (k + 1, Q, shotN Q) [some 0, some 1, some 2] _ _ ⟨⟨by dsimp only; omega, hN (by assumption), rfl⟩⟩ ⟨by dsimp only; omega⟩ (by exact bkI) | refine x0C ?_ | refine spC (fun hb => ?_) fun hb => ?_ | refine nilC (fun hb => ?_) ?_ | refine taC ?_ | refine saC ?_ | exact sdV | refine side_and ?_ ?_ | refine drawX_of mixed ?_))
    · have hE' := hQ.trans (ownK_end im l hlt hkg)
      (repeat' ((conv => whnf); first | (exfalso; omega) | refine hK (i + 1, Q) [some 0, some 1, some 2] _ _ ⟨⟨by dsimp only; omega, hE'⟩⟩ ⟨by dsimp only; omega⟩ (by exact bkI) | refine x0C ?_ | refine spC (fun hb => ?_) fun hb => ?_ | refine nilC (fun hb => ?_) ?_ | refine taC ?_ | refine saC ?_ | exact sdV | refine side_and ?_ ?_ | refine drawX_of mixed ?_))
  · have hown : J = onI im l := by rw [hJ]; unfold ownN; rw [List.take_of_length_le hge]
    subst hown
    (repeat' ((conv => whnf); first | (exfalso; omega) | refine x0C ?_ | refine spC (fun hb => ?_) fun hb => ?_ | refine nilC (fun hb => ?_) ?_ | refine taC ?_ | refine saC ?_ | exact sdV | refine side_and ?_ ?_ | refine drawX_of mixed ?_))
    refine loop_upT [some 0, some 1, some 2] (fun k : Nat => [(14, iS k)]) (fun _ => []) (fun k => 1 ≤ k ∧ k ≤ im.length + 1) (fun k => im.length + 1 - k) 1 ⟨Nat.le_refl _, by omega⟩ (by exact bkI) ?_
    rintro k ⟨hk1, hk⟩ K hK
    dsimp only at hk1 hk hK ⊢
    rcases Nat.lt_or_ge k im.length with hkl | hkg
    · have hst := asc_step hA hk1 hkl
      have hst' : im.getD ((k : Int) - 1).toNat (Cd.dflt U.int) < im.getD (k : Int).toNat (Cd.dflt U.int) := by
        rw [show ((k : Int) - 1).toNat = k - 1 by omega]; exact hst
      (repeat' ((conv => whnf); first | (exfalso; omega) | refine hK (k + 1) [some 0, some 1, some 2] _ _ ⟨⟨by omega, by omega⟩⟩ ⟨by omega⟩ (by exact bkI) | refine x0C ?_ | refine spC (fun hb => ?_) fun hb => ?_ | refine nilC (fun hb => ?_) ?_ | refine taC ?_ | refine saC ?_ | exact sdV | refine side_and ?_ ?_ | refine drawX_of mixed ?_))
    · have hS' : decide (shotN (onI im l) = (im.length : Int)) = true := decide_eq_true hS
      (repeat' ((conv => whnf); first | (exfalso; omega) | refine rdC (h4) ?_ | refine x0C ?_ | refine spC (fun hb => ?_) fun hb => ?_ | refine nilC (fun hb => ?_) ?_ | refine taC ?_ | refine saC ?_ | exact sdV | refine side_and ?_ ?_ | refine drawX_of mixed ?_))
      · rw [hS']; exact vwV
      all_goals (exfalso; simp at hb)
end Go.SX
