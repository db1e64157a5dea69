/-
  Plain law: further events of one's own, later than the others.
-/
import Derived.Test.YtdaghncicimipaaGreatDoorSxTh0
import Derived.Test.YtdaghncicimipaaGreatDoorSxTh6
set_option linter.unusedVariables false
set_option linter.unusedSimpArgs false
namespace Go.SX
def lateE (t : Int) (i : Nat) (x : Event) : Event := ⟨x.kind, t + x.at_, if x.kind = 1 ∨ i % 2 = 0 then x.image + 100 else x.image, x.rows, x.sun, x.look, x.clear⟩
def lateN (t : Int) (fu : List Event) : Nat → List Event
  | 0 => []
  | i + 1 => insE (lateN t fu i) (lateE t i (fu.getD i (U.dflt .event)))
theorem late_len (t : Int) (fu : List Event) : ∀ i, (lateN t fu i).length ≤ i
  | 0 => Nat.le_refl _
  | i + 1 => by
    have := late_len t fu i
    have := insE_len (lateN t fu i) (lateE t i (fu.getD i (U.dflt .event)))
    rw [lateN]; omega
theorem late_mem (t : Int) (fu : List Event) : ∀ (i : Nat), i ≤ fu.length → ∀ e ∈ lateN t fu i, ∃ j, ∃ x ∈ fu, e = lateE t j x
  | 0, _, e, he => by rw [lateN] at he; cases he
  | i + 1, hi, e, he => by
    rw [lateN] at he
    rcases insE_mem he with h | h
    · exact late_mem t fu i (by omega) e h
    · refine ⟨i, _, ?_, h⟩
      rw [List.getD_eq_getElem?_getD, List.getElem?_eq_getElem (by omega)]
      exact List.getElem_mem _
theorem late_valid {l fu : List Event} {t : Int} (hv : validE l = true) (hf : validE fu = true) (h1 : ∀ e ∈ l, e.image < 16) (h2 : ∀ e ∈ fu, e.at_ ≤ 9400 ∧ e.image < 16) (ht : 0 ≤ t ∧ t ≤ 100000) (hlen : l.length ≤ 16) (hfl : fu.length ≤ 16) :
    validE (mergeS (l ++ lateN t fu fu.length)) = true ∧ ∀ e ∈ mergeS (l ++ lateN t fu fu.length), e ∈ l ∨ t ≤ e.at_ := by
  obtain ⟨_, a, b, c⟩ := valid_parts hv
  obtain ⟨_, a', b', c'⟩ := valid_parts hf
  have hm : ∀ {e}, e ∈ mergeS (l ++ lateN t fu fu.length) → e ∈ l ∨ e ∈ lateN t fu fu.length := fun h => List.mem_append.1 (merge_sub h)
  have hl := late_len t fu fu.length
  have hmem := late_mem t fu fu.length (Nat.le_refl _)
  have hfe : ∀ x ∈ fu, 0 ≤ x.at_ ∧ 0 ≤ x.image := fun x hx => by
    have := a' x hx
    unfold formB at this
    simp only [Bool.and_eq_true, inB_iff] at this
    omega
  refine ⟨valid_mk ?_ (fun e he => ?_) (merge_str _) (noDup_of (merge_str _) fun x hx y hy kx ky he => ?_), fun e he => ?_⟩
  · have : (mergeS (l ++ lateN t fu fu.length)).length ≤ (l ++ lateN t fu fu.length).length := List.Nodup.length_le_of_subset (str_nodup (merge_str _)) fun x hx => merge_sub hx
    rw [List.length_append] at this
    omega
  · rcases hm he with h | h
    · exact a e h
    · obtain ⟨j, x, hx, rfl⟩ := hmem e h
      have h3 := a' x hx
      have h4 := h2 x hx
      have h5 := hfe x hx
      unfold formB at h3 ⊢
      simp only [Bool.and_eq_true, inB_iff] at h3 ⊢
      refine ⟨⟨by show 0 ≤ t + x.at_ ∧ t + x.at_ ≤ 1000000; omega, ?_⟩, h3.2⟩
      show 0 ≤ (if x.kind = 1 ∨ j % 2 = 0 then x.image + 100 else x.image) ∧ (if x.kind = 1 ∨ j % 2 = 0 then x.image + 100 else x.image) ≤ 999
      split <;> omega
  · have big : ∀ z ∈ lateN t fu fu.length, z.kind = 1 → ∃ w ∈ fu, w.kind = 1 ∧ z = ⟨w.kind, t + w.at_, w.image + 100, w.rows, w.sun, w.look, w.clear⟩ := fun z hz hk => by
      obtain ⟨j, w, hw, rfl⟩ := hmem z hz
      refine ⟨w, hw, hk, ?_⟩
      unfold lateE
      rw [if_pos (.inl hk)]
    rcases hm hx with h | h <;> rcases hm hy with h' | h'
    · exact noDup_inj c x h y h' kx ky he
    · obtain ⟨w, hw, _, rfl⟩ := big y h' ky
      have := h1 x h; have := (hfe w hw).2
      have : x.image = w.image + 100 := he
      omega
    · obtain ⟨w, hw, _, rfl⟩ := big x h kx
      have := h1 y h'; have := (hfe w hw).2
      have : w.image + 100 = y.image := he
      omega
    · obtain ⟨w, hw, kw, rfl⟩ := big x h kx
      obtain ⟨z, hz, kz, rfl⟩ := big y h' ky
      have : w.image + 100 = z.image + 100 := he
      rw [noDup_inj c' w hw z hz kw kz (by omega)]
  · rcases hm he with h | h
    · exact .inl h
    · obtain ⟨j, x, hx, rfl⟩ := hmem e h
      have := (hfe x hx).1
      exact .inr (by show t ≤ t + x.at_; omega)
end Go.SX

namespace Go.SX
open Go.Proofs
set_option maxHeartbeats 4000000
set_option maxRecDepth 100000
theorem lfinishA (xs : List A5) (ys more : List A4) (g : Goal) (l fu : List Event) (now T : Int) (hz : (l.length : Int) = 0) (hT : 0 ≤ T ∧ T < 3000) (hat : 0 ≤ (l.getD ((l.length : Int) - 1).toNat (Cd.dflt U.event)).at_ ∧ (l.getD ((l.length : Int) - 1).toNat (Cd.dflt U.event)).at_ ≤ 9400) (hll : (l.length : Int) ≤ 16) (hfl : (fu.length : Int) ≤ 16) (hfa : ∀ e ∈ fu, (0 ≤ e.at_ ∧ e.at_ ≤ 9400) ∧ 0 ≤ e.image ∧ e.image ≤ 999) (F : Option (List Event))
    (h0 : Meets Tryz.prog Dc 9 [] [] (bS true) [])
    (h1 : Meets Tryz.prog Dc 10 [.agg [a5S xs, a4S ys]] [] (.tuple [goalA g, eS l]) [])
    (h2 : Meets Tryz.prog Dc 12 [iS now, iS 3000] [] (iS T) [])
    (h3 : Meets Tryz.prog Dc 27 [goalA g, eS l, iS (1 + T)] [] (.tuple [eS (F.getD []), bS F.isSome, iS 0]) [])
    (h4 : Meets Tryz.prog Dc 25 [goalA g, eS l, iS (1 + T)] [] (.tuple [bS F.isNone, iS 0]) [])
    (h5 : Meets Tryz.prog Dc 32 [goalA g, a4S more] [] (eS fu) [])
    (h6 : ∀ out, F = some out → (∀ e ∈ out, (1 + T) ≤ e.at_) ∧ (out.length : Int) ≤ 1000 ∧ Meets Tryz.prog Dc 14 [goalA g, eS (sortedS l out)] [] (.tuple [bS true, iS 0]) [])
    (h7 : F = none → Meets Tryz.prog Dc 14 [goalA g, eS (sortedS l (lateN (1 + T) fu fu.length))] [] (.tuple [bS false, iS 0]) []) :
    Meets Tryz.prog Dc 6 [.agg [a5S xs, a4S ys], a4S more, iS now] [] (bS true) [] := by
  cases F with
  | some out =>
    obtain ⟨q1, q2, q3⟩ := h6 out rfl
    rw [show (some out).getD [] = out from rfl, show (some out).isSome = true from rfl] at h3
    rw [show (some out).isNone = false from rfl] at h4
    have hso := rsorted l out (by omega) (by omega)
    clear h6 h7
    refine meets_of_gx Ax tab_ok Tryz.func6 (c := _) rfl Tryz.call6 400 ?_
    (repeat' ((conv => whnf); first | (exfalso; omega) | refine cpC (h0) ?_ | refine dpC (h0) ?_ | refine cpC (h1) ?_ | refine dpC (h1) ?_ | refine cpC (h2) ?_ | refine dpC (h2) ?_ | refine cpC (h3) ?_ | refine dpC (h3) ?_ | refine cpC (h4) ?_ | refine dpC (h4) ?_ | refine x0C ?_ | refine spC (fun hb => ?_) fun hb => ?_ | refine nilC (fun hb => ?_) ?_ | refine taC ?_ | refine saC ?_ | exact sdV | refine side_and ?_ ?_ | refine drawX_of mixed ?_))
    refine loop_upT [some 0, some 1] (fun i : Nat => [(15, iS i)]) (fun _ => []) (fun i => i ≤ out.length) (fun i => out.length - i) 0 (Nat.zero_le _) (by exact bkI) ?_
    intro i hi K hK
    rcases Nat.lt_or_ge i out.length with hlt | hge
    · have hgi := getD_some (d := Cd.dflt U.event) hlt
      have hti := q1 _ (List.mem_of_getElem? hgi)
      (repeat' ((conv => whnf); first | (exfalso; omega) | refine hK (i + 1) [some 0, some 1] _ _ ⟨by omega⟩ ⟨by omega⟩ (by exact bkI) | refine x0C ?_ | refine spC (fun hb => ?_) fun hb => ?_ | refine nilC (fun hb => ?_) ?_ | refine taC ?_ | refine saC ?_ | exact sdV | refine side_and ?_ ?_ | refine drawX_of mixed ?_))
    · (repeat' ((conv => whnf); first | refine x0C (eB ?_ rfl) | (exfalso; omega) | refine cpC (hso) ?_ | refine dpC (hso) ?_ | refine cpC (q3) ?_ | refine dpC (q3) ?_ | refine x0C ?_ | refine spC (fun hb => ?_) fun hb => ?_ | refine nilC (fun hb => ?_) ?_ | refine taC ?_ | refine saC ?_ | exact sdV | refine side_and ?_ ?_ | refine drawX_of mixed ?_))
      all_goals rfl
  | none =>
    have q := h7 rfl
    rw [show (none : Option (List Event)).getD [] = [] from rfl, show (none : Option (List Event)).isSome = false from rfl] at h3
    rw [show (none : Option (List Event)).isNone = true from rfl] at h4
    clear h6 h7
    refine meets_of_gx Ax tab_ok Tryz.func6 (c := _) rfl Tryz.call6 400 ?_
    (repeat' ((conv => whnf); first | (exfalso; omega) | refine cpC (h0) ?_ | refine dpC (h0) ?_ | refine cpC (h1) ?_ | refine dpC (h1) ?_ | refine cpC (h2) ?_ | refine dpC (h2) ?_ | refine cpC (h3) ?_ | refine dpC (h3) ?_ | refine cpC (h4) ?_ | refine dpC (h4) ?_ | refine cpC (h5) ?_ | refine dpC (h5) ?_ | refine x0C ?_ | refine spC (fun hb => ?_) fun hb => ?_ | refine nilC (fun hb => ?_) ?_ | refine taC ?_ | refine saC ?_ | exact sdV | refine side_and ?_ ?_ | refine drawX_of mixed ?_))
    refine loop_upT [some 0, some 1] (fun i : Nat => [(19, eS (lateN (1 + T) fu i)), (20, iS i)]) (fun _ => []) (fun i => i ≤ fu.length) (fun i => fu.length - i) 0 (Nat.zero_le _) (by exact bkI) ?_
    intro i hi K hK
    have hLl := late_len (1 + T) fu i
    rcases Nat.lt_or_ge i fu.length with hlt | hge
    · have hgi := getD_some (d := Cd.dflt U.event) hlt
      have hfi := hfa _ (List.mem_of_getElem? hgi)
      obtain ⟨x1, hx1⟩ : ∃ x1, x1 = (⟨(fu.getD (i : Int).toNat (Cd.dflt U.event)).kind, (1 + T) + (fu.getD (i : Int).toNat (Cd.dflt U.event)).at_, (fu.getD (i : Int).toNat (Cd.dflt U.event)).image + 100, (fu.getD (i : Int).toNat (Cd.dflt U.event)).rows, (fu.getD (i : Int).toNat (Cd.dflt U.event)).sun, (fu.getD (i : Int).toNat (Cd.dflt U.event)).look, (fu.getD (i : Int).toNat (Cd.dflt U.event)).clear⟩ : Event) := ⟨_, rfl⟩
      obtain ⟨x2, hx2⟩ : ∃ x2, x2 = (⟨(fu.getD (i : Int).toNat (Cd.dflt U.event)).kind, (1 + T) + (fu.getD (i : Int).toNat (Cd.dflt U.event)).at_, (fu.getD (i : Int).toNat (Cd.dflt U.event)).image, (fu.getD (i : Int).toNat (Cd.dflt U.event)).rows, (fu.getD (i : Int).toNat (Cd.dflt U.event)).sun, (fu.getD (i : Int).toNat (Cd.dflt U.event)).look, (fu.getD (i : Int).toNat (Cd.dflt U.event)).clear⟩ : Event) := ⟨_, rfl⟩
      have hs1 := rsorted (lateN (1 + T) fu i) [x1] (by omega) (by simp)
      have hs2 := rsorted (lateN (1 + T) fu i) [x2] (by omega) (by simp)
      have hL1 : (fu.getD (i : Int).toNat (Cd.dflt U.event)).kind = 1 ∨ (i : Int).tmod 2 = 0 → sortedS (lateN (1 + T) fu i) [x1] = lateN (1 + T) fu (i + 1) := fun h => by
        have h : (fu.getD i (U.dflt .event)).kind = 1 ∨ i % 2 = 0 := h.imp id fun h => by rw [Int.tmod_eq_emod_of_nonneg (by omega)] at h; omega
        rw [lateN, lateE, if_pos h, hx1]; rfl
      have hL2 : ¬ (fu.getD (i : Int).toNat (Cd.dflt U.event)).kind = 1 → ¬ (i : Int).tmod 2 = 0 → sortedS (lateN (1 + T) fu i) [x2] = lateN (1 + T) fu (i + 1) := fun h1 h2 => by
        have h : ¬ ((fu.getD i (U.dflt .event)).kind = 1 ∨ i % 2 = 0) := fun h => h.elim h1 fun h => h2 (by rw [Int.tmod_eq_emod_of_nonneg (by omega)]; omega)
        rw [lateN, lateE, if_neg h, hx2]; rfl
      have hm1 : Meets Tryz.prog Dc 31 [eS (lateN (1 + T) fu i), .slice 0 0 7 0 1] [.rows U.event [x1]] (eS (sortedS (lateN (1 + T) fu i) [x1])) [.dead] := mgiveC hs1 (by exact snV)
      have hm2 : Meets Tryz.prog Dc 31 [eS (lateN (1 + T) fu i), .slice 0 0 7 0 1] [.rows U.event [x2]] (eS (sortedS (lateN (1 + T) fu i) [x2])) [.dead] := mgiveC hs2 (by exact snV)
      rw [hx1] at hm1 hL1
      rw [hx2] at hm2 hL2
      clear hx1 hx2 hs1 hs2
      (repeat' ((conv => whnf); first | (exfalso; omega) | (refine callh [some 3] hm1 rfl rfl ⟨rfl, trivial⟩ ?_) | (refine callh [some 3] hm2 rfl rfl ⟨rfl, trivial⟩ ?_) | refine hK (i + 1) [some 0, some 1] _ _ ⟨by omega⟩ ⟨by omega⟩ (by (rw [← hL1 (by first | exact .inl (by assumption) | exact .inr (by assumption))]; exact bkI)) | refine hK (i + 1) [some 0, some 1] _ _ ⟨by omega⟩ ⟨by omega⟩ (by (rw [← hL2 (by assumption) (by assumption)]; exact bkI)) | refine x0C ?_ | refine spC (fun hb => ?_) fun hb => ?_ | refine nilC (fun hb => ?_) ?_ | refine taC ?_ | refine saC ?_ | exact sdV | refine side_and ?_ ?_ | refine drawX_of mixed ?_))
      done
    · have hso := rsorted l (lateN (1 + T) fu fu.length) (by omega) (by have := late_len (1 + T) fu fu.length; omega)
      obtain rfl : i = fu.length := by omega
      (repeat' ((conv => whnf); first | refine x0C (eB ?_ rfl) | (exfalso; omega) | refine cpC (hso) ?_ | refine dpC (hso) ?_ | refine cpC (q) ?_ | refine dpC (q) ?_ | refine x0C ?_ | refine spC (fun hb => ?_) fun hb => ?_ | refine nilC (fun hb => ?_) ?_ | refine taC ?_ | refine saC ?_ | exact sdV | refine side_and ?_ ?_ | refine drawX_of mixed ?_))
      all_goals rfl
theorem lfinishB (xs : List A5) (ys more : List A4) (g : Goal) (l fu : List Event) (now T : Int) (hz : ¬ (l.length : Int) = 0) (hT : 0 ≤ T ∧ T < 3000) (hat : 0 ≤ (l.getD ((l.length : Int) - 1).toNat (Cd.dflt U.event)).at_ ∧ (l.getD ((l.length : Int) - 1).toNat (Cd.dflt U.event)).at_ ≤ 9400) (hll : (l.length : Int) ≤ 16) (hfl : (fu.length : Int) ≤ 16) (hfa : ∀ e ∈ fu, (0 ≤ e.at_ ∧ e.at_ ≤ 9400) ∧ 0 ≤ e.image ∧ e.image ≤ 999) (F : Option (List Event))
    (h0 : Meets Tryz.prog Dc 9 [] [] (bS true) [])
    (h1 : Meets Tryz.prog Dc 10 [.agg [a5S xs, a4S ys]] [] (.tuple [goalA g, eS l]) [])
    (h2 : Meets Tryz.prog Dc 12 [iS now, iS 3000] [] (iS T) [])
    (h3 : Meets Tryz.prog Dc 27 [goalA g, eS l, iS ((l.getD ((l.length : Int) - 1).toNat (Cd.dflt U.event)).at_ + 1 + T)] [] (.tuple [eS (F.getD []), bS F.isSome, iS 0]) [])
    (h4 : Meets Tryz.prog Dc 25 [goalA g, eS l, iS ((l.getD ((l.length : Int) - 1).toNat (Cd.dflt U.event)).at_ + 1 + T)] [] (.tuple [bS F.isNone, iS 0]) [])
    (h5 : Meets Tryz.prog Dc 32 [goalA g, a4S more] [] (eS fu) [])
    (h6 : ∀ out, F = some out → (∀ e ∈ out, ((l.getD ((l.length : Int) - 1).toNat (Cd.dflt U.event)).at_ + 1 + T) ≤ e.at_) ∧ (out.length : Int) ≤ 1000 ∧ Meets Tryz.prog Dc 14 [goalA g, eS (sortedS l out)] [] (.tuple [bS true, iS 0]) [])
    (h7 : F = none → Meets Tryz.prog Dc 14 [goalA g, eS (sortedS l (lateN ((l.getD ((l.length : Int) - 1).toNat (Cd.dflt U.event)).at_ + 1 + T) fu fu.length))] [] (.tuple [bS false, iS 0]) []) :
    Meets Tryz.prog Dc 6 [.agg [a5S xs, a4S ys], a4S more, iS now] [] (bS true) [] := by
  cases F with
  | some out =>
    obtain ⟨q1, q2, q3⟩ := h6 out rfl
    rw [show (some out).getD [] = out from rfl, show (some out).isSome = true from rfl] at h3
    rw [show (some out).isNone = false from rfl] at h4
    have hso := rsorted l out (by omega) (by omega)
    clear h6 h7
    refine meets_of_gx Ax tab_ok Tryz.func6 (c := _) rfl Tryz.call6 400 ?_
    (repeat' ((conv => whnf); first | (exfalso; omega) | refine cpC (h0) ?_ | refine dpC (h0) ?_ | refine cpC (h1) ?_ | refine dpC (h1) ?_ | refine cpC (h2) ?_ | refine dpC (h2) ?_ | refine cpC (h3) ?_ | refine dpC (h3) ?_ | refine cpC (h4) ?_ | refine dpC (h4) ?_ | refine x0C ?_ | refine spC (fun hb => ?_) fun hb => ?_ | refine nilC (fun hb => ?_) ?_ | refine taC ?_ | refine saC ?_ | exact sdV | refine side_and ?_ ?_ | refine drawX_of mixed ?_))
    refine loop_upT [some 0, some 1] (fun i : Nat => [(15, iS i)]) (fun _ => []) (fun i => i ≤ out.length) (fun i => out.length - i) 0 (Nat.zero_le _) (by exact bkI) ?_
    intro i hi K hK
    rcases Nat.lt_or_ge i out.length with hlt | hge
    · have hgi := getD_some (d := Cd.dflt U.event) hlt
      have hti := q1 _ (List.mem_of_getElem? hgi)
      (repeat' ((conv => whnf); first | (exfalso; omega) | refine hK (i + 1) [some 0, some 1] _ _ ⟨by omega⟩ ⟨by omega⟩ (by exact bkI) | refine x0C ?_ | refine spC (fun hb => ?_) fun hb => ?_ | refine nilC (fun hb => ?_) ?_ | refine taC ?_ | refine saC ?_ | exact sdV | refine side_and ?_ ?_ | refine drawX_of mixed ?_))
    · (repeat' ((conv => whnf); first | refine x0C (eB ?_ rfl) | (exfalso; omega) | refine cpC (hso) ?_ | refine dpC (hso) ?_ | refine cpC (q3) ?_ | refine dpC (q3) ?_ | refine x0C ?_ | refine spC (fun hb => ?_) fun hb => ?_ | refine nilC (fun hb => ?_) ?_ | refine taC ?_ | refine saC ?_ | exact sdV | refine side_and ?_ ?_ | refine drawX_of mixed ?_))
      all_goals rfl
  | none =>
    have q := h7 rfl
    rw [show (none : Option (List Event)).getD [] = [] from rfl, show (none : Option (List Event)).isSome = false from rfl] at h3
    rw [show (none : Option (List Event)).isNone = true from rfl] at h4
    clear h6 h7
    refine meets_of_gx Ax tab_ok Tryz.func6 (c := _) rfl Tryz.call6 400 ?_
    (repeat' ((conv => whnf); first | (exfalso; omega) | refine cpC (h0) ?_ | refine dpC (h0) ?_ | refine cpC (h1) ?_ | refine dpC (h1) ?_ | refine cpC (h2) ?_ | refine dpC (h2) ?_ | refine cpC (h3) ?_ | refine dpC (h3) ?_ | refine cpC (h4) ?_ | refine dpC (h4) ?_ | refine cpC (h5) ?_ | refine dpC (h5) ?_ | refine x0C ?_ | refine spC (fun hb => ?_) fun hb => ?_ | refine nilC (fun hb => ?_) ?_ | refine taC ?_ | refine saC ?_ | exact sdV | refine side_and ?_ ?_ | refine drawX_of mixed ?_))
    refine loop_upT [some 0, some 1] (fun i : Nat => [(19, eS (lateN ((l.getD ((l.length : Int) - 1).toNat (Cd.dflt U.event)).at_ + 1 + T) fu i)), (20, iS i)]) (fun _ => []) (fun i => i ≤ fu.length) (fun i => fu.length - i) 0 (Nat.zero_le _) (by exact bkI) ?_
    intro i hi K hK
    have hLl := late_len ((l.getD ((l.length : Int) - 1).toNat (Cd.dflt U.event)).at_ + 1 + T) fu i
    rcases Nat.lt_or_ge i fu.length with hlt | hge
    · have hgi := getD_some (d := Cd.dflt U.event) hlt
      have hfi := hfa _ (List.mem_of_getElem? hgi)
      obtain ⟨x1, hx1⟩ : ∃ x1, x1 = (⟨(fu.getD (i : Int).toNat (Cd.dflt U.event)).kind, ((l.getD ((l.length : Int) - 1).toNat (Cd.dflt U.event)).at_ + 1 + T) + (fu.getD (i : Int).toNat (Cd.dflt U.event)).at_, (fu.getD (i : Int).toNat (Cd.dflt U.event)).image + 100, (fu.getD (i : Int).toNat (Cd.dflt U.event)).rows, (fu.getD (i : Int).toNat (Cd.dflt U.event)).sun, (fu.getD (i : Int).toNat (Cd.dflt U.event)).look, (fu.getD (i : Int).toNat (Cd.dflt U.event)).clear⟩ : Event) := ⟨_, rfl⟩
      obtain ⟨x2, hx2⟩ : ∃ x2, x2 = (⟨(fu.getD (i : Int).toNat (Cd.dflt U.event)).kind, ((l.getD ((l.length : Int) - 1).toNat (Cd.dflt U.event)).at_ + 1 + T) + (fu.getD (i : Int).toNat (Cd.dflt U.event)).at_, (fu.getD (i : Int).toNat (Cd.dflt U.event)).image, (fu.getD (i : Int).toNat (Cd.dflt U.event)).rows, (fu.getD (i : Int).toNat (Cd.dflt U.event)).sun, (fu.getD (i : Int).toNat (Cd.dflt U.event)).look, (fu.getD (i : Int).toNat (Cd.dflt U.event)).clear⟩ : Event) := ⟨_, rfl⟩
      have hs1 := rsorted (lateN ((l.getD ((l.length : Int) - 1).toNat (Cd.dflt U.event)).at_ + 1 + T) fu i) [x1] (by omega) (by simp)
      have hs2 := rsorted (lateN ((l.getD ((l.length : Int) - 1).toNat (Cd.dflt U.event)).at_ + 1 + T) fu i) [x2] (by omega) (by simp)
      have hL1 : (fu.getD (i : Int).toNat (Cd.dflt U.event)).kind = 1 ∨ (i : Int).tmod 2 = 0 → sortedS (lateN ((l.getD ((l.length : Int) - 1).toNat (Cd.dflt U.event)).at_ + 1 + T) fu i) [x1] = lateN ((l.getD ((l.length : Int) - 1).toNat (Cd.dflt U.event)).at_ + 1 + T) fu (i + 1) := fun h => by
        have h : (fu.getD i (U.dflt .event)).kind = 1 ∨ i % 2 = 0 := h.imp id fun h => by rw [Int.tmod_eq_emod_of_nonneg (by omega)] at h; omega
        rw [lateN, lateE, if_pos h, hx1]; rfl
      have hL2 : ¬ (fu.getD (i : Int).toNat (Cd.dflt U.event)).kind = 1 → ¬ (i : Int).tmod 2 = 0 → sortedS (lateN ((l.getD ((l.length : Int) - 1).toNat (Cd.dflt U.event)).at_ + 1 + T) fu i) [x2] = lateN ((l.getD ((l.length : Int) - 1).toNat (Cd.dflt U.event)).at_ + 1 + T) fu (i + 1) := fun h1 h2 => by
        have h : ¬ ((fu.getD i (U.dflt .event)).kind = 1 ∨ i % 2 = 0) := fun h => h.elim h1 fun h => h2 (by rw [Int.tmod_eq_emod_of_nonneg (by omega)]; omega)
        rw [lateN, lateE, if_neg h, hx2]; rfl
      have hm1 : Meets Tryz.prog Dc 31 [eS (lateN ((l.getD ((l.length : Int) - 1).toNat (Cd.dflt U.event)).at_ + 1 + T) fu i), .slice 0 0 7 0 1] [.rows U.event [x1]] (eS (sortedS (lateN ((l.getD ((l.length : Int) - 1).toNat (Cd.dflt U.event)).at_ + 1 + T) fu i) [x1])) [.dead] := mgiveC hs1 (by exact snV)
      have hm2 : Meets Tryz.prog Dc 31 [eS (lateN ((l.getD ((l.length : Int) - 1).toNat (Cd.dflt U.event)).at_ + 1 + T) fu i), .slice 0 0 7 0 1] [.rows U.event [x2]] (eS (sortedS (lateN ((l.getD ((l.length : Int) - 1).toNat (Cd.dflt U.event)).at_ + 1 + T) fu i) [x2])) [.dead] := mgiveC hs2 (by exact snV)
      rw [hx1] at hm1 hL1
      rw [hx2] at hm2 hL2
      clear hx1 hx2 hs1 hs2
      (repeat' ((conv => whnf); first | (exfalso; omega) | (refine callh [some 3] hm1 rfl rfl ⟨rfl, trivial⟩ ?_) | (refine callh [some 3] hm2 rfl rfl ⟨rfl, trivial⟩ ?_) | refine hK (i + 1) [some 0, some 1] _ _ ⟨by omega⟩ ⟨by omega⟩ (by (rw [← hL1 (by first | exact .inl (by assumption) | exact .inr (by assumption))]; exact bkI)) | refine hK (i + 1) [some 0, some 1] _ _ ⟨by omega⟩ ⟨by omega⟩ (by (rw [← hL2 (by assumption) (by assumption)]; exact bkI)) | refine x0C ?_ | refine spC (fun hb => ?_) fun hb => ?_ | refine nilC (fun hb => ?_) ?_ | refine taC ?_ | refine saC ?_ | exact sdV | refine side_and ?_ ?_ | refine drawX_of mixed ?_))
      done
    · have hso := rsorted l (lateN ((l.getD ((l.length : Int) - 1).toNat (Cd.dflt U.event)).at_ + 1 + T) fu fu.length) (by omega) (by have := late_len ((l.getD ((l.length : Int) - 1).toNat (Cd.dflt U.event)).at_ + 1 + T) fu fu.length; omega)
      obtain rfl : i = fu.length := by omega
      (repeat' ((conv => whnf); first | refine x0C (eB ?_ rfl) | (exfalso; omega) | refine cpC (hso) ?_ | refine dpC (hso) ?_ | refine cpC (q) ?_ | refine dpC (q) ?_ | refine x0C ?_ | refine spC (fun hb => ?_) fun hb => ?_ | refine nilC (fun hb => ?_) ?_ | refine taC ?_ | refine saC ?_ | exact sdV | refine side_and ?_ ?_ | refine drawX_of mixed ?_))
      all_goals rfl
theorem lfinish (xs : List A5) (ys more : List A4) (hx : ∀ y ∈ xs, A5OK y) (hxl : (xs.length : Int) ≤ 9223372036854775807) (hy : ∀ y ∈ ys, A4OK y) (hyl : (ys.length : Int) ≤ 9223372036854775807) (hm : ∀ y ∈ more, A4OK y) (hml : (more.length : Int) ≤ 9223372036854775807) (now : Int) (hnw : I64 now) : Meets Tryz.prog Dc 6 [.agg [a5S xs, a4S ys], a4S more, iS now] [] (bS true) [] := by
  have h0 := lsane
  have h1 := lmade xs ys hx hxl hy hyl
  have hgv := goal_valid xs
  have hG := valid_gall hgv
  have hsm := events_small xs ys
  have hsf := events_small xs more
  obtain ⟨hev, hel⟩ := events_valid (goalS xs) ys
  obtain ⟨hfv, hfl⟩ := events_valid (goalS xs) more
  have h5 := revents (goalS xs) hG more hm hml
  generalize eventsS (goalS xs) ys = l at *
  generalize eventsS (goalS xs) more = fu at *
  generalize goalS xs = g at *
  have hE := valid_elen hev
  have h2 := pickL now 3000 hnw (by omega)
  have b2 := pickS_bd (c := now) (n := 3000) (by omega)
  generalize pickS now 3000 = T at *
  obtain ⟨hlen, hform, hstr, hdup⟩ := valid_parts hev
  obtain ⟨_, hform2, _, _⟩ := valid_parts hfv
  have hat : ∀ e ∈ l, 0 ≤ e.at_ ∧ e.at_ ≤ 9400 ∧ e.image ≤ 899 := fun e he => by
    have h5 := hsm e he
    have h6 := hform e he
    unfold formB at h6
    simp only [Bool.and_eq_true, inB_iff] at h6
    omega
  have hfa : ∀ e ∈ fu, (0 ≤ e.at_ ∧ e.at_ ≤ 9400) ∧ 0 ≤ e.image ∧ e.image ≤ 999 := fun e he => by
    have h5 := hsf e he
    have h6 := hform2 e he
    unfold formB at h6
    simp only [Bool.and_eq_true, inB_iff] at h6
    omega
  obtain ⟨n, hn, hn12⟩ := valid_twelve hgv
  -- what is shown for each minute after the events
  have key : ∀ t : Int, (∀ e ∈ l, e.at_ < t) → 0 ≤ t → t ≤ 100000 → ∃ F : Option (List Event),
      Meets Tryz.prog Dc 27 [goalA g, eS l, iS t] [] (.tuple [eS (F.getD []), bS F.isSome, iS 0]) [] ∧
      Meets Tryz.prog Dc 25 [goalA g, eS l, iS t] [] (.tuple [bS F.isNone, iS 0]) [] ∧
      (∀ out, F = some out → (∀ e ∈ out, t ≤ e.at_) ∧ (out.length : Int) ≤ 1000 ∧ Meets Tryz.prog Dc 14 [goalA g, eS (sortedS l out)] [] (.tuple [bS true, iS 0]) []) ∧
      (F = none → Meets Tryz.prog Dc 14 [goalA g, eS (sortedS l (lateN t fu fu.length))] [] (.tuple [bS false, iS 0]) []) := fun t ht t0 t1 => by
    have hok : okF g l t = true := okF_mk (fun e he => ⟨ht e he, (hat e he).2.2⟩) (by omega) hgv hev
    have f1 := tfin g hG l (by omega) hE t
    have f2 := tdoom g hG l (by omega) hE t
    rw [hok, if_pos rfl] at f1
    rw [hok, if_pos rfl, Bool.true_and] at f2
    have hc := (okF_ask hok).ctx
    have hnx := next_le (B := 16) (by omega) fun e he => (hsm e he).2
    have hn0 := (next_bd hev).1
    refine ⟨finA g l t, f1, f2, fun out ho => ?_, fun ho => ?_⟩
    · have hfo := fin_ok g 1 n l t (nextI l) out hn hc hn0 (by omega) ho
      have hfl := fin_len hfo
      have hv := valid_fin hev hc hfo.good (by omega) (by omega) (by omega)
      have hki := mem_key hc hfo.good
      have hme := hfo.met (mergeS (l ++ out)) (merge_str _) (fun e he => (merge_mem hki).2 (List.mem_append.2 (.inl he))) (fun e he => (merge_mem hki).2 (List.mem_append.2 (.inr he)))
      refine ⟨fun e he => (hfo.good.late e he).1, by omega, ?_⟩
      rw [← merge_sorted hstr]
      have h6 := tmet g hG (mergeS (l ++ out)) (by have := (valid_parts hv).1; omega) (valid_elen hv)
      rw [ask_valid hgv hv] at h6
      obtain ⟨w, hw⟩ := Option.isSome_iff_exists.1 hme
      rw [hw] at h6
      exact h6
    · obtain ⟨hv, hfut⟩ := late_valid hev hfv (fun e he => (hsm e he).2) hsf ⟨t0, t1⟩ hel hfl
      have hd := fin_dead g 1 n l (mergeS (l ++ lateN t fu fu.length)) t (nextI l) hn hc (by omega) ⟨merge_str _, hfut⟩ ho
      rw [← merge_sorted hstr]
      have h6 := tmet g hG (mergeS (l ++ lateN t fu fu.length)) (by have := (valid_parts hv).1; omega) (valid_elen hv)
      rw [ask_valid hgv hv, hd] at h6
      exact h6
  by_cases hz : (l.length : Int) = 0
  · have hnil : l = [] := List.length_eq_zero_iff.1 (by omega)
    obtain ⟨F, f1, f2, f3, f4⟩ := key (1 + T) (fun e he => by rw [hnil] at he; cases he) (by omega) (by omega)
    refine lfinishA xs ys more g l fu now T hz b2 ?_ (by omega) (by omega) hfa F h0 h1 h2 f1 f2 h5 f3 f4
    rw [hnil]
    exact (by decide : (0 : Int) ≤ 0 ∧ (0 : Int) ≤ 9400)
  · have hp : 0 < l.length := by omega
    have hgi := getD_some (d := Cd.dflt U.event) (i := ((l.length : Int) - 1).toNat) (show ((l.length : Int) - 1).toNat < l.length by omega)
    rw [Int.toNat_natCast] at hgi
    have hla := hat _ (List.mem_of_getElem? hgi)
    obtain ⟨F, f1, f2, f3, f4⟩ := key ((l.getD ((l.length : Int) - 1).toNat (Cd.dflt U.event)).at_ + 1 + T) (fun e he => by
      have h5 := str_take hstr (k := l.length - 1) (by omega) e (by rw [show l.length - 1 + 1 = l.length by omega, List.take_length]; exact he)
      rw [show ((l.length : Int) - 1).toNat = l.length - 1 by omega]
      have h5 : e.at_ ≤ (l.getD (l.length - 1) (Cd.dflt U.event)).at_ := h5
      omega) (by omega) (by omega)
    exact lfinishB xs ys more g l fu now T hz b2 ⟨hla.1, hla.2.1⟩ (by omega) (by omega) hfa F h0 h1 h2 f1 f2 h5 f3 f4
end Go.SX
