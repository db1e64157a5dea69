/-
  Walks: Tb3, Tb5, Tb4, Tb6, Tb7, Tp4, Tb8, Tb9, V9: what single functions of the program compute.
-/
import Derived.Test.YtdaghncicimipaaGreatDoorSxTp2
import Derived.Shelf.Sort.Plain
import Derived.Shelf.Slices.CompactI
import Derived.Test.YtdaghncicimipaaGreatDoorSxV3
set_option linter.unusedVariables false
set_option linter.unusedSimpArgs false
namespace Go.SX
open Go.Proofs
set_option maxHeartbeats 4000000
set_option maxRecDepth 100000
/-- the map of the images shown -/
def shownL : List Int → Nat → List MapEntry
 | [], _ => []
 | k :: l, s => ⟨.int .i64 k, .bool true, s⟩ :: shownL l (s + 1)
theorem shownL_snoc (k : Int) : ∀ (l : List Int) (s : Nat), shownL (l ++ [k]) s = shownL l s ++ [⟨.int .i64 k, .bool true, s + l.length⟩]
 | [], s => rfl
 | x :: l, s => by simp only [List.cons_append, shownL, shownL_snoc k l (s + 1), List.length_cons]; rw [show s + 1 + l.length = s + (l.length + 1) by omega]
theorem shown_find (n : Int) : ∀ (l : List Int) (s i : Nat), (n ∈ l → ∃ j, Instr.findNow (.int .i64) (.int .i64 n) (shownL l s) i = some (some (j, .bool true))) ∧ (n ∉ l → Instr.findNow (.int .i64) (.int .i64 n) (shownL l s) i = some none)
 | [], s, i => ⟨fun h => by simp at h, fun _ => rfl⟩
 | x :: l, s, i => by
  have ih := shown_find n l (s + 1) (i + 1)
  simp only [shownL, Instr.findNow, Instr.sameNow, if_true]
  by_cases hx : n = x
  ·subst hx
   simp
  ·have : (n == x) = false := by simpa using hx
   rw [this]
   exact ⟨fun h => ih.1 (by simpa [hx] using h), fun h => ih.2 (by simp [hx] at h; exact h)⟩
def shownM (l : List Int) : Obj := .map (shownL l 0).toArray l.length
theorem tvalid_meets (l : List Event) (hl : (l.length : Int) ≤ 9223372036854775807) (hE : ∀ e ∈ l, ELen e) : Meets Tryz.prog Dc 21 [eS l] [] (bS (validE l)) [] := by
 refine meets_of_gx Ax tab_ok Tryz.func21 (c := _) rfl Tryz.call21 400 ?_
 (repeat' ((conv => whnf); first | fail))
 refine loop_up (fun i : Nat => [(9, iS i)]) (fun i => [(0, .obj (shownM (shotIs (l.take i))))]) (fun i => i ≤ l.length ∧ ∀ j, j < i → okAt l j = true) (fun i => l.length - i) 0 ⟨Nat.zero_le _, by omega⟩ (by exact bkV) ?_
 rintro i ⟨hi, hall⟩ K hK
 rcases Nat.lt_or_ge i l.length with hlt | hge
 ·have hg := getD_some (d := Cd.dflt U.event) hlt
  have hbad : okAt l i = false → validE l = false := fun h => by unfold validE; rw [ord_bad hlt h, Bool.and_false]
  have hstep : okAt l i = true → ∀ j, j < i + 1 → okAt l j = true := fun h j hj => by
   rcases Nat.lt_or_ge j i with h1 | h1
   ·exact hall j h1
   ·rw [show j = i by omega]; exact h
  have hok : okAt l i = (formB (l.getD (i : Int).toNat (Cd.dflt U.event)) && (decide (i = 0) || befB (l.getD ((i : Int) - 1).toNat (Cd.dflt U.event)) (l.getD (i : Int).toNat (Cd.dflt U.event))) && !(decide ((l.getD (i : Int).toNat (Cd.dflt U.event)).kind = 1) && dupB (l.take i) (l.getD (i : Int).toNat (Cd.dflt U.event)))) := by
   unfold okAt evt
   rw [show ((i : Int) - 1).toNat = i - 1 by omega]; rfl
  have hd := dup_mem (l.take i) (l.getD (i : Int).toNat (Cd.dflt U.event))
  have hf := tformed _ (hE _ (List.mem_of_getElem? hg))
  have hc := compare_meets (l.getD ((i : Int) - 1).toNat (Cd.dflt U.event)) (l.getD (i : Int).toNat (Cd.dflt U.event))
  have hcb : 0 ≤ cmpE (l.getD ((i : Int) - 1).toNat (Cd.dflt U.event)) (l.getD (i : Int).toNat (Cd.dflt U.event)) ↔ befB (l.getD ((i : Int) - 1).toNat (Cd.dflt U.event)) (l.getD (i : Int).toNat (Cd.dflt U.event)) = false := by
   have := cmpE_lt (l.getD ((i : Int) - 1).toNat (Cd.dflt U.event)) (l.getD (i : Int).toNat (Cd.dflt U.event))
   rw [Bool.eq_iff_iff] at this
   simpa using this
  have b1 : formB (l.getD (i : Int).toNat (Cd.dflt U.event)) = false → okAt l i = false := fun h => by rw [hok, h]; rfl
  have b2 : 0 < (i : Int) → 0 ≤ cmpE (l.getD ((i : Int) - 1).toNat (Cd.dflt U.event)) (l.getD (i : Int).toNat (Cd.dflt U.event)) → okAt l i = false := fun h1 h2 => by
   rw [hok, decide_eq_false (show ¬ i = 0 by omega), hcb.1 h2, Bool.or_false, Bool.and_false, Bool.false_and]
  have b3 : (l.getD (i : Int).toNat (Cd.dflt U.event)).kind = 1 → dupB (l.take i) (l.getD (i : Int).toNat (Cd.dflt U.event)) = true → okAt l i = false := fun h1 h2 => by
   rw [hok, decide_eq_true h1, h2]; exact Bool.and_false _
  have b4 : formB (l.getD (i : Int).toNat (Cd.dflt U.event)) = true → (¬ 0 < (i : Int) ∨ ¬ 0 ≤ cmpE (l.getD ((i : Int) - 1).toNat (Cd.dflt U.event)) (l.getD (i : Int).toNat (Cd.dflt U.event))) → (¬ (l.getD (i : Int).toNat (Cd.dflt U.event)).kind = 1 ∨ dupB (l.take i) (l.getD (i : Int).toNat (Cd.dflt U.event)) = false) → okAt l i = true := fun h1 h2 h3 => by
   rw [hok, h1, Bool.true_and]
   have e1 : (decide (i = 0) || befB (l.getD ((i : Int) - 1).toNat (Cd.dflt U.event)) (l.getD (i : Int).toNat (Cd.dflt U.event))) = true := by
    rcases h2 with h2 | h2
    ·rw [decide_eq_true (show i = 0 by omega)]; rfl
    ·rw [hcb, Bool.not_eq_false] at h2; rw [h2, Bool.or_true]
   rw [e1, Bool.true_and]
   rcases h3 with h3 | h3
   ·rw [decide_eq_false h3]; rfl
   ·rw [h3, Bool.and_false]; rfl
  have hst := shotIs_t hg
  have hsf := shotIs_f hg
  by_cases hm : (l.getD (i : Int).toNat (Cd.dflt U.event)).image ∈ shotIs (l.take i)
  ·obtain ⟨j, hj⟩ := (shown_find _ (shotIs (l.take i)) 0 0).1 hm
   have hdt := hd.2 hm
   (repeat' ((conv => whnf); first | refine x0C (eB ?_ rfl) | (exfalso; omega) | refine dpC (hf) ?_ | refine dpC (hc) ?_ | refine ask_in hj ?_ | (refine hK (i + 1) [some 0] _ _ ⟨⟨by omega, hstep ?_⟩⟩ ⟨by omega⟩ (by (rw [hsf (by omega)]; exact bkV))) | refine spC (fun hb => ?_) fun hb => ?_ | refine taC ?_ | refine saC ?_ | refine drawX_of mixed ?_))
   all_goals first | exact (hbad (b1 (by assumption))).symm | exact (hbad (b2 (by assumption) (by assumption))).symm | exact (hbad (b3 (by assumption) (by assumption))).symm | exact b4 (by assumption) (by first | exact .inl (by assumption) | exact .inr (by assumption)) (by first | exact .inl (by assumption) | exact .inr (by assumption))
  ·have hj := (shown_find _ (shotIs (l.take i)) 0 0).2 hm
   have hdf : dupB (l.take i) (l.getD (i : Int).toNat (Cd.dflt U.event)) = false := by
    cases h : dupB (l.take i) (l.getD (i : Int).toNat (Cd.dflt U.event)) with
    | false => rfl
    | true => exact absurd (hd.1 h) hm
   have hput : ((shownL (shotIs (l.take i)) 0).toArray.push ⟨.int .i64 (l.getD (i : Int).toNat (Cd.dflt U.event)).image, .bool true, (shotIs (l.take i)).length⟩) = (shownL (shotIs (l.take i) ++ [(l.getD (i : Int).toNat (Cd.dflt U.event)).image]) 0).toArray := by
    rw [shownL_snoc, List.push_toArray, Nat.zero_add]
   (repeat' ((conv => whnf); first | refine x0C (eB ?_ rfl) | (exfalso; omega) | refine dpC (hf) ?_ | refine dpC (hc) ?_ | refine ask_in hj ?_ | refine side_and ⟨hj⟩ ?_ | (refine hK (i + 1) [some 0] _ _ ⟨⟨by omega, hstep ?_⟩⟩ ⟨by omega⟩ (by (rw [hsf (by omega)]; exact bkV))) | (refine hK (i + 1) [some 0] _ _ ⟨⟨by omega, hstep ?_⟩⟩ ⟨by omega⟩ (by (rw [hst (by omega)]; unfold shownM; rw [← hput, List.length_append]; exact bkV))) | refine spC (fun hb => ?_) fun hb => ?_ | refine taC ?_ | refine saC ?_ | refine drawX_of mixed ?_))
   all_goals first | exact (hbad (b1 (by assumption))).symm | exact (hbad (b2 (by assumption) (by assumption))).symm | exact (hbad (b3 (by assumption) (by assumption))).symm | exact b4 (by assumption) (by first | exact .inl (by assumption) | exact .inr (by assumption)) (by first | exact .inl (by assumption) | exact .inr (by assumption))
 ·have ho := ord_take i hi hall (by omega)
  unfold validE
  rw [ho, Bool.and_true]
  (repeat' ((conv => whnf); first | refine x0C (eB ?_ rfl) | (exfalso; omega) | refine spC (fun hb => ?_) fun hb => ?_))
  all_goals rfl
theorem cloneEv (l : List Event) (hl : (l.length : Int) ≤ 1000000) : Meets Tryz.prog Dc 133 [eS l] [] (.slice 0 0 7 0 l.length) [.rows U.event l] := by
 refine meets_of_gx Ax tab_ok Tryz.func133 (c := _) rfl Tryz.call133 60 ?_
 (repeat' ((conv => whnf); first | (subst hb; (refine end_fn [none] (.inr rfl) ?_ ?_ rfl rfl; (focus exact vwV); exact hsV)) | (refine end_fn [some 1] (.inr rfl) ?_ ?_ rfl rfl; (focus exact vwV); exact hsV) | refine nilC (fun hb => ?_) ?_ | refine saC ?_))
theorem cloneInt (l : List Int) (hl : (l.length : Int) ≤ 1000000) : Meets Tryz.prog Dc 99 [lS l] [] (.slice 0 0 1 0 l.length) [.rows U.int l] := by
 refine meets_of_gx Ax tab_ok Tryz.func99 (c := _) rfl Tryz.call99 60 ?_
 (repeat' ((conv => whnf); first | (subst hb; (refine end_fn [none] (.inr rfl) ?_ ?_ rfl rfl; (focus exact vwV); exact hsV)) | (refine end_fn [some 1] (.inr rfl) ?_ ?_ rfl rfl; (focus exact vwV); exact hsV) | refine nilC (fun hb => ?_) ?_ | refine saC ?_))
def keep (p : Event → Bool) (l : List Event) : List Event := l.filter fun e => !p e
theorem keep_len (p : Event → Bool) (l : List Event) : (keep p l).length ≤ l.length := List.length_filter_le _ _
theorem keep_take {p : Event → Bool} {l : List Event} {j : Nat} {e : Event} (h : l[j]? = some e) : keep p (l.take (j + 1)) = if p e then keep p (l.take j) else keep p (l.take j) ++ [e] := by
 unfold keep
 rw [List.take_add_one, h]
 cases hp : p e <;> simp [List.filter_append, hp]
theorem keep_none {p : Event → Bool} {l : List Event} (h : l.any p = false) : keep p l = l := by
 unfold keep
 rw [List.filter_eq_self]
 rw [List.any_eq_false] at h
 intro e he
 simpa using h e he
/-- the rows while what is kept moves forward -/
def moveS (p : Event → Bool) (l : List Event) (j : Nat) : List Event := keep p (l.take j) ++ l.drop (keep p (l.take j)).length
theorem moveS_len (p : Event → Bool) (l : List Event) {j : Nat} (hj : j ≤ l.length) : (moveS p l j).length = l.length := by
 have := keep_len p (l.take j)
 unfold moveS
 simp only [List.length_append, List.length_drop, List.length_take] at *
 omega
theorem moveS_get (p : Event → Bool) (l : List Event) {j : Nat} (hj : j < l.length) : (moveS p l j).getD j (U.dflt .event) = l.getD j (U.dflt .event) := by
 have := keep_len p (l.take j)
 simp only [List.length_take] at this
 unfold moveS
 simp only [List.getD_eq_getElem?_getD]
 rw [List.getElem?_append_right (by omega), List.getElem?_drop]
 congr 2; omega
theorem moveS_keep {p : Event → Bool} {l : List Event} {j : Nat} (hj : j < l.length) (h : p (l.getD j (U.dflt .event)) = false) :
  (moveS p l j).set (keep p (l.take j)).length (l.getD j (U.dflt .event)) = moveS p l (j + 1) ∧ (keep p (l.take (j + 1))).length = (keep p (l.take j)).length + 1 := by
 have hg : l[j]? = some (l.getD j (U.dflt .event)) := by rw [List.getD_eq_getElem?_getD, List.getElem?_eq_getElem hj]; rfl
 have hk := keep_take (p := p) hg
 rw [h] at hk
 simp only [Bool.false_eq_true, if_false] at hk
 have hle := keep_len p (l.take j)
 simp only [List.length_take] at hle
 refine ⟨?_, by rw [hk]; simp⟩
 unfold moveS
 rw [hk]
 generalize l.getD j (U.dflt .event) = v at *
 have e : (l.drop (keep p (l.take j)).length).set 0 v = v :: l.drop ((keep p (l.take j)).length + 1) := by
  rw [List.drop_eq_getElem_cons (show (keep p (l.take j)).length < l.length by omega)]; rfl
 rw [List.set_append_right _ _ (Nat.le_refl _), Nat.sub_self, e]
 simp
theorem moveS_drop {p : Event → Bool} {l : List Event} {j : Nat} (hj : j < l.length) (h : p (l.getD j (U.dflt .event)) = true) : keep p (l.take (j + 1)) = keep p (l.take j) ∧ moveS p l (j + 1) = moveS p l j := by
 have hg : l[j]? = some (l.getD j (U.dflt .event)) := by rw [List.getD_eq_getElem?_getD, List.getElem?_eq_getElem hj]; rfl
 have hk := keep_take (p := p) hg
 rw [h] at hk
 simp only [if_true] at hk
 exact ⟨hk, by unfold moveS; rw [hk]⟩
theorem moveS_end (p : Event → Bool) (l : List Event) : keep p (l.take l.length) = keep p l := by rw [List.take_length]
theorem moveS_clear (p : Event → Bool) (l : List Event) : copyTo (moveS p l l.length) (List.replicate (l.length - (keep p l).length) (U.dflt .event)) (keep p l).length (l.length - (keep p l).length) = keep p l ++ List.replicate (l.length - (keep p l).length) (U.dflt .event) := by
 have hk := keep_len p l
 have hl := moveS_len p l (Nat.le_refl l.length)
 unfold copyTo
 rw [List.take_of_length_le (l := List.replicate _ _) (by simp)]
 have h1 : (moveS p l l.length).take (keep p l).length = keep p l := by
  unfold moveS
  rw [moveS_end, List.take_left']
  rfl
 rw [h1, List.drop_of_length_le (by simp; omega), List.append_nil]
theorem moveS_start {p : Event → Bool} {l : List Event} {i : Nat} (hi : i < l.length) (h1 : p (l.getD i (U.dflt .event)) = true) (h2 : (l.take i).any p = false) : moveS p l (i + 1) = l ∧ (keep p (l.take (i + 1))).length = i := by
 obtain ⟨h3, h4⟩ := moveS_drop hi h1
 have hk := keep_none h2
 refine ⟨by rw [h4]; unfold moveS; rw [hk, List.length_take, Nat.min_eq_left (by omega), List.take_append_drop], by rw [h3, hk, List.length_take]; omega⟩
theorem deleteFunc {f : FuncId} {caps : List (SV Cd)} (hc : Cap1 caps) {p : Event → Bool} (l : List Event) (hl : (l.length : Int) ≤ 1000000) (hf : ∀ x ∈ l, Meets Tryz.prog Dc f (evA x :: caps) [] (bS (p x)) []) :
  Meets Tryz.prog Dc 106 [.slice 0 0 7 0 l.length, .fn (.func f) [] caps] [.rows U.event l] (.slice 0 0 7 0 (keep p l).length) [.rows U.event (keep p l ++ List.replicate (l.length - (keep p l).length) (U.dflt .event))] := by
 have hi := idxEv hc l (by omega) hf
 have hkl := keep_len p l
 cases ha : l.any p with
 | false =>
  rw [idxF_miss ha] at hi
  rw [keep_none ha, Nat.sub_self, List.replicate_zero, List.append_nil]
  cases hc <;>
  ·refine meets_of_gx Ax tab_ok Tryz.func106 (c := _) rfl Tryz.call106 200 ?_
   (repeat' ((conv => whnf); first | refine rdC (hi) ?_ | (refine end_fn [some 0] (.inr rfl) ?_ ?_ rfl rfl; (focus exact vwV); exact hsV)))
 | true =>
  obtain ⟨i, hi1, hi2, hi3, hi4⟩ : ∃ i : Nat, i < l.length ∧ idxF p l = i ∧ p (l.getD i (U.dflt .event)) = true ∧ (l.take i).any p = false := by
   cases hx : l.findIdx? p with
   | none =>
    rw [List.findIdx?_eq_none_iff] at hx
    obtain ⟨x, h1, h2⟩ := List.any_eq_true.1 ha
    rw [hx x h1] at h2; cases h2
   | some i =>
    obtain ⟨h1, h2, h3⟩ := List.findIdx?_eq_some_iff_getElem.1 hx
    refine ⟨i, h1, by unfold idxF; rw [hx], by rw [List.getD_eq_getElem?_getD, List.getElem?_eq_getElem h1]; exact h2, ?_⟩
    rw [List.any_eq_false]
    intro x hm
    obtain ⟨j, hj, rfl⟩ := List.getElem_of_mem hm
    simp only [List.length_take] at hj
    rw [List.getElem_take]
    have := h3 j (by omega)
    simpa using this
  rw [hi2] at hi
  obtain ⟨hs1, hs2⟩ := moveS_start hi1 hi3 hi4
  cases hc <;>
  ·refine meets_of_gx Ax tab_ok Tryz.func106 (c := _) rfl Tryz.call106 400 ?_
   (repeat' ((conv => whnf); first | refine rdC (hi) ?_ | refine saC ?_))
   refine loop_up (fun j : Nat => [(5, iS (keep p (l.take j)).length), (6, iS j)]) (fun j => [(0, .rows U.event (moveS p l j))]) (fun j => j ≤ l.length) (fun j => l.length - j) (i + 1) hi1 (by (rw [hs1, hs2]; exact bkV)) ?_
   intro j hj K hK
   have hz := moveS_len p l hj
   have hkj := keep_len p (l.take j)
   rw [List.length_take] at hkj
   rcases Nat.lt_or_ge j l.length with hlt | hge
   ·have hmg := moveS_get p l hlt
    have hmem : (moveS p l j).getD (0 + (j : Int).toNat) (Cd.dflt U.event) ∈ l := by
     rw [Nat.zero_add, Int.toNat_natCast]
     refine (congrArg (· ∈ l) hmg).mpr ?_
     rw [List.getD_eq_getElem?_getD, List.getElem?_eq_getElem hlt]
     exact List.getElem_mem _
    have hx := hf _ hmem
    cases hp : p ((moveS p l j).getD (0 + (j : Int).toNat) (Cd.dflt U.event)) with
    | true =>
     rw [hp] at hx
     have hp' : p (l.getD j (U.dflt .event)) = true := by
      rw [Nat.zero_add, Int.toNat_natCast] at hp
      rw [← hmg]; exact hp
     obtain ⟨e1, e2⟩ := moveS_drop hlt hp'
     (repeat' ((conv => whnf); first | (exfalso; omega) | refine cpC (hx) ?_ | refine hK (j + 1) [some 0] _ _ ⟨by omega⟩ ⟨by omega⟩ (by (dsimp only; rw [e1, e2]; exact bkV)) | refine spC (fun hb => ?_) fun hb => ?_ | refine saC ?_))
    | false =>
     rw [hp] at hx
     have hp' : p (l.getD j (U.dflt .event)) = false := by
      rw [Nat.zero_add, Int.toNat_natCast] at hp
      rw [← hmg]; exact hp
     obtain ⟨e1, e2⟩ := moveS_keep hlt hp'
     have e3 : (moveS p l j).set (0 + (((keep p (l.take j)).length : Nat) : Int).toNat) ((moveS p l j).getD (0 + (j : Int).toNat) (Cd.dflt U.event)) = moveS p l (j + 1) := by
      rw [Nat.zero_add, Nat.zero_add, Int.toNat_natCast, Int.toNat_natCast]
      refine Eq.trans ?_ e1
      exact congrArg _ hmg
     (repeat' ((conv => whnf); first | (exfalso; omega) | refine cpC (hx) ?_ | refine hK (j + 1) [some 0] _ _ ⟨by omega⟩ ⟨by omega⟩ (by (dsimp only; rw [← e3, e2]; exact bkV)) | refine spC (fun hb => ?_) fun hb => ?_ | refine saC ?_))
   ·obtain rfl : j = l.length := by omega
    have e4 : copyTo (moveS p l l.length) (List.replicate (((l.length : Nat) : Int).toNat - (((keep p l).length : Nat) : Int).toNat) (Cd.dflt U.event)) (0 + (((keep p l).length : Nat) : Int).toNat) (((l.length : Nat) : Int).toNat - (((keep p l).length : Nat) : Int).toNat) = keep p l ++ List.replicate (l.length - (keep p l).length) (U.dflt .event) := by
     rw [Nat.zero_add, Int.toNat_natCast, Int.toNat_natCast]
     exact moveS_clear p l
    rw [moveS_end, ← e4]
    (repeat' ((conv => whnf); first | (exfalso; omega) | (refine end_fn [some 0] (.inr rfl) ?_ ?_ rfl rfl; (focus exact vwV); exact hsV) | refine spC (fun hb => ?_) fun hb => ?_ | refine saC ?_))
/-- what an EShot sees -/
theorem tseen1 (g : Goal) (hg : GLen g) (e : Event) (he : ELen e) : Meets Tryz.prog Dc 134 [evA e, .dptr (goalC g) 0] [] (bS (!seesB g e)) [] := by
 have h := tseen g hg e he
 refine meets_of_gx Ax tab_ok Tryz.func134 (c := _) rfl Tryz.call134 100 ?_
 (repeat' ((conv => whnf); first | refine x0C (eB ?_ rfl) | refine cpC (h) ?_))
 all_goals rfl
@[reducible] def worldA (l : List Event) (now : Int) : SV Cd := .agg [.p (.dsl U.event l), .p (.int .i64 now)]
theorem keep_seen (g : Goal) (l : List Event) : keep (fun e => !seesB g e) l = seenS g l := by simp [keep, seenS]
theorem tseen_meets (g : Goal) (hg : GLen g) (l : List Event) (now : Int) (hl : (l.length : Int) ≤ 1000000) (hE : ∀ e ∈ l, ELen e) : Meets Tryz.prog Dc 101 [worldA l now, goalA g] [] (eS (seenS g l)) [] := by
 have h1 := cloneEv l hl
 have h2 := deleteFunc (f := 134) (.c1 _) l hl fun e he => tseen1 g hg e (hE e he)
 rw [keep_seen] at h2
 refine meets_of_gx Ax tab_ok Tryz.func101 (c := _) rfl Tryz.call101 100 ?_
 (repeat' ((conv => whnf); first | (refine callh [] h1 rfl rfl trivial ?_)))
 refine frzC [some 0, none, some 2] [(3, .any), (8, .fn (.func 134) [] [.dptr (goalC g) 0])] [(1, .rows U.int [])] [.slice 2 0 7 0 l.length, .fn (.func 134) [] [.dptr (goalC g) 0]] (by exact bkV) (by exact snV) ?_
 (repeat' ((conv => whnf); first | (refine callh [some 2] h2 rfl rfl ⟨rfl, trivial⟩ ?_) | refine x0C ?_))
 all_goals exact vwV
theorem dup_at {l : List Event} {i k : Nat} {e d : Event} (hk : k < i) (h : l[k]? = some d) (h1 : d.kind = 1) (h2 : e.image = d.image) : dupB (l.take i) e = true := by
 unfold dupB
 rw [List.any_eq_true]
 refine ⟨d, ?_, by simp [h1, h2]⟩
 rw [List.mem_iff_getElem?]
 exact ⟨k, by rw [List.getElem?_take, if_pos hk]; exact h⟩
theorem dup_succ {l : List Event} {k : Nat} {e d : Event} (h : l[k]? = some d) (h0 : dupB (l.take k) e = false) (h1 : ¬ d.kind = 1 ∨ ¬ e.image = d.image) : dupB (l.take (k + 1)) e = false := by
 unfold dupB at *
 rw [List.take_add_one, h, List.any_append, h0, Bool.false_or]
 rcases h1 with h1 | h1
 ·simp [h1]
 ·simp [Ne.symm h1]
theorem rordered (l : List Event) (hl : (l.length : Int) ≤ 9223372036854775807) (hE : ∀ e ∈ l, ELen e) : Meets Tryz.prog Dc 42 [eS l] [] (bS (ordB l)) [] := by
 refine meets_of_gx Ax tab_ok Tryz.func42 (c := _) rfl Tryz.call42 400 ?_
 (repeat' ((conv => whnf); first | fail))
 refine loop_up (fun i : Nat => [(3, iS i)]) (fun i => []) (fun i => i ≤ l.length ∧ ∀ j, j < i → okAt l j = true) (fun i => l.length - i) 0 ⟨Nat.zero_le _, by omega⟩ (by exact bkV) ?_
 rintro i ⟨hi, hall⟩ K hK
 rcases Nat.lt_or_ge i l.length with hlt | hge
 ·have hg := getD_some (d := Cd.dflt U.event) hlt
  have hstep : okAt l i = true → ∀ j, j < i + 1 → okAt l j = true := fun h j hj => by
   rcases Nat.lt_or_ge j i with h1 | h1
   ·exact hall j h1
   ·rw [show j = i by omega]; exact h
  have hok : okAt l i = (formB (l.getD (i : Int).toNat (Cd.dflt U.event)) && (decide (i = 0) || befB (l.getD ((i : Int) - 1).toNat (Cd.dflt U.event)) (l.getD (i : Int).toNat (Cd.dflt U.event))) && !(decide ((l.getD (i : Int).toNat (Cd.dflt U.event)).kind = 1) && dupB (l.take i) (l.getD (i : Int).toNat (Cd.dflt U.event)))) := by
   unfold okAt evt
   rw [show ((i : Int) - 1).toNat = i - 1 by omega]; rfl
  have hf := rformed _ (hE _ (List.mem_of_getElem? hg))
  have hc := before_meets (l.getD ((i : Int) - 1).toNat (Cd.dflt U.event)) (l.getD (i : Int).toNat (Cd.dflt U.event))
  have hbad := ord_bad hlt
  have b1 : formB (l.getD (i : Int).toNat (Cd.dflt U.event)) = false → okAt l i = false := fun h => by rw [hok, h]; rfl
  have b2 : 0 < (i : Int) → befB (l.getD ((i : Int) - 1).toNat (Cd.dflt U.event)) (l.getD (i : Int).toNat (Cd.dflt U.event)) = false → okAt l i = false := fun h1 h2 => by
   rw [hok, decide_eq_false (show ¬ i = 0 by omega), h2, Bool.or_false, Bool.and_false, Bool.false_and]
  have b3 : (l.getD (i : Int).toNat (Cd.dflt U.event)).kind = 1 → dupB (l.take i) (l.getD (i : Int).toNat (Cd.dflt U.event)) = true → okAt l i = false := fun h1 h2 => by
   rw [hok, decide_eq_true h1, h2]; exact Bool.and_false _
  have b4 : formB (l.getD (i : Int).toNat (Cd.dflt U.event)) = true → (¬ 0 < (i : Int) ∨ befB (l.getD ((i : Int) - 1).toNat (Cd.dflt U.event)) (l.getD (i : Int).toNat (Cd.dflt U.event)) = true) → (¬ (l.getD (i : Int).toNat (Cd.dflt U.event)).kind = 1 ∨ dupB (l.take i) (l.getD (i : Int).toNat (Cd.dflt U.event)) = false) → okAt l i = true := fun h1 h2 h3 => by
   rw [hok, h1, Bool.true_and]
   have e1 : (decide (i = 0) || befB (l.getD ((i : Int) - 1).toNat (Cd.dflt U.event)) (l.getD (i : Int).toNat (Cd.dflt U.event))) = true := by
    rcases h2 with h2 | h2
    ·rw [decide_eq_true (show i = 0 by omega)]; rfl
    ·rw [h2, Bool.or_true]
   rw [e1, Bool.true_and]
   rcases h3 with h3 | h3
   ·rw [decide_eq_false h3]; rfl
   ·rw [h3, Bool.and_false]; rfl
  (repeat' ((conv => whnf); first | refine x0C (eB ?_ rfl) | (exfalso; omega) | refine dpC (hf) ?_ | refine dpC (hc) ?_ | refine spC (fun hb => ?_) fun hb => ?_ | refine taC ?_ | refine saC ?_ | refine drawX_of mixed ?_))
  all_goals first | exact (hbad (b1 (by assumption))).symm | exact (hbad (b2 (by assumption) (by assumption))).symm | skip
  all_goals (
   have hq : ¬ 0 < (i : Int) ∨ befB (l.getD ((i : Int) - 1).toNat (Cd.dflt U.event)) (l.getD (i : Int).toNat (Cd.dflt U.event)) = true := by first | exact .inl (by assumption) | exact .inr (by assumption)
   refine loop_up (fun k : Nat => [(4, iS k)]) (fun k => []) (fun k => k ≤ i ∧ (¬ (l.getD (i : Int).toNat (Cd.dflt U.event)).kind = 1 ∨ dupB (l.take k) (l.getD (i : Int).toNat (Cd.dflt U.event)) = false)) (fun k => i - k) 0 ⟨Nat.zero_le _, .inr (by simp [dupB])⟩ (by exact bkV) ?_
   rintro k ⟨hk, hd⟩ K' hK'
   rcases Nat.lt_or_ge k i with hkl | hkg
   ·have hgk := getD_some (d := Cd.dflt U.event) (show k < l.length by omega)
    have hda := fun h1 h2 => dup_at (e := l.getD (i : Int).toNat (Cd.dflt U.event)) hkl hgk h1 h2
    have hds := fun h0 h1 => dup_succ (e := l.getD (i : Int).toNat (Cd.dflt U.event)) hgk h0 h1
    by_cases hk1 : (l.getD (i : Int).toNat (Cd.dflt U.event)).kind = 1
    ·have hd' := hd.resolve_left (fun h => h hk1)
     (repeat' ((conv => whnf); first | refine x0C (eB ?_ rfl) | (exfalso; omega) | refine hK' (k + 1) [] _ _ ⟨⟨by omega, .inr (hds hd' (by first | exact .inl (by assumption) | exact .inr (by assumption)))⟩⟩ ⟨by omega⟩ (by exact bkV) | refine spC (fun hb => ?_) fun hb => ?_ | refine taC ?_ | refine saC ?_ | refine drawX_of mixed ?_))
     all_goals exact (hbad (b3 hk1 (hda (by assumption) (by assumption)))).symm
    ·(repeat' ((conv => whnf); first | (exfalso; omega) | refine hK' (k + 1) [] _ _ ⟨⟨by omega, .inl hk1⟩⟩ ⟨by omega⟩ (by exact bkV) | refine spC (fun hb => ?_) fun hb => ?_ | refine taC ?_ | refine saC ?_ | refine drawX_of mixed ?_))
   ·obtain rfl : k = i := by omega
    (repeat' ((conv => whnf); first | (exfalso; omega) | refine hK (k + 1) [] _ _ ⟨⟨by omega, hstep (b4 (by assumption) hq hd)⟩⟩ ⟨by omega⟩ (by exact bkV) | refine spC (fun hb => ?_) fun hb => ?_ | refine saC ?_)))
 ·rw [ord_take i hi hall (by omega)]
  (repeat' ((conv => whnf); first | refine x0C (eB ?_ rfl) | (exfalso; omega) | refine spC (fun hb => ?_) fun hb => ?_))
  all_goals rfl
theorem rvalidE (l : List Event) (hl : (l.length : Int) ≤ 9223372036854775807) (hE : ∀ e ∈ l, ELen e) : Meets Tryz.prog Dc 22 [eS l] [] (bS (validE l)) [] := by
 have h := rordered l hl hE
 unfold validE
 refine meets_of_gx Ax tab_ok Tryz.func22 (c := _) rfl Tryz.call22 60 ?_
 (repeat' ((conv => whnf); first | refine x0C (eB ?_ rfl) | refine cpC (h) ?_ | refine spC (fun hb => ?_) fun hb => ?_))
 all_goals clear h
 all_goals (first | (simp_all []; done) | (simp_all []; omega) | (simp_all []; grind))
/-- an event whose minute is far from the ends -/
def I64d (e : Event) : Prop := -4611686018427387904 ≤ e.at_ ∧ e.at_ ≤ 4611686018427387903
@[reducible] def evC (e : Event) : List (PV Cd) := [.int .i64 e.kind, .int .i64 e.at_, .int .i64 e.image, .dsl U.int e.rows, .int .i64 e.sun, .int .i64 e.look, .bool e.clear]
@[reducible] def worldC (l : List Event) (now : Int) : List (PV Cd) := [.dsl U.event l, .int .i64 now]
theorem tdel1 (d e : Event) (within : Int) (h1 : I64d d) (h2 : I64d e) : Meets Tryz.prog Dc 135 [evA d, .dptr (evC e) 0, .dptr [.int .i64 within] 0] [] (bS (decide (d.kind = 2) && decide (d.image = e.image) && inB (d.at_ - e.at_) 0 within)) [] := by
 have h := tin (d.at_ - e.at_) 0 within
 unfold I64d at h1 h2
 refine meets_of_gx Ax tab_ok Tryz.func135 (c := _) rfl Tryz.call135 100 ?_
 (repeat' ((conv => whnf); first | refine x0C (eB ?_ rfl) | refine cpC (h) ?_ | refine spC (fun hb => ?_) fun hb => ?_ | refine saC ?_))
 all_goals clear h
 all_goals (first | (simp_all []; done) | (simp_all []; omega) | (simp_all []; grind))
theorem tdel_meets (l : List Event) (now : Int) (e : Event) (within : Int) (hl : (l.length : Int) ≤ 1000000) (hE : ∀ e ∈ l, I64d e) (he : I64d e) : Meets Tryz.prog Dc 104 [worldA l now, evA e, iS within] [] (bS (delB l e within)) [] := by
 have h := hasEv (f := 135) (.c3 (evC e) [.int .i64 within]) l (by omega) fun d hd => tdel1 d e within (hE d hd) he
 change Meets _ _ _ _ _ (bS (delB l e within)) _ at h
 refine meets_of_gx Ax tab_ok Tryz.func104 (c := _) rfl Tryz.call104 100 ?_
 (repeat' ((conv => whnf); first | refine x0C (eB ?_ rfl) | refine rdC (h) ?_))
 all_goals rfl
theorem trest1 (l : List Event) (now : Int) (e : Event) (within : Int) (hl : (l.length : Int) ≤ 1000000) (hE : ∀ e ∈ l, I64d e) (he : I64d e) : Meets Tryz.prog Dc 136 [evA e, .dptr (worldC l now) 0, .dptr [.int .i64 within] 0] [] (bS (decide (e.kind = 1) && !delB l e within)) [] := by
 have h := tdel_meets l now e within hl hE he
 refine meets_of_gx Ax tab_ok Tryz.func136 (c := _) rfl Tryz.call136 100 ?_
 (repeat' ((conv => whnf); first | refine x0C (eB ?_ rfl) | refine cpC (h) ?_ | refine spC (fun hb => ?_) fun hb => ?_))
 all_goals clear h
 all_goals (first | (simp_all []; done) | (simp_all []; omega) | (simp_all []; grind))
theorem trest_meets (l : List Event) (now within : Int) (hl : (l.length : Int) ≤ 1000000) (hE : ∀ e ∈ l, I64d e) : Meets Tryz.prog Dc 105 [worldA l now, iS within] [] (worldA (restE l within) now) [] := by
 have h1 := cloneEv l hl
 have h2 := deleteFunc (f := 136) (.c3 (worldC l now) [.int .i64 within]) l hl fun e he => trest1 l now e within hl hE (hE e he)
 rw [show keep (fun e => decide (e.kind = 1) && !delB l e within) l = restE l within from rfl] at h2
 refine meets_of_gx Ax tab_ok Tryz.func105 (c := _) rfl Tryz.call105 100 ?_
 (repeat' ((conv => whnf); first | (refine frz_draw [none, none, some 2] [(2, .dptr (worldC l now) 0), (3, .dptr [.int .i64 within] 0)] [(0, .rows U.int []), (1, .rows U.int [])] (by exact bkV) ?_; (conv => whnf); refine drawX_of mixed ?_) | (refine dcallh [] h1 rfl rfl trivial ?_) | (refine dcallh [some 3] h2 rfl rfl ⟨rfl, trivial⟩ ?_) | refine x0C ?_ | refine taC ?_))
 all_goals exact vwV
end Go.SX

namespace Go.SX
open Go.Proofs Go.Shelf
set_option maxRecDepth 100000
set_option maxHeartbeats 4000000
def repAt (l : List (Nat × Nat)) (x : Nat) : Nat := match l with
 | [] => x
 | (a, b) :: l => if a = x then b else repAt l x
def sort_laysR : Ren := ⟨repAt [(189, 153), (125, 159), (257, 158), (128, 172), (129, 173), (294, 163), (295, 164), (296, 165), (297, 166), (298, 167), (299, 168), (216, 169), (300, 170), (301, 171), (328, 174), (329, 175), (330, 176), (331, 177), (332, 178), (215, 90), (343, 179)], repAt [(28, 26), (3, 3), (46, 168), (0, 0), (51, 171), (53, 173), (4, 4), (183, 176), (182, 175), (131, 104), (5, 5), (9, 9), (218, 184), (222, 188), (228, 190), (229, 191)], fun x => x⟩
theorem sort_lays : Lays.n189 Tryz.prog sort_laysR where
 mixed := by kernel_rfl
 f125 := by kernel_rfl
 f128 := by kernel_rfl
 f129 := by kernel_rfl
 f189 := by kernel_rfl
 f215 := by kernel_rfl
 f216 := by kernel_rfl
 f257 := by kernel_rfl
 f294 := by kernel_rfl
 f295 := by kernel_rfl
 f296 := by kernel_rfl
 f297 := by kernel_rfl
 f298 := by kernel_rfl
 f299 := by kernel_rfl
 f300 := by kernel_rfl
 f301 := by kernel_rfl
 f328 := by kernel_rfl
 f329 := by kernel_rfl
 f330 := by kernel_rfl
 f331 := by kernel_rfl
 f332 := by kernel_rfl
 f343 := by kernel_rfl
 t0 := by kernel_rfl
 a0 := fun w => by kernel_rfl
 z0 := fun w => by kernel_rfl
 v0 := fun w => by kernel_rfl
 t3 := by kernel_rfl
 a3 := fun w => by kernel_rfl
 z3 := fun w => by kernel_rfl
 v3 := fun w => by kernel_rfl
 t4 := by kernel_rfl
 a4 := fun w => by kernel_rfl
 z4 := fun w => by kernel_rfl
 v4 := fun w => by kernel_rfl
 t5 := by kernel_rfl
 a5 := fun w => by kernel_rfl
 z5 := fun w => by kernel_rfl
 v5 := fun w => by kernel_rfl
 t9 := by kernel_rfl
 a9 := fun w => by kernel_rfl
 z9 := fun w => by kernel_rfl
 v9 := fun w => by kernel_rfl
 t28 := by kernel_rfl
 a28 := fun w => by kernel_rfl
 z28 := fun w => by kernel_rfl
 v28 := fun w => by kernel_rfl
 t46 := by kernel_rfl
 a46 := fun w => by kernel_rfl
 z46 := fun w => by kernel_rfl
 v46 := fun w => by kernel_rfl
 t51 := by kernel_rfl
 a51 := fun w => by kernel_rfl
 z51 := fun w => by kernel_rfl
 v51 := fun w => by kernel_rfl
 t53 := by kernel_rfl
 a53 := fun w => by kernel_rfl
 z53 := fun w => by kernel_rfl
 v53 := fun w => by kernel_rfl
 t131 := by kernel_rfl
 a131 := fun w => by kernel_rfl
 z131 := fun w => by kernel_rfl
 v131 := fun w => by kernel_rfl
 t182 := by kernel_rfl
 a182 := fun w => by kernel_rfl
 z182 := fun w => by kernel_rfl
 v182 := fun w => by kernel_rfl
 t183 := by kernel_rfl
 a183 := fun w => by kernel_rfl
 z183 := fun w => by kernel_rfl
 v183 := fun w => by kernel_rfl
 t218 := by kernel_rfl
 a218 := fun w => by kernel_rfl
 z218 := fun w => by kernel_rfl
 v218 := fun w => by kernel_rfl
 t222 := by kernel_rfl
 a222 := fun w => by kernel_rfl
 z222 := fun w => by kernel_rfl
 v222 := fun w => by kernel_rfl
 t228 := by kernel_rfl
 a228 := fun w => by kernel_rfl
 z228 := fun w => by kernel_rfl
 v228 := fun w => by kernel_rfl
 t229 := by kernel_rfl
 a229 := fun w => by kernel_rfl
 z229 := fun w => by kernel_rfl
 v229 := fun w => by kernel_rfl
def compact_laysR : Ren := ⟨repAt [(20, 154)], repAt [(22, 26), (3, 3), (4, 4), (0, 0)], fun x => x⟩
theorem compact_lays : Lays2.n20 Tryz.prog compact_laysR where
 mixed := by kernel_rfl
 f20 := by kernel_rfl
 t0 := by kernel_rfl
 a0 := fun w => by kernel_rfl
 z0 := fun w => by kernel_rfl
 v0 := fun w => by kernel_rfl
 t3 := by kernel_rfl
 a3 := fun w => by kernel_rfl
 z3 := fun w => by kernel_rfl
 v3 := fun w => by kernel_rfl
 t4 := by kernel_rfl
 a4 := fun w => by kernel_rfl
 z4 := fun w => by kernel_rfl
 v4 := fun w => by kernel_rfl
 t22 := by kernel_rfl
 a22 := fun w => by kernel_rfl
 z22 := fun w => by kernel_rfl
 v22 := fun w => by kernel_rfl
 i3 := by kernel_rfl
end Go.SX

/-
 Plain law: what goals mean.
-/
namespace Go.SX
abbrev Sen := Option (Int × List Int)
def seeM (g : Goal) (l : List Event) : Sen := match seenS g l with
 | [] => none
 | a :: _ => some (0, [a.image])
def kid0 (ks : List Goal) : Goal := ks.getD 0 (U.dflt .goal)
def pairM (g : Goal) (l : List Event) : Sen := match pairS g (seenS (kid0 g.kids) l) with
 | none => none
 | some (a, b) => some (0, setS [a.image, b.image])
def everyM (g : Goal) (l : List Event) : Sen := match takeS g (seenS (kid0 g.kids) l) g.times none with
 | none => none
 | some r => some (0, setS r)
def stepAny (r : Sen) (c : Int) (acc : Sen) : Sen := match r with
 | none => acc
 | some (p, im) => match acc with
  | none => some (p + c, im)
  | some (q, im') => if p + c < q then some (p + c, im) else some (q, im')
mutual
def meanG : Goal → List Event → Sen
 | ⟨kind, rows, from_, to_, low, high, clear, days, times, within, cents, kids⟩, l =>
  if kind = 1 then seeM ⟨kind, rows, from_, to_, low, high, clear, days, times, within, cents, kids⟩ l
  else if kind = 2 then pairM ⟨kind, rows, from_, to_, low, high, clear, days, times, within, cents, kids⟩ l
  else if kind = 3 then everyM ⟨kind, rows, from_, to_, low, high, clear, days, times, within, cents, kids⟩ l
  else if kind = 4 then meanH kids (restE l within)
  else if kind = 5 then meanAll kids l 0 []
  else meanAny kids cents l none
def meanH : List Goal → List Event → Sen
 | [], _ => none
 | k :: _, l => meanG k l
def meanAll : List Goal → List Event → Int → List Int → Sen
 | [], _, p, im => some (p, im)
 | k :: ks, l, p, im => match meanG k l with
  | none => none
  | some (q, jm) => meanAll ks l (p + q) (setS (im ++ jm))
def meanAny : List Goal → List Int → List Event → Sen → Sen
 | [], _, _, acc => acc
 | k :: ks, cs, l, acc => meanAny ks cs.tail l (stepAny (meanG k l) (cs.getD 0 0) acc)
end
theorem meanG_eq (g : Goal) (l : List Event) : meanG g l = if g.kind = 1 then seeM g l else if g.kind = 2 then pairM g l else if g.kind = 3 then everyM g l else if g.kind = 4 then meanH g.kids (restE l g.within) else if g.kind = 5 then meanAll g.kids l 0 [] else meanAny g.kids g.cents l none := by
 cases g; rw [meanG]
theorem meanH_eq (ks : List Goal) (l : List Event) (h : (ks.length : Int) = 1) : meanH ks l = meanG (kid0 ks) l := by
 match ks with
 | [] => simp at h
 | k :: _ => rw [meanH]; rfl
theorem meanAll_snoc (ks : List Goal) (k : Goal) (l : List Event) : ∀ (p : Int) (im : List Int), meanAll (ks ++ [k]) l p im = match meanAll ks l p im with
  | none => none
  | some (q, jm) => match meanG k l with
   | none => none
   | some (r, km) => some (q + r, setS (jm ++ km)) := by
 induction ks with
 | nil =>
  intro p im
  simp only [List.nil_append, meanAll]
 | cons a ks ih =>
  intro p im
  simp only [List.cons_append, meanAll]
  cases meanG a l with
  | none => rfl
  | some x => exact ih _ _
theorem meanAll_bad {ks : List Goal} {l : List Event} : ∀ {p : Int} {im : List Int}, (∃ k ∈ ks, meanG k l = none) → meanAll ks l p im = none := by
 induction ks with
 | nil => rintro p im ⟨k, hk, _⟩; cases hk
 | cons a ks ih =>
  rintro p im ⟨k, hk, hn⟩
  rw [meanAll]
  rcases List.mem_cons.1 hk with rfl | hk
  ·rw [hn]
  ·cases meanG a l with
   | none => rfl
   | some x => exact ih ⟨k, hk, hn⟩
theorem meanAny_snoc (ks : List Goal) (k : Goal) (l : List Event) : ∀ (cs : List Int) (acc : Sen), meanAny (ks ++ [k]) cs l acc = stepAny (meanG k l) (cs.getD ks.length 0) (meanAny ks cs l acc) := by
 induction ks with
 | nil => intro cs acc; simp only [List.nil_append, meanAny, List.length_nil]
 | cons a ks ih =>
  intro cs acc
  simp only [List.cons_append, meanAny, List.length_cons]
  rw [ih]
  congr 1
  cases cs <;> simp
/-! numbers, ascending, each once -/
def Asc : List Int → Prop
 | [] => True
 | a :: l => (∀ b ∈ l, a < b) ∧ Asc l
theorem mem_putS {n x : Int} : ∀ {l : List Int}, x ∈ putS l n ↔ x ∈ l ∨ x = n
 | [] => by simp [putS]
 | a :: l => by
  rw [putS]
  split
  ·simp only [List.mem_cons, mem_putS (l := l)]; grind
  ·split
   ·simp only [List.mem_cons]; grind
   ·simp only [List.mem_cons]; grind
theorem asc_putS {n : Int} : ∀ {l : List Int}, Asc l → Asc (putS l n)
 | [], _ => by simp [putS, Asc]
 | a :: l, h => by
  rw [putS]
  obtain ⟨h1, h2⟩ := h
  split
  ·refine ⟨fun b hb => ?_, asc_putS h2⟩
   rcases mem_putS.1 hb with hb | rfl
   ·exact h1 b hb
   ·assumption
  ·split
   ·exact ⟨h1, h2⟩
   ·refine ⟨fun b hb => ?_, h1, h2⟩
    rcases List.mem_cons.1 hb with rfl | hb
    ·omega
    ·have := h1 b hb; omega
theorem len_putS {n : Int} : ∀ {l : List Int}, (putS l n).length ≤ l.length + 1
 | [] => by simp [putS]
 | a :: l => by
  rw [putS]
  have := len_putS (n := n) (l := l)
  split
  ·simp; omega
  ·split <;> simp
def addS (l m : List Int) : List Int := m.foldl putS l
theorem mem_addS {x : Int} : ∀ {m l : List Int}, x ∈ addS l m ↔ x ∈ l ∨ x ∈ m
 | [], l => by simp [addS]
 | a :: m, l => by
  have := mem_addS (x := x) (m := m) (l := putS l a)
  simp only [addS, List.foldl_cons] at *
  rw [this, mem_putS]; simp; grind
theorem asc_addS : ∀ {m l : List Int}, Asc l → Asc (addS l m)
 | [], l, h => h
 | a :: m, l, h => asc_addS (m := m) (asc_putS h)
theorem len_addS : ∀ {m l : List Int}, (addS l m).length ≤ l.length + m.length
 | [], l => by simp [addS]
 | a :: m, l => by
  have := len_addS (m := m) (l := putS l a)
  have := len_putS (n := a) (l := l)
  simp only [addS, List.foldl_cons, List.length_cons] at *
  omega
theorem mem_setS {x : Int} {m : List Int} : x ∈ setS m ↔ x ∈ m := by
 have := mem_addS (x := x) (m := m) (l := [])
 simpa [addS, setS] using this
theorem asc_setS {m : List Int} : Asc (setS m) := asc_addS (l := []) trivial
theorem len_setS {m : List Int} : (setS m).length ≤ m.length := by
 have := len_addS (m := m) (l := [])
 simpa [addS, setS] using this
/-- what is ascending is known by its members -/
theorem asc_ext : ∀ {l m : List Int}, Asc l → Asc m → (∀ x, x ∈ l ↔ x ∈ m) → l = m
 | [], [], _, _, _ => rfl
 | [], b :: m, _, _, h => by have := (h b).2 (by simp); simp at this
 | a :: l, [], _, _, h => by have := (h a).1 (by simp); simp at this
 | a :: l, b :: m, h1, h2, h => by
  have ha := (h a).1 (by simp)
  have hb := (h b).2 (by simp)
  have e : a = b := by
   rcases List.mem_cons.1 ha with ha | ha
   ·exact ha
   ·rcases List.mem_cons.1 hb with hb | hb
    ·exact hb.symm
    ·have := h1.1 b hb; have := h2.1 a ha; omega
  subst e
  congr 1
  refine asc_ext h1.2 h2.2 fun x => ?_
  constructor
  ·intro hx
   have := (h x).1 (by simp [hx])
   rcases List.mem_cons.1 this with rfl | h3
   ·have := h1.1 x hx; omega
   ·exact h3
  ·intro hx
   have := (h x).2 (by simp [hx])
   rcases List.mem_cons.1 this with rfl | h3
   ·have := h2.1 x hx; omega
   ·exact h3
theorem addS_asc {l m : List Int} (h : Asc l) : addS l m = setS (l ++ m) := asc_ext (asc_addS h) asc_setS fun x => by rw [mem_addS, mem_setS, List.mem_append]
/-! bounds -/
def nextB (g : Goal) (last : Option Event) (a : Event) : Bool := match last with | none => doBeginB g a | some b => doFollowB g b a
theorem takeS_nil (g : Goal) (need : Int) (last : Option Event) : takeS g [] need last = if need = 0 then some [] else none := by
 rw [takeS.eq_def]
theorem takeS_cons (g : Goal) (a : Event) (l : List Event) (need : Int) (last : Option Event) : takeS g (a :: l) need last = if need = 0 then some [] else if decide (need ≤ (longS g (a :: l)).headD 0) && nextB g last a then (match takeS g l (need - 1) (some a) with | some r => some (a.image :: r) | none => none) else takeS g l need last := by
 rw [takeS.eq_def]; rfl
theorem takeS_len (g : Goal) : ∀ (l : List Event) (need : Int) (last : Option Event) (r : List Int), 0 ≤ need → takeS g l need last = some r → (r.length : Int) = need := by
 intro l
 induction l with
 | nil =>
  intro need last r hn h
  rw [takeS_nil] at h
  split at h
  ·injection h with h; subst h; simp; omega
  ·cases h
 | cons a l ih =>
  intro need last r hn h
  rw [takeS_cons] at h
  split at h
  ·injection h with h; subst h; simp; omega
  ·split at h
   ·split at h
    ·rename_i r' hr
     injection h with h; subst h
     have := ih (need - 1) _ _ (by omega) hr
     simp; omega
    ·cases h
   ·exact ih need last r hn h
theorem okB_parts {g : Goal} (h : okB g = true) : (1 ≤ g.kind ∧ g.kind ≤ 6) ∧ limB g = true ∧ manyB g = true ∧ centsB g = true := by
 unfold okB partsB at h
 simp only [Bool.and_eq_true, inB_iff] at h
 exact ⟨h.1.1.1, h.1.2, h.2.1.1.1, h.2.1.1.2⟩
theorem ok_times {g : Goal} (h : okB g = true) (hk : g.kind = 3) : 1 ≤ g.times ∧ g.times ≤ 6 := by
 have := (okB_parts h).2.1
 unfold limB at this
 rw [hk] at this
 simp [inB_iff] at this
 omega
theorem ok_days {g : Goal} (h : okB g = true) (hk : g.kind = 3) : 1 ≤ g.days ∧ g.days ≤ 60 ∧ 0 ≤ g.within ∧ g.within ≤ 1440 * g.days ∧ 0 ≤ g.from_ ∧ g.from_ ≤ 1000000 := by
 have := (okB_parts h).2.1
 unfold limB at this
 rw [hk] at this
 simp [inB_iff] at this
 omega
theorem ok_cents {g : Goal} (h : okB g = true) : ∀ c ∈ g.cents, 0 ≤ c ∧ c ≤ 1000000000 := by
 have := (okB_parts h).2.2.2
 unfold centsB at this
 split at this
 ·simp [inB_iff] at this
  exact this.2
 ·intro c hc
  have : g.cents.length = 0 := by simpa using this
  rw [List.length_eq_zero_iff.1 this] at hc; cases hc
theorem ok_one {g : Goal} (h : okB g = true) (h1 : g.kind ≠ 1) (h5 : g.kind ≠ 5) (h6 : g.kind ≠ 6) : (g.kids.length : Int) = 1 := by
 have := (okB_parts h).2.2.1
 unfold manyB at this
 simpa [h1, h5, h6] using this
theorem size_pos {g : Goal} {d n : Int} (h : sizeG g d = some n) : 1 ≤ n := by
 have := size_cnt g d
 rw [h] at this
 exact this.1
theorem sizeL_pos : ∀ {l : List Goal} {d n : Int}, sizeL l d = some n → 0 ≤ n
 | [], d, n, h => by rw [sizeL] at h; injection h with h; omega
 | k :: l, d, n, h => by
  rw [sizeL] at h
  split at h
  ·cases h
  ·rename_i m hm
   split at h
   ·cases h
   ·rename_i q hq
    injection h with h
    have := size_pos hm
    have := sizeL_pos hq
    omega
theorem size_ok {g : Goal} {d n : Int} (h : sizeG g d = some n) : okB g = true ∧ d ≤ 4 ∧ ∃ m, sizeL g.kids (d + 1) = some m ∧ n = 1 + m := by
 rw [sizeG_eq] at h
 split at h
 ·cases h
 ·rename_i hc
  simp only [Bool.or_eq_true, decide_eq_true_eq, Bool.not_eq_true', not_or, Bool.not_eq_false] at hc
  split at h
  ·cases h
  ·rename_i m hm
   injection h with h
   exact ⟨hc.2, by omega, m, hm, h.symm⟩
theorem stepAny_some {r : Sen} {c : Int} {acc : Sen} {q : Int} {jm : List Int} (h : stepAny r c acc = some (q, jm)) : acc = some (q, jm) ∨ ∃ p, r = some (p, jm) ∧ q = p + c := by
 unfold stepAny at h
 split at h
 ·exact .inl h
 ·rename_i p im
  split at h
  ·injection h with h; injection h with h1 h2; subst h2; exact .inr ⟨p, rfl, h1.symm⟩
  ·split at h
   ·injection h with h; injection h with h1 h2; subst h2; exact .inr ⟨p, rfl, h1.symm⟩
   ·exact .inl h
mutual
theorem mean_bound : ∀ (g : Goal) (d n : Int) (l : List Event) (p : Int) (im : List Int), sizeG g d = some n → meanG g l = some (p, im) → 0 ≤ p ∧ p ≤ 1000000000 * n ∧ (im.length : Int) ≤ 6 * n
 | ⟨kind, rows, from_, to_, low, high, clear, days, times, within, cents, kids⟩, d, n, l, p, im, hs, hm => by
  have hall := all_bound kids
  have hany := any_bound kids
  have hhd := hd_bound kids
  obtain ⟨hok, hd, m, hL, rfl⟩ := size_ok hs
  have h0 := sizeL_pos hL
  rw [meanG_eq] at hm
  split at hm
  ·unfold seeM at hm
   split at hm
   ·cases hm
   ·injection hm with hm; injection hm with h1 h2; subst h1; subst h2; simp; omega
  ·split at hm
   ·unfold pairM at hm
    split at hm
    ·cases hm
    ·rename_i a b _
     have := len_setS (m := [a.image, b.image])
     injection hm with hm; injection hm with h1 h2; subst h1; subst h2; simp at this; omega
   ·split at hm
    ·rename_i hk
     have ht := ok_times hok hk
     unfold everyM at hm
     split at hm
     ·cases hm
     ·rename_i r hr
      have h3 := takeS_len _ _ _ _ _ (by omega) hr
      have := len_setS (m := r)
      injection hm with hm; injection hm with h1 h2; subst h1; subst h2; omega
    ·split at hm
     ·have := hhd _ _ _ _ _ hL hm
      omega
     ·split at hm
      ·have := hall _ _ _ _ _ _ _ hL hm
       simp at this
       omega
      ·rcases hany _ _ _ _ _ _ _ hL (ok_cents hok) hm with h | h
       ·cases h
       ·omega
theorem hd_bound : ∀ (ks : List Goal) (d n : Int) (l : List Event) (p : Int) (im : List Int), sizeL ks d = some n → meanH ks l = some (p, im) → 0 ≤ p ∧ p ≤ 1000000000 * n ∧ (im.length : Int) ≤ 6 * n
 | [], d, n, l, p, im, hs, hm => by rw [meanH] at hm; cases hm
 | k :: ks, d, n, l, p, im, hs, hm => by
  rw [meanH] at hm
  rw [sizeL] at hs
  split at hs
  ·cases hs
  ·rename_i m hm'
   split at hs
   ·cases hs
   ·rename_i q hq
    injection hs with hs
    have := mean_bound k d m l p im hm' hm
    have := sizeL_pos hq
    omega
theorem all_bound : ∀ (ks : List Goal) (d n : Int) (l : List Event) (p : Int) (im : List Int) (q : Int) (jm : List Int), sizeL ks d = some n → meanAll ks l p im = some (q, jm) → p ≤ q ∧ q ≤ p + 1000000000 * n ∧ (jm.length : Int) ≤ im.length + 6 * n
 | [], d, n, l, p, im, q, jm, hs, hm => by
  rw [meanAll] at hm; injection hm with hm; injection hm with h1 h2; subst h1; subst h2
  have := sizeL_pos hs
  omega
 | k :: ks, d, n, l, p, im, q, jm, hs, hm => by
  rw [meanAll] at hm
  rw [sizeL] at hs
  split at hs
  ·cases hs
  ·rename_i m hm'
   split at hs
   ·cases hs
   ·rename_i x hx
    injection hs with hs
    split at hm
    ·cases hm
    ·rename_i q' jm' hq'
     have h1 := mean_bound k d m l _ _ hm' hq'
     have h2 := all_bound ks d x l _ _ _ _ hx hm
     have h3 := len_setS (m := im ++ jm')
     simp at h3
     omega
theorem any_bound : ∀ (ks : List Goal) (cs : List Int) (d n : Int) (l : List Event) (acc : Sen) (q : Int) (jm : List Int), sizeL ks d = some n → (∀ c ∈ cs, 0 ≤ c ∧ c ≤ 1000000000) → meanAny ks cs l acc = some (q, jm) → acc = some (q, jm) ∨ (0 ≤ q ∧ q ≤ 1000000000 * (n + 1) ∧ (jm.length : Int) ≤ 6 * n)
 | [], cs, d, n, l, acc, q, jm, hs, hc, hm => by rw [meanAny] at hm; exact .inl hm
 | k :: ks, cs, d, n, l, acc, q, jm, hs, hc, hm => by
  rw [meanAny] at hm
  rw [sizeL] at hs
  split at hs
  ·cases hs
  ·rename_i m hm'
   split at hs
   ·cases hs
   ·rename_i x hx
    injection hs with hs
    have hm1 := size_pos hm'
    have hx0 := sizeL_pos hx
    rcases any_bound ks cs.tail d x l _ q jm hx (fun c h => hc c (List.mem_of_mem_tail h)) hm with h | h
    ·rcases stepAny_some h with h | ⟨p, h1, h2⟩
     ·exact .inl h
     ·have h3 := mean_bound k d m l _ _ hm' h1
      have h4 : 0 ≤ cs.getD 0 0 ∧ cs.getD 0 0 ≤ 1000000000 := by
       cases cs with
       | nil => simp
       | cons c cs => exact hc c (by simp)
      right; omega
    ·right; omega
end
end Go.SX
namespace Go.SX
def pfB (g : Goal) (a b : Event) : Bool := decide (g.low ≤ gapS a.look b.look) && decide (gapS a.at_ b.at_ ≤ g.within)
theorem pairS_cons (g : Goal) (a : Event) (l : List Event) : pairS g (a :: l) = match l.find? (pfB g a) with | some b => some (a, b) | none => pairS g l := by
 rw [pairS]; rfl
theorem find_hit {α : Type} {p : α → Bool} {xs : List α} {i : Nat} {x : α} (h1 : xs[i]? = some x) (h2 : p x = true) (h3 : (xs.take i).any p = false) : xs.find? p = some x := by
 obtain ⟨hi, e⟩ := List.getElem?_eq_some_iff.1 h1
 rw [List.find?_eq_some_iff_getElem]
 refine ⟨h2, i, hi, e, fun j hj => ?_⟩
 rw [List.any_eq_false] at h3
 have := h3 (xs[j]'(by omega)) (List.mem_iff_getElem.2 ⟨j, by simp; omega, by simp⟩)
 simpa using this
theorem find_miss {α : Type} {p : α → Bool} {xs : List α} (h : xs.any p = false) : xs.find? p = none := by
 rw [List.find?_eq_none]
 rw [List.any_eq_false] at h
 exact h
theorem drop_getD {α : Type} {xs : List α} {i : Nat} {d : α} (h : i < xs.length) : xs.drop i = xs.getD i d :: xs.drop (i + 1) := by
 rw [List.drop_eq_getElem_cons h, List.getD_eq_getElem?_getD, List.getElem?_eq_getElem h]; rfl
end Go.SX
namespace Go.SX
def bestS (g : Goal) (a : Event) (ps : List (Event × Int)) : Int := ps.foldl (fun m p => if doFollowB g a p.1 then max m (1 + p.2) else m) 1
theorem longS_cons (g : Goal) (a : Event) (l : List Event) : longS g (a :: l) = bestS g a (l.zip (longS g l)) :: longS g l := by rw [longS]; rfl
@[simp] theorem longS_len (g : Goal) : ∀ l : List Event, (longS g l).length = l.length
 | [] => rfl
 | a :: l => by rw [longS_cons, List.length_cons, List.length_cons, longS_len g l]
theorem bestS_snoc (g : Goal) (a : Event) (ps : List (Event × Int)) (p : Event × Int) : bestS g a (ps ++ [p]) = if doFollowB g a p.1 then max (bestS g a ps) (1 + p.2) else bestS g a ps := by
 unfold bestS; rw [List.foldl_append]; rfl
theorem bestS_bound (g : Goal) (a : Event) (B : Int) (h0 : 0 ≤ B) : ∀ (n : Nat) (ps : List (Event × Int)), ps.length = n → (∀ p ∈ ps, p.2 ≤ B) → 1 ≤ bestS g a ps ∧ bestS g a ps ≤ 1 + B := by
 intro n
 induction n with
 | zero => intro ps hl _; rw [List.length_eq_zero_iff.1 hl]; simp [bestS]; omega
 | succ n ih =>
  intro ps hl hp
  rcases List.eq_nil_or_concat ps with rfl | ⟨qs, p, rfl⟩
  ·cases hl
  ·rw [List.concat_eq_append] at hl hp ⊢
   have h1 := ih qs (by simpa using hl) fun q hq => hp q (by simp [hq])
   have h2 := hp p (by simp)
   rw [bestS_snoc]
   split <;> omega
theorem longS_bound (g : Goal) : ∀ (l : List Event), ∀ x ∈ longS g l, 1 ≤ x ∧ x ≤ l.length
 | [], x, h => by simp [longS] at h
 | a :: l, x, h => by
  rw [longS_cons] at h
  have ih := longS_bound g l
  rcases List.mem_cons.1 h with rfl | h
  ·have := bestS_bound g a l.length (by omega) _ (l.zip (longS g l)) rfl fun p hp => (ih p.2 (List.of_mem_zip hp).2).2
   simp only [List.length_cons]; omega
  ·have := ih x h
   simp only [List.length_cons]; omega
/-- the reckoning under way: what has been reckoned from the end on -/
def longR (g : Goal) (m : List Event) (j : Nat) : List Int := List.replicate j 0 ++ longS g (m.drop j)
theorem longR_len (g : Goal) (m : List Event) {j : Nat} (h : j ≤ m.length) : (longR g m j).length = m.length := by
 simp [longR, longS_len]; omega
theorem longR_start (g : Goal) (m : List Event) : longR g m m.length = List.replicate m.length 0 := by simp [longR, longS]
theorem longR_end (g : Goal) (m : List Event) : longR g m 0 = longS g m := by simp [longR]
/-- .. with the best of so many EShots behind it -/
def longQ (g : Goal) (m : List Event) (i t : Nat) : List Int := List.replicate i 0 ++ bestS g (m.getD i (U.dflt .event)) (((m.drop (i + 1)).zip (longS g (m.drop (i + 1)))).take t) :: longS g (m.drop (i + 1))
theorem longQ_start (g : Goal) (m : List Event) {i : Nat} (h : i < m.length) : (longR g m (i + 1)).set i 1 = longQ g m i 0 := by
 unfold longR longQ
 rw [List.replicate_succ', List.append_assoc, List.set_append_right _ _ (by simp)]
 simp [bestS]
theorem longQ_end (g : Goal) (m : List Event) {i t : Nat} (h : i < m.length) (ht : t = m.length - (i + 1)) : longQ g m i t = longR g m i := by
 unfold longQ longR
 rw [drop_getD (d := U.dflt .event) h, longS_cons, List.take_of_length_le (by simp [longS_len]; omega)]
theorem longQ_len (g : Goal) (m : List Event) {i t : Nat} (h : i < m.length) : (longQ g m i t).length = m.length := by
 simp [longQ, longS_len]; omega
theorem longQ_at (g : Goal) (m : List Event) {i t : Nat} (h : i < m.length) : (longQ g m i t).getD i 0 = bestS g (m.getD i (U.dflt .event)) (((m.drop (i + 1)).zip (longS g (m.drop (i + 1)))).take t) := by
 unfold longQ
 simp [List.getD_eq_getElem?_getD]
theorem longQ_far (g : Goal) (m : List Event) {i t : Nat} (h : i + 1 + t < m.length) : (longQ g m i t).getD (i + 1 + t) 0 = (longS g (m.drop (i + 1))).getD t 0 := by
 unfold longQ
 simp only [List.getD_eq_getElem?_getD]
 rw [List.getElem?_append_right (by simp; omega)]
 simp only [List.length_replicate]
 rw [show i + 1 + t - i = t + 1 by omega, List.getElem?_cons_succ]

theorem longQ_step (g : Goal) (m : List Event) {i t : Nat} (h : i + 1 + t < m.length) : bestS g (m.getD i (U.dflt .event)) (((m.drop (i + 1)).zip (longS g (m.drop (i + 1)))).take (t + 1)) =
  if doFollowB g (m.getD i (U.dflt .event)) (m.getD (i + 1 + t) (U.dflt .event)) then max ((longQ g m i t).getD i 0) (1 + (longQ g m i t).getD (i + 1 + t) 0) else (longQ g m i t).getD i 0 := by
 rw [longQ_at g m (by omega), longQ_far g m h]
 have hz : ((m.drop (i + 1)).zip (longS g (m.drop (i + 1))))[t]? = some (m.getD (i + 1 + t) (U.dflt .event), (longS g (m.drop (i + 1))).getD t 0) := by
  have h1 : t < (m.drop (i + 1)).length := by simp; omega
  have h2 : t < (longS g (m.drop (i + 1))).length := by rw [longS_len]; exact h1
  rw [List.getElem?_zip_eq_some]
  refine ⟨?_, ?_⟩
  ·rw [List.getElem?_drop, List.getD_eq_getElem?_getD, List.getElem?_eq_getElem h]; rfl
  ·show _ = some ((longS g (m.drop (i + 1))).getD t 0)
   rw [List.getD_eq_getElem?_getD, List.getElem?_eq_getElem h2]; rfl
 rw [List.take_add_one, hz, show (some (m.getD (i + 1 + t) (U.dflt .event), (longS g (m.drop (i + 1))).getD t 0)).toList = [(m.getD (i + 1 + t) (U.dflt .event), (longS g (m.drop (i + 1))).getD t 0)] from rfl, bestS_snoc]
theorem longQ_keep (g : Goal) (m : List Event) {i t : Nat} (h : i + 1 + t < m.length) (hf : doFollowB g (m.getD i (U.dflt .event)) (m.getD (i + 1 + t) (U.dflt .event)) = false) : longQ g m i (t + 1) = longQ g m i t := by
 have := longQ_step g m h
 rw [hf, longQ_at g m (by omega)] at this
 unfold longQ
 rw [this]; rfl
theorem longQ_set (g : Goal) (m : List Event) {i t : Nat} (h : i + 1 + t < m.length) (hf : doFollowB g (m.getD i (U.dflt .event)) (m.getD (i + 1 + t) (U.dflt .event)) = true) : (longQ g m i t).set i (max ((longQ g m i t).getD i 0) (1 + (longQ g m i t).getD (i + 1 + t) 0)) = longQ g m i (t + 1) := by
 have := longQ_step g m h
 rw [hf] at this
 simp only [if_true] at this
 rw [← this]
 unfold longQ
 rw [List.set_append_right _ _ (by simp)]
 simp
theorem longQ_bound (g : Goal) (m : List Event) {i t : Nat} (h : i + 1 + t < m.length) : (1 ≤ (longQ g m i t).getD i 0 ∧ (longQ g m i t).getD i 0 ≤ m.length) ∧ (longQ g m i t).getD (i + 1 + t) 0 ≤ m.length ∧ 0 ≤ (longQ g m i t).getD (i + 1 + t) 0 := by
 rw [longQ_at g m (by omega), longQ_far g m h]
 have hb := longS_bound g (m.drop (i + 1))
 have h2 : t < (longS g (m.drop (i + 1))).length := by rw [longS_len]; simp; omega
 have h3 : (longS g (m.drop (i + 1))).getD t 0 ∈ longS g (m.drop (i + 1)) := by
  rw [List.getD_eq_getElem?_getD, List.getElem?_eq_getElem h2]; exact List.getElem_mem _
 have h4 := hb _ h3
 have h5 := bestS_bound g (m.getD i (U.dflt .event)) (m.length - (i + 1) : Nat) (by omega) _ (((m.drop (i + 1)).zip (longS g (m.drop (i + 1)))).take t) rfl fun p hp => by
  have := (hb p.2 (List.of_mem_zip (List.mem_of_mem_take hp)).2).2
  simpa using this
 simp only [List.length_drop] at h4
 omega
end Go.SX
namespace Go.SX
/-- the program's way: what is put down, and whether it came to the end -/
def takeT (g : Goal) : List Event → Int → Option Event → List Int × Bool
 | [], need, _ => if need = 0 then ([], true) else ([], false)
 | a :: l, need, last => if need = 0 then ([], true) else if decide (need ≤ (longS g (a :: l)).headD 0) && nextB g last a then (a.image :: (takeT g l (need - 1) (some a)).1, (takeT g l (need - 1) (some a)).2) else takeT g l need last
theorem takeS_T (g : Goal) : ∀ (l : List Event) (need : Int) (last : Option Event), takeS g l need last = if (takeT g l need last).2 then some (takeT g l need last).1 else none
 | [], need, last => by
  rw [takeS_nil, takeT]
  split <;> rfl
 | a :: l, need, last => by
  rw [takeS_cons, takeT]
  split
  ·rfl
  ·split
   ·rw [takeS_T g l (need - 1) (some a)]
    cases (takeT g l (need - 1) (some a)).2 <;> rfl
   ·exact takeS_T g l need last
theorem takeT_zero (g : Goal) (l : List Event) (last : Option Event) : takeT g l 0 last = ([], true) := by
 cases l <;> rw [takeT, if_pos rfl]
theorem takeT_nil (g : Goal) {need : Int} (last : Option Event) (h : need ≠ 0) : takeT g [] need last = ([], false) := by rw [takeT, if_neg h]
theorem takeT_hit (g : Goal) {a : Event} {l : List Event} {need : Int} {last : Option Event} (h : need ≠ 0) (h1 : need ≤ (longS g (a :: l)).headD 0) (h2 : nextB g last a = true) : takeT g (a :: l) need last = (a.image :: (takeT g l (need - 1) (some a)).1, (takeT g l (need - 1) (some a)).2) := by
 rw [takeT, if_neg h, if_pos (by rw [h2, decide_eq_true h1]; rfl)]
theorem takeT_miss (g : Goal) {a : Event} {l : List Event} {need : Int} {last : Option Event} (h : need ≠ 0) (h1 : ¬ need ≤ (longS g (a :: l)).headD 0 ∨ nextB g last a = false) : takeT g (a :: l) need last = takeT g l need last := by
 rw [takeT, if_neg h, if_neg]
 rcases h1 with h1 | h1
 ·rw [decide_eq_false h1]; simp
 ·rw [h1, Bool.and_false]; simp
theorem takeT_len (g : Goal) : ∀ (l : List Event) (need : Int) (last : Option Event), (takeT g l need last).1.length ≤ l.length
 | [], need, last => by rw [takeT]; split <;> simp
 | a :: l, need, last => by
  rw [takeT]
  split
  ·simp
  ·split
   ·have := takeT_len g l (need - 1) (some a)
    simp; omega
   ·have := takeT_len g l need last
    simp; omega
theorem longS_drop (g : Goal) : ∀ (m : List Event) (i : Nat), longS g (m.drop i) = (longS g m).drop i
 | [], i => by simp [longS]
 | a :: m, 0 => rfl
 | a :: m, i + 1 => by rw [longS_cons, List.drop_succ_cons, List.drop_succ_cons]; exact longS_drop g m i
theorem longS_head (g : Goal) (m : List Event) (i : Nat) : (longS g (m.drop i)).headD 0 = (longS g m).getD i 0 := by
 rw [longS_drop, List.headD_eq_head?_getD, List.head?_drop, List.getD_eq_getElem?_getD]
end Go.SX
namespace Go.SX
theorem setS_ne {l : List Int} (h : l ≠ []) : setS l ≠ [] := by
 obtain ⟨a, m, rfl⟩ := List.exists_cons_of_ne_nil h
 intro e
 have := (mem_setS (x := a) (m := a :: m)).2 (by simp)
 rw [e] at this; cases this
theorem many_two {g : Goal} (h : okB g = true) (h5 : g.kind = 5 ∨ g.kind = 6) : 2 ≤ (g.kids.length : Int) ∧ (g.kids.length : Int) ≤ 4 := by
 have := (okB_parts h).2.2.1
 unfold manyB at this
 rw [if_neg (by omega), if_pos h5, inB_iff] at this
 exact this
mutual
theorem mean_ne : ∀ (g : Goal) (d n : Int) (l : List Event) (p : Int) (im : List Int), sizeG g d = some n → meanG g l = some (p, im) → im ≠ []
 | ⟨kind, rows, from_, to_, low, high, clear, days, times, within, cents, kids⟩, d, n, l, p, im, hs, hm => by
  have hall := all_ne kids
  have hany := any_ne kids
  have hhd := hd_ne kids
  obtain ⟨hok, hd, m, hL, rfl⟩ := size_ok hs
  rw [meanG_eq] at hm
  split at hm
  ·unfold seeM at hm
   split at hm
   ·cases hm
   ·injection hm with hm; injection hm with h1 h2; subst h2; simp
  ·split at hm
   ·unfold pairM at hm
    split at hm
    ·cases hm
    ·injection hm with hm; injection hm with h1 h2; subst h2; exact setS_ne (by simp)
   ·split at hm
    ·rename_i hk
     have ht := ok_times hok hk
     unfold everyM at hm
     split at hm
     ·cases hm
     ·rename_i r hr
      have h3 := takeS_len _ _ _ _ _ (by omega) hr
      injection hm with hm; injection hm with h1 h2; subst h2
      exact setS_ne fun e => by subst e; simp at h3; dsimp only at ht; omega
    ·split at hm
     ·exact hhd _ _ _ _ _ hL hm
     ·split at hm
      ·rename_i hk
       have h2 := many_two hok (.inl hk)
       exact hall _ _ _ _ _ _ _ hL (.inr (fun e => by simp [e] at h2)) hm
      ·rcases hany _ _ _ _ _ _ _ hL hm with h | h
       ·cases h
       ·exact h
theorem hd_ne : ∀ (ks : List Goal) (d n : Int) (l : List Event) (p : Int) (im : List Int), sizeL ks d = some n → meanH ks l = some (p, im) → im ≠ []
 | [], d, n, l, p, im, hs, hm => by rw [meanH] at hm; cases hm
 | k :: ks, d, n, l, p, im, hs, hm => by
  rw [meanH] at hm
  rw [sizeL] at hs
  split at hs
  ·cases hs
  ·rename_i m hm'
   exact mean_ne k d m l p im hm' hm
theorem all_ne : ∀ (ks : List Goal) (d n : Int) (l : List Event) (p : Int) (im : List Int) (q : Int) (jm : List Int), sizeL ks d = some n → (im ≠ [] ∨ ks ≠ []) → meanAll ks l p im = some (q, jm) → jm ≠ []
 | [], d, n, l, p, im, q, jm, hs, h, hm => by
  rw [meanAll] at hm; injection hm with hm; injection hm with h1 h2; subst h2
  exact h.resolve_right (fun e => e rfl)
 | k :: ks, d, n, l, p, im, q, jm, hs, h, hm => by
  rw [meanAll] at hm
  rw [sizeL] at hs
  split at hs
  ·cases hs
  ·rename_i m hm'
   split at hs
   ·cases hs
   ·rename_i x hx
    split at hm
    ·cases hm
    ·rename_i q' jm' hq'
     have h1 := mean_ne k d m l _ _ hm' hq'
     exact all_ne ks d x l _ _ _ _ hx (.inl (setS_ne (by simp [h1]))) hm
theorem any_ne : ∀ (ks : List Goal) (cs : List Int) (d n : Int) (l : List Event) (acc : Sen) (q : Int) (jm : List Int), sizeL ks d = some n → meanAny ks cs l acc = some (q, jm) → acc = some (q, jm) ∨ jm ≠ []
 | [], cs, d, n, l, acc, q, jm, hs, hm => by rw [meanAny] at hm; exact .inl hm
 | k :: ks, cs, d, n, l, acc, q, jm, hs, hm => by
  rw [meanAny] at hm
  rw [sizeL] at hs
  split at hs
  ·cases hs
  ·rename_i m hm'
   split at hs
   ·cases hs
   ·rename_i x hx
    rcases any_ne ks cs.tail d x l _ q jm hx hm with h | h
    ·rcases stepAny_some h with h | ⟨p, h1, h2⟩
     ·exact .inl h
     ·exact .inr (mean_ne k d m l _ _ hm' h1)
    ·exact .inr h
end
theorem sizeL_take : ∀ {ks : List Goal} {d n : Int} (i : Nat), sizeL ks d = some n → ∃ m, sizeL (ks.take i) d = some m ∧ m ≤ n
 | ks, d, n, 0, h => ⟨0, by rw [List.take_zero, sizeL], sizeL_pos h⟩
 | [], d, n, i + 1, h => ⟨n, h, Int.le_refl _⟩
 | k :: ks, d, n, i + 1, h => by
  rw [sizeL] at h
  split at h
  ·cases h
  ·rename_i m hm
   split at h
   ·cases h
   ·rename_i x hx
    injection h with h
    obtain ⟨y, h1, h2⟩ := sizeL_take i hx
    refine ⟨m + y, ?_, by omega⟩
    rw [List.take_succ_cons, sizeL, hm, h1]
theorem sizeL_mem : ∀ {ks : List Goal} {d n : Int} {k : Goal}, sizeL ks d = some n → k ∈ ks → ∃ m, sizeG k d = some m ∧ m ≤ n
 | [], d, n, k, h, hk => by cases hk
 | a :: ks, d, n, k, h, hk => by
  rw [sizeL] at h
  split at h
  ·cases h
  ·rename_i m hm
   split at h
   ·cases h
   ·rename_i x hx
    injection h with h
    have h1 := sizeL_pos hx
    have h2 := size_pos hm
    rcases List.mem_cons.1 hk with rfl | hk
    ·exact ⟨m, hm, by omega⟩
    ·obtain ⟨y, h3, h4⟩ := sizeL_mem hx hk
     exact ⟨y, h3, by omega⟩
theorem take_getD {α : Type} {xs : List α} {i : Nat} {d : α} (h : i < xs.length) : xs.take (i + 1) = xs.take i ++ [xs.getD i d] := by
 rw [List.take_add_one, List.getD_eq_getElem?_getD, List.getElem?_eq_getElem h]; rfl
end Go.SX

namespace Go.SX
open Go.Proofs Go.Shelf Go.RowKit Go.Sort
set_option maxHeartbeats 4000000
set_option maxRecDepth 100000
theorem flatInts (zs : List Int) : zs.flatMap (Dc.enc U.int) = zs.map (PV.int (C := Cd) .i64) := by
 rw [List.map_eq_flatMap]; rfl
/-- a library function that works on a row of ints, at a row that is owned -/
theorem rowI_meets {f : FuncId} {zs zs' : List Int} {ret : SV Cd} (h0 : zs ≠ []) (hl : zs'.length = zs.length) (henter : ∀ args w, (callFunc f args).run Tryz.prog w = .ok (.enter f args) w) (rv : Nat → Nat → Nat → Value)
    (hc : ∀ blk off cap w, Holds (Value.int .i64) w blk off zs.toArray → blk < w.heap.size → zs.length ≤ cap → Calls Tryz.prog f #[.slice (some ⟨blk, off, none⟩) zs.length cap] w fun e w' => e = .returned (rv blk off cap) ∧ ∃ n os, w' = grow (putRow (Value.int .i64) (Sort.ahead w n) blk off zs'.toArray) os)
    (hr : ∀ w E b cs T cap, E.β 0 = .loc b → Row w b cs T → zs.length ≤ cap → cap ≤ cs.size → Den Dc w E ret (rv b 0 cap)) : Meets Tryz.prog Dc f [.slice 0 0 1 0 zs.length] [.rows U.int zs] ret [.rows U.int zs'] := by
  refine ⟨henter, fun w E hm vs hs hd => ?_⟩
  simp only [DenA] at hd
  obtain ⟨v, v2, rfl, hv, rfl⟩ := hd
  have hlen0 : zs.length ≠ 0 := fun e => h0 (List.length_eq_zero_iff.1 e)
  have hok := hs.ok 0
  simp only [Den] at hv
  cases hb : E.β 0 with
  | fresh => rw [hb] at hv; exact hv.elim
  | dead => rw [hb] at hok; simp [HS.ok, getC] at hok
  | virt => rw [hb] at hv; obtain ⟨a, _, h⟩ := hv; exact absurd h hlen0
  | loc b =>
    rw [hb] at hv hok
    rcases hv with ⟨h, _⟩ | ⟨cap, cs, T, rfl, hcap, hrow, hsz⟩
    · exact absurd h hlen0
    · obtain ⟨cs2, T2, hrow2, hle, hden⟩ := hok
      obtain ⟨rfl, rfl⟩ := hrow.inj hrow2.1
      have hrow' := hrow
      obtain ⟨z, hheap, hthaw⟩ := hrow
      have hn : Cod.n Cd U.int = 1 := rfl
      rw [hn, Nat.mul_one] at hle hden
      rw [flatInts] at hden
      have hcell : ∀ j, j < zs.length → cs[j]? = some (Value.int .i64 zs[j]!) := by
        intro j hj
        have h1 : (zs.map (PV.int (C := Cd) .i64))[j]? = some (.int .i64 zs[j]!) := by
          rw [List.getElem?_map, List.getElem?_eq_getElem hj, getElem!_pos zs j hj]; rfl
        have h2 : (cs.toList.take zs.length)[j]? = some cs[j] := by
          rw [List.getElem?_take, if_pos hj, Array.getElem?_toList, Array.getElem?_eq_getElem (by omega)]
        have := hden.2 j _ _ h1 h2
        generalize hcj : cs[j] = x at this
        cases this
        rw [Array.getElem?_eq_getElem (by omega), hcj]
      have hH : Holds (Value.int .i64) w b (0 + 0 * 1) zs.toArray := by
        intro j hj
        have hj' : j < zs.length := by simpa using hj
        refine ⟨?_, ?_⟩
        · simp only [World.cell?, hheap, Nat.zero_mul, Nat.zero_add]
          simpa using hcell j hj'
        · simp only [World.frozen?, hheap, Nat.zero_mul, Nat.zero_add]
          have := hthaw j (by omega)
          simpa using this
      have hlt : b < w.heap.size := (hs.own 0 b hb).1
      have h := hc b (0 + 0 * 1) cap w hH hlt hcap
      have h2 : CallsIn (Fc none) 0 Tryz.prog f #[.slice (some ⟨b, 0 + 0 * 1, none⟩) zs.length cap] w _ := callsIn_wide.2 h
      refine h2.mono ?_
      rintro e w' ⟨rfl, n, os, hw'⟩
      simp only [Nat.zero_mul, Nat.add_zero] at hw'
      let B0 := Base.here w E 1 hm
      have hrel : Rel Dc B0 E (fun _ => .any) (getC [HS.rows (C := Cd) U.int zs]) [] { tmps := #[], defers := [] } w := ⟨fun i => trivial, hs, Fr.here, rfl, Marks.nil⟩
      let cs' := putCells (Value.int .i64) 0 zs'.toArray cs
      have hsz' : cs'.size = cs.size := by simp [cs', putCells]
      have hlist : cs'.toList.take zs'.length = zs'.map (Value.int .i64) := by
        refine List.ext_getElem? fun j => ?_
        rw [List.getElem?_take]
        by_cases hj : j < zs'.length
        · rw [if_pos hj, Array.getElem?_toList, List.getElem?_map, List.getElem?_eq_getElem hj, Array.getElem?_eq_getElem (by rw [hsz']; omega)]
          simp [cs', putCells, hj]
        · rw [if_neg hj, List.getElem?_eq_none (by simp; omega)]
      have hden' : ∀ w1 E1, PDenL Dc w1 E1 (zs'.map (PV.int (C := Cd) .i64)) (zs'.map (Value.int .i64)) := by
        intro w1 E1
        refine ⟨by simp, fun j pv v h1 h2 => ?_⟩
        rw [List.getElem?_map] at h1 h2
        cases hz : zs'[j]? with
        | none => rw [hz] at h1; cases h1
        | some x => rw [hz] at h1 h2; cases h1; cases h2; exact .int _ _
      have hset := hrel.setRow (c := 0) hb hrow' hsz' (hs := HS.rows (C := Cd) U.int zs') fun hL => ⟨cs', T, ⟨hrow'.set hsz', hrow2.2⟩, by rw [hn, Nat.mul_one, hsz']; omega, by
        rw [hn, Nat.mul_one, flatInts, hlist]; exact hden' _ _⟩
      have hH1 : upH (getC [HS.rows (C := Cd) U.int zs]) 0 (.rows U.int zs') = getC [.rows U.int zs'] := by
        funext i
        cases i with
        | zero => rfl
        | succ i => rfl
      rw [hH1] at hset
      have hmap : ∀ k, k < w.heap.size → w'.heap[k]? = (w.setRow b cs').heap[k]? := by
        intro k hk
        rw [hw', heap_grow_old _ _ (by simp [putRow, mapBlock, Sort.ahead]; exact hk)]
        by_cases hkb : k = b
        · subst hkb
          rw [setRow_heap w k cs cs' T z hheap]
          simp only [putRow, mapBlock, Sort.ahead, Array.getElem?_modify, hheap, if_true, Option.map_some, onCells]
          rfl
        · rw [setRow_other w b k cs' hkb]
          simp only [putRow, mapBlock, Sort.ahead, Array.getElem?_modify, if_neg (Ne.symm hkb)]
      have hz1 : (w.setRow b cs').heap.size = w.heap.size := by simp
      have hz2 : w.heap.size ≤ w'.heap.size := by rw [hw']; simp [grow, putRow, mapBlock, Sort.ahead]
      have hrow3 : Row w' b cs' T := Row.of (hmap b hlt) (hrow'.set hsz')
      refine ⟨_, E, rfl, ?_, hset.sat.same (fun k hk => hmap k (by omega)) (by omega), hset.fr.on hset.sat.F (fun k hk => hmap k (by omega)) (by omega) (by rw [hw']; rfl) (by rw [hw']; rfl) (by rw [hw']; rfl)⟩
      have := hr w' E b cs' T cap hb hrow3 hcap (by rw [hsz']; omega)
      simpa using this
theorem sort_meets {zs : List Int} (h0 : zs ≠ []) (hl : (zs.length : Int) ≤ 1000000) : Meets Tryz.prog Dc 153 [.slice 0 0 1 0 zs.length] [.rows U.int zs] (.tuple []) [.rows U.int (zs.mergeSort fun x y => decide (x ≤ y))] :=
 rowI_meets h0 (List.length_mergeSort _) Tryz.call153 (fun _ _ _ => .tuple #[]) (fun blk off cap w hH hb _ => Any.slices_Sort_int sort_lays blk off cap zs w hH hb (by omega)) (fun _ _ _ _ _ _ _ _ _ _ => ⟨#[], rfl, rfl⟩)
theorem cut_len (d : Array Int) (m : Nat) : (Lib.compactUpTo d m).length ≤ m := by
 unfold Lib.compactUpTo
 rw [List.length_map]
 exact Nat.le_trans (List.length_filter_le _ _) (by simp)
theorem compact_meets {zs : List Int} (h0 : zs ≠ []) (hl : (zs.length : Int) ≤ 1000000) : Meets Tryz.prog Dc 154 [.slice 0 0 1 0 zs.length] [.rows U.int zs] (.slice 0 0 1 0 (Lib.compact zs).length) [.rows U.int (Lib.compact zs ++ List.replicate (zs.length - (Lib.compact zs).length) 0)] := by
 have hc := cut_len zs.toArray zs.length
 refine rowI_meets h0 (by simp only [Lib.compact, List.length_append, List.length_replicate]; omega) Tryz.call154 (fun b o c => .slice (some ⟨b, o, none⟩) (Lib.compact zs).length c) (fun blk off cap w hH hb hcap => ?_) (fun w E b cs T cap hb hr h1 h2 => ?_)
 ·refine (Any.slices_Compact_int_arr compact_lays blk off cap zs.toArray w hH (by simp; omega) (by simpa using hcap)).mono ?_
  rintro e w' ⟨rfl, q, hw⟩
  exact ⟨rfl, q, #[], by rw [hw, grow_empty]; rfl⟩
 ·simp only [Den, hb]
  exact .inr ⟨cap, cs, T, by simp, by unfold Lib.compact; omega, hr, by simpa using h2⟩
theorem cut_asc (d : Array Int) (hs : ∀ i j : Nat, i ≤ j → j < d.size → d[i]! ≤ d[j]!) : ∀ m : Nat, m ≤ d.size → Asc (Lib.compactUpTo d m) ∧ (∀ j, j < m → d[j]! ∈ Lib.compactUpTo d m) ∧ ∀ x ∈ Lib.compactUpTo d m, ∃ j, j < m ∧ x = d[j]!
 | 0, _ => ⟨trivial, fun j h => by omega, fun x h => by simp [Lib.compactUpTo] at h⟩
 | m + 1, h => by
  obtain ⟨h1, h2, h3⟩ := cut_asc d hs m (by omega)
  rw [Lib.compactUpTo_succ]
  by_cases hk : Lib.keeps d m = true
  ·rw [if_pos hk]
   refine ⟨?_, fun j hj => ?_, fun x hx => ?_⟩
   ·have : ∀ l : List Int, Asc l → (∀ x ∈ l, x < d[m]!) → Asc (l ++ [d[m]!]) := by
     intro l
     induction l with
     | nil => intro _ _; exact ⟨fun b hb => (by cases hb), trivial⟩
     | cons a l ih =>
      intro ha hb
      exact ⟨fun b hb' => by
       rcases List.mem_append.1 hb' with h | h
       ·exact ha.1 b h
       ·rw [List.mem_singleton.1 h]; exact hb a (by simp), ih ha.2 fun x hx => hb x (by simp [hx])⟩
    refine this _ h1 fun x hx => ?_
    obtain ⟨j, hj, rfl⟩ := h3 x hx
    have e1 := hs j (m - 1) (by omega) (by omega)
    have e2 := hs (m - 1) m (by omega) (by omega)
    have e3 : d[m]! ≠ d[m - 1]! := by
     simp only [Lib.keeps, decide_eq_true_eq] at hk
     exact hk.resolve_left (by omega)
    omega
   ·rcases Nat.lt_or_ge j m with hj' | hj'
    ·exact List.mem_append.2 (.inl (h2 j hj'))
    ·rw [show j = m by omega]; exact List.mem_append.2 (.inr (by simp))
   ·rcases List.mem_append.1 hx with hx | hx
    ·obtain ⟨j, hj, e⟩ := h3 x hx; exact ⟨j, by omega, e⟩
    ·exact ⟨m, by omega, by simpa using hx⟩
  ·rw [if_neg hk, List.append_nil]
   refine ⟨h1, fun j hj => ?_, fun x hx => ?_⟩
   ·rcases Nat.lt_or_ge j m with hj' | hj'
    ·exact h2 j hj'
    ·have : ¬ (m = 0 ∨ d[m]! ≠ d[m - 1]!) := by simpa [Lib.keeps] using hk
     have e : d[m]! = d[m - 1]! := by
      by_cases e : d[m]! = d[m - 1]!
      ·exact e
      ·exact absurd (.inr e) this
     rw [show j = m by omega, e]
     exact h2 (m - 1) (by omega)
   ·obtain ⟨j, hj, e⟩ := h3 x hx; exact ⟨j, by omega, e⟩
theorem compact_sort (l : List Int) : Lib.compact (l.mergeSort fun x y => decide (x ≤ y)) = setS l := by
 have hp := List.pairwise_mergeSort (le := fun x y : Int => decide (x ≤ y)) (by intro a b c; simp; omega) (by intro a b; simp; omega) l
 generalize hm : l.mergeSort (fun x y => decide (x ≤ y)) = m at hp
 have hmem : ∀ x, x ∈ m ↔ x ∈ l := fun x => by rw [← hm]; exact List.mem_mergeSort
 have hs : ∀ i j : Nat, i ≤ j → j < m.toArray.size → m.toArray[i]! ≤ m.toArray[j]! := by
  intro i j hij hj
  have hj' : j < m.length := by simpa using hj
  rcases Nat.lt_or_ge i j with h | h
  ·have := List.pairwise_iff_getElem.1 hp i j (by omega) hj' h
   rw [getElem!_pos _ i (by simp; omega), getElem!_pos _ j (by simp; omega)]
   simpa using this
  ·rw [show i = j by omega]; exact Int.le_refl _
 obtain ⟨h1, h2, h3⟩ := cut_asc m.toArray hs m.length (by simp)
 refine asc_ext h1 asc_setS fun x => ?_
 rw [mem_setS, ← hmem]
 constructor
 ·intro hx
  obtain ⟨j, hj, rfl⟩ := h3 x hx
  rw [getElem!_pos _ j (by simpa using hj)]
  simp
 ·intro hx
  obtain ⟨j, hj, rfl⟩ := List.getElem_of_mem hx
  have := h2 j hj
  rwa [getElem!_pos _ j (by simpa using hj), List.getElem_toArray] at this
theorem images_meets {l : List Int} (h0 : l ≠ []) (hl : (l.length : Int) ≤ 1000000) : Meets Tryz.prog Dc 140 [lS l] [] (.slice 0 0 1 0 (setS l).length) [.rows U.int (setS l ++ List.replicate (l.length - (setS l).length) 0)] := by
 have h1 := cloneInt l hl
 have h2 := sort_meets h0 hl
 have hm0 : (l.mergeSort fun x y => decide (x ≤ y)) ≠ [] := fun e => h0 (List.length_eq_zero_iff.1 (by rw [← List.length_mergeSort (le := fun x y => decide (x ≤ y)), e]; rfl))
 have h3 := compact_meets hm0 (by rw [List.length_mergeSort]; exact hl)
 rw [compact_sort, List.length_mergeSort] at h3
 refine meets_of_gx Ax tab_ok Tryz.func140 (c := _) rfl Tryz.call140 100 ?_
 (repeat' ((conv => whnf); first | (refine callh [] h1 rfl rfl trivial ?_) | (refine callh [some 0] h2 rfl rfl ⟨rfl, trivial⟩ ?_) | (refine callh [some 0] h3 rfl rfl ⟨rfl, trivial⟩ ?_) | (refine end_fn [some 0] (.inr rfl) ?_ ?_ rfl rfl; (focus exact vwV); exact hsV)))
end Go.SX

namespace Go.SX
open Go.Proofs
set_option maxHeartbeats 4000000
set_option maxRecDepth 100000
@[reducible] def senA (p : Int) (im : List Int) : SV Cd := .agg [.p (.int .i64 p), .p (.dsl U.int im)]
/-- what a meaning returns -/
@[reducible] def senR (s : Sen) : SV Cd := match s with
 | none => .tuple [senA 0 [], bS false]
 | some (p, im) => .tuple [senA p im, bS true]
/-- events that goals may be asked of -/
structure EvsOK (l : List Event) : Prop where
 len : (l.length : Int) ≤ 1000000
 el : ∀ e ∈ l, ELen e
 i64 : ∀ e ∈ l, I64d e
 look : ∀ e ∈ l, -1000 ≤ e.look ∧ e.look ≤ 1000
theorem tgap (a b : Int) (h1 : -4611686018427387904 ≤ a ∧ a ≤ 4611686018427387903) (h2 : -4611686018427387904 ≤ b ∧ b ≤ 4611686018427387903) : Meets Tryz.prog Dc 141 [iS a, iS b] [] (iS (gapS a b)) [] := by
 refine meets_of_gx Ax tab_ok Tryz.func141 (c := _) rfl Tryz.call141 60 ?_
 (repeat' ((conv => whnf); first | refine x0C (eI ?_ rfl) | refine saC ?_))
 all_goals rfl
theorem tsee (g : Goal) (hg : GLen g) (l : List Event) (now : Int) (h : EvsOK l) : Meets Tryz.prog Dc 113 [worldA l now, goalA g] [] (senR (seeM g l)) [] := by
 have h1 := tseen_meets g hg l now h.len h.el
 unfold seeM
 cases hs : seenS g l with
 | nil =>
  rw [hs] at h1
  refine meets_of_gx Ax tab_ok Tryz.func113 (c := _) rfl Tryz.call113 100 ?_
  (repeat' ((conv => whnf); first | refine cpC (h1) ?_ | refine x0C ?_))
  all_goals exact vwV
 | cons a m =>
  rw [hs] at h1
  have h2 := images_meets (l := [a.image]) (by simp) (by simp)
  rw [show setS [a.image] = [a.image] from rfl] at h2
  refine meets_of_gx Ax tab_ok Tryz.func113 (c := _) rfl Tryz.call113 100 ?_
  (repeat' ((conv => whnf); first | refine cpC (h1) ?_ | (refine frzC [some 0, some 1, some 2, none] [(18, .any)] [(3, .rows U.int [])] [lS [a.image]] (by exact bkV) (by exact snV) ?_; (conv => whnf); refine callh [] h2 rfl rfl trivial ?_) | refine x0C ?_ | refine saC ?_))
  all_goals exact vwV
theorem tfollow (g : Goal) (a b : Event) (ha : I64d a) (hb : I64d b) (hd : 0 ≤ g.days ∧ g.days ≤ 60) : Meets Tryz.prog Dc 103 [goalA g, evA a, evA b] [] (bS (doFollowB g a b)) [] := by
 have h := tin (b.at_ - a.at_) g.within (1440 * g.days)
 unfold I64d at ha hb
 refine meets_of_gx Ax tab_ok Tryz.func103 (c := _) rfl Tryz.call103 60 ?_
 (repeat' ((conv => whnf); first | refine x0C (eB ?_ rfl) | refine cpC (h) ?_ | refine saC ?_))
 all_goals rfl
theorem tbegin (g : Goal) (a : Event) (hf : 0 ≤ g.from_ ∧ g.from_ ≤ 1000000) (hd : 0 ≤ g.days ∧ g.days ≤ 60) : Meets Tryz.prog Dc 102 [goalA g, evA a] [] (bS (doBeginB g a)) [] := by
 refine meets_of_gx Ax tab_ok Tryz.func102 (c := _) rfl Tryz.call102 60 ?_
 (repeat' ((conv => whnf); first | refine x0C (eB ?_ rfl) | refine saC ?_))
 all_goals rfl
theorem tpair (g : Goal) (hk : (g.kids.length : Int) = 1) (hg : GLen (kid0 g.kids)) (l : List Event) (now : Int) (h : EvsOK l) : Meets Tryz.prog Dc 114 [worldA l now, goalA g] [] (senR (pairM g l)) [] := by
 have h1 := tseen_meets (kid0 g.kids) hg l now h.len h.el
 have hE : EvsOK (seenS (kid0 g.kids) l) := ⟨Int.le_trans (Int.ofNat_le.2 (List.length_filter_le _ _)) h.len, fun e he => h.el e (List.mem_filter.1 he).1, fun e he => h.i64 e (List.mem_filter.1 he).1, fun e he => h.look e (List.mem_filter.1 he).1⟩
 unfold pairM
 generalize seenS (kid0 g.kids) l = m at h1 hE ⊢
 have hl := hE.len
 refine meets_of_gx Ax tab_ok Tryz.func114 (c := _) rfl Tryz.call114 200 ?_
 (repeat' ((conv => whnf); first | refine dpC (h1) ?_ | refine taC ?_ | refine saC ?_ | refine drawX_of mixed ?_))
 refine loop_up (fun i : Nat => [(5, bS false), (19, iS i)]) (fun _ => []) (fun i => i ≤ m.length ∧ pairS g m = pairS g (m.drop i)) (fun i => m.length - i) 0 ⟨Nat.zero_le _, by simp⟩ (by exact bkV) ?_
 rintro i ⟨hi, he⟩ K hK
 rcases Nat.lt_or_ge i m.length with hlt | hge
 ·have hgi := getD_some (d := Cd.dflt U.event) hlt
  have hd := drop_getD (d := Cd.dflt U.event) hlt
  rw [hd, pairS_cons] at he
  have ha1 := hE.i64 _ (List.mem_of_getElem? hgi)
  have ha2 := hE.look _ (List.mem_of_getElem? hgi)
  (repeat' ((conv => whnf); first | (exfalso; omega) | refine spC (fun hb => ?_) fun hb => ?_ | refine saC ?_))
  generalize hq : List.drop ((i : Int) + 1).toNat (List.take ((m.length : Nat) : Int).toNat m) = q
  have hq' : q = m.drop (i + 1) := by rw [← hq, show ((i : Int) + 1).toNat = i + 1 by omega, Int.toNat_natCast, List.take_length]
  rw [← hq'] at he
  have hql : q.length ≤ m.length := by rw [hq']; simp
  have hqm : ∀ b ∈ q, b ∈ m := fun b hb => by rw [hq'] at hb; exact List.mem_of_mem_drop hb
  refine loop_up (fun k : Nat => [(5, bS false), (29, iS k)]) (fun _ => []) (fun k => k ≤ q.length ∧ (q.take k).any (pfB g (m.getD i (Cd.dflt U.event))) = false) (fun k => q.length - k) 0 ⟨Nat.zero_le _, by simp⟩ (by exact bkV) ?_
  rintro k ⟨hk1, hk2⟩ K2 hK2
  rcases Nat.lt_or_ge k q.length with hlt2 | hge2
  ·have hgk := getD_some (d := Cd.dflt U.event) hlt2
   have hb1 := hE.i64 _ (hqm _ (List.mem_of_getElem? hgk))
   have hb2 := hE.look _ (hqm _ (List.mem_of_getElem? hgk))
   unfold I64d at ha1 hb1
   have hp : pfB g (m.getD i (Cd.dflt U.event)) (q.getD (k : Int).toNat (Cd.dflt U.event)) = (decide (g.low ≤ gapS (m.getD (i : Int).toNat (Cd.dflt U.event)).look (q.getD (k : Int).toNat (Cd.dflt U.event)).look) && decide (gapS (m.getD (i : Int).toNat (Cd.dflt U.event)).at_ (q.getD (k : Int).toNat (Cd.dflt U.event)).at_ ≤ g.within)) := rfl
   have hg1 := tgap (m.getD (i : Int).toNat (Cd.dflt U.event)).look (q.getD (k : Int).toNat (Cd.dflt U.event)).look (by omega) (by omega)
   have hg2 := tgap (m.getD (i : Int).toNat (Cd.dflt U.event)).at_ (q.getD (k : Int).toNat (Cd.dflt U.event)).at_ (by omega) (by omega)
   have hi2 := images_meets (l := [(m.getD (i : Int).toNat (Cd.dflt U.event)).image, (q.getD (k : Int).toNat (Cd.dflt U.event)).image]) (by simp) (by simp)
   have n1 : ¬ (g.low ≤ gapS (m.getD (i : Int).toNat (Cd.dflt U.event)).look (q.getD (k : Int).toNat (Cd.dflt U.event)).look) → pfB g (m.getD i (Cd.dflt U.event)) (q.getD (k : Int).toNat (Cd.dflt U.event)) = false := fun h => by rw [hp, decide_eq_false h]; rfl
   have n2 : ¬ (gapS (m.getD (i : Int).toNat (Cd.dflt U.event)).at_ (q.getD (k : Int).toNat (Cd.dflt U.event)).at_ ≤ g.within) → pfB g (m.getD i (Cd.dflt U.event)) (q.getD (k : Int).toNat (Cd.dflt U.event)) = false := fun h => by rw [hp, decide_eq_false h, Bool.and_false]
   have hx : pfB g (m.getD i (Cd.dflt U.event)) (q.getD (k : Int).toNat (Cd.dflt U.event)) = true → pairS g m = some (m.getD (i : Int).toNat (Cd.dflt U.event), q.getD (k : Int).toNat (Cd.dflt U.event)) := fun h => by rw [he, find_hit hgk h hk2]; rfl
   (repeat' ((conv => whnf); first | (exfalso; omega) | refine dpC (hg1) ?_ | refine dpC (hg2) ?_ | (refine frzC [some 0, some 1, some 2, some 3, some 4, none] [(55, .any)] [(5, .rows U.int [])] [lS [(m.getD (i : Int).toNat (Cd.dflt U.event)).image, (q.getD (k : Int).toNat (Cd.dflt U.event)).image]] (by exact bkV) (by exact snV) ?_; (conv => whnf); refine callh [] hi2 rfl rfl trivial ?_) | refine hK2 (k + 1) [some 0, some 1, some 2, some 3] _ _ ⟨⟨by omega, any_take_succ hgk (by first | exact n1 (by assumption) | exact n2 (by assumption)) hk2⟩⟩ ⟨by omega⟩ (by exact bkV) | refine x0C ?_ | refine spC (fun hb => ?_) fun hb => ?_ | refine taC ?_ | refine saC ?_ | refine drawX_of mixed ?_))
   all_goals (rw [hx (by rw [hp, decide_eq_true (by assumption), decide_eq_true (by assumption)]; rfl)]; exact vwV)
  ·have hn := find_miss (any_take_end hge2 hk2)
   rw [hn] at he
   (repeat' ((conv => whnf); first | (exfalso; omega) | refine hK (i + 1) [some 0, some 1, some 2] _ _ ⟨⟨by omega, by rw [he, hq']⟩⟩ ⟨by omega⟩ (by exact bkV) | refine spC (fun hb => ?_) fun hb => ?_ | refine saC ?_))
 ·rw [he, List.drop_of_length_le hge, pairS]
  (repeat' ((conv => whnf); first | (exfalso; omega) | refine x0C ?_ | refine spC (fun hb => ?_) fun hb => ?_))
  all_goals exact vwV
end Go.SX

/-
 SX, part V9: views in which numbers and rows may be spelled otherwise.
-/
namespace Go.SX
variable {C : Cod}
section
variable {Hp : List (HS C)} {θ : List (Option Nat)} {T T' : List (SV C)} {Hp' : List (HS C)} {m0 : Nat} {ret : SV C}
theorem intV {k : IntKind} {a b : Int} (h : a = b := by omega) : View Hp θ (.p (.int k a)) (.p (.int k b)) := by subst h; rfl
theorem rowV {u : C.U} {xs ys : List (C.El u)} (h : xs = ys) : ViewH Hp θ (.rows u xs) (.rows u ys) := by subst h; rfl
theorem bkI {m0 : Nat} (h1 : ViewL Hp θ T T' := by first | ((repeat' (first | exact trivial | exact rfl | refine And.intro ?_ ?_ | exact intV | exact fzV | exact fvV)); done) | fail) (h2 : ViewHs Hp θ θ Hp' := by
    first | ((repeat' (first | exact trivial | exact rfl | refine And.intro ?_ ?_ | exact ⟨_, rfl⟩ | exact intV | (refine rowV ?_; assumption) | (refine rowV ?_; (apply Eq.symm); assumption) | exact fzV | exact fvV)); done) | fail) (h3 : idO m0 0 θ = true := by rfl) (h4 : ndO θ = true := by rfl) : Back m0 θ T Hp T' Hp' := ⟨h1, h2, h3, h4⟩
end
end Go.SX
namespace Go.SX
variable {C : Cod}
theorem loop_upT {D : Codec C} {m0 : Nat} {R : Kont C} {body : Code} {k : List (It C)} {T : List (SV C)} {Hp : List (HS C)} {γ : Type} (θ0 : List (Option Nat)) (I : γ → List (Nat × SV C)) (U : γ → List (Nat × HS C)) (good : γ → Prop) (μ : γ → Nat) (g0 : γ) (h0 : good g0) (hent : Back m0 θ0 T Hp (headT body T (I g0)) (setCs Hp (U g0)))
  (hround : ∀ g, good g → ∀ K : List (SV C) → List (HS C) → Prop, (∀ g' θ T' Hp', Side (good g') → Side (μ g' < μ g) → Back m0 θ T' Hp' (headT body T (I g')) (setCs Hp (U g')) → K T' Hp') →
   forceV (headT body T (I g)) fun T1 => setCsK Hp (U g) fun Hp1 => R (.code body :: .endLoop K :: k) T1 Hp1) : LoopX D m0 R body k T Hp := by
 refine loop_inv I (fun g => setCs Hp (U g)) good μ g0 h0 θ0 hent fun g hg K hK => ?_
 have := hround g hg K hK
 rw [forceV_eq, setCsK_eq] at this
 rw [forceV_eq, forceL_eq]
 exact this
end Go.SX
