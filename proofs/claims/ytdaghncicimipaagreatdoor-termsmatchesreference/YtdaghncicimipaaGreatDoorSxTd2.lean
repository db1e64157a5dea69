/-
  Walks: Td2, Td3, Tp6, Tp7, Tp8, Td4: what single functions of the program compute.
-/
import Derived.Test.YtdaghncicimipaaGreatDoorSxTc1
namespace Go.SX
open Go.Proofs
set_option linter.unusedSimpArgs false
set_option linter.unusedVariables false
set_option maxHeartbeats 4000000
set_option maxRecDepth 100000
@[reducible] def meanR (s : Sen) : SV Cd := match s with
  | none => .tuple [iS 0, lS [], bS false]
  | some (p, im) => .tuple [iS p, lS im, bS true]
theorem meanR_cases (s : Sen) : ∃ p im b, meanR s = .tuple [iS p, lS im, bS b] := by
  cases s with
  | none => exact ⟨_, _, _, rfl⟩
  | some x => exact ⟨_, _, _, rfl⟩
/-- what a list of places stands for -/
structure AtOK (l : List Event) (js : List Int) (m : List Event) : Prop where
  len : m.length = js.length
  get : ∀ i : Nat, i < js.length → l.getD (js.getD i (Cd.dflt U.int)).toNat (Cd.dflt U.event) = m.getD i (U.dflt .event)
  bd : ∀ i : Nat, i < js.length → 0 ≤ js.getD i (Cd.dflt U.int) ∧ js.getD i (Cd.dflt U.int) < l.length
  jl : js.length ≤ l.length
theorem at_seen (g : Goal) (l : List Event) : AtOK l (idxN (seesB g) (U.dflt .event) l l.length) (seenS g l) := by
  have hjm := idxN_map (seesB g) (U.dflt .event) l l.length (Nat.le_refl _)
  have hj := fun j (hj : j ∈ idxN (seesB g) (U.dflt .event) l l.length) => idxN_mem hj
  rw [List.take_length] at hjm
  have hma : seenS g l = atI l (idxN (seesB g) (U.dflt .event) l l.length) := hjm.symm
  refine ⟨by rw [hma]; simp [atI], fun i hi => ?_, fun i hi => ?_, idxN_len _ _ _ _⟩
  · rw [hma]; exact atI_get l hi
  · have := hj _ (List.mem_of_getElem? (getD_some (d := Cd.dflt U.int) hi))
    rw [Int.toNat_natCast] at this
    exact this
theorem rmeans1 (g : Goal) (hk : g.kind = 1) (hg : GLen g) (l : List Event) (h : EvsOK l) : Meets Tryz.prog Dc 39 [goalA g, eS l] [] (meanR (seeM g l)) [] := by
  have hl := h.len
  have h1 := rseen g hg l hl h.el
  have ha := at_seen g l
  unfold seeM
  generalize idxN (seesB g) (U.dflt .event) l l.length = js at *
  generalize seenS g l = m at *
  have hml := ha.len
  cases m with
  | nil =>
    obtain rfl : js = [] := List.length_eq_zero_iff.1 (by simpa using hml.symm)
    refine meets_of_gx Ax tab_ok Tryz.func39 (c := _) rfl Tryz.call39 400 ?_
    (repeat' ((conv => whnf); first | (exfalso; omega) | refine cpC (h1) ?_ | refine dpC (h1) ?_ | refine x0C ?_ | refine spC (fun hb => ?_) fun hb => ?_ | refine nilC (fun hb => ?_) ?_ | refine taC ?_ | refine saC ?_ | exact sdV | refine side_and ?_ ?_ | refine drawX_of mixed ?_))
    all_goals exact vwV
  | cons a m =>
    have h0 : 0 < js.length := by rw [← hml]; simp
    have hA := ha.get 0 h0
    have hb := ha.bd 0 h0
    have hA2 : (l.getD (js.getD (Int.toNat 0) (Cd.dflt U.int)).toNat (Cd.dflt U.event)).image = a.image := congrArg Event.image hA
    have hb2 : 0 ≤ js.getD (Int.toNat 0) (Cd.dflt U.int) ∧ js.getD (Int.toNat 0) (Cd.dflt U.int) < l.length := hb
    dsimp only
    rw [← hA2]
    refine meets_of_gx Ax tab_ok Tryz.func39 (c := _) rfl Tryz.call39 400 ?_
    (repeat' ((conv => whnf); first | (exfalso; omega) | refine cpC (h1) ?_ | refine dpC (h1) ?_ | refine x0C ?_ | refine spC (fun hb => ?_) fun hb => ?_ | refine nilC (fun hb => ?_) ?_ | refine taC ?_ | refine saC ?_ | exact sdV | refine side_and ?_ ?_ | refine drawX_of mixed ?_))
    all_goals exact vwV
theorem rmeans4 (g : Goal) (hk : g.kind = 4) (hk1 : (g.kids.length : Int) = 1) (hw : 0 ≤ g.within ∧ g.within ≤ 1000000) (l : List Event) (h : EvsOK l) (s : Sen) (hs : Meets Tryz.prog Dc 39 [goalA (kid0 g.kids), eS (restE l g.within)] [] (meanR s) []) : Meets Tryz.prog Dc 39 [goalA g, eS l] [] (meanR s) [] := by
  have h1 := rleft l g.within h.len h.i64 hw
  obtain ⟨p, im, b, e⟩ := meanR_cases s
  rw [e] at hs ⊢
  refine meets_of_gx Ax tab_ok Tryz.func39 (c := _) rfl Tryz.call39 400 ?_
  (repeat' ((conv => whnf); first | (exfalso; omega) | refine cpC (h1) ?_ | refine dpC (h1) ?_ | refine cpC (hs) ?_ | refine dpC (hs) ?_ | refine x0C ?_ | refine spC (fun hb => ?_) fun hb => ?_ | refine nilC (fun hb => ?_) ?_ | refine taC ?_ | refine saC ?_ | exact sdV | refine side_and ?_ ?_ | refine drawX_of mixed ?_))
  all_goals exact vwV
theorem rmeans3 (g : Goal) (hk : g.kind = 3) (hk1 : (g.kids.length : Int) = 1) (hdy : 0 ≤ g.days ∧ g.days ≤ 60) (hfr : 0 ≤ g.from_ ∧ g.from_ ≤ 1000000) (hti : 1 ≤ g.times ∧ g.times ≤ 6) (hg : GLen (kid0 g.kids)) (l : List Event) (h : EvsOK l) : Meets Tryz.prog Dc 39 [goalA g, eS l] [] (meanR (everyM g l)) [] := by
  have h1 := rrun g hk1 hdy hfr hti hg l h
  have hl := h.len
  unfold everyM
  rw [takeS_T]
  have hts := takeS_len g (seenS (kid0 g.kids) l) g.times none
  rw [takeS_T] at hts
  generalize takeT g (seenS (kid0 g.kids) l) g.times none = w at *
  obtain ⟨r, ok⟩ := w
  cases ok with
  | false =>
    refine meets_of_gx Ax tab_ok Tryz.func39 (c := _) rfl Tryz.call39 400 ?_
    (repeat' ((conv => whnf); first | (exfalso; omega) | refine cpC (h1) ?_ | refine dpC (h1) ?_ | refine x0C ?_ | refine spC (fun hb => ?_) fun hb => ?_ | refine nilC (fun hb => ?_) ?_ | refine taC ?_ | refine saC ?_ | exact sdV | refine side_and ?_ ?_ | refine drawX_of mixed ?_))
    all_goals exact vwV
  | true =>
    have hrl := hts r (by omega) rfl
    have h1' : Meets Tryz.prog Dc 63 [goalA g, eS l] [] (.tuple [lS r, bS true]) [] := h1
    refine meets_of_gx Ax tab_ok Tryz.func39 (c := _) rfl Tryz.call39 400 ?_
    (repeat' ((conv => whnf); first | (exfalso; omega) | refine cpC (h1') ?_ | refine dpC (h1') ?_ | refine x0C ?_ | refine spC (fun hb => ?_) fun hb => ?_ | refine nilC (fun hb => ?_) ?_ | refine taC ?_ | refine saC ?_ | exact sdV | refine side_and ?_ ?_ | refine drawX_of mixed ?_))
    refine loop_upT [some 0] (fun q : Nat × List Int => [(15, lS q.2), (16, iS q.1)]) (fun _ => []) (fun q => q.1 ≤ r.length ∧ q.2 = setS (r.take q.1)) (fun q => r.length - q.1) (0, []) ⟨Nat.zero_le _, by simp [setS]⟩ (by exact bkI) ?_
    rintro ⟨i, out⟩ ⟨hi, ho⟩ K hK
    dsimp only at hi ho hK ⊢
    rcases Nat.lt_or_ge i r.length with hlt | hge
    · have hol : out.length ≤ i := by rw [ho]; exact Nat.le_trans len_setS (by simp; omega)
      have hp := rput out (r.getD (i : Int).toNat (Cd.dflt U.int)) (by omega)
      have hs : putS out (r.getD (i : Int).toNat (Cd.dflt U.int)) = setS (r.take (i + 1)) := by
        rw [take_getD (d := 0) hlt, ho]
        unfold setS
        rw [List.foldl_append]; rfl
      (repeat' ((conv => whnf); first | (exfalso; omega) | refine cpC (hp) ?_ | refine dpC (hp) ?_ | refine hK (i + 1, putS out (r.getD (i : Int).toNat (Cd.dflt U.int))) [some 0] _ _ ⟨⟨by dsimp only; omega, hs⟩⟩ ⟨by dsimp only; omega⟩ (by exact bkI) | refine x0C ?_ | refine spC (fun hb => ?_) fun hb => ?_ | refine nilC (fun hb => ?_) ?_ | refine taC ?_ | refine saC ?_ | exact sdV | refine side_and ?_ ?_ | refine drawX_of mixed ?_))
    · rw [List.take_of_length_le hge] at ho
      rw [show (if (r, true).2 = true then some (r, true).1 else none) = some r from rfl]
      dsimp only
      rw [← ho]
      (repeat' ((conv => whnf); first | (exfalso; omega) | refine x0C ?_ | refine spC (fun hb => ?_) fun hb => ?_ | refine nilC (fun hb => ?_) ?_ | refine taC ?_ | refine saC ?_ | exact sdV | refine side_and ?_ ?_ | refine drawX_of mixed ?_))
      all_goals exact vwV
theorem rmeans2 (g : Goal) (hk : g.kind = 2) (hk1 : (g.kids.length : Int) = 1) (hg : GLen (kid0 g.kids)) (l : List Event) (h : EvsOK l) : Meets Tryz.prog Dc 39 [goalA g, eS l] [] (meanR (pairM g l)) [] := by
  have hl := h.len
  have h1 := rseen (kid0 g.kids) hg l hl h.el
  have ha := at_seen (kid0 g.kids) l
  have hE : EvsOK (seenS (kid0 g.kids) l) := evs_sub h (fun e he => (List.mem_filter.1 he).1) (List.length_filter_le _ _)
  unfold pairM
  generalize idxN (seesB (kid0 g.kids)) (U.dflt .event) l l.length = js at *
  generalize seenS (kid0 g.kids) l = m at *
  have hml := ha.len
  have hjl := ha.jl
  refine meets_of_gx Ax tab_ok Tryz.func39 (c := _) rfl Tryz.call39 400 ?_
  (repeat' ((conv => whnf); first | (exfalso; omega) | refine cpC (h1) ?_ | refine dpC (h1) ?_ | refine x0C ?_ | refine spC (fun hb => ?_) fun hb => ?_ | refine nilC (fun hb => ?_) ?_ | refine taC ?_ | refine saC ?_ | exact sdV | refine side_and ?_ ?_ | refine drawX_of mixed ?_))
  refine loop_upT [some 0] (fun i : Nat => [(9, iS i)]) (fun _ => []) (fun i => i ≤ m.length ∧ pairS g m = pairS g (m.drop i)) (fun i => m.length - i) 0 ⟨Nat.zero_le _, by simp⟩ (by exact bkI) ?_
  rintro i ⟨hi, he⟩ K hK
  rcases Nat.lt_or_ge i m.length with hlt | hge
  · have hgi := getD_some (d := Cd.dflt U.event) hlt
    have hd := drop_getD (d := U.dflt .event) hlt
    rw [hd, pairS_cons] at he
    have hA : l.getD (js.getD (i : Int).toNat (Cd.dflt U.int)).toNat (Cd.dflt U.event) = m.getD i (U.dflt .event) := ha.get i (by omega)
    have hbA : 0 ≤ js.getD (i : Int).toNat (Cd.dflt U.int) ∧ js.getD (i : Int).toNat (Cd.dflt U.int) < l.length := ha.bd i (by omega)
    have ha1 := hE.i64 _ (List.mem_of_getElem? hgi)
    have ha2 := hE.look _ (List.mem_of_getElem? hgi)
    have hAs : m.getD (i : Int).toNat (Cd.dflt U.event) = m.getD i (U.dflt .event) := rfl
    rw [hAs, ← hA] at ha1 ha2
    unfold I64d at ha1
    (repeat' ((conv => whnf); first | (exfalso; omega) | refine x0C ?_ | refine spC (fun hb => ?_) fun hb => ?_ | refine nilC (fun hb => ?_) ?_ | refine taC ?_ | refine saC ?_ | exact sdV | refine side_and ?_ ?_ | refine drawX_of mixed ?_))
    refine loop_upT [some 0] (fun t : Nat => [(10, iS ((i : Int) + 1 + t))]) (fun _ => []) (fun t => t ≤ m.length - (i + 1) ∧ ((m.drop (i + 1)).take t).any (pfB g (m.getD i (U.dflt .event))) = false) (fun t => m.length - (i + 1) - t) 0 ⟨Nat.zero_le _, by simp⟩ (by exact bkI) ?_
    rintro t ⟨ht, hany⟩ K2 hK2
    rcases Nat.lt_or_ge t (m.length - (i + 1)) with hlt2 | hge2
    · have ek : ((i : Int) + 1 + t).toNat = i + 1 + t := by omega
      have hB : l.getD (js.getD ((i : Int) + 1 + t).toNat (Cd.dflt U.int)).toNat (Cd.dflt U.event) = m.getD (i + 1 + t) (U.dflt .event) := by rw [ek]; exact ha.get _ (by omega)
      have hbB : 0 ≤ js.getD ((i : Int) + 1 + t).toNat (Cd.dflt U.int) ∧ js.getD ((i : Int) + 1 + t).toNat (Cd.dflt U.int) < l.length := by rw [ek]; exact ha.bd _ (by omega)
      have hgk := getD_some (d := Cd.dflt U.event) (show i + 1 + t < m.length by omega)
      have hb1 := hE.i64 _ (List.mem_of_getElem? hgk)
      have hb2 := hE.look _ (List.mem_of_getElem? hgk)
      have hBs : m.getD ((i + 1 + t : Nat) : Int).toNat (Cd.dflt U.event) = m.getD (i + 1 + t) (U.dflt .event) := rfl
      rw [hBs, ← hB] at hb1 hb2
      unfold I64d at hb1
      have hgd : (m.drop (i + 1))[t]? = some (m.getD (i + 1 + t) (U.dflt .event)) := by rw [List.getElem?_drop]; exact hgk
      have hp : pfB g (m.getD i (U.dflt .event)) (m.getD (i + 1 + t) (U.dflt .event)) = (decide (g.low ≤ gapS (l.getD (js.getD (i : Int).toNat (Cd.dflt U.int)).toNat (Cd.dflt U.event)).look (l.getD (js.getD ((i : Int) + 1 + t).toNat (Cd.dflt U.int)).toNat (Cd.dflt U.event)).look) && decide (gapS (l.getD (js.getD (i : Int).toNat (Cd.dflt U.int)).toNat (Cd.dflt U.event)).at_ (l.getD (js.getD ((i : Int) + 1 + t).toNat (Cd.dflt U.int)).toNat (Cd.dflt U.event)).at_ ≤ g.within)) := by rw [hA, hB]; rfl
      have hg1 := raway (l.getD (js.getD (i : Int).toNat (Cd.dflt U.int)).toNat (Cd.dflt U.event)).look (l.getD (js.getD ((i : Int) + 1 + t).toNat (Cd.dflt U.int)).toNat (Cd.dflt U.event)).look (by omega) (by omega)
      have hg2 := raway (l.getD (js.getD (i : Int).toNat (Cd.dflt U.int)).toNat (Cd.dflt U.event)).at_ (l.getD (js.getD ((i : Int) + 1 + t).toNat (Cd.dflt U.int)).toNat (Cd.dflt U.event)).at_ (by omega) (by omega)
      have hpt := rput [(l.getD (js.getD (i : Int).toNat (Cd.dflt U.int)).toNat (Cd.dflt U.event)).image] (l.getD (js.getD ((i : Int) + 1 + t).toNat (Cd.dflt U.int)).toNat (Cd.dflt U.event)).image (by simp)
      have n1 : ¬ (g.low ≤ gapS (l.getD (js.getD (i : Int).toNat (Cd.dflt U.int)).toNat (Cd.dflt U.event)).look (l.getD (js.getD ((i : Int) + 1 + t).toNat (Cd.dflt U.int)).toNat (Cd.dflt U.event)).look) → pfB g (m.getD i (U.dflt .event)) (m.getD (i + 1 + t) (U.dflt .event)) = false := fun h => by rw [hp, decide_eq_false h]; rfl
      have n2 : ¬ (gapS (l.getD (js.getD (i : Int).toNat (Cd.dflt U.int)).toNat (Cd.dflt U.event)).at_ (l.getD (js.getD ((i : Int) + 1 + t).toNat (Cd.dflt U.int)).toNat (Cd.dflt U.event)).at_ ≤ g.within) → pfB g (m.getD i (U.dflt .event)) (m.getD (i + 1 + t) (U.dflt .event)) = false := fun h => by rw [hp, decide_eq_false h, Bool.and_false]
      have hx : pfB g (m.getD i (U.dflt .event)) (m.getD (i + 1 + t) (U.dflt .event)) = true → pairS g m = some (l.getD (js.getD (i : Int).toNat (Cd.dflt U.int)).toNat (Cd.dflt U.event), l.getD (js.getD ((i : Int) + 1 + t).toNat (Cd.dflt U.int)).toNat (Cd.dflt U.event)) := fun h => by rw [he, find_hit hgd h hany, hA, hB]
      (repeat' ((conv => whnf); first | (exfalso; omega) | refine cpC (hg1) ?_ | refine dpC (hg1) ?_ | refine cpC (hg2) ?_ | refine dpC (hg2) ?_ | (refine frzC [some 0, some 1, some 2, none] [(104, .any)] [(3, .rows U.int [])] [lS [(l.getD (js.getD (i : Int).toNat (Cd.dflt U.int)).toNat (Cd.dflt U.event)).image], iS (l.getD (js.getD ((i : Int) + 1 + t).toNat (Cd.dflt U.int)).toNat (Cd.dflt U.event)).image] (by exact bkV) (by exact snV) ?_; (conv => whnf); refine cpC hpt ?_) | refine hK2 (t + 1) [some 0] _ _ ⟨⟨by omega, any_take_succ hgd (by first | exact n1 (by assumption) | exact n2 (by assumption)) hany⟩⟩ ⟨by omega⟩ (by exact bkI) | refine x0C ?_ | refine spC (fun hb => ?_) fun hb => ?_ | refine nilC (fun hb => ?_) ?_ | refine taC ?_ | refine saC ?_ | exact sdV | refine side_and ?_ ?_ | refine drawX_of mixed ?_))
      all_goals (rw [hx (by rw [hp, decide_eq_true (by assumption), decide_eq_true (by assumption)]; rfl)]; exact vwV)
    · have hn := find_miss (any_take_end (by simp; omega) hany)
      rw [hn] at he
      (repeat' ((conv => whnf); first | (exfalso; omega) | refine hK (i + 1) [some 0] _ _ ⟨⟨by omega, he⟩⟩ ⟨by omega⟩ (by exact bkI) | refine x0C ?_ | refine spC (fun hb => ?_) fun hb => ?_ | refine nilC (fun hb => ?_) ?_ | refine taC ?_ | refine saC ?_ | exact sdV | refine side_and ?_ ?_ | refine drawX_of mixed ?_))
  · rw [he, List.drop_of_length_le hge, pairS]
    (repeat' ((conv => whnf); first | (exfalso; omega) | refine x0C ?_ | refine spC (fun hb => ?_) fun hb => ?_ | refine nilC (fun hb => ?_) ?_ | refine taC ?_ | refine saC ?_ | exact sdV | refine side_and ?_ ?_ | refine drawX_of mixed ?_))
    all_goals exact vwV
theorem rmeans5 (g : Goal) (hk : g.kind = 5) (d n : Int) (l : List Event) (hsz : sizeL g.kids d = some n) (hn : n ≤ 1000) (hkl : (g.kids.length : Int) ≤ 1000000) (hs : ∀ k ∈ g.kids, Meets Tryz.prog Dc 39 [goalA k, eS l] [] (meanR (meanG k l)) []) : Meets Tryz.prog Dc 39 [goalA g, eS l] [] (meanR (meanAll g.kids l 0 [])) [] := by
  refine meets_of_gx Ax tab_ok Tryz.func39 (c := _) rfl Tryz.call39 400 ?_
  (repeat' ((conv => whnf); first | (exfalso; omega) | refine x0C ?_ | refine spC (fun hb => ?_) fun hb => ?_ | refine nilC (fun hb => ?_) ?_ | refine taC ?_ | refine saC ?_ | exact sdV | refine side_and ?_ ?_ | refine drawX_of mixed ?_))
  refine loop_upT [some 0] (fun q : Nat × Int × List Int => [(17, iS q.2.1), (18, lS q.2.2), (19, iS q.1)]) (fun _ => []) (fun q => q.1 ≤ g.kids.length ∧ meanAll (g.kids.take q.1) l 0 [] = some (q.2.1, q.2.2) ∧ Asc q.2.2) (fun q => g.kids.length - q.1) (0, 0, []) ⟨Nat.zero_le _, by rw [List.take_zero, meanAll], trivial⟩ (by exact bkI) ?_
  rintro ⟨i, p, im⟩ ⟨hi, hm, hasc⟩ K hK
  dsimp only at hi hm hasc hK ⊢
  rcases Nat.lt_or_ge i g.kids.length with hlt | hge
  · have hgi := getD_some (d := Cd.dflt U.goal) hlt
    have hkm := List.mem_of_getElem? hgi
    have hx := hs _ hkm
    obtain ⟨k0, hk1, hk2⟩ := sizeL_mem hsz hkm
    obtain ⟨n0, hn1, hn2⟩ := sizeL_take i hsz
    have hb0 := all_bound _ _ _ _ _ _ _ _ hn1 hm
    have hsn := meanAll_snoc (g.kids.take i) (g.kids.getD (i : Int).toNat (Cd.dflt U.goal)) l 0 []
    rw [show g.kids.take i ++ [g.kids.getD (i : Int).toNat (Cd.dflt U.goal)] = g.kids.take (i + 1) from (take_getD hlt).symm, hm] at hsn
    dsimp only at hsn
    cases hr : meanG (g.kids.getD (i : Int).toNat (Cd.dflt U.goal)) l with
    | none =>
      rw [hr] at hx
      rw [meanAll_bad ⟨_, hkm, hr⟩]
      (repeat' ((conv => whnf); first | (exfalso; omega) | refine cpC (hx) ?_ | refine dpC (hx) ?_ | refine x0C ?_ | refine spC (fun hb => ?_) fun hb => ?_ | refine nilC (fun hb => ?_) ?_ | refine taC ?_ | refine saC ?_ | exact sdV | refine side_and ?_ ?_ | refine drawX_of mixed ?_))
      all_goals exact vwV
    | some w =>
      obtain ⟨r, jm⟩ := w
      rw [hr] at hx hsn
      dsimp only at hsn
      have hb1 := mean_bound _ _ _ _ _ _ hk1 hr
      simp only [List.length_nil] at hb0
      rw [← addS_asc hasc] at hsn
      (repeat' ((conv => whnf); first | (exfalso; omega) | refine cpC (hx) ?_ | refine dpC (hx) ?_ | refine x0C ?_ | refine spC (fun hb => ?_) fun hb => ?_ | refine nilC (fun hb => ?_) ?_ | refine taC ?_ | refine saC ?_ | exact sdV | refine side_and ?_ ?_ | refine drawX_of mixed ?_))
      refine loop_upT [some 0] (fun q : Nat × List Int => [(18, lS q.2), (23, iS q.1)]) (fun _ => []) (fun q => q.1 ≤ jm.length ∧ q.2 = addS im (jm.take q.1)) (fun q => jm.length - q.1) (0, im) ⟨Nat.zero_le _, by simp [addS]⟩ (by exact bkI) ?_
      rintro ⟨k, o⟩ ⟨hk3, ho⟩ K2 hK2
      dsimp only at hk3 ho hK2 ⊢
      rcases Nat.lt_or_ge k jm.length with hlt2 | hge2
      · have hol : o.length ≤ im.length + k := by rw [ho]; exact Nat.le_trans len_addS (by simp; omega)
        have hp := rput o (jm.getD (k : Int).toNat (Cd.dflt U.int)) (by omega)
        have hs2 : putS o (jm.getD (k : Int).toNat (Cd.dflt U.int)) = addS im (jm.take (k + 1)) := by
          rw [take_getD (d := 0) hlt2, ho]
          unfold addS
          rw [List.foldl_append]; rfl
        (repeat' ((conv => whnf); first | (exfalso; omega) | refine cpC (hp) ?_ | refine dpC (hp) ?_ | refine hK2 (k + 1, putS o (jm.getD (k : Int).toNat (Cd.dflt U.int))) [some 0] _ _ ⟨⟨by dsimp only; omega, hs2⟩⟩ ⟨by dsimp only; omega⟩ (by exact bkI) | refine x0C ?_ | refine spC (fun hb => ?_) fun hb => ?_ | refine nilC (fun hb => ?_) ?_ | refine taC ?_ | refine saC ?_ | exact sdV | refine side_and ?_ ?_ | refine drawX_of mixed ?_))
      · rw [List.take_of_length_le hge2] at ho
        rw [← ho] at hsn
        have hao : Asc o := by rw [ho]; exact asc_addS hasc
        (repeat' ((conv => whnf); first | (exfalso; omega) | refine hK (i + 1, p + r, o) [some 0] _ _ ⟨⟨by dsimp only; omega, hsn, hao⟩⟩ ⟨by dsimp only; omega⟩ (by exact bkI) | refine x0C ?_ | refine spC (fun hb => ?_) fun hb => ?_ | refine nilC (fun hb => ?_) ?_ | refine taC ?_ | refine saC ?_ | exact sdV | refine side_and ?_ ?_ | refine drawX_of mixed ?_))
  · rw [List.take_of_length_le hge] at hm
    rw [hm]
    (repeat' ((conv => whnf); first | (exfalso; omega) | refine x0C ?_ | refine spC (fun hb => ?_) fun hb => ?_ | refine nilC (fun hb => ?_) ?_ | refine taC ?_ | refine saC ?_ | exact sdV | refine side_and ?_ ?_ | refine drawX_of mixed ?_))
    all_goals exact vwV
theorem rmeans6 (g : Goal) (hk : g.kind = 6) (d n : Int) (l : List Event) (hsz : sizeL g.kids d = some n) (hn : n ≤ 1000) (hkl : (g.kids.length : Int) ≤ 1000000) (hcl : g.cents.length = g.kids.length) (hcb : ∀ c ∈ g.cents, 0 ≤ c ∧ c ≤ 1000000000) (hs : ∀ k ∈ g.kids, Meets Tryz.prog Dc 39 [goalA k, eS l] [] (meanR (meanG k l)) []) : Meets Tryz.prog Dc 39 [goalA g, eS l] [] (meanR (meanAny g.kids g.cents l none)) [] := by
  refine meets_of_gx Ax tab_ok Tryz.func39 (c := _) rfl Tryz.call39 400 ?_
  (repeat' ((conv => whnf); first | (exfalso; omega) | refine x0C ?_ | refine spC (fun hb => ?_) fun hb => ?_ | refine nilC (fun hb => ?_) ?_ | refine taC ?_ | refine saC ?_ | exact sdV | refine side_and ?_ ?_ | refine drawX_of mixed ?_))
  refine loop_upT [some 0] (fun q : Nat × Bool × Int × List Int => [(24, iS q.2.2.1), (25, lS q.2.2.2), (26, iS q.1)]) (fun _ => []) (fun q => q.1 ≤ g.kids.length ∧ meanAny (g.kids.take q.1) g.cents l none = senB q.2.1 q.2.2.1 q.2.2.2 ∧ (q.2.1 = false → q.2.2.1 = -1 ∧ q.2.2.2 = [])) (fun q => g.kids.length - q.1) (0, false, -1, []) ⟨Nat.zero_le _, by rw [List.take_zero, meanAny]; rfl, fun _ => ⟨rfl, rfl⟩⟩ (by exact bkI) ?_
  rintro ⟨i, b, p, im⟩ ⟨hi, hm, h0⟩ K hK
  dsimp only at hi hm h0 hK ⊢
  have hpb : b = true → 0 ≤ p ∧ p ≤ 2000000000000 := by
    rintro rfl
    obtain ⟨n0, hn1, hn2⟩ := sizeL_take i hsz
    rcases any_bound _ _ _ _ _ _ _ _ hn1 hcb (hm.trans (by unfold senB; rw [if_pos rfl])) with h | h
    · cases h
    · omega
  rcases Nat.lt_or_ge i g.kids.length with hlt | hge
  · have hgi := getD_some (d := Cd.dflt U.goal) hlt
    have hkm := List.mem_of_getElem? hgi
    have hx := hs _ hkm
    obtain ⟨k0, hk1, hk2⟩ := sizeL_mem hsz hkm
    have hsn := meanAny_snoc (g.kids.take i) (g.kids.getD (i : Int).toNat (Cd.dflt U.goal)) l g.cents none
    rw [show g.kids.take i ++ [g.kids.getD (i : Int).toNat (Cd.dflt U.goal)] = g.kids.take (i + 1) from (take_getD hlt).symm, hm, List.length_take, Nat.min_eq_left hi] at hsn
    have hci := hcb _ (List.mem_of_getElem? (getD_some (d := Cd.dflt U.int) (show i < g.cents.length by omega)))
    have hcg : g.cents.getD (i : Int).toNat (Cd.dflt U.int) = g.cents.getD i 0 := rfl
    cases hr : meanG (g.kids.getD (i : Int).toNat (Cd.dflt U.goal)) l with
    | none =>
      rw [hr] at hx hsn
      (repeat' ((conv => whnf); first | (exfalso; omega) | refine cpC (hx) ?_ | refine dpC (hx) ?_ | refine hK (i + 1, b, p, im) [some 0] _ _ ⟨⟨by dsimp only; omega, hsn, h0⟩⟩ ⟨by dsimp only; omega⟩ (by exact bkI) | refine x0C ?_ | refine spC (fun hb => ?_) fun hb => ?_ | refine nilC (fun hb => ?_) ?_ | refine taC ?_ | refine saC ?_ | exact sdV | refine side_and ?_ ?_ | refine drawX_of mixed ?_))
    | some w =>
      obtain ⟨r, jm⟩ := w
      rw [hr] at hx hsn
      have hb1 := mean_bound _ _ _ _ _ _ hk1 hr
      cases b with
      | false =>
        obtain ⟨rfl, rfl⟩ := h0 rfl
        (repeat' ((conv => whnf); first | (exfalso; omega) | refine cpC (hx) ?_ | refine dpC (hx) ?_ | refine hK (i + 1, true, r + g.cents.getD (i : Int).toNat (Cd.dflt U.int), jm) [some 0] _ _ ⟨⟨by dsimp only; omega, hsn, fun h => by cases h⟩⟩ ⟨by dsimp only; omega⟩ (by exact bkI) | refine x0C ?_ | refine spC (fun hb => ?_) fun hb => ?_ | refine nilC (fun hb => ?_) ?_ | refine taC ?_ | refine saC ?_ | exact sdV | refine side_and ?_ ?_ | refine drawX_of mixed ?_))
      | true =>
        have hpb := hpb rfl
        by_cases hlt2 : r + g.cents.getD (i : Int).toNat (Cd.dflt U.int) < p
        · have hsn2 : meanAny (g.kids.take (i + 1)) g.cents l none = senB true (r + g.cents.getD (i : Int).toNat (Cd.dflt U.int)) jm := by rw [hsn]; unfold stepAny senB; simp only [if_true]; exact if_pos hlt2
          (repeat' ((conv => whnf); first | (exfalso; omega) | refine cpC (hx) ?_ | refine dpC (hx) ?_ | refine hK (i + 1, true, r + g.cents.getD (i : Int).toNat (Cd.dflt U.int), jm) [some 0] _ _ ⟨⟨by dsimp only; omega, hsn2, fun h => by cases h⟩⟩ ⟨by dsimp only; omega⟩ (by exact bkI) | refine x0C ?_ | refine spC (fun hb => ?_) fun hb => ?_ | refine nilC (fun hb => ?_) ?_ | refine taC ?_ | refine saC ?_ | exact sdV | refine side_and ?_ ?_ | refine drawX_of mixed ?_))
        · have hsn2 : meanAny (g.kids.take (i + 1)) g.cents l none = senB true p im := by rw [hsn]; unfold stepAny senB; simp only [if_true]; exact if_neg hlt2
          (repeat' ((conv => whnf); first | (exfalso; omega) | refine cpC (hx) ?_ | refine dpC (hx) ?_ | refine hK (i + 1, true, p, im) [some 0] _ _ ⟨⟨by dsimp only; omega, hsn2, fun h => by cases h⟩⟩ ⟨by dsimp only; omega⟩ (by exact bkI) | refine x0C ?_ | refine spC (fun hb => ?_) fun hb => ?_ | refine nilC (fun hb => ?_) ?_ | refine taC ?_ | refine saC ?_ | exact sdV | refine side_and ?_ ?_ | refine drawX_of mixed ?_))
  · rw [List.take_of_length_le hge] at hm
    rw [hm]
    cases b with
    | false =>
      obtain ⟨rfl, rfl⟩ := h0 rfl
      (repeat' ((conv => whnf); first | (exfalso; omega) | refine x0C ?_ | refine spC (fun hb => ?_) fun hb => ?_ | refine nilC (fun hb => ?_) ?_ | refine taC ?_ | refine saC ?_ | exact sdV | refine side_and ?_ ?_ | refine drawX_of mixed ?_))
      all_goals exact vwV
    | true =>
      have hpb := hpb rfl
      (repeat' ((conv => whnf); first | (exfalso; omega) | refine x0C ?_ | refine spC (fun hb => ?_) fun hb => ?_ | refine nilC (fun hb => ?_) ?_ | refine taC ?_ | refine saC ?_ | exact sdV | refine side_and ?_ ?_ | refine drawX_of mixed ?_))
      all_goals exact vwV
end Go.SX

namespace Go.SX
open Go.Proofs
set_option linter.unusedSimpArgs false
set_option linter.unusedVariables false
set_option maxHeartbeats 4000000
set_option maxRecDepth 100000
theorem ok_within {g : Goal} (h : okB g = true) (hk : g.kind = 4) : 0 ≤ g.within ∧ g.within ≤ 1000000 := by
  have := (okB_parts h).2.1
  unfold limB at this
  rw [hk] at this
  simp [inB_iff] at this
  omega
theorem rmeans_meets : ∀ (j : Nat) (g : Goal) (d n : Int), 5 - d ≤ j → 1 ≤ d → sizeG g d = some n → GAll g → ∀ (l : List Event), EvsOK l → Meets Tryz.prog Dc 39 [goalA g, eS l] [] (meanR (meanG g l)) [] := by
  intro j
  induction j with
  | zero =>
    intro g d n h1 h2 hs
    have := (size_ok hs).2.1
    omega
  | succ j ih =>
    intro g d n h1 h2 hs hG l hE
    obtain ⟨hok, hd, m, hL, rfl⟩ := size_ok hs
    have hsz := sizeG_bound 4 g d (1 + m) (by omega) hs
    rw [show (5 : Int) ^ 4 = 625 by decide] at hsz
    obtain ⟨hgl, hgk⟩ := (GAll_iff g).1 hG
    have hkids : ∀ k ∈ g.kids, Meets Tryz.prog Dc 39 [goalA k, eS l] [] (meanR (meanG k l)) [] := fun k hk => by
      obtain ⟨x, hx, _⟩ := sizeL_mem hL hk
      exact ih k (d + 1) x (by omega) (by omega) hx (GAllL_mem hgk hk) l hE
    have hkk := (okB_parts hok).1
    rw [meanG_eq]
    have hkb : g.kind = 1 ∨ g.kind = 2 ∨ g.kind = 3 ∨ g.kind = 4 ∨ g.kind = 5 ∨ g.kind = 6 := by omega
    rcases hkb with e | e | e | e | e | e
    · rw [if_pos e]
      exact rmeans1 g e hgl l hE
    · rw [if_neg (by omega), if_pos e]
      have h1 := ok_one hok (by omega) (by omega) (by omega)
      exact rmeans2 g e h1 ((GAll_iff _).1 (GAllL_mem hgk (kid0_mem h1))).1 l hE
    · rw [if_neg (by omega), if_neg (by omega), if_pos e]
      have h1 := ok_one hok (by omega) (by omega) (by omega)
      have h3 := ok_days hok e
      exact rmeans3 g e h1 (by omega) (by omega) (ok_times hok e) ((GAll_iff _).1 (GAllL_mem hgk (kid0_mem h1))).1 l hE
    · rw [if_neg (by omega), if_neg (by omega), if_neg (by omega), if_pos e]
      have h1 := ok_one hok (by omega) (by omega) (by omega)
      rw [meanH_eq _ _ h1]
      obtain ⟨x, hx, _⟩ := sizeL_mem hL (kid0_mem h1)
      exact rmeans4 g e h1 (ok_within hok e) l hE _ (ih _ (d + 1) x (by omega) (by omega) hx (GAllL_mem hgk (kid0_mem h1)) _ (evs_rest hE _))
    · rw [if_neg (by omega), if_neg (by omega), if_neg (by omega), if_neg (by omega), if_pos e]
      have h2 := many_two hok (.inl e)
      exact rmeans5 g e (d + 1) m l hL (by omega) (by omega) hkids
    · rw [if_neg (by omega), if_neg (by omega), if_neg (by omega), if_neg (by omega), if_neg (by omega)]
      have h2 := many_two hok (.inr e)
      have hc : g.cents.length = g.kids.length := by
        have := (okB_parts hok).2.2.2
        unfold centsB at this
        rw [if_pos e] at this
        simp only [Bool.and_eq_true, decide_eq_true_eq] at this
        omega
      exact rmeans6 g e (d + 1) m l hL (by omega) (by omega) hc (ok_cents hok) hkids
theorem rmeans_valid {g : Goal} (hG : GAll g) (hv : validG g = true) {l : List Event} (hE : EvsOK l) : Meets Tryz.prog Dc 39 [goalA g, eS l] [] (meanR (meanG g l)) [] := by
  unfold validG at hv
  split at hv
  · cases hv
  · rename_i n hn
    exact rmeans_meets 4 g 1 n (by omega) (by omega) hn hG l hE
theorem rMet (g : Goal) (hG : GAll g) (l : List Event) (hl : (l.length : Int) ≤ 9223372036854775807) (hE : ∀ e ∈ l, ELen e) : Meets Tryz.prog Dc 15 [goalA g, eS l] [] (.tuple [bS (askS g l).2.2.1, iS (askS g l).2.2.2]) [] := by
  have h1 := valid13 g hG
  have h2 := rvalidE l hl hE
  unfold askS
  cases hv : validG g with
  | false =>
    rw [hv] at h1
    refine meets_of_gx Ax tab_ok Tryz.func15 (c := _) rfl Tryz.call15 100 ?_
    (repeat' ((conv => whnf); first | (exfalso; omega) | refine cpC (h1) ?_ | refine dpC (h1) ?_ | refine cpC (h2) ?_ | refine dpC (h2) ?_ | refine x0C ?_ | refine spC (fun hb => ?_) fun hb => ?_ | refine nilC (fun hb => ?_) ?_ | refine taC ?_ | refine saC ?_ | exact sdV | refine side_and ?_ ?_ | refine drawX_of mixed ?_))
    all_goals exact vwV
  | true =>
    cases hw : validE l with
    | false =>
      rw [hv] at h1
      rw [hw] at h2
      refine meets_of_gx Ax tab_ok Tryz.func15 (c := _) rfl Tryz.call15 100 ?_
      (repeat' ((conv => whnf); first | (exfalso; omega) | refine cpC (h1) ?_ | refine dpC (h1) ?_ | refine cpC (h2) ?_ | refine dpC (h2) ?_ | refine x0C ?_ | refine spC (fun hb => ?_) fun hb => ?_ | refine nilC (fun hb => ?_) ?_ | refine taC ?_ | refine saC ?_ | exact sdV | refine side_and ?_ ?_ | refine drawX_of mixed ?_))
      all_goals exact vwV
    | true =>
      rw [hv] at h1
      rw [hw] at h2
      have h3 := rmeans_valid hG hv (evs_valid hw hE).1
      cases hm : meanG g l with
      | none =>
        rw [hm] at h3
        refine meets_of_gx Ax tab_ok Tryz.func15 (c := _) rfl Tryz.call15 100 ?_
        (repeat' ((conv => whnf); first | (exfalso; omega) | refine cpC (h1) ?_ | refine dpC (h1) ?_ | refine cpC (h2) ?_ | refine dpC (h2) ?_ | refine cpC (h3) ?_ | refine dpC (h3) ?_ | refine x0C ?_ | refine spC (fun hb => ?_) fun hb => ?_ | refine nilC (fun hb => ?_) ?_ | refine taC ?_ | refine saC ?_ | exact sdV | refine side_and ?_ ?_ | refine drawX_of mixed ?_))
        all_goals exact vwV
      | some w =>
        obtain ⟨r, jm⟩ := w
        rw [hm] at h3
        refine meets_of_gx Ax tab_ok Tryz.func15 (c := _) rfl Tryz.call15 100 ?_
        (repeat' ((conv => whnf); first | (exfalso; omega) | refine cpC (h1) ?_ | refine dpC (h1) ?_ | refine cpC (h2) ?_ | refine dpC (h2) ?_ | refine cpC (h3) ?_ | refine dpC (h3) ?_ | refine x0C ?_ | refine spC (fun hb => ?_) fun hb => ?_ | refine nilC (fun hb => ?_) ?_ | refine taC ?_ | refine saC ?_ | exact sdV | refine side_and ?_ ?_ | refine drawX_of mixed ?_))
        all_goals exact vwV
theorem rPrice (g : Goal) (hG : GAll g) (l : List Event) (hl : (l.length : Int) ≤ 9223372036854775807) (hE : ∀ e ∈ l, ELen e) : Meets Tryz.prog Dc 17 [goalA g, eS l] [] (.tuple [iS (askS g l).1, bS (askS g l).2.2.1, iS (askS g l).2.2.2]) [] := by
  have h1 := valid13 g hG
  have h2 := rvalidE l hl hE
  unfold askS
  cases hv : validG g with
  | false =>
    rw [hv] at h1
    refine meets_of_gx Ax tab_ok Tryz.func17 (c := _) rfl Tryz.call17 100 ?_
    (repeat' ((conv => whnf); first | (exfalso; omega) | refine cpC (h1) ?_ | refine dpC (h1) ?_ | refine cpC (h2) ?_ | refine dpC (h2) ?_ | refine x0C ?_ | refine spC (fun hb => ?_) fun hb => ?_ | refine nilC (fun hb => ?_) ?_ | refine taC ?_ | refine saC ?_ | exact sdV | refine side_and ?_ ?_ | refine drawX_of mixed ?_))
    all_goals exact vwV
  | true =>
    cases hw : validE l with
    | false =>
      rw [hv] at h1
      rw [hw] at h2
      refine meets_of_gx Ax tab_ok Tryz.func17 (c := _) rfl Tryz.call17 100 ?_
      (repeat' ((conv => whnf); first | (exfalso; omega) | refine cpC (h1) ?_ | refine dpC (h1) ?_ | refine cpC (h2) ?_ | refine dpC (h2) ?_ | refine x0C ?_ | refine spC (fun hb => ?_) fun hb => ?_ | refine nilC (fun hb => ?_) ?_ | refine taC ?_ | refine saC ?_ | exact sdV | refine side_and ?_ ?_ | refine drawX_of mixed ?_))
      all_goals exact vwV
    | true =>
      rw [hv] at h1
      rw [hw] at h2
      have h3 := rmeans_valid hG hv (evs_valid hw hE).1
      cases hm : meanG g l with
      | none =>
        rw [hm] at h3
        refine meets_of_gx Ax tab_ok Tryz.func17 (c := _) rfl Tryz.call17 100 ?_
        (repeat' ((conv => whnf); first | (exfalso; omega) | refine cpC (h1) ?_ | refine dpC (h1) ?_ | refine cpC (h2) ?_ | refine dpC (h2) ?_ | refine cpC (h3) ?_ | refine dpC (h3) ?_ | refine x0C ?_ | refine spC (fun hb => ?_) fun hb => ?_ | refine nilC (fun hb => ?_) ?_ | refine taC ?_ | refine saC ?_ | exact sdV | refine side_and ?_ ?_ | refine drawX_of mixed ?_))
        all_goals exact vwV
      | some w =>
        obtain ⟨r, jm⟩ := w
        rw [hm] at h3
        refine meets_of_gx Ax tab_ok Tryz.func17 (c := _) rfl Tryz.call17 100 ?_
        (repeat' ((conv => whnf); first | (exfalso; omega) | refine cpC (h1) ?_ | refine dpC (h1) ?_ | refine cpC (h2) ?_ | refine dpC (h2) ?_ | refine cpC (h3) ?_ | refine dpC (h3) ?_ | refine x0C ?_ | refine spC (fun hb => ?_) fun hb => ?_ | refine nilC (fun hb => ?_) ?_ | refine taC ?_ | refine saC ?_ | exact sdV | refine side_and ?_ ?_ | refine drawX_of mixed ?_))
        all_goals exact vwV
theorem rUses (g : Goal) (hG : GAll g) (l : List Event) (hl : (l.length : Int) ≤ 9223372036854775807) (hE : ∀ e ∈ l, ELen e) : Meets Tryz.prog Dc 19 [goalA g, eS l] [] (.tuple [lS (askS g l).2.1, iS (askS g l).2.2.2]) [] := by
  have h1 := valid13 g hG
  have h2 := rvalidE l hl hE
  unfold askS
  cases hv : validG g with
  | false =>
    rw [hv] at h1
    refine meets_of_gx Ax tab_ok Tryz.func19 (c := _) rfl Tryz.call19 100 ?_
    (repeat' ((conv => whnf); first | (exfalso; omega) | refine cpC (h1) ?_ | refine dpC (h1) ?_ | refine cpC (h2) ?_ | refine dpC (h2) ?_ | refine x0C ?_ | refine spC (fun hb => ?_) fun hb => ?_ | refine nilC (fun hb => ?_) ?_ | refine taC ?_ | refine saC ?_ | exact sdV | refine side_and ?_ ?_ | refine drawX_of mixed ?_))
    all_goals exact vwV
  | true =>
    cases hw : validE l with
    | false =>
      rw [hv] at h1
      rw [hw] at h2
      refine meets_of_gx Ax tab_ok Tryz.func19 (c := _) rfl Tryz.call19 100 ?_
      (repeat' ((conv => whnf); first | (exfalso; omega) | refine cpC (h1) ?_ | refine dpC (h1) ?_ | refine cpC (h2) ?_ | refine dpC (h2) ?_ | refine x0C ?_ | refine spC (fun hb => ?_) fun hb => ?_ | refine nilC (fun hb => ?_) ?_ | refine taC ?_ | refine saC ?_ | exact sdV | refine side_and ?_ ?_ | refine drawX_of mixed ?_))
      all_goals exact vwV
    | true =>
      rw [hv] at h1
      rw [hw] at h2
      have h3 := rmeans_valid hG hv (evs_valid hw hE).1
      cases hm : meanG g l with
      | none =>
        rw [hm] at h3
        refine meets_of_gx Ax tab_ok Tryz.func19 (c := _) rfl Tryz.call19 100 ?_
        (repeat' ((conv => whnf); first | (exfalso; omega) | refine cpC (h1) ?_ | refine dpC (h1) ?_ | refine cpC (h2) ?_ | refine dpC (h2) ?_ | refine cpC (h3) ?_ | refine dpC (h3) ?_ | refine x0C ?_ | refine spC (fun hb => ?_) fun hb => ?_ | refine nilC (fun hb => ?_) ?_ | refine taC ?_ | refine saC ?_ | exact sdV | refine side_and ?_ ?_ | refine drawX_of mixed ?_))
        all_goals exact vwV
      | some w =>
        obtain ⟨r, jm⟩ := w
        rw [hm] at h3
        refine meets_of_gx Ax tab_ok Tryz.func19 (c := _) rfl Tryz.call19 100 ?_
        (repeat' ((conv => whnf); first | (exfalso; omega) | refine cpC (h1) ?_ | refine dpC (h1) ?_ | refine cpC (h2) ?_ | refine dpC (h2) ?_ | refine cpC (h3) ?_ | refine dpC (h3) ?_ | refine x0C ?_ | refine spC (fun hb => ?_) fun hb => ?_ | refine nilC (fun hb => ?_) ?_ | refine taC ?_ | refine saC ?_ | exact sdV | refine side_and ?_ ?_ | refine drawX_of mixed ?_))
        all_goals exact vwV
theorem rints (a b : List Int) (ha : (a.length : Int) ≤ 9223372036854775807) (hb : (b.length : Int) ≤ 9223372036854775807) : Meets Tryz.prog Dc 20 [lS a, lS b] [] (bS (decide (a = b))) [] := by
  by_cases hlen : a.length = b.length
  rotate_left
  · rw [decide_eq_false (fun e => hlen (by rw [e]))]
    refine meets_of_gx Ax tab_ok Tryz.func20 (c := _) rfl Tryz.call20 100 ?_
    (repeat' ((conv => whnf); first | refine x0C (eB ?_ rfl) | (exfalso; omega) | refine x0C ?_ | refine spC (fun hb => ?_) fun hb => ?_ | refine nilC (fun hb => ?_) ?_ | refine taC ?_ | refine saC ?_ | exact sdV | refine side_and ?_ ?_ | refine drawX_of mixed ?_))
    all_goals rfl
  · refine meets_of_gx Ax tab_ok Tryz.func20 (c := _) rfl Tryz.call20 100 ?_
    (repeat' ((conv => whnf); first | (exfalso; omega) | refine x0C ?_ | refine spC (fun hb => ?_) fun hb => ?_ | refine nilC (fun hb => ?_) ?_ | refine taC ?_ | refine saC ?_ | exact sdV | refine side_and ?_ ?_ | refine drawX_of mixed ?_))
    refine loop_upT [] (fun i : Nat => [(5, iS i)]) (fun _ => []) (fun i => i ≤ a.length ∧ a.take i = b.take i) (fun i => a.length - i) 0 ⟨Nat.zero_le _, by simp⟩ (by exact bkI) ?_
    rintro i ⟨hi, he⟩ K hK
    rcases Nat.lt_or_ge i a.length with hlt | hge
    · have t1 := take_getD (d := Cd.dflt U.int) hlt
      have t2 := take_getD (d := Cd.dflt U.int) (show i < b.length by omega)
      have hs : a.getD (i : Int).toNat (Cd.dflt U.int) = b.getD (i : Int).toNat (Cd.dflt U.int) → a.take (i + 1) = b.take (i + 1) := fun h => by
        rw [t1, t2, he, show a.getD i (Cd.dflt U.int) = b.getD i (Cd.dflt U.int) from h]
      have hn : ¬ a.getD (i : Int).toNat (Cd.dflt U.int) = b.getD (i : Int).toNat (Cd.dflt U.int) → decide (a = b) = false := fun h => decide_eq_false fun e => h (by rw [e])
      (repeat' ((conv => whnf); first | refine x0C (eB ?_ rfl) | (exfalso; omega) | refine hK (i + 1) [] _ _ ⟨⟨by omega, hs (by assumption)⟩⟩ ⟨by omega⟩ (by exact bkI) | refine x0C ?_ | refine spC (fun hb => ?_) fun hb => ?_ | refine nilC (fun hb => ?_) ?_ | refine taC ?_ | refine saC ?_ | exact sdV | refine side_and ?_ ?_ | refine drawX_of mixed ?_))
      all_goals exact (hn (by assumption)).symm
    · rw [List.take_of_length_le hge, List.take_of_length_le (by omega)] at he
      rw [decide_eq_true he]
      (repeat' ((conv => whnf); first | refine x0C (eB ?_ rfl) | (exfalso; omega) | refine x0C ?_ | refine spC (fun hb => ?_) fun hb => ?_ | refine nilC (fun hb => ?_) ?_ | refine taC ?_ | refine saC ?_ | exact sdV | refine side_and ?_ ?_ | refine drawX_of mixed ?_))
      all_goals rfl
end Go.SX

/-
  Plain law: what is met stays so with further events, and its price does not rise.
-/
namespace Go.SX
set_option linter.unusedSimpArgs false
set_option linter.unusedVariables false
/-! pairs -/
theorem pair_some (g : Goal) : ∀ l : List Event, (∃ a b, [a, b].Sublist l ∧ pfB g a b = true) ↔ (pairS g l).isSome = true
  | [] => by
    simp only [pairS, Option.isSome_none, Bool.false_eq_true, iff_false]
    rintro ⟨a, b, h, _⟩
    cases h
  | c :: l => by
    rw [pairS_cons]
    cases hf : l.find? (pfB g c) with
    | some b =>
      simp only [Option.isSome_some, iff_true]
      obtain ⟨h1, h2⟩ := (List.find?_eq_some_iff_append.1 hf)
      refine ⟨c, b, ?_, h1⟩
      have hb : b ∈ l := List.mem_of_find?_eq_some hf
      exact List.Sublist.cons_cons c (List.singleton_sublist.2 hb)
    | none =>
      rw [← pair_some g l]
      rw [List.find?_eq_none] at hf
      constructor
      · rintro ⟨a, b, h, hp⟩
        cases h with
        | cons _ h => exact ⟨a, b, h, hp⟩
        | cons_cons _ h => exact absurd hp (hf b (List.singleton_sublist.1 h))
      · rintro ⟨a, b, h, hp⟩
        exact ⟨a, b, h.cons _, hp⟩
/-! runs -/
def chainB (g : Goal) : List Event → Prop
  | [] => True
  | [_] => True
  | a :: b :: l => doFollowB g a b = true ∧ chainB g (b :: l)
theorem chain_tail {g : Goal} {a : Event} {l : List Event} (h : chainB g (a :: l)) : chainB g l := by
  cases l with
  | nil => trivial
  | cons b l => exact h.2
theorem chain_take {g : Goal} : ∀ (n : Nat) {l : List Event}, chainB g l → chainB g (l.take n)
  | 0, l, _ => by rw [List.take_zero]; trivial
  | n + 1, [], _ => trivial
  | n + 1, [a], _ => by simp [chainB]
  | 1, a :: b :: l, _ => by simp [chainB]
  | n + 2, a :: b :: l, h => ⟨h.1, chain_take (n + 1) h.2⟩
/-- the longest run from a -/
theorem best_le {g : Goal} {a : Event} : ∀ {ps : List (Event × Int)} {p : Event × Int}, p ∈ ps → doFollowB g a p.1 = true → ∀ m : Int, 1 + p.2 ≤ ps.foldl (fun m p => if doFollowB g a p.1 then max m (1 + p.2) else m) m
  | [], p, h, _, _ => by cases h
  | q :: ps, p, h, hf, m => by
    have mono : ∀ (ps : List (Event × Int)) (m : Int), m ≤ ps.foldl (fun m p => if doFollowB g a p.1 then max m (1 + p.2) else m) m := by
      intro ps
      induction ps with
      | nil => intro m; exact Int.le_refl _
      | cons q ps ih =>
        intro m
        simp only [List.foldl_cons]
        refine Int.le_trans ?_ (ih _)
        split <;> omega
    simp only [List.foldl_cons]
    rcases List.mem_cons.1 h with rfl | h
    · refine Int.le_trans ?_ (mono ps _)
      rw [if_pos hf]; omega
    · exact best_le h hf _
theorem best_get {g : Goal} {a : Event} {ps : List (Event × Int)} {m : Int} : ps.foldl (fun m p => if doFollowB g a p.1 then max m (1 + p.2) else m) m = m ∨ ∃ p ∈ ps, doFollowB g a p.1 = true ∧ ps.foldl (fun m p => if doFollowB g a p.1 then max m (1 + p.2) else m) m = 1 + p.2 := by
  induction ps generalizing m with
  | nil => exact .inl rfl
  | cons q ps ih =>
    simp only [List.foldl_cons]
    by_cases hf : doFollowB g a q.1 = true
    · rw [if_pos hf]
      rcases ih (m := max m (1 + q.2)) with h | ⟨p, h1, h2, h3⟩
      · rw [h]
        rcases Int.le_total m (1 + q.2) with h4 | h4
        · exact .inr ⟨q, by simp, hf, by omega⟩
        · exact .inl (by omega)
      · exact .inr ⟨p, by simp [h1], h2, h3⟩
    · rw [if_neg hf]
      rcases ih (m := m) with h | ⟨p, h1, h2, h3⟩
      · exact .inl h
      · exact .inr ⟨p, by simp [h1], h2, h3⟩
/-- the numbers of longS are lengths of runs -/
theorem long_run (g : Goal) : ∀ (a : Event) (l : List Event), ∃ c, (a :: c).Sublist (a :: l) ∧ chainB g (a :: c) ∧ ((a :: c).length : Int) = (longS g (a :: l)).headD 0 := by
  intro a l
  induction hn : l.length using Nat.strongRecOn generalizing a l with
  | ind n ih =>
    rw [longS_cons]
    simp only [List.headD_cons]
    unfold bestS
    rcases best_get (g := g) (a := a) (ps := l.zip (longS g l)) (m := 1) with h | ⟨p, h1, h2, h3⟩
    · exact ⟨[], by simp, trivial, by rw [h]; rfl⟩
    · rw [h3]
      obtain ⟨i, hi, hp⟩ := List.getElem_of_mem h1
      have hil : i < l.length := by simp [longS_len] at hi; omega
      have hp1 : p.1 = l[i] := by rw [← hp]; simp
      have hp2 : p.2 = (longS g l).getD i 0 := by rw [← hp]; simp [List.getD_eq_getElem?_getD, List.getElem?_eq_getElem (show i < (longS g l).length by rw [longS_len]; exact hil)]
      have hd := List.drop_eq_getElem_cons hil
      obtain ⟨c, c1, c2, c3⟩ := ih (l.drop (i + 1)).length (by simp; omega) l[i] (l.drop (i + 1)) rfl
      rw [← hd, longS_head] at c3
      refine ⟨l[i] :: c, ?_, ⟨by rw [← hp1]; exact h2, c2⟩, ?_⟩
      · refine List.Sublist.cons_cons a (c1.trans ?_)
        rw [← hd]; exact List.drop_sublist i l
      · rw [hp2, ← c3]; simp; omega
/-- .. and no run is longer -/
theorem run_long (g : Goal) : ∀ (n : Nat) (a : Event) (c l : List Event), l.length = n → c.Sublist l → chainB g (a :: c) → ((a :: c).length : Int) ≤ (longS g (a :: l)).headD 0 := by
  intro n
  induction n using Nat.strongRecOn with
  | ind n ih =>
    intro a c l hn hs hc
    rw [longS_cons]
    simp only [List.headD_cons]
    cases c with
    | nil =>
      have := bestS_bound g a l.length (by omega) _ (l.zip (longS g l)) rfl fun p hp => (longS_bound g l p.2 (List.of_mem_zip hp).2).2
      simp; omega
    | cons b c =>
      -- where b stands
      have hb : ∃ i, i < l.length ∧ l[i]? = some b ∧ c.Sublist (l.drop (i + 1)) := by
        clear ih hc hn
        induction l with
        | nil => cases hs
        | cons x l ihl =>
          cases hs with
          | cons _ h =>
            obtain ⟨i, h1, h2, h3⟩ := ihl h
            exact ⟨i + 1, by simp; omega, by simpa using h2, by simpa using h3⟩
          | cons_cons _ h => exact ⟨0, by simp, by simp, by simpa using h⟩
      obtain ⟨i, hi, hbi, hci⟩ := hb
      have hd := List.drop_eq_getElem_cons hi
      have hbe : l[i] = b := by rw [List.getElem?_eq_getElem hi] at hbi; injection hbi
      rw [hbe] at hd
      have h1 := ih (l.drop (i + 1)).length (by simp; omega) b c (l.drop (i + 1)) rfl hci hc.2
      rw [← hd, longS_head] at h1
      have hi2 : i < (longS g l).length := by rw [longS_len]; exact hi
      have hm : (b, (longS g l).getD i 0) ∈ l.zip (longS g l) := by
        rw [List.mem_iff_getElem?]
        refine ⟨i, ?_⟩
        rw [List.getElem?_zip_eq_some]
        exact ⟨hbi, by rw [List.getD_eq_getElem?_getD, List.getElem?_eq_getElem hi2]; rfl⟩
      have h2 := best_le (g := g) (a := a) hm hc.1 1
      unfold bestS
      simp only [List.length_cons] at h1 ⊢
      omega
/-- does a run fit behind what was last? -/
def fitsB (g : Goal) (last : Option Event) : List Event → Prop
  | [] => True
  | a :: _ => nextB g last a = true
theorem take_of_run (g : Goal) : ∀ (l : List Event) (n : Nat) (last : Option Event) (c : List Event), c.Sublist l → c.length = n → chainB g c → fitsB g last c → (takeT g l n last).2 = true
  | l, 0, last, c, _, _, _, _ => by rw [show ((0 : Nat) : Int) = 0 from rfl, takeT_zero]
  | [], n + 1, last, c, hs, hl, _, _ => by rw [List.sublist_nil.1 hs] at hl; cases hl
  | a :: l, n + 1, last, c, hs, hl, hc, hf => by
    by_cases h : ((n + 1 : Nat) : Int) ≤ (longS g (a :: l)).headD 0 ∧ nextB g last a = true
    · rw [takeT_hit g (by omega) h.1 h.2]
      obtain ⟨d, d1, d2, d3⟩ := long_run g a l
      have hd1 : d.Sublist l := List.cons_sublist_cons.1 d1
      have hle : n ≤ d.length := by
        have := h.1; simp only [List.length_cons] at d3; omega
      have hch : chainB g (a :: d.take n) := chain_take (n + 1) d2
      have := take_of_run g l n (some a) (d.take n) ((List.take_sublist n d).trans hd1) (by simp; omega) (chain_tail hch) (by
        cases hx : d.take n with
        | nil => trivial
        | cons b r => rw [hx] at hch; exact hch.1)
      rw [show ((n + 1 : Nat) : Int) - 1 = n by omega]
      exact this
    · have h' : ¬ ((n + 1 : Nat) : Int) ≤ (longS g (a :: l)).headD 0 ∨ nextB g last a = false := by
        by_cases h1 : ((n + 1 : Nat) : Int) ≤ (longS g (a :: l)).headD 0
        · right
          cases hn : nextB g last a with
          | false => rfl
          | true => exact absurd ⟨h1, hn⟩ h
        · exact .inl h1
      rw [takeT_miss g (by omega) h']
      cases hs with
      | cons _ hs => exact take_of_run g l (n + 1) last c hs hl hc hf
      | cons_cons _ hs =>
        rename_i c
        exfalso
        rcases h' with h1 | h1
        · have := run_long g l.length a c l rfl hs hc
          rw [hl] at this; omega
        · rw [show nextB g last a = true from hf] at h1; cases h1
theorem run_of_take (g : Goal) : ∀ (l : List Event) (n : Nat) (last : Option Event), (takeT g l n last).2 = true → ∃ c, c.Sublist l ∧ c.length = n ∧ chainB g c ∧ fitsB g last c ∧ (takeT g l n last).1 = c.map (·.image)
  | l, 0, last, _ => ⟨[], List.nil_sublist _, rfl, trivial, trivial, by rw [show ((0 : Nat) : Int) = 0 from rfl, takeT_zero]; rfl⟩
  | [], n + 1, last, h => by rw [takeT_nil g last (by omega)] at h; cases h
  | a :: l, n + 1, last, h => by
    by_cases h0 : ((n + 1 : Nat) : Int) ≤ (longS g (a :: l)).headD 0 ∧ nextB g last a = true
    · rw [takeT_hit g (by omega) h0.1 h0.2] at h ⊢
      rw [show ((n + 1 : Nat) : Int) - 1 = n by omega] at h ⊢
      obtain ⟨c, c1, c2, c3, c4, c5⟩ := run_of_take g l n (some a) h
      refine ⟨a :: c, c1.cons_cons a, by simp [c2], ?_, h0.2, by rw [c5]; rfl⟩
      cases c with
      | nil => trivial
      | cons b c => exact ⟨c4, c3⟩
    · have h' : ¬ ((n + 1 : Nat) : Int) ≤ (longS g (a :: l)).headD 0 ∨ nextB g last a = false := by
        by_cases h1 : ((n + 1 : Nat) : Int) ≤ (longS g (a :: l)).headD 0
        · right
          cases hn : nextB g last a with
          | false => rfl
          | true => exact absurd ⟨h1, hn⟩ h0
        · exact .inl h1
      rw [takeT_miss g (by omega) h'] at h ⊢
      obtain ⟨c, c1, c2, c3, c4, c5⟩ := run_of_take g l (n + 1) last h
      exact ⟨c, c1.cons a, c2, c3, c4, c5⟩
end Go.SX

/-
  Plain law: what goals mean of fewer events: of a part of them, and of those of the images alone.
-/
namespace Go.SX
set_option linter.unusedSimpArgs false
set_option linter.unusedVariables false
theorem takeT_part {g : Goal} {m l : List Event} (h : m.Sublist l) {n : Int} (hn : 0 ≤ n) (hm : (takeT g m n none).2 = true) : (takeT g l n none).2 = true := by
  obtain ⟨k, rfl⟩ : ∃ k : Nat, n = k := ⟨n.toNat, by omega⟩
  obtain ⟨c, c1, c2, c3, c4, _⟩ := run_of_take g m k none hm
  exact take_of_run g l k none c (c1.trans h) c2 c3 c4
theorem filter_part {p q : Event → Bool} (hpq : ∀ e, p e = true → q e = true) {m l : List Event} (h : m.Sublist l) : (m.filter p).Sublist (l.filter q) := by
  have h1 : m.filter p = (m.filter q).filter p := by
    rw [List.filter_filter]
    refine List.filter_congr fun e _ => ?_
    cases hp : p e with
    | false => rfl
    | true => rw [hpq e hp]; rfl
  rw [h1]
  exact (List.filter_sublist).trans (h.filter q)
theorem delB_part {m l : List Event} (h : m.Sublist l) {e : Event} {n : Int} (hd : delB m e n = true) : delB l e n = true := by
  unfold delB at *
  obtain ⟨x, hx, hp⟩ := List.any_eq_true.1 hd
  exact List.any_eq_true.2 ⟨x, h.subset hx, hp⟩
theorem restE_part {m l : List Event} (h : m.Sublist l) (n : Int) : (restE m n).Sublist (restE l n) := by
  refine filter_part (fun e he => ?_) h
  cases hk : decide (e.kind = 1) with
  | false => rfl
  | true =>
    rw [hk] at he
    have : delB m e n = true := by simpa using he
    rw [delB_part h this]; rfl
/-- one way of meeting is at least as good as another -/
def betterS (a b : Sen) : Prop := ∀ p im, b = some (p, im) → ∃ q jm, a = some (q, jm) ∧ q ≤ p
theorem better_any {r r' : Sen} {c : Int} {acc acc' : Sen} (h1 : betterS r r') (h2 : betterS acc acc') : betterS (stepAny r c acc) (stepAny r' c acc') := by
  intro p im h
  have key : ∀ (r acc : Sen) (c : Int), (∀ q jm, r = some (q, jm) → ∃ s km, stepAny r c acc = some (s, km) ∧ s ≤ q + c) ∧ ∀ q jm, acc = some (q, jm) → ∃ s km, stepAny r c acc = some (s, km) ∧ s ≤ q := by
    intro r acc c
    cases r with
    | none => exact ⟨fun q jm h => (by cases h), fun q jm h => ⟨q, jm, h, Int.le_refl _⟩⟩
    | some w =>
      obtain ⟨a, b⟩ := w
      cases acc with
      | none =>
        refine ⟨fun q jm h => ?_, fun q jm h => (by cases h)⟩
        injection h with h; injection h with e1 e2; subst e1
        exact ⟨_, _, rfl, Int.le_refl _⟩
      | some v =>
        obtain ⟨a2, b2⟩ := v
        by_cases hlt : a + c < a2
        · have e : stepAny (some (a, b)) c (some (a2, b2)) = some (a + c, b) := if_pos hlt
          refine ⟨fun q jm h => ?_, fun q jm h => ?_⟩
          · injection h with h; injection h with e1 e2; subst e1
            exact ⟨_, _, e, Int.le_refl _⟩
          · injection h with h; injection h with e1 e2; subst e1
            exact ⟨_, _, e, by omega⟩
        · have e : stepAny (some (a, b)) c (some (a2, b2)) = some (a2, b2) := if_neg hlt
          refine ⟨fun q jm h => ?_, fun q jm h => ?_⟩
          · injection h with h; injection h with e1 e2; subst e1
            exact ⟨_, _, e, by omega⟩
          · injection h with h; injection h with e1 e2; subst e1
            exact ⟨_, _, e, Int.le_refl _⟩
  rcases stepAny_some h with h7 | ⟨q, h7, h8⟩
  · obtain ⟨q, jm, h3, h4⟩ := h2 _ _ h7
    obtain ⟨s, km, h5, h6⟩ := (key r acc c).2 _ _ h3
    exact ⟨s, km, h5, by omega⟩
  · obtain ⟨q', jm, h3, h4⟩ := h1 _ _ h7
    obtain ⟨s, km, h5, h6⟩ := (key r acc c).1 _ _ h3
    exact ⟨s, km, h5, by omega⟩
mutual
theorem mean_part : ∀ (g : Goal) (d n : Int) {m l : List Event}, sizeG g d = some n → m.Sublist l → betterS (meanG g l) (meanG g m)
  | ⟨kind, rows, from_, to_, low, high, clear, days, times, within, cents, kids⟩, d, n, m, l, hs, h => by
    have hall := all_part kids
    have hany := any_part kids
    have hhd := hd_part kids
    obtain ⟨hok, hd, q, hL, rfl⟩ := size_ok hs
    generalize hg : (⟨kind, rows, from_, to_, low, high, clear, days, times, within, cents, kids⟩ : Goal) = g at *
    have hkd : g.kids = kids := by rw [← hg]
    intro p im hm
    rw [meanG_eq] at hm ⊢
    split at hm
    · rename_i e
      rw [if_pos e]
      unfold seeM at hm ⊢
      have hf : (seenS g m).Sublist (seenS g l) := h.filter _
      split at hm
      · cases hm
      · rename_i a r hr
        injection hm with hm; injection hm with h1 h2; subst h1
        rw [hr] at hf
        cases hx : seenS g l with
        | nil => rw [hx] at hf; cases hf
        | cons b s => exact ⟨0, _, rfl, Int.le_refl _⟩
    · rename_i e1
      rw [if_neg e1]
      split at hm
      · rename_i e
        rw [if_pos e]
        unfold pairM at hm ⊢
        have hf : (seenS (kid0 g.kids) m).Sublist (seenS (kid0 g.kids) l) := h.filter _
        split at hm
        · cases hm
        · rename_i a b hp
          injection hm with hm; injection hm with h1 h2; subst h1
          obtain ⟨x, y, h3, h4⟩ := (pair_some g _).2 (show (pairS g (seenS (kid0 g.kids) m)).isSome = true by rw [hp]; rfl)
          have := (pair_some g _).1 ⟨x, y, h3.trans hf, h4⟩
          cases hx : pairS g (seenS (kid0 g.kids) l) with
          | none => rw [hx] at this; cases this
          | some w => exact ⟨0, _, rfl, Int.le_refl _⟩
      · rename_i e2
        rw [if_neg e2]
        split at hm
        · rename_i e
          rw [if_pos e]
          have ht := ok_times hok e
          unfold everyM at hm ⊢
          have hf : (seenS (kid0 g.kids) m).Sublist (seenS (kid0 g.kids) l) := h.filter _
          rw [takeS_T] at hm ⊢
          cases hb : (takeT g (seenS (kid0 g.kids) m) g.times none).2 with
          | false => rw [hb] at hm; cases hm
          | true =>
            rw [hb] at hm
            injection hm with hm; injection hm with h1 h2; subst h1
            rw [takeT_part hf (by omega) hb]
            exact ⟨0, _, rfl, Int.le_refl _⟩
        · rename_i e3
          rw [if_neg e3]
          split at hm
          · rename_i e
            rw [if_pos e]
            rw [hkd] at hm ⊢
            rw [hkd] at hL
            exact hhd _ _ hL (restE_part h _) _ _ hm
          · rename_i e4
            rw [if_neg e4]
            split at hm
            · rename_i e
              rw [if_pos e]
              rw [hkd] at hm ⊢
              rw [hkd] at hL
              exact hall _ _ hL h 0 0 [] [] (Int.le_refl _) _ _ hm
            · rename_i e5
              rw [if_neg e5]
              rw [hkd] at hm ⊢
              rw [hkd] at hL
              exact hany _ _ hL h g.cents none none (fun _ _ h => by cases h) _ _ hm
theorem hd_part : ∀ (ks : List Goal) (d n : Int) {m l : List Event}, sizeL ks d = some n → m.Sublist l → betterS (meanH ks l) (meanH ks m)
  | [], d, n, m, l, hs, h => by intro p im hm; rw [meanH] at hm; cases hm
  | k :: ks, d, n, m, l, hs, h => by
    rw [sizeL] at hs
    split at hs
    · cases hs
    · rename_i q hq
      rw [meanH, meanH]
      exact mean_part k d q hq h
theorem all_part : ∀ (ks : List Goal) (d n : Int) {m l : List Event}, sizeL ks d = some n → m.Sublist l → ∀ (p q : Int) (im jm : List Int), q ≤ p → betterS (meanAll ks l q jm) (meanAll ks m p im)
  | [], d, n, m, l, hs, h, p, q, im, jm, hqp => by
    intro r km hm
    rw [meanAll] at hm ⊢
    injection hm with hm; injection hm with h1 h2
    exact ⟨q, jm, rfl, by omega⟩
  | k :: ks, d, n, m, l, hs, h, p, q, im, jm, hqp => by
    rw [sizeL] at hs
    split at hs
    · cases hs
    · rename_i a ha
      split at hs
      · cases hs
      · rename_i b hb
        intro r km hm
        rw [meanAll] at hm ⊢
        split at hm
        · cases hm
        · rename_i s lm hs'
          obtain ⟨s2, lm2, h1, h2⟩ := mean_part k d a ha h _ _ hs'
          rw [h1]
          exact all_part ks d b hb h _ _ _ _ (by omega) _ _ hm
theorem any_part : ∀ (ks : List Goal) (d n : Int) {m l : List Event}, sizeL ks d = some n → m.Sublist l → ∀ (cs : List Int) (acc acc' : Sen), betterS acc acc' → betterS (meanAny ks cs l acc) (meanAny ks cs m acc')
  | [], d, n, m, l, hs, h, cs, acc, acc', hb => by rw [meanAny, meanAny]; exact hb
  | k :: ks, d, n, m, l, hs, h, cs, acc, acc', hb => by
    rw [sizeL] at hs
    split at hs
    · cases hs
    · rename_i a ha
      split at hs
      · cases hs
      · rename_i b hb'
        rw [meanAny, meanAny]
        exact any_part ks d b hb' h _ _ _ (better_any (mean_part k d a ha h) hb)
end
/-! the events of some images -/
def onI (S : List Int) (l : List Event) : List Event := l.filter fun e => decide (e.image ∈ S)
theorem seen_on (g : Goal) (S : List Int) (l : List Event) : seenS g (onI S l) = onI S (seenS g l) := by
  unfold seenS onI
  rw [List.filter_filter, List.filter_filter]
  exact List.filter_congr fun e _ => Bool.and_comm _ _
theorem rest_on (S : List Int) (l : List Event) (n : Int) : restE (onI S l) n = onI S (restE l n) := by
  unfold restE onI
  rw [List.filter_filter, List.filter_filter]
  refine List.filter_congr fun e _ => ?_
  cases hS : decide (e.image ∈ S) with
  | false => rw [Bool.and_false, Bool.false_and]
  | true =>
    have : delB (l.filter fun e => decide (e.image ∈ S)) e n = delB l e n := by
      unfold delB
      rw [Bool.eq_iff_iff]
      simp only [List.any_eq_true, List.mem_filter, Bool.and_eq_true, decide_eq_true_eq]
      constructor
      · rintro ⟨x, ⟨h1, h2⟩, h3⟩; exact ⟨x, h1, h3⟩
      · rintro ⟨x, h1, h3⟩; exact ⟨x, ⟨h1, by rw [h3.1.2]; simpa using hS⟩, h3⟩
    rw [this, Bool.and_comm]
theorem sub_on {S : List Int} {c l : List Event} (h : c.Sublist l) (hS : ∀ e ∈ c, e.image ∈ S) : c.Sublist (onI S l) := by
  have : c = c.filter fun e => decide (e.image ∈ S) := by
    rw [List.filter_eq_self.2]; intro e he; simpa using hS e he
  rw [this]
  exact h.filter _
mutual
theorem mean_on : ∀ (g : Goal) (d n : Int) (l : List Event), sizeG g d = some n → ∀ (p : Int) (im : List Int), meanG g l = some (p, im) → ∀ S : List Int, (∀ x ∈ im, x ∈ S) → ∃ q jm, meanG g (onI S l) = some (q, jm) ∧ q ≤ p
  | ⟨kind, rows, from_, to_, low, high, clear, days, times, within, cents, kids⟩, d, n, l, hs, p, im, hm, S, hS => by
    have hall := all_on kids
    have hany := any_on kids
    have hhd := hd_on kids
    obtain ⟨hok, hd, q, hL, rfl⟩ := size_ok hs
    generalize hg : (⟨kind, rows, from_, to_, low, high, clear, days, times, within, cents, kids⟩ : Goal) = g at *
    have hkd : g.kids = kids := by rw [← hg]
    rw [meanG_eq] at hm ⊢
    split at hm
    · rename_i e
      rw [if_pos e]
      unfold seeM at hm ⊢
      rw [seen_on]
      split at hm
      · cases hm
      · rename_i a r hr
        injection hm with hm; injection hm with h1 h2; subst h1; subst h2
        rw [hr]
        have : decide (a.image ∈ S) = true := by simpa using hS a.image (by simp)
        unfold onI
        rw [List.filter_cons, if_pos this]
        exact ⟨0, _, rfl, Int.le_refl _⟩
    · rename_i e1
      rw [if_neg e1]
      split at hm
      · rename_i e
        rw [if_pos e]
        unfold pairM at hm ⊢
        rw [seen_on]
        split at hm
        · cases hm
        · rename_i a b hp
          injection hm with hm; injection hm with h1 h2; subst h1; subst h2
          have hab : [a, b].Sublist (seenS (kid0 g.kids) l) ∧ pfB g a b = true := by
            clear hS e1 e
            generalize seenS (kid0 g.kids) l = m at hp
            induction m with
            | nil => simp [pairS] at hp
            | cons c m ih =>
              rw [pairS_cons] at hp
              cases hf : m.find? (pfB g c) with
              | some x =>
                rw [hf] at hp
                injection hp with hp; injection hp with e1 e2; subst e1; subst e2
                exact ⟨List.Sublist.cons_cons c (List.singleton_sublist.2 (List.mem_of_find?_eq_some hf)), List.find?_some hf⟩
              | none =>
                rw [hf] at hp
                obtain ⟨h1, h2⟩ := ih hp
                exact ⟨h1.cons c, h2⟩
          have := (pair_some g (onI S (seenS (kid0 g.kids) l))).1 ⟨a, b, sub_on hab.1 (fun e he => hS _ (by
            rw [mem_setS]
            rcases List.mem_cons.1 he with rfl | he
            · simp
            · rw [List.mem_singleton.1 he]; simp)), hab.2⟩
          cases hx : pairS g (onI S (seenS (kid0 g.kids) l)) with
          | none => rw [hx] at this; cases this
          | some w => exact ⟨0, _, rfl, Int.le_refl _⟩
      · rename_i e2
        rw [if_neg e2]
        split at hm
        · rename_i e
          rw [if_pos e]
          have ht := ok_times hok e
          unfold everyM at hm ⊢
          rw [seen_on, takeS_T]
          rw [takeS_T] at hm
          cases hb : (takeT g (seenS (kid0 g.kids) l) g.times none).2 with
          | false => rw [hb] at hm; cases hm
          | true =>
            rw [hb] at hm
            injection hm with hm; injection hm with h1 h2; subst h1; subst h2
            obtain ⟨k, hk⟩ : ∃ k : Nat, g.times = k := ⟨g.times.toNat, by omega⟩
            rw [hk] at hb hS ⊢
            obtain ⟨c, c1, c2, c3, c4, c5⟩ := run_of_take g _ k none hb
            rw [take_of_run g _ k none c (sub_on c1 fun e he => hS _ (by rw [mem_setS, c5]; exact List.mem_map.2 ⟨e, he, rfl⟩)) c2 c3 c4]
            exact ⟨0, _, rfl, Int.le_refl _⟩
        · rename_i e3
          rw [if_neg e3]
          split at hm
          · rename_i e
            rw [if_pos e, rest_on]
            rw [hkd] at hm hL ⊢
            exact hhd _ _ _ hL _ _ hm S hS
          · rename_i e4
            rw [if_neg e4]
            split at hm
            · rename_i e
              rw [if_pos e]
              rw [hkd] at hm hL ⊢
              exact (hall _ _ l hL 0 [] _ _ hm S hS 0 [] (Int.le_refl _)).2
            · rename_i e5
              rw [if_neg e5]
              rw [hkd] at hm hL ⊢
              rcases hany _ _ l hL g.cents none _ _ hm S hS none with h | h
              · cases h
              · exact h
theorem hd_on : ∀ (ks : List Goal) (d n : Int) (l : List Event), sizeL ks d = some n → ∀ (p : Int) (im : List Int), meanH ks l = some (p, im) → ∀ S : List Int, (∀ x ∈ im, x ∈ S) → ∃ q jm, meanH ks (onI S l) = some (q, jm) ∧ q ≤ p
  | [], d, n, l, hs, p, im, hm, S, hS => by rw [meanH] at hm; cases hm
  | k :: ks, d, n, l, hs, p, im, hm, S, hS => by
    rw [sizeL] at hs
    split at hs
    · cases hs
    · rename_i q hq
      rw [meanH] at hm ⊢
      exact mean_on k d q l hq p im hm S hS
theorem all_on : ∀ (ks : List Goal) (d n : Int) (l : List Event), sizeL ks d = some n → ∀ (p : Int) (im : List Int) (r : Int) (km : List Int), meanAll ks l p im = some (r, km) → ∀ S : List Int, (∀ x ∈ km, x ∈ S) → ∀ (q : Int) (jm : List Int), q ≤ p →
    (∀ x ∈ im, x ∈ km) ∧ ∃ s lm, meanAll ks (onI S l) q jm = some (s, lm) ∧ s ≤ r
  | [], d, n, l, hs, p, im, r, km, hm, S, hS, q, jm, hqp => by
    rw [meanAll] at hm ⊢
    injection hm with hm; injection hm with h1 h2; subst h1; subst h2
    exact ⟨fun x hx => hx, q, jm, rfl, hqp⟩
  | k :: ks, d, n, l, hs, p, im, r, km, hm, S, hS, q, jm, hqp => by
    rw [sizeL] at hs
    split at hs
    · cases hs
    · rename_i a ha
      split at hs
      · cases hs
      · rename_i b hb
        rw [meanAll] at hm ⊢
        split at hm
        · cases hm
        · rename_i s lm hs'
          have h0 := (all_on ks d b l hb _ _ _ _ hm S hS _ [] (Int.le_refl _)).1
          obtain ⟨s2, lm2, h1, h2⟩ := mean_on k d a l ha _ _ hs' S fun x hx => hS x (h0 x (by rw [mem_setS]; simp [hx]))
          rw [h1]
          refine ⟨fun x hx => h0 x (by rw [mem_setS]; simp [hx]), ?_⟩
          exact (all_on ks d b l hb _ _ _ _ hm S hS (q + s2) (setS (jm ++ lm2)) (by omega)).2
theorem any_on : ∀ (ks : List Goal) (d n : Int) (l : List Event), sizeL ks d = some n → ∀ (cs : List Int) (acc : Sen) (r : Int) (km : List Int), meanAny ks cs l acc = some (r, km) → ∀ S : List Int, (∀ x ∈ km, x ∈ S) → ∀ acc' : Sen,
    acc = some (r, km) ∨ ∃ s lm, meanAny ks cs (onI S l) acc' = some (s, lm) ∧ s ≤ r
  | [], d, n, l, hs, cs, acc, r, km, hm, S, hS, acc' => by rw [meanAny] at hm; exact .inl hm
  | k :: ks, d, n, l, hs, cs, acc, r, km, hm, S, hS, acc' => by
    rw [sizeL] at hs
    split at hs
    · cases hs
    · rename_i a ha
      split at hs
      · cases hs
      · rename_i b hb
        rw [meanAny] at hm ⊢
        rcases any_on ks d b l hb _ _ _ _ hm S hS (stepAny (meanG k (onI S l)) (cs.getD 0 0) acc') with h | h
        · rcases stepAny_some h with h | ⟨p, h1, h2⟩
          · exact .inl h
          · right
            obtain ⟨q, jm, h3, h4⟩ := mean_on k d a l ha _ _ h1 S hS
            have h5 : betterS (stepAny (meanG k (onI S l)) (cs.getD 0 0) acc') (stepAny (some (p, km)) (cs.getD 0 0) none) := better_any (fun p' im' e => by
              injection e with e; injection e with e1 e2; subst e1; exact ⟨q, jm, h3, h4⟩) (fun _ _ e => by cases e)
            have h6 := any_part ks d b hb (List.Sublist.refl (onI S l)) cs.tail _ _ h5
            -- what begins with (p + c) ends no higher
            have low : ∀ (ks : List Goal) (cs : List Int) (m : List Event) (x : Int) (y : List Int), ∃ s lm, meanAny ks cs m (some (x, y)) = some (s, lm) ∧ s ≤ x := by
              intro ks
              induction ks with
              | nil => intro cs m x y; exact ⟨x, y, by rw [meanAny], Int.le_refl _⟩
              | cons k ks ih =>
                intro cs m x y
                rw [meanAny]
                cases hk : meanG k m with
                | none => exact ih _ _ _ _
                | some w =>
                  obtain ⟨u, v⟩ := w
                  by_cases hlt : u + cs.getD 0 0 < x
                  · rw [show stepAny (some (u, v)) (cs.getD 0 0) (some (x, y)) = some (u + cs.getD 0 0, v) from if_pos hlt]
                    obtain ⟨s, lm, h1, h2⟩ := ih cs.tail m (u + cs.getD 0 0) v
                    exact ⟨s, lm, h1, by omega⟩
                  · rw [show stepAny (some (u, v)) (cs.getD 0 0) (some (x, y)) = some (x, y) from if_neg hlt]
                    exact ih _ _ _ _
            obtain ⟨s, lm, h7, h8⟩ := low ks cs.tail (onI S l) (p + cs.getD 0 0) km
            obtain ⟨s2, lm2, h9, h10⟩ := h6 s lm h7
            exact ⟨s2, lm2, h9, by omega⟩
        · exact .inr h
end
end Go.SX

/-
  Plain law: the goals that integers determine (the reference's examples), and why they are valid.
-/
namespace Go.SX
set_option linter.unusedSimpArgs false
set_option linter.unusedVariables false
def pickS (c n : Int) : Int := (if c < 0 then -(c + 1) else c) % n
theorem pickS_bd {c n : Int} (h : 0 < n) : 0 ≤ pickS c n ∧ pickS c n < n := ⟨Int.emod_nonneg _ (by omega), Int.emod_lt_of_pos _ h⟩
/-- a cell more -/
def orAt (rows : List Int) (y : Nat) (x : Int) : List Int := rows.set y (bitop .or .i64 (rows.getD y 0) (shlop .i64 1 x))
theorem orAt_len (rows : List Int) (y : Nat) (x : Int) : (orAt rows y x).length = rows.length := by unfold orAt; simp
def cellS (x : A5) (y k : Nat) (rows : List Int) : List Int := orAt rows (min 23 (pickS x.b 24 + y)).toNat ((pickS x.a 48 + k).tmod 48)
def rowsK (x : A5) (y k : Nat) (rows : List Int) : List Int := (List.range k).foldl (fun r k => cellS x y k r) rows
def rowsY (x : A5) (n y : Nat) : List Int := (List.range y).foldl (fun r y => rowsK x y n r) (List.replicate 24 0)
theorem rowsK_succ (x : A5) (y k : Nat) (r : List Int) : rowsK x y (k + 1) r = cellS x y k (rowsK x y k r) := by unfold rowsK; rw [List.range_succ, List.foldl_append]; rfl
theorem rowsY_succ (x : A5) (n y : Nat) : rowsY x n (y + 1) = rowsK x y n (rowsY x n y) := by unfold rowsY; rw [List.range_succ, List.foldl_append]; rfl
theorem rowsK_len (x : A5) (y : Nat) : ∀ (k : Nat) (r : List Int), (rowsK x y k r).length = r.length
  | 0, r => rfl
  | k + 1, r => by rw [rowsK_succ]; unfold cellS; rw [orAt_len, rowsK_len x y k r]
theorem rowsY_len (x : A5) (n : Nat) : ∀ y : Nat, (rowsY x n y).length = 24
  | 0 => by simp [rowsY]
  | y + 1 => by rw [rowsY_succ, rowsK_len, rowsY_len x n y]
def seeRows (x : A5) : List Int :=
  if pickS x.c 3 = 0 then orAt (rowsY x (pickS (x.a.tdiv 48) 3 + 1).toNat (pickS (x.b.tdiv 24) 3 + 1).toNat) (pickS x.b 24).toNat (pickS x.c 48) else rowsY x (pickS (x.a.tdiv 48) 3 + 1).toNat (pickS (x.b.tdiv 24) 3 + 1).toNat
def seeS (x : A5) : Goal := ⟨1, seeRows x, pickS x.c 3000, pickS x.c 3000 + 1 + pickS x.d 5000, pickS x.e 40, pickS x.e 40 + pickS (x.e.tdiv 40) 51, decide (pickS x.d 2 = 1), 0, 0, 0, [], []⟩
/-! areas -/
structure RowsOK (rows : List Int) : Prop where
  len : rows.length = 24
  ok : ∀ r ∈ rows, 0 ≤ r ∧ r ≤ 281474976710655
theorem or_ok {a : Int} {x : Int} (ha : 0 ≤ a ∧ a ≤ 281474976710655) (hx : 0 ≤ x ∧ x < 48) : (0 ≤ bitop .or .i64 a (shlop .i64 1 x) ∧ bitop .or .i64 a (shlop .i64 1 x) ≤ 281474976710655) ∧ bitop .or .i64 a (shlop .i64 1 x) ≠ 0 := by
  obtain ⟨n, rfl⟩ : ∃ n : Nat, a = n := ⟨a.toNat, by omega⟩
  obtain ⟨k, rfl⟩ : ∃ k : Nat, x = k := ⟨x.toNat, by omega⟩
  have hk : k < 48 := by omega
  have h1 : 2 ^ k < 2 ^ 48 := Nat.pow_lt_pow_right (by omega) hk
  have hn : n < 2 ^ 48 := by omega
  rw [shl_one hk, or_nat hn h1]
  have h2 : n ||| 2 ^ k < 2 ^ 48 := Nat.or_lt_two_pow hn h1
  have h3 : n ||| 2 ^ k ≠ 0 := fun e => by
    have := congrArg (fun z => z.testBit k) e
    simp at this
  omega
theorem orAt_ok {rows : List Int} (h : RowsOK rows) {y : Nat} (hy : y < 24) {x : Int} (hx : 0 ≤ x ∧ x < 48) : RowsOK (orAt rows y x) ∧ (orAt rows y x).any (fun r => decide (r ≠ 0)) = true := by
  have hg : rows.getD y 0 ∈ rows := by
    rw [List.getD_eq_getElem?_getD, List.getElem?_eq_getElem (by rw [h.len]; exact hy)]
    exact List.getElem_mem _
  obtain ⟨h1, h2⟩ := or_ok (h.ok _ hg) hx
  refine ⟨⟨by rw [orAt_len, h.len], fun r hr => ?_⟩, ?_⟩
  · unfold orAt at hr
    rcases List.mem_or_eq_of_mem_set hr with hr | rfl
    · exact h.ok r hr
    · exact h1
  · rw [List.any_eq_true]
    refine ⟨bitop .or .i64 (rows.getD y 0) (shlop .i64 1 x), ?_, by simpa using h2⟩
    unfold orAt
    rw [List.mem_iff_getElem?]
    exact ⟨y, by rw [List.getElem?_set_self (by rw [h.len]; exact hy)]⟩
theorem cellS_ok (x : A5) (y k : Nat) {rows : List Int} (h : RowsOK rows) : RowsOK (cellS x y k rows) ∧ (cellS x y k rows).any (fun r => decide (r ≠ 0)) = true := by
  have b1 := pickS_bd (c := x.b) (n := 24) (by omega)
  have b2 := pickS_bd (c := x.a) (n := 48) (by omega)
  unfold cellS
  refine orAt_ok h (by omega) ?_
  rw [Int.tmod_eq_emod_of_nonneg (by omega)]
  omega
theorem rowsK_ok (x : A5) (y : Nat) : ∀ (k : Nat) (r : List Int), RowsOK r → RowsOK (rowsK x y k r) ∧ (0 < k → (rowsK x y k r).any (fun r => decide (r ≠ 0)) = true)
  | 0, r, h => ⟨h, fun e => by omega⟩
  | k + 1, r, h => by
    rw [rowsK_succ]
    have := cellS_ok x y k (rowsK_ok x y k r h).1
    exact ⟨this.1, fun _ => this.2⟩
theorem rowsY_ok (x : A5) (n : Nat) (hn : 0 < n) : ∀ y : Nat, RowsOK (rowsY x n y) ∧ (0 < y → (rowsY x n y).any (fun r => decide (r ≠ 0)) = true)
  | 0 => ⟨⟨by simp [rowsY], fun r hr => by simp [rowsY] at hr; omega⟩, fun e => by omega⟩
  | y + 1 => by
    rw [rowsY_succ]
    have := rowsK_ok x y n _ (rowsY_ok x n hn y).1
    exact ⟨this.1, fun _ => this.2 hn⟩
theorem seeRows_ok (x : A5) : RowsOK (seeRows x) ∧ (seeRows x).any (fun r => decide (r ≠ 0)) = true := by
  have b1 := pickS_bd (c := x.b.tdiv 24) (n := 3) (by omega)
  have b2 := pickS_bd (c := x.a.tdiv 48) (n := 3) (by omega)
  have b3 := pickS_bd (c := x.b) (n := 24) (by omega)
  have b4 := pickS_bd (c := x.c) (n := 48) (by omega)
  have h := rowsY_ok x (pickS (x.a.tdiv 48) 3 + 1).toNat (by omega) (pickS (x.b.tdiv 24) 3 + 1).toNat
  unfold seeRows
  split
  · exact orAt_ok h.1 (by omega) (by omega)
  · exact ⟨h.1, h.2 (by omega)⟩
theorem seeS_ok (x : A5) : okB (seeS x) = true := by
  obtain ⟨h1, h2⟩ := seeRows_ok x
  have b1 := pickS_bd (c := x.c) (n := 3000) (by omega)
  have b2 := pickS_bd (c := x.d) (n := 5000) (by omega)
  have b3 := pickS_bd (c := x.e) (n := 40) (by omega)
  have b4 := pickS_bd (c := x.e.tdiv 40) (n := 51) (by omega)
  have ha : areaB (seeRows x) = true := by
    unfold areaB
    rw [h1.len, Bool.and_eq_true]
    refine ⟨rfl, List.all_eq_true.2 fun r hr => ?_⟩
    exact (inB_iff _ _ _).2 (h1.ok r hr)
  unfold okB plainB restG limB partsB manyB centsB seeS
  simp only [ha, h2]
  simp [inB_iff]
  omega
theorem seeS_size (x : A5) {d : Int} (hd : d ≤ 4) : sizeG (seeS x) d = some 1 := by
  rw [sizeG_eq, seeS_ok, decide_eq_false (by omega)]
  rfl
/-! goals with parts -/
def zero5 : A5 := ⟨0, 0, 0, 0, 0⟩
def y5 (x : List A5) (i : Int) : A5 := if i < x.length then x.getD i.toNat zero5 else zero5
structure KidSt where
  kids : List Goal
  cents : List Int
  used : Int
  count : Int
/-- the parts, so many -/
def kidsN (rec : Int → Int → Goal × Int × Int) (y : A5) (at_ most : Int) : Nat → KidSt
  | 0 => ⟨[], [], 1, 1⟩
  | i + 1 =>
    let s := kidsN rec y at_ most i
    let r := rec (at_ + s.used) (most - s.count - max 0 (1 - (i : Int)))
    ⟨s.kids ++ [r.1], s.cents ++ [pickS (IntKind.i64.wrap (y.c + IntKind.i64.wrap ((i : Int) * y.d))) 1000], s.used + r.2.1, s.count + r.2.2⟩
/-- does it go on? -/
def goB (rec : Int → Int → Goal × Int × Int) (y : A5) (at_ most many : Int) (i : Nat) : Bool := decide ((i : Int) < many) && (decide ((i : Int) < 2) || decide ((kidsN rec y at_ most i).count < most))
def endI (rec : Int → Int → Goal × Int × Int) (y : A5) (at_ most many : Int) : Nat → Nat → Nat
  | 0, i => i
  | f + 1, i => if goB rec y at_ most many i then endI rec y at_ most many f (i + 1) else i
def kindS (j : Nat) (x : List A5) (at_ most : Int) : Int :=
  if j = 0 ∨ most < 2 ∨ (x.length : Int) ≤ at_ + 1 ∨ 5 ≤ 1 + pickS ((y5 x at_).a.tdiv 144) 6 ∧ most < 3 then 1 else 1 + pickS ((y5 x at_).a.tdiv 144) 6
def goalsS : Nat → List A5 → Int → Int → Goal × Int × Int
  | 0, x, at_, most => (seeS (y5 x at_), 1, 1)
  | j + 1, x, at_, most =>
    let y := y5 x at_
    let next := y5 x (at_ + 1)
    let k := kindS (j + 1) x at_ most
    if k = 2 then (⟨2, [], 0, 0, 1 + pickS y.b 8, 0, false, 0, 0, 1 + pickS y.c 3000, [], [seeS next]⟩, 2, 2)
    else if k = 3 then (⟨3, [], pickS y.e 3000, 0, 0, 0, false, 1 + pickS y.b 4, 1 + pickS y.c 4, pickS y.d (1440 * (1 + pickS y.b 4) + 1), [], [seeS next]⟩, 2, 2)
    else if k = 4 then (⟨4, [], 0, 0, 0, 0, false, 0, 0, pickS y.b 3000, [], [seeS next]⟩, 2, 2)
    else if k = 5 ∨ k = 6 then
      let s := kidsN (goalsS j x) y at_ most (endI (goalsS j x) y at_ most (2 + pickS y.b 3) 4 0)
      (⟨k, [], 0, 0, 0, 0, false, 0, 0, 0, if k = 6 then s.cents else [], s.kids⟩, s.used, s.count)
    else (seeS y, 1, 1)
def goalS (x : List A5) : Goal := (goalsS 3 x 0 9).1
end Go.SX

namespace Go.SX
open Go.Proofs
set_option linter.unusedSimpArgs false
set_option linter.unusedVariables false
set_option maxHeartbeats 4000000
set_option maxRecDepth 100000
section
variable {C : Cod} {P : Program} {D : Codec C} {tab : Tab C} {Hp : List (HS C)} {ret : SV C}
theorem fzL {θ : List (Option Nat)} {c o n off len : Nat} {u : C.U} {ys xs : List (C.El u)} (h1 : getC Hp c = .rows u xs := by rfl) (h2 : o = 0 := by rfl) (h3 : n = C.n u := by rfl) (h4 : off + len ≤ xs.length := by first | (simp; done) | (simp; omega) | omega)
    (h5 : ys = (xs.drop off).take len := by (simp only [List.drop_zero]; exact (List.take_of_length_le (by first | omega | (simp; omega))).symm)) (h6 : inO θ c = false := by rfl) : FrozenAs Hp θ c o n off len u ys := ⟨xs, h1, h2, h3, h4, h5, h6⟩
theorem vwL {θ : List (Option Nat)} {l : Option (List (SV C))} (h : endV Hp θ ret l := by first | ((repeat' (first | exact trivial | exact rfl | refine And.intro ?_ ?_ | exact fzV | exact fzL | exact fvV)); done) | fail) : EndV Hp θ ret l := ⟨h⟩
end
theorem pick13 (c n : Int) (hc : -9223372036854775808 ≤ c ∧ c ≤ 9223372036854775807) (h : 0 < n) : Meets Tryz.prog Dc 81 [iS c, iS n] [] (iS (pickS c n)) [] := by
  have e : ∀ x : Int, 0 ≤ x → x.tmod n = x % n := fun x hx => Int.tmod_eq_emod_of_nonneg hx
  unfold pickS
  by_cases hc0 : c < 0
  · rw [if_pos hc0, ← e _ (by omega)]
    refine meets_of_gx Ax tab_ok Tryz.func81 (c := _) rfl Tryz.call81 60 ?_
    (repeat' ((conv => whnf); first | refine x0C (eI ?_ rfl) | (exfalso; omega) | refine x0C ?_ | refine spC (fun hb => ?_) fun hb => ?_ | refine nilC (fun hb => ?_) ?_ | refine taC ?_ | refine saC ?_ | exact sdV | refine side_and ?_ ?_ | refine drawX_of mixed ?_))
    all_goals first | rfl | (rw [Int.zero_sub])
  · rw [if_neg hc0, ← e _ (by omega)]
    refine meets_of_gx Ax tab_ok Tryz.func81 (c := _) rfl Tryz.call81 60 ?_
    (repeat' ((conv => whnf); first | refine x0C (eI ?_ rfl) | (exfalso; omega) | refine x0C ?_ | refine spC (fun hb => ?_) fun hb => ?_ | refine nilC (fun hb => ?_) ?_ | refine taC ?_ | refine saC ?_ | exact sdV | refine side_and ?_ ?_ | refine drawX_of mixed ?_))
    all_goals first | rfl | (rw [Int.zero_sub])
theorem pick15 (c n : Int) (hc : -9223372036854775808 ≤ c ∧ c ≤ 9223372036854775807) (h : 0 < n) : Meets Tryz.prog Dc 55 [iS c, iS n] [] (iS (pickS c n)) [] := by
  have e : ∀ x : Int, 0 ≤ x → x.tmod n = x % n := fun x hx => Int.tmod_eq_emod_of_nonneg hx
  unfold pickS
  by_cases hc0 : c < 0
  · rw [if_pos hc0, ← e _ (by omega)]
    refine meets_of_gx Ax tab_ok Tryz.func55 (c := _) rfl Tryz.call55 60 ?_
    (repeat' ((conv => whnf); first | refine x0C (eI ?_ rfl) | (exfalso; omega) | refine x0C ?_ | refine spC (fun hb => ?_) fun hb => ?_ | refine nilC (fun hb => ?_) ?_ | refine taC ?_ | refine saC ?_ | exact sdV | refine side_and ?_ ?_ | refine drawX_of mixed ?_))
    all_goals first | rfl | (rw [Int.zero_sub])
  · rw [if_neg hc0, ← e _ (by omega)]
    refine meets_of_gx Ax tab_ok Tryz.func55 (c := _) rfl Tryz.call55 60 ?_
    (repeat' ((conv => whnf); first | refine x0C (eI ?_ rfl) | (exfalso; omega) | refine x0C ?_ | refine spC (fun hb => ?_) fun hb => ?_ | refine nilC (fun hb => ?_) ?_ | refine taC ?_ | refine saC ?_ | exact sdV | refine side_and ?_ ?_ | refine drawX_of mixed ?_))
    all_goals first | rfl | (rw [Int.zero_sub])
theorem pickL (c n : Int) (hc : -9223372036854775808 ≤ c ∧ c ≤ 9223372036854775807) (h : 0 < n) : Meets Tryz.prog Dc 12 [iS c, iS n] [] (iS (pickS c n)) [] := by
  have e : ∀ x : Int, 0 ≤ x → x.tmod n = x % n := fun x hx => Int.tmod_eq_emod_of_nonneg hx
  unfold pickS
  by_cases hc0 : c < 0
  · rw [if_pos hc0, ← e _ (by omega)]
    refine meets_of_gx Ax tab_ok Tryz.func12 (c := _) rfl Tryz.call12 60 ?_
    (repeat' ((conv => whnf); first | refine x0C (eI ?_ rfl) | (exfalso; omega) | refine x0C ?_ | refine spC (fun hb => ?_) fun hb => ?_ | refine nilC (fun hb => ?_) ?_ | refine taC ?_ | refine saC ?_ | exact sdV | refine side_and ?_ ?_ | refine drawX_of mixed ?_))
    all_goals first | rfl | (rw [Int.zero_sub])
  · rw [if_neg hc0, ← e _ (by omega)]
    refine meets_of_gx Ax tab_ok Tryz.func12 (c := _) rfl Tryz.call12 60 ?_
    (repeat' ((conv => whnf); first | refine x0C (eI ?_ rfl) | (exfalso; omega) | refine x0C ?_ | refine spC (fun hb => ?_) fun hb => ?_ | refine nilC (fun hb => ?_) ?_ | refine taC ?_ | refine saC ?_ | exact sdV | refine side_and ?_ ?_ | refine drawX_of mixed ?_))
    all_goals first | rfl | (rw [Int.zero_sub])
def I64 (c : Int) : Prop := -9223372036854775808 ≤ c ∧ c ≤ 9223372036854775807
@[reducible] def a5A (x : A5) : SV Cd := .agg [iS x.a, iS x.b, iS x.c, iS x.d, iS x.e]
structure A5OK (x : A5) : Prop where
  a : I64 x.a
  b : I64 x.b
  c : I64 x.c
  d : I64 x.d
  e : I64 x.e
theorem tdiv_i64 {c n : Int} (h : -9223372036854775808 ≤ c ∧ c ≤ 9223372036854775807) (hn : 1 < n) : -9223372036854775808 ≤ c.tdiv n ∧ c.tdiv n ≤ 9223372036854775807 := by
  rcases Int.le_total 0 c with h0 | h0
  · rw [Int.tdiv_eq_ediv_of_nonneg h0]
    have := Int.ediv_nonneg h0 (show 0 ≤ n by omega)
    have := Int.ediv_le_self n h0
    omega
  · have e : c.tdiv n = -((-c) / n) := by
      have := Int.tdiv_eq_ediv_of_nonneg (a := -c) (b := n) (by omega)
      rw [← this, Int.neg_tdiv, Int.neg_neg]
    rw [e]
    have h1 := Int.ediv_nonneg (show 0 ≤ -c by omega) (show 0 ≤ n by omega)
    have h2 := Int.ediv_le_self n (show 0 ≤ -c by omega)
    omega
theorem rsee (x : A5) (hx : A5OK x) : Meets Tryz.prog Dc 82 [a5A x] [] (goalA (seeS x)) [] := by
  obtain ⟨ha, hb', hc, hd, he⟩ := hx
  unfold I64 at *
  have hda := tdiv_i64 (n := 48) ha (by omega)
  have hdb := tdiv_i64 (n := 24) hb' (by omega)
  have hde := tdiv_i64 (n := 40) he (by omega)
  have p1 := pick13 (x.b.tdiv 24) 3 hdb (by omega)
  have p2 := pick13 (x.a.tdiv 48) 3 hda (by omega)
  have p3 := pick13 x.a 48 ha (by omega)
  have p4 := pick13 x.b 24 hb' (by omega)
  have p5 := pick13 x.c 3 hc (by omega)
  have p6 := pick13 x.c 48 hc (by omega)
  have p7 := pick13 x.c 3000 hc (by omega)
  have p8 := pick13 x.d 5000 hd (by omega)
  have p9 := pick13 x.e 40 he (by omega)
  have p10 := pick13 (x.e.tdiv 40) 51 hde (by omega)
  have p11 := pick13 x.d 2 hd (by omega)
  have b1 := pickS_bd (c := x.b.tdiv 24) (n := 3) (by omega)
  have b2 := pickS_bd (c := x.a.tdiv 48) (n := 3) (by omega)
  have b3 := pickS_bd (c := x.a) (n := 48) (by omega)
  have b4 := pickS_bd (c := x.b) (n := 24) (by omega)
  have b6 := pickS_bd (c := x.c) (n := 48) (by omega)
  have b7 := pickS_bd (c := x.c) (n := 3000) (by omega)
  have b8 := pickS_bd (c := x.d) (n := 5000) (by omega)
  have b9 := pickS_bd (c := x.e) (n := 40) (by omega)
  have b10 := pickS_bd (c := x.e.tdiv 40) (n := 51) (by omega)
  refine meets_of_gx Ax tab_ok Tryz.func82 (c := _) rfl Tryz.call82 400 ?_
  (repeat' ((conv => whnf); first | (exfalso; omega) | refine x0C ?_ | refine spC (fun hb => ?_) fun hb => ?_ | refine nilC (fun hb => ?_) ?_ | refine taC ?_ | refine saC ?_ | exact sdV | refine side_and ?_ ?_ | refine drawX_of mixed ?_))
  refine loop_up (fun y : Nat => [(4, iS y)]) (fun y => [(2, .rows U.int (rowsY x (pickS (x.a.tdiv 48) 3 + 1).toNat y))]) (fun y => (y : Int) ≤ pickS (x.b.tdiv 24) 3 + 1) (fun y => (pickS (x.b.tdiv 24) 3 + 1).toNat - y) 0 (by omega) (by exact bkI) ?_
  intro y hy K hK
  have hyl := rowsY_len x (pickS (x.a.tdiv 48) 3 + 1).toNat y
  rcases Int.lt_or_le (pickS (x.b.tdiv 24) 3) y with hge | hlt
  · have hye : (pickS (x.b.tdiv 24) 3 + 1).toNat = y := by omega
    unfold seeS seeRows
    rw [hye]
    generalize rowsY x (pickS (x.a.tdiv 48) 3 + 1).toNat y = R at *
    by_cases h5 : pickS x.c 3 = 0
    · rw [if_pos h5]
      have hol := orAt_len R (pickS x.b 24).toNat (pickS x.c 48)
      unfold orAt at hol ⊢
      rw [← Nat.zero_add (pickS x.b 24).toNat] at hol ⊢
      (repeat' ((conv => whnf); first | (exfalso; omega) | refine cpC (p1) ?_ | refine dpC (p1) ?_ | refine cpC (p2) ?_ | refine dpC (p2) ?_ | refine cpC (p3) ?_ | refine dpC (p3) ?_ | refine cpC (p4) ?_ | refine dpC (p4) ?_ | refine cpC (p5) ?_ | refine dpC (p5) ?_ | refine cpC (p6) ?_ | refine dpC (p6) ?_ | refine cpC (p7) ?_ | refine dpC (p7) ?_ | refine cpC (p8) ?_ | refine dpC (p8) ?_ | refine cpC (p9) ?_ | refine dpC (p9) ?_ | refine cpC (p10) ?_ | refine dpC (p10) ?_ | refine cpC (p11) ?_ | refine dpC (p11) ?_ | refine x0C ?_ | refine spC (fun hb => ?_) fun hb => ?_ | refine nilC (fun hb => ?_) ?_ | refine taC ?_ | refine saC ?_ | exact sdV | refine side_and ?_ ?_ | refine drawX_of mixed ?_))
      all_goals exact vwL
    · rw [if_neg h5]
      (repeat' ((conv => whnf); first | (exfalso; omega) | refine cpC (p1) ?_ | refine dpC (p1) ?_ | refine cpC (p2) ?_ | refine dpC (p2) ?_ | refine cpC (p3) ?_ | refine dpC (p3) ?_ | refine cpC (p4) ?_ | refine dpC (p4) ?_ | refine cpC (p5) ?_ | refine dpC (p5) ?_ | refine cpC (p6) ?_ | refine dpC (p6) ?_ | refine cpC (p7) ?_ | refine dpC (p7) ?_ | refine cpC (p8) ?_ | refine dpC (p8) ?_ | refine cpC (p9) ?_ | refine dpC (p9) ?_ | refine cpC (p10) ?_ | refine dpC (p10) ?_ | refine cpC (p11) ?_ | refine dpC (p11) ?_ | refine x0C ?_ | refine spC (fun hb => ?_) fun hb => ?_ | refine nilC (fun hb => ?_) ?_ | refine taC ?_ | refine saC ?_ | exact sdV | refine side_and ?_ ?_ | refine drawX_of mixed ?_))
      all_goals exact vwL
  · (repeat' ((conv => whnf); first | (exfalso; omega) | refine cpC (p1) ?_ | refine dpC (p1) ?_ | refine x0C ?_ | refine spC (fun hb => ?_) fun hb => ?_ | refine nilC (fun hb => ?_) ?_ | refine taC ?_ | refine saC ?_ | exact sdV | refine side_and ?_ ?_ | refine drawX_of mixed ?_))
    refine loop_up (fun k : Nat => [(5, iS k)]) (fun k => [(2, .rows U.int (rowsK x y k (rowsY x (pickS (x.a.tdiv 48) 3 + 1).toNat y)))]) (fun k => (k : Int) ≤ pickS (x.a.tdiv 48) 3 + 1) (fun k => (pickS (x.a.tdiv 48) 3 + 1).toNat - k) 0 (by omega) (by exact bkI) ?_
    intro k hk K2 hK2
    have hkl := rowsK_len x y k (rowsY x (pickS (x.a.tdiv 48) 3 + 1).toNat y)
    rw [hyl] at hkl
    rcases Int.lt_or_le (pickS (x.a.tdiv 48) 3) k with hge2 | hlt2
    · have hke : (pickS (x.a.tdiv 48) 3 + 1).toNat = k := by omega
      have hs := rowsY_succ x (pickS (x.a.tdiv 48) 3 + 1).toNat y
      rw [show rowsK x y k (rowsY x (pickS (x.a.tdiv 48) 3 + 1).toNat y) = rowsY x (pickS (x.a.tdiv 48) 3 + 1).toNat (y + 1) by rw [hs]; rw [hke]]
      (repeat' ((conv => whnf); first | (exfalso; omega) | refine cpC (p2) ?_ | refine dpC (p2) ?_ | refine hK (y + 1) [some 0, some 1, some 2, some 3] _ _ ⟨by omega⟩ ⟨by omega⟩ (by exact bkI) | refine x0C ?_ | refine spC (fun hb => ?_) fun hb => ?_ | refine nilC (fun hb => ?_) ?_ | refine taC ?_ | refine saC ?_ | exact sdV | refine side_and ?_ ?_ | refine drawX_of mixed ?_))
    · have ht : (pickS x.a 48 + (k : Int)).tmod 48 = (pickS x.a 48 + (k : Int)) % 48 := Int.tmod_eq_emod_of_nonneg (by omega)
      have ht2 : 0 ≤ (pickS x.a 48 + (k : Int)).tmod 48 ∧ (pickS x.a 48 + (k : Int)).tmod 48 < 48 := by rw [ht]; omega
      have hs := rowsK_succ x y k (rowsY x (pickS (x.a.tdiv 48) 3 + 1).toNat y)
      generalize rowsK x y k (rowsY x (pickS (x.a.tdiv 48) 3 + 1).toNat y) = R at *
      have hm : 0 ≤ min 23 (pickS x.b 24 + (y : Int)) ∧ min 23 (pickS x.b 24 + (y : Int)) < 24 := by omega
      have e1 : R.set (0 + (min 23 (pickS x.b 24 + (y : Int))).toNat) (bitop .or .i64 (R.getD (0 + (min 23 (pickS x.b 24 + (y : Int))).toNat) (Cd.dflt U.int)) (shlop .i64 1 ((pickS x.a 48 + (k : Int)).tmod 48))) = rowsK x y (k + 1) (rowsY x (pickS (x.a.tdiv 48) 3 + 1).toNat y) := by
        rw [hs, Nat.zero_add]; rfl
      (repeat' ((conv => whnf); first | (exfalso; omega) | refine cpC (p2) ?_ | refine dpC (p2) ?_ | refine cpC (p3) ?_ | refine dpC (p3) ?_ | refine cpC (p4) ?_ | refine dpC (p4) ?_ | refine hK2 (k + 1) [some 0, some 1, some 2, some 3] _ _ ⟨by omega⟩ ⟨by omega⟩ (by exact bkI) | refine x0C ?_ | refine spC (fun hb => ?_) fun hb => ?_ | refine nilC (fun hb => ?_) ?_ | refine taC ?_ | refine saC ?_ | exact sdV | refine side_and ?_ ?_ | refine drawX_of mixed ?_))
end Go.SX
