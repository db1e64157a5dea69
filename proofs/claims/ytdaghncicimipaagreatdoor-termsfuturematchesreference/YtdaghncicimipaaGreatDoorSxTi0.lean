/-
  Walks: Ti0: what single functions of the program compute.
-/
import Derived.Test.YtdaghncicimipaaGreatDoorSxTh1
set_option linter.unusedVariables false
set_option linter.unusedSimpArgs false
namespace Go.SX
open Go.Proofs
set_option maxHeartbeats 4000000
set_option maxRecDepth 100000
def allT (l : List Event) (within now : Int) (i : Nat) : List Event := sortedS [] (hopesT l within now i)
theorem allT_yes {l : List Event} {within now : Int} {i : Nat} (h : i < l.length) (ho : openB l within now (l.getD i dE) = true) : sortedS (allT l within now i) [delT now (l.getD i dE).image] = allT l within now (i + 1) := by
 unfold allT
 rw [hopesT_succ h, if_pos ho, sorted_app]
theorem allT_no {l : List Event} {within now : Int} {i : Nat} (h : i < l.length) (ho : openB l within now (l.getD i dE) = false) : allT l within now i = allT l within now (i + 1) := by
 unfold allT
 rw [hopesT_succ h, if_neg (by rw [ho]; simp)]
theorem allT_len (l : List Event) (within now : Int) (i : Nat) : (allT l within now i).length ≤ i := by
 have h1 := hopesT_len l within now i
 have h2 := sortedS_len (hopesT l within now i) []
 unfold allT
 simp at h2; omega
def outX (l : List Event) (within now : Int) (im : List Int) (i : Nat) : List Event := ((l.take i).filter fun e => openB l within now e && decide (e.image ∈ im)).map fun e => delT now e.image
def outI (l : List Event) (within now : Int) (im : List Int) (i : Nat) : List Event := sortedS [] (outX l within now im i)
def outK (l : List Event) (within now : Int) (im : List Int) (i k : Nat) : List Event := sortedS [] (outX l within now im i ++ if (l.getD i dE).image ∈ im.take k then [delT now (l.getD i dE).image] else [])
theorem outX_len (l : List Event) (within now : Int) (im : List Int) (i : Nat) : (outX l within now im i).length ≤ i := by
 unfold outX
 rw [List.length_map]
 exact Nat.le_trans (List.length_filter_le _ _) (by simp; omega)
theorem outX_succ {l : List Event} {within now : Int} {im : List Int} {i : Nat} (h : i < l.length) : outX l within now im (i + 1) = outX l within now im i ++ if openB l within now (l.getD i dE) && decide ((l.getD i dE).image ∈ im) then [delT now (l.getD i dE).image] else [] := by
 unfold outX
 rw [take_tl h, List.filter_append, List.map_append]
 show _ ++ List.map _ (List.filter _ [l.getD i dE]) = _
 generalize l.getD i dE = e
 cases hc : openB l within now e && decide (e.image ∈ im) <;> simp [hc]
theorem outX_end (l : List Event) (within now : Int) (im : List Int) : outX l within now im l.length = (hopesS l within now).filter fun e => decide (e.image ∈ im) := by
 unfold outX hopesS
 rw [List.take_length, List.filter_map, List.filter_filter]
 congr 1
 refine List.filter_congr fun e _ => ?_
 rw [Bool.and_comm]; rfl
theorem outI_no {l : List Event} {within now : Int} {im : List Int} {i : Nat} (h : i < l.length) (ho : openB l within now (l.getD i dE) = false) : outI l within now im i = outI l within now im (i + 1) := by
 unfold outI
 rw [outX_succ h, ho]; simp
theorem outK_zero (l : List Event) (within now : Int) (im : List Int) (i : Nat) : outK l within now im i 0 = outI l within now im i := by unfold outK outI; simp
theorem outK_end {l : List Event} {within now : Int} {im : List Int} {i k : Nat} (h : i < l.length) (ho : openB l within now (l.getD i dE) = true) (hk : im.length ≤ k) : outK l within now im i k = outI l within now im (i + 1) := by
 unfold outK outI
 rw [outX_succ h, ho, List.take_of_length_le hk, Bool.true_and]
 by_cases hm : (l.getD i dE).image ∈ im
 ·rw [if_pos hm, if_pos (decide_eq_true hm)]
 ·rw [if_neg hm, if_neg (by rw [decide_eq_false hm]; simp)]
theorem outK_hit {l : List Event} {within now : Int} {im : List Int} (hN : im.Nodup) {i k : Nat} (hk : k < im.length) (h : im.getD k 0 = (l.getD i dE).image) : sortedS (outK l within now im i k) [delT now (l.getD i dE).image] = outK l within now im i (k + 1) := by
 have hno : ¬ (l.getD i dE).image ∈ im.take k := fun hm => by
  rw [← h, List.getD_eq_getElem?_getD, List.getElem?_eq_getElem hk] at hm
  obtain ⟨j, hj, e⟩ := List.getElem_of_mem hm
  rw [List.getElem_take] at e
  simp only [List.length_take] at hj
  exact absurd e (List.pairwise_iff_getElem.1 (List.nodup_iff_pairwise_ne.1 hN) j k (by omega) hk (by omega))
 have hyes : (l.getD i dE).image ∈ im.take (k + 1) := by
  rw [take_getD (d := 0) hk, h]; simp
 unfold outK
 rw [if_neg hno, if_pos hyes, List.append_nil, sorted_app]
theorem outK_miss {l : List Event} {within now : Int} {im : List Int} {i k : Nat} (hk : k < im.length) (h : ¬ im.getD k 0 = (l.getD i dE).image) : outK l within now im i k = outK l within now im i (k + 1) := by
 unfold outK
 congr 2
 rw [take_getD (d := 0) hk]
 by_cases hm : (l.getD i dE).image ∈ im.take k
 ·rw [if_pos hm, if_pos (List.mem_append_left _ hm)]
 ·rw [if_neg hm, if_neg (by rw [List.mem_append, List.mem_singleton]; rintro (h1 | h1); exact hm h1; exact h h1.symm)]
theorem outK_len (l : List Event) (within now : Int) (im : List Int) (i k : Nat) : (outK l within now im i k).length ≤ i + 1 := by
 have h1 := outX_len l within now im i
 have h2 := sortedS_len (outX l within now im i ++ if (l.getD i dE).image ∈ im.take k then [delT now (l.getD i dE).image] else []) []
 unfold outK
 rw [List.length_append] at h2
 have : (if (l.getD i dE).image ∈ im.take k then [delT now (l.getD i dE).image] else []).length ≤ 1 := by split <;> simp
 simp at h2 this ⊢; omega
def outM (l : List Event) (within now : Int) (im : List Int) (more : List Event) (i : Nat) : List Event := sortedS (outI l within now im l.length) (withDel (more.take i))
theorem outM_succ {l : List Event} {within now : Int} {im : List Int} {more : List Event} {i : Nat} (h : i < more.length) : sortedS (outM l within now im more i) [more.getD i dE, delT (more.getD i dE).at_ (more.getD i dE).image] = outM l within now im more (i + 1) := by
 unfold outM
 rw [sorted_app, withDel_take h]
theorem outM_len (l : List Event) (within now : Int) (im : List Int) (more : List Event) (i : Nat) : (outM l within now im more i).length ≤ l.length + 2 * i := by
 have h1 := outX_len l within now im l.length
 have h2 := sortedS_len (outX l within now im l.length) []
 have h3 := sortedS_len (withDel (more.take i)) (outI l within now im l.length)
 rw [withDel_len, List.length_take] at h3
 unfold outM
 unfold outI at h3 ⊢
 simp at h2; omega
theorem outM_end (l : List Event) (within now : Int) (im : List Int) (more : List Event) : outM l within now im more more.length = delOut (hopesS l within now) more im := by
 unfold outM outI delOut
 rw [outX_end, List.take_length, sorted_app, sorted_nil]
theorem rfin_del (g : Goal) (hk : g.kind = 4) (h1 : (g.kids.length : Int) = 1) (hw : 0 ≤ g.within ∧ g.within ≤ 1000000) (l : List Event) (hl : EvsOK l) (hs : StrE l) (hll : l.length ≤ 100000) (now image : Int) (hnow : 0 ≤ now ∧ now ≤ 1000000) (hm : meanG g l = none)
  (hme : Meets Tryz.prog Dc 39 [goalA g, eS l] [] (meanR (meanG g l)) [])
  (F : Option (List Event)) (hF : Meets Tryz.prog Dc 52 [goalA (kid0 g.kids), eS (hopedS l g.within now), iS now, iS image] [] (finR F) [])
  (hFl : ∀ more, F = some more → more.length ≤ 100000)
  (hs2 : ∀ more, F = some more → Meets Tryz.prog Dc 39 [goalA (kid0 g.kids), eS (mergeS (hopedS l g.within now ++ more))] [] (meanR (meanG (kid0 g.kids) (mergeS (hopedS l g.within now ++ more)))) [])
  (hsl : ∀ more, F = some more → (imsOf (meanG (kid0 g.kids) (mergeS (hopedS l g.within now ++ more)))).length ≤ 100000 ∧ (imsOf (meanG (kid0 g.kids) (mergeS (hopedS l g.within now ++ more)))).Nodup) :
  Meets Tryz.prog Dc 52 [goalA g, eS l, iS now, iS image] [] (finR (delM g l now F)) [] := by
 have hlen := hl.len
 rw [hm] at hme
 generalize hX : delM g l now F = X
 refine meets_of_gx Ax tab_ok Tryz.func52 (c := _) rfl Tryz.call52 900 ?_
 (repeat' ((conv => whnf); first | (exfalso; omega) | refine cpC (hme) ?_ | refine spC (fun hb => ?_) fun hb => ?_))
 refine loop_upT [some 0] (fun i : Nat => [(16, eS (allT l g.within now i)), (17, iS i)]) (fun _ => []) (fun i => i ≤ l.length) (fun i => l.length - i) 0 (Nat.zero_le _) (by exact bkI) ?_
 intro i hi K hK
 have hAl := allT_len l g.within now i
 rcases Nat.lt_or_ge i l.length with hlt | hge
 ·have hgi := getD_some (d := Cd.dflt U.event) hlt
  have ho := ropen l (l.getD (i : Int).toNat (Cd.dflt U.event)) g.within now hlen hl.i64 (hl.i64 _ (List.mem_of_getElem? hgi)) hw
  have hd := rdel now (l.getD (i : Int).toNat (Cd.dflt U.event)).image
  have hm1 : Meets Tryz.prog Dc 31 [eS (allT l g.within now i), .slice 0 0 7 0 1] [.rows U.event [delT now (l.getD (i : Int).toNat (Cd.dflt U.event)).image]] (eS (sortedS (allT l g.within now i) [delT now (l.getD (i : Int).toNat (Cd.dflt U.event)).image])) [.dead] := mgiveC (rsorted (allT l g.within now i) [delT now (l.getD (i : Int).toNat (Cd.dflt U.event)).image] (by omega) (by simp)) (by exact snV)
  cases hB : openB l g.within now (l.getD (i : Int).toNat (Cd.dflt U.event)) with
  | true =>
   have hs1 := allT_yes hlt hB
   rw [hB] at ho
   rw [show sortedS (allT l g.within now i) [delT now (l.getD (i : Int).toNat (Cd.dflt U.event)).image] = allT l g.within now (i + 1) from hs1] at hm1
   (repeat' ((conv => whnf); first | (exfalso; omega) | refine dpC (ho) ?_ | refine cpC (hd) ?_ | (refine callh [some 1] hm1 rfl rfl ⟨rfl, trivial⟩ ?_) | refine hK (i + 1) [some 0] _ _ ⟨by omega⟩ ⟨by omega⟩ (by exact bkI) | refine spC (fun hb => ?_) fun hb => ?_ | refine taC ?_ | refine saC ?_ | refine drawX_of mixed ?_))
   done
  | false =>
   have hs1 := allT_no hlt hB
   rw [hB] at ho
   (repeat' ((conv => whnf); first | (exfalso; omega) | refine dpC (ho) ?_ | refine hK (i + 1) [some 0] _ _ ⟨by omega⟩ ⟨by omega⟩ (by (rw [← hs1]; exact bkI)) | refine spC (fun hb => ?_) fun hb => ?_ | refine taC ?_ | refine saC ?_ | refine drawX_of mixed ?_))
   done
 ·have hie : i = l.length := by omega
  have hA : allT l g.within now i = sortedS [] (hopesS l g.within now) := by unfold allT; rw [hie, hopesT_end]
  rw [hA] at hAl ⊢
  have hso : Meets Tryz.prog Dc 31 [eS l, eS (sortedS [] (hopesS l g.within now))] [] (eS (mergeS (l ++ hopesS l g.within now))) [] := by
   rw [← sorted_two hs]
   exact rsorted l _ (by omega) (by omega)
  have hMl : (mergeS (l ++ hopesS l g.within now)).length ≤ 200000 := by
   have h1 := merge_len (l ++ hopesS l g.within now)
   have h2 : (hopesS l g.within now).length ≤ l.length := by unfold hopesS; rw [List.length_map]; exact List.length_filter_le _ _
   rw [List.length_append] at h1
   omega
  have hMm : ∀ e ∈ mergeS (l ++ hopesS l g.within now), I64d e := fun e he => by
   rcases List.mem_append.1 (merge_sub he) with h | h
   ·exact hl.i64 e h
   ·obtain ⟨x, _, _, rfl⟩ := hopes_mem h
    show -4611686018427387904 ≤ now ∧ now ≤ 4611686018427387903
    omega
  have hle := rleft (mergeS (l ++ hopesS l g.within now)) g.within (by omega) hMm hw
  have hHs : StrE (hopedS l g.within now) := str_filter (merge_str _) _
  have hHl : (hopedS l g.within now).length ≤ 200000 := Nat.le_trans (List.length_filter_le _ _) hMl
  change Meets _ _ _ _ _ (eS (hopedS l g.within now)) _ at hle
  unfold delM at hX
  cases F with
  | none =>
   obtain rfl : none = X := hX
   clear hK
   (repeat' ((conv => whnf); first | (exfalso; omega) | refine dpC (hso) ?_ | refine dpC (hle) ?_ | refine cpC (hF) ?_ | refine x0C ?_ | refine spC (fun hb => ?_) fun hb => ?_ | refine taC ?_ | refine saC ?_ | refine drawX_of mixed ?_))
   all_goals exact vwV
  | some more =>
   dsimp only at hX
   have hml := hFl more rfl
   have hs2 := hs2 more rfl
   obtain ⟨hsl, hnd⟩ := hsl more rfl
   rw [finR_cases, show (some more).getD [] = more from rfl, show (some more).isSome = true from rfl] at hF
   have hso2 : Meets Tryz.prog Dc 31 [eS (hopedS l g.within now), eS more] [] (eS (mergeS (hopedS l g.within now ++ more))) [] := by
    rw [merge_sorted hHs]
    exact rsorted _ _ (by omega) (by omega)
   obtain ⟨sp, sb, hsr⟩ : ∃ p b, meanR (meanG (kid0 g.kids) (mergeS (hopedS l g.within now ++ more))) = .tuple [iS p, lS (imsOf (meanG (kid0 g.kids) (mergeS (hopedS l g.within now ++ more)))), bS b] := by
    cases meanG (kid0 g.kids) (mergeS (hopedS l g.within now ++ more)) with
    | none => exact ⟨_, _, rfl⟩
    | some w => exact ⟨_, _, rfl⟩
   rw [hsr] at hs2
   generalize imsOf (meanG (kid0 g.kids) (mergeS (hopedS l g.within now ++ more))) = im at *
   generalize mergeS (hopedS l g.within now ++ more) = R2 at *
   clear hK
   (repeat' ((conv => whnf); first | (exfalso; omega) | refine dpC (hso) ?_ | refine dpC (hle) ?_ | refine cpC (hF) ?_ | refine dpC (hso2) ?_ | refine dpC (hs2) ?_ | refine spC (fun hb => ?_) fun hb => ?_ | refine taC ?_ | refine saC ?_ | refine drawX_of mixed ?_))
   refine loop_upT [some 0] (fun i : Nat => [(24, eS (outI l g.within now im i)), (25, iS i)]) (fun _ => []) (fun i => i ≤ l.length) (fun i => l.length - i) 0 (Nat.zero_le _) (by exact bkI) ?_
   intro i hi K hK
   have hIl : (outI l g.within now im i).length ≤ i := by
    have := sortedS_len (outX l g.within now im i) []
    have := outX_len l g.within now im i
    unfold outI
    simp at *; omega
   rcases Nat.lt_or_ge i l.length with hlt | hge
   ·have hgi := getD_some (d := Cd.dflt U.event) hlt
    have ho := ropen l (l.getD (i : Int).toNat (Cd.dflt U.event)) g.within now hlen hl.i64 (hl.i64 _ (List.mem_of_getElem? hgi)) hw
    have hd := rdel now (l.getD (i : Int).toNat (Cd.dflt U.event)).image
    cases hB : openB l g.within now (l.getD (i : Int).toNat (Cd.dflt U.event)) with
    | false =>
     have hs1 := outI_no (im := im) hlt hB
     rw [hB] at ho
     (repeat' ((conv => whnf); first | (exfalso; omega) | refine dpC (ho) ?_ | refine hK (i + 1) [some 0] _ _ ⟨by omega⟩ ⟨by omega⟩ (by (rw [← hs1]; exact bkI)) | refine spC (fun hb => ?_) fun hb => ?_ | refine taC ?_ | refine saC ?_ | refine drawX_of mixed ?_))
     done
    | true =>
     rw [hB] at ho
     rw [← outK_zero]
     (repeat' ((conv => whnf); first | (exfalso; omega) | refine dpC (ho) ?_ | refine spC (fun hb => ?_) fun hb => ?_ | refine taC ?_ | refine saC ?_ | refine drawX_of mixed ?_))
     refine loop_upT [some 0] (fun k : Nat => [(24, eS (outK l g.within now im i k)), (26, iS k)]) (fun _ => []) (fun k => k ≤ im.length) (fun k => im.length - k) 0 (Nat.zero_le _) (by exact bkI) ?_
     intro k hk K2 hK2
     have hKl := outK_len l g.within now im i k
     rcases Nat.lt_or_ge k im.length with hkl | hkg
     ·have hm1 : Meets Tryz.prog Dc 31 [eS (outK l g.within now im i k), .slice 0 0 7 0 1] [.rows U.event [delT now (l.getD (i : Int).toNat (Cd.dflt U.event)).image]] (eS (sortedS (outK l g.within now im i k) [delT now (l.getD (i : Int).toNat (Cd.dflt U.event)).image])) [.dead] := mgiveC (rsorted (outK l g.within now im i k) [delT now (l.getD (i : Int).toNat (Cd.dflt U.event)).image] (by omega) (by simp)) (by exact snV)
      have hhit : im.getD (k : Int).toNat (Cd.dflt U.int) = (l.getD (i : Int).toNat (Cd.dflt U.event)).image → sortedS (outK l g.within now im i k) [delT now (l.getD (i : Int).toNat (Cd.dflt U.event)).image] = outK l g.within now im i (k + 1) := fun h => outK_hit hnd hkl h
      have hmis : ¬ im.getD (k : Int).toNat (Cd.dflt U.int) = (l.getD (i : Int).toNat (Cd.dflt U.event)).image → outK l g.within now im i k = outK l g.within now im i (k + 1) := fun h => outK_miss hkl h
      (repeat' ((conv => whnf); first | (exfalso; omega) | refine cpC (hd) ?_ | (refine callh [some 1] hm1 rfl rfl ⟨rfl, trivial⟩ ?_) | refine hK2 (k + 1) [some 0] _ _ ⟨by omega⟩ ⟨by omega⟩ (by (rw [← hhit (by assumption)]; exact bkI)) | refine hK2 (k + 1) [some 0] _ _ ⟨by omega⟩ ⟨by omega⟩ (by (rw [← hmis (by assumption)]; exact bkI)) | refine spC (fun hb => ?_) fun hb => ?_ | refine taC ?_ | refine saC ?_ | refine drawX_of mixed ?_))
      done
     ·have hs1 := outK_end (im := im) (k := k) hlt hB hkg
      rw [hs1]
      (repeat' ((conv => whnf); first | (exfalso; omega) | refine hK (i + 1) [some 0] _ _ ⟨by omega⟩ ⟨by omega⟩ (by exact bkI) | refine spC (fun hb => ?_) fun hb => ?_ | refine saC ?_))
      done
   ·obtain rfl : i = l.length := by omega
    clear hK
    (repeat' ((conv => whnf); first | (exfalso; omega) | refine spC (fun hb => ?_) fun hb => ?_))
    refine loop_upT [some 0] (fun i : Nat => [(24, eS (outM l g.within now im more i)), (27, iS i)]) (fun _ => []) (fun i => i ≤ more.length) (fun i => more.length - i) 0 (Nat.zero_le _) (by exact bkI) ?_
    intro i hi K hK
    have hMl2 := outM_len l g.within now im more i
    rcases Nat.lt_or_ge i more.length with hlt | hge
    ·have hd := rdel (more.getD (i : Int).toNat (Cd.dflt U.event)).at_ (more.getD (i : Int).toNat (Cd.dflt U.event)).image
     have hm1 : Meets Tryz.prog Dc 31 [eS (outM l g.within now im more i), .slice 0 0 7 0 2] [.rows U.event [more.getD (i : Int).toNat (Cd.dflt U.event), delT (more.getD (i : Int).toNat (Cd.dflt U.event)).at_ (more.getD (i : Int).toNat (Cd.dflt U.event)).image]] (eS (outM l g.within now im more (i + 1))) [.dead] := mgiveC (by
      have := rsorted (outM l g.within now im more i) [more.getD (i : Int).toNat (Cd.dflt U.event), delT (more.getD (i : Int).toNat (Cd.dflt U.event)).at_ (more.getD (i : Int).toNat (Cd.dflt U.event)).image] (by omega) (by simp)
      rw [show sortedS (outM l g.within now im more i) [more.getD (i : Int).toNat (Cd.dflt U.event), delT (more.getD (i : Int).toNat (Cd.dflt U.event)).at_ (more.getD (i : Int).toNat (Cd.dflt U.event)).image] = outM l g.within now im more (i + 1) from outM_succ hlt] at this
      exact this) (by exact snV)
     (repeat' ((conv => whnf); first | (exfalso; omega) | refine dpC (hd) ?_ | (refine dcallh [some 1] hm1 rfl rfl ⟨rfl, trivial⟩ ?_) | refine hK (i + 1) [some 0] _ _ ⟨by omega⟩ ⟨by omega⟩ (by exact bkI) | refine spC (fun hb => ?_) fun hb => ?_ | refine taC ?_ | refine saC ?_ | refine drawX_of mixed ?_))
     done
    ·obtain rfl : i = more.length := by omega
     have hXe : X = some (outM l g.within now im more more.length) := by rw [← hX, outM_end]
     rw [hXe]
     clear hK
     (repeat' ((conv => whnf); first | (exfalso; omega) | refine x0C ?_ | refine spC (fun hb => ?_) fun hb => ?_))
     all_goals exact vwV
end Go.SX
