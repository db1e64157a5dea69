/-
  Walks: Td9: what single functions of the program compute.
-/
import Derived.Test.YtdaghncicimipaaGreatDoorSxTd7
namespace Go.SX
open Go.Proofs
set_option linter.unusedSimpArgs false
set_option linter.unusedVariables false
set_option maxHeartbeats 400000000
set_option maxRecDepth 100000
theorem rshot (g : Goal) (hr : (g.rows.length : Int) ≤ 1000) (at_ image look : Int) : Meets Tryz.prog Dc 56 [goalA g, iS at_, iS image, iS look] [] (.agg [iS 1, iS at_, iS image, .slice 0 0 1 0 g.rows.length, iS g.low, iS look, bS true]) [.rows U.int g.rows] := by
  refine meets_of_gx Ax tab_ok Tryz.func56 (c := _) rfl Tryz.call56 400 ?_
  (repeat' ((conv => whnf); first | (exfalso; omega) | (refine end_fn [some 3] (.inr rfl) ?_ ?_ rfl rfl; (focus exact vwV); exact hsV) | refine x0C ?_ | refine spC (fun hb => ?_) fun hb => ?_ | refine nilC (fun hb => ?_) ?_ | refine taC ?_ | refine saC ?_ | exact sdV | refine side_and ?_ ?_ | refine drawX_of mixed ?_))
theorem valid_elen {l : List Event} (h : validE l = true) : ∀ e ∈ l, ELen e := by
  intro e he
  unfold validE at h
  simp only [Bool.and_eq_true] at h
  have hf := ((ord_iff l).1 h.2).1 e he
  unfold formB at hf
  simp only [Bool.and_eq_true] at hf
  have h3 := hf.2
  unfold ELen
  split at h3
  · simp only [Bool.and_eq_true] at h3
    have := h3.2
    unfold areaB at this
    simp only [Bool.and_eq_true, decide_eq_true_eq] at this
    omega
  · split at h3
    · simp only [Bool.and_eq_true, decide_eq_true_eq] at h3; omega
    · cases h3
@[reducible] def a4S (x : List A4) : SV Cd := .p (.dsl U.arr4 x)
structure A4OK (x : A4) : Prop where
  a : I64 x.a
  b : I64 x.b
  c : I64 x.c
  d : I64 x.d
theorem revents (g : Goal) (hG : GAll g) (xs : List A4) (hx : ∀ x ∈ xs, A4OK x) (hxl : (xs.length : Int) ≤ 9223372036854775807) : Meets Tryz.prog Dc 32 [goalA g, a4S xs] [] (eS (eventsS g xs)) [] := by
  have h1 := rShots g hG
  have hev := eventsN_ok (shotsS g) xs (shots_ok g).2
  unfold eventsS
  obtain ⟨hsl, hso⟩ := shots_ok g
  generalize shotsS g = sh at *
  refine meets_of_gx Ax tab_ok Tryz.func32 (c := _) rfl Tryz.call32 400 ?_
  (repeat' ((conv => whnf); first | (exfalso; omega) | refine cpC (h1) ?_ | refine dpC (h1) ?_ | refine x0C ?_ | refine spC (fun hb => ?_) fun hb => ?_ | refine nilC (fun hb => ?_) ?_ | refine taC ?_ | refine saC ?_ | exact sdV | refine side_and ?_ ?_ | refine drawX_of mixed ?_))
  refine loop_upT [some 0] (fun i : Nat => [(6, eS (eventsN sh xs i).out), (7, iS (eventsN sh xs i).at_), (8, iS i)]) (fun _ => []) (fun i => i ≤ min xs.length 16) (fun i => 16 - i) 0 (Nat.zero_le _) (by exact bkI) ?_
  intro i hi K hK
  obtain ⟨v1, v2, v3, v4⟩ := hev i
  by_cases hgo : i < xs.length ∧ i < 16
  · obtain ⟨hlt, h16⟩ := hgo
    have hgi := getD_some (d := Cd.dflt U.arr4) hlt
    obtain ⟨xa, xb, xc, xd⟩ := hx _ (List.mem_of_getElem? hgi)
    have hst : eventsN sh xs (i + 1) = evNext sh (xs.getD (i : Int).toNat (Cd.dflt U.arr4)) i (eventsN sh xs i) := rfl
    have xa' := xa
    unfold I64 at xa'
    have p1 := pick15 (xs.getD (i : Int).toNat (Cd.dflt U.arr4)).b 400 xb (by omega)
    have b1 := pickS_bd (c := (xs.getD (i : Int).toNat (Cd.dflt U.arr4)).b) (n := 400) (by omega)
    have p2 := pick15 (xs.getD (i : Int).toNat (Cd.dflt U.arr4)).a ((i : Int) + 1) xa (by omega)
    have p3 := pick15 (xs.getD (i : Int).toNat (Cd.dflt U.arr4)).a 3 xa (by omega)
    have htd := tdiv_i64 (n := 3) xa (by omega)
    by_cases hc : 0 < pickS (xs.getD (i : Int).toNat (Cd.dflt U.arr4)).a 3 ∧ 0 < sh.length
    · have p4 := pick15 ((xs.getD (i : Int).toNat (Cd.dflt U.arr4)).a.tdiv 3) sh.length htd (by omega)
      have b4 := pickS_bd (c := (xs.getD (i : Int).toNat (Cd.dflt U.arr4)).a.tdiv 3) (n := sh.length) (by omega)
      have p5 := pick15 (xs.getD (i : Int).toNat (Cd.dflt U.arr4)).c 3 xc (by omega)
      have hSm : (sh.getD (pickS ((xs.getD (i : Int).toNat (Cd.dflt U.arr4)).a.tdiv 3) sh.length).toNat (Cd.dflt U.goal)) ∈ sh := by
        rw [List.getD_eq_getElem?_getD, List.getElem?_eq_getElem (by omega)]
        exact List.getElem_mem _
      have hS := hso _ hSm
      have hSl := hS.low
      have hSh := hS.high
      have hSf := hS.fr
      have hSr := hS.rl
      by_cases hA : (eventsN sh xs i).at_ + pickS (xs.getD (i : Int).toNat (Cd.dflt U.arr4)).b 400 < (sh.getD (pickS ((xs.getD (i : Int).toNat (Cd.dflt U.arr4)).a.tdiv 3) sh.length).toNat (Cd.dflt U.goal)).from_ ∧ pickS (xs.getD (i : Int).toNat (Cd.dflt U.arr4)).c 3 = 0
      · (repeat' ((conv => whnf); first | refine cpC (p1) ?_ | refine dpC (p1) ?_ | refine cpC (p2) ?_ | refine dpC (p2) ?_ | refine cpC (p3) ?_ | refine dpC (p3) ?_ | refine cpC (p4) ?_ | refine dpC (p4) ?_ | refine cpC (p5) ?_ | refine dpC (p5) ?_ | (exfalso; omega) | refine x0C ?_ | refine spC (fun hb => ?_) fun hb => ?_ | refine nilC (fun hb => ?_) ?_ | refine taC ?_ | refine saC ?_ | exact sdV | refine side_and ?_ ?_ | refine drawX_of mixed ?_))
        all_goals (
          have hmk : evMake sh (xs.getD (i : Int).toNat (Cd.dflt U.arr4)) i (eventsN sh xs i).at_ = (⟨1, (sh.getD (pickS ((xs.getD (i : Int).toNat (Cd.dflt U.arr4)).a.tdiv 3) sh.length).toNat (Cd.dflt U.goal)).from_, i, if pickS (xs.getD (i : Int).toNat (Cd.dflt U.arr4)).c 5 = 4 then (sh.getD (pickS ((xs.getD (i : Int).toNat (Cd.dflt U.arr4)).a.tdiv 3) sh.length).toNat (Cd.dflt U.goal)).rows.set (pickS (xs.getD (i : Int).toNat (Cd.dflt U.arr4)).d 24).toNat 0 else (sh.getD (pickS ((xs.getD (i : Int).toNat (Cd.dflt U.arr4)).a.tdiv 3) sh.length).toNat (Cd.dflt U.goal)).rows, min 90 ((sh.getD (pickS ((xs.getD (i : Int).toNat (Cd.dflt U.arr4)).a.tdiv 3) sh.length).toNat (Cd.dflt U.goal)).low + pickS (xs.getD (i : Int).toNat (Cd.dflt U.arr4)).c ((sh.getD (pickS ((xs.getD (i : Int).toNat (Cd.dflt U.arr4)).a.tdiv 3) sh.length).toNat (Cd.dflt U.goal)).high - (sh.getD (pickS ((xs.getD (i : Int).toNat (Cd.dflt U.arr4)).a.tdiv 3) sh.length).toNat (Cd.dflt U.goal)).low + 3)), pickS (xs.getD (i : Int).toNat (Cd.dflt U.arr4)).d 9 - 4, decide (0 < pickS (xs.getD (i : Int).toNat (Cd.dflt U.arr4)).c 4)⟩, (sh.getD (pickS ((xs.getD (i : Int).toNat (Cd.dflt U.arr4)).a.tdiv 3) sh.length).toNat (Cd.dflt U.goal)).from_) := by
            unfold evMake; rw [if_pos hc]; dsimp only; rw [if_pos hA]
          clear p1 p2 p3 p4 p5
          generalize (sh.getD (pickS ((xs.getD (i : Int).toNat (Cd.dflt U.arr4)).a.tdiv 3) sh.length).toNat (Cd.dflt U.goal)) = s at *
          have p6 := pick15 (xs.getD (i : Int).toNat (Cd.dflt U.arr4)).d 9 xd (by omega)
          have p7 := pick15 (xs.getD (i : Int).toNat (Cd.dflt U.arr4)).c (s.high - s.low + 3) xc (by omega)
          have p8 := pick15 (xs.getD (i : Int).toNat (Cd.dflt U.arr4)).c 4 xc (by omega)
          have p9 := pick15 (xs.getD (i : Int).toNat (Cd.dflt U.arr4)).c 5 xc (by omega)
          have p10 := pick15 (xs.getD (i : Int).toNat (Cd.dflt U.arr4)).d 24 xd (by omega)
          have b6 := pickS_bd (c := (xs.getD (i : Int).toNat (Cd.dflt U.arr4)).d) (n := 9) (by omega)
          have b7 := pickS_bd (c := (xs.getD (i : Int).toNat (Cd.dflt U.arr4)).c) (n := s.high - s.low + 3) (by omega)
          have b10 := pickS_bd (c := (xs.getD (i : Int).toNat (Cd.dflt U.arr4)).d) (n := 24) (by omega)
          have hs1 := rshot s (by omega) s.from_ (i : Int) (pickS (xs.getD (i : Int).toNat (Cd.dflt U.arr4)).d 9 - 4)
          by_cases hB : pickS (xs.getD (i : Int).toNat (Cd.dflt U.arr4)).c 5 = 4
          · obtain ⟨ev, hevd⟩ : ∃ ev, ev = (⟨1, s.from_, i, (s.rows.set (0 + (pickS (xs.getD (i : Int).toNat (Cd.dflt U.arr4)).d 24).toNat) 0), min 90 (s.low + pickS (xs.getD (i : Int).toNat (Cd.dflt U.arr4)).c (s.high - s.low + 3)), pickS (xs.getD (i : Int).toNat (Cd.dflt U.arr4)).d 9 - 4, decide (0 < pickS (xs.getD (i : Int).toNat (Cd.dflt U.arr4)).c 4)⟩ : Event) := ⟨_, rfl⟩
            have hm : evMake sh (xs.getD (i : Int).toNat (Cd.dflt U.arr4)) i (eventsN sh xs i).at_ = (ev, s.from_) := by
              rw [hevd, hmk]
              rw [if_pos hB, Nat.zero_add]
            have hnx : eventsN sh xs (i + 1) = ⟨if validE (insE (eventsN sh xs i).out ev) && decide ((eventsN sh xs i).out.length < (insE (eventsN sh xs i).out ev).length) then insE (eventsN sh xs i).out ev else (eventsN sh xs i).out, s.from_⟩ := by rw [hst]; unfold evNext; rw [hm]
            have hyes : validE (insE (eventsN sh xs i).out ev) = true → (((eventsN sh xs i).out.length : Nat) : Int) < (insE (eventsN sh xs i).out ev).length → eventsN sh xs (i + 1) = ⟨insE (eventsN sh xs i).out ev, s.from_⟩ := fun h1 h2 => by rw [hnx, h1, decide_eq_true (Int.ofNat_lt.1 h2)]; rfl
            have hno1 : validE (insE (eventsN sh xs i).out ev) = false → eventsN sh xs (i + 1) = ⟨(eventsN sh xs i).out, s.from_⟩ := fun h1 => by rw [hnx, h1]; rfl
            have hno2 : ¬ (((eventsN sh xs i).out.length : Nat) : Int) < (insE (eventsN sh xs i).out ev).length → eventsN sh xs (i + 1) = ⟨(eventsN sh xs i).out, s.from_⟩ := fun h1 => by rw [hnx, decide_eq_false (fun h => h1 (Int.ofNat_lt.2 h)), Bool.and_false]; rfl
            have hil := insE_len (eventsN sh xs i).out ev
            have hsv := rsorted (eventsN sh xs i).out [ev] (by omega) (by simp)
            have hvv := rvalidE (insE (eventsN sh xs i).out ev) (by omega) fun e he => by
              rcases insE_mem he with he | rfl
              · exact valid_elen v1 e he
              · rw [hevd]; show (((s.rows.set (0 + (pickS (xs.getD (i : Int).toNat (Cd.dflt U.arr4)).d 24).toNat) 0).length : Nat) : Int) ≤ _; rw [List.length_set]; omega
            change Meets _ _ _ _ _ (eS (insE (eventsN sh xs i).out ev)) _ at hsv
            rw [hevd] at hsv hvv hyes hno1 hno2 hil
            clear hnx hm hevd hmk hst
            (repeat' ((conv => whnf); first | refine cpC (p6) ?_ | refine dpC (p6) ?_ | refine cpC (p7) ?_ | refine dpC (p7) ?_ | refine cpC (p8) ?_ | refine dpC (p8) ?_ | refine cpC (p9) ?_ | refine dpC (p9) ?_ | refine cpC (p10) ?_ | refine dpC (p10) ?_ | (refine dcallh [] hs1 rfl rfl trivial ?_) | refine cpC (hvv) ?_ | refine dpC (hvv) ?_ | (exfalso; omega) | (refine frz_op [some 0, none, some 2, none] [(9, .any), (93, .any), (110, .any), (118, .any), (126, .any), (127, .any), (128, .any), (135, .any), (137, .agg [iS 1, iS s.from_, iS i, lS (s.rows.set (0 + (pickS (xs.getD (i : Int).toNat (Cd.dflt U.arr4)).d 24).toNat) 0), iS (min 90 (s.low + pickS (xs.getD (i : Int).toNat (Cd.dflt U.arr4)).c (s.high - s.low + 3))), iS (pickS (xs.getD (i : Int).toNat (Cd.dflt U.arr4)).d 9 - 4), bS (decide (0 < pickS (xs.getD (i : Int).toNat (Cd.dflt U.arr4)).c 4))])] [(1, .rows U.int []), (3, .rows U.int [])] (by exact bkV) ?_) | (refine frzC [some 0, some 1, some 2, some 3, none] [(138, .any)] [(4, .rows U.int [])] [eS (eventsN sh xs i).out, eS [(⟨1, s.from_, i, (s.rows.set (0 + (pickS (xs.getD (i : Int).toNat (Cd.dflt U.arr4)).d 24).toNat) 0), min 90 (s.low + pickS (xs.getD (i : Int).toNat (Cd.dflt U.arr4)).c (s.high - s.low + 3)), pickS (xs.getD (i : Int).toNat (Cd.dflt U.arr4)).d 9 - 4, decide (0 < pickS (xs.getD (i : Int).toNat (Cd.dflt U.arr4)).c 4)⟩ : Event)]] (by exact bkV) (by exact snV) ?_; (conv => whnf); refine cpC hsv ?_) | refine hK (i + 1) [some 0] _ _ ⟨by omega⟩ ⟨by omega⟩ (by (rw [hyes (by assumption) (by assumption)]; exact bkI)) | refine hK (i + 1) [some 0] _ _ ⟨by omega⟩ ⟨by omega⟩ (by (rw [hno1 (by assumption)]; exact bkI)) | refine hK (i + 1) [some 0] _ _ ⟨by omega⟩ ⟨by omega⟩ (by (rw [hno2 (by assumption)]; exact bkI)) | refine x0C ?_ | refine spC (fun hb => ?_) fun hb => ?_ | refine nilC (fun hb => ?_) ?_ | refine taC ?_ | refine saC ?_ | exact sdV | refine side_and ?_ ?_ | refine drawX_of mixed ?_))
          · obtain ⟨ev, hevd⟩ : ∃ ev, ev = (⟨1, s.from_, i, s.rows, min 90 (s.low + pickS (xs.getD (i : Int).toNat (Cd.dflt U.arr4)).c (s.high - s.low + 3)), pickS (xs.getD (i : Int).toNat (Cd.dflt U.arr4)).d 9 - 4, decide (0 < pickS (xs.getD (i : Int).toNat (Cd.dflt U.arr4)).c 4)⟩ : Event) := ⟨_, rfl⟩
            have hm : evMake sh (xs.getD (i : Int).toNat (Cd.dflt U.arr4)) i (eventsN sh xs i).at_ = (ev, s.from_) := by
              rw [hevd, hmk]
              rw [if_neg hB]
            have hnx : eventsN sh xs (i + 1) = ⟨if validE (insE (eventsN sh xs i).out ev) && decide ((eventsN sh xs i).out.length < (insE (eventsN sh xs i).out ev).length) then insE (eventsN sh xs i).out ev else (eventsN sh xs i).out, s.from_⟩ := by rw [hst]; unfold evNext; rw [hm]
            have hyes : validE (insE (eventsN sh xs i).out ev) = true → (((eventsN sh xs i).out.length : Nat) : Int) < (insE (eventsN sh xs i).out ev).length → eventsN sh xs (i + 1) = ⟨insE (eventsN sh xs i).out ev, s.from_⟩ := fun h1 h2 => by rw [hnx, h1, decide_eq_true (Int.ofNat_lt.1 h2)]; rfl
            have hno1 : validE (insE (eventsN sh xs i).out ev) = false → eventsN sh xs (i + 1) = ⟨(eventsN sh xs i).out, s.from_⟩ := fun h1 => by rw [hnx, h1]; rfl
            have hno2 : ¬ (((eventsN sh xs i).out.length : Nat) : Int) < (insE (eventsN sh xs i).out ev).length → eventsN sh xs (i + 1) = ⟨(eventsN sh xs i).out, s.from_⟩ := fun h1 => by rw [hnx, decide_eq_false (fun h => h1 (Int.ofNat_lt.2 h)), Bool.and_false]; rfl
            have hil := insE_len (eventsN sh xs i).out ev
            have hsv := rsorted (eventsN sh xs i).out [ev] (by omega) (by simp)
            have hvv := rvalidE (insE (eventsN sh xs i).out ev) (by omega) fun e he => by
              rcases insE_mem he with he | rfl
              · exact valid_elen v1 e he
              · rw [hevd]; show ((s.rows.length : Nat) : Int) ≤ _; omega
            change Meets _ _ _ _ _ (eS (insE (eventsN sh xs i).out ev)) _ at hsv
            rw [hevd] at hsv hvv hyes hno1 hno2 hil
            clear hnx hm hevd hmk hst
            (repeat' ((conv => whnf); first | refine cpC (p6) ?_ | refine dpC (p6) ?_ | refine cpC (p7) ?_ | refine dpC (p7) ?_ | refine cpC (p8) ?_ | refine dpC (p8) ?_ | refine cpC (p9) ?_ | refine dpC (p9) ?_ | refine cpC (p10) ?_ | refine dpC (p10) ?_ | (refine dcallh [] hs1 rfl rfl trivial ?_) | refine cpC (hvv) ?_ | refine dpC (hvv) ?_ | (exfalso; omega) | (refine frz_op [some 0, none, some 2, none] [(9, .any), (93, .any), (110, .any), (118, .any), (126, .any), (127, .any), (128, .any), (135, .any), (137, .agg [iS 1, iS s.from_, iS i, lS s.rows, iS (min 90 (s.low + pickS (xs.getD (i : Int).toNat (Cd.dflt U.arr4)).c (s.high - s.low + 3))), iS (pickS (xs.getD (i : Int).toNat (Cd.dflt U.arr4)).d 9 - 4), bS (decide (0 < pickS (xs.getD (i : Int).toNat (Cd.dflt U.arr4)).c 4))])] [(1, .rows U.int []), (3, .rows U.int [])] (by exact bkV) ?_) | (refine frzC [some 0, some 1, some 2, some 3, none] [(138, .any)] [(4, .rows U.int [])] [eS (eventsN sh xs i).out, eS [(⟨1, s.from_, i, s.rows, min 90 (s.low + pickS (xs.getD (i : Int).toNat (Cd.dflt U.arr4)).c (s.high - s.low + 3)), pickS (xs.getD (i : Int).toNat (Cd.dflt U.arr4)).d 9 - 4, decide (0 < pickS (xs.getD (i : Int).toNat (Cd.dflt U.arr4)).c 4)⟩ : Event)]] (by exact bkV) (by exact snV) ?_; (conv => whnf); refine cpC hsv ?_) | refine hK (i + 1) [some 0] _ _ ⟨by omega⟩ ⟨by omega⟩ (by (rw [hyes (by assumption) (by assumption)]; exact bkI)) | refine hK (i + 1) [some 0] _ _ ⟨by omega⟩ ⟨by omega⟩ (by (rw [hno1 (by assumption)]; exact bkI)) | refine hK (i + 1) [some 0] _ _ ⟨by omega⟩ ⟨by omega⟩ (by (rw [hno2 (by assumption)]; exact bkI)) | refine x0C ?_ | refine spC (fun hb => ?_) fun hb => ?_ | refine nilC (fun hb => ?_) ?_ | refine taC ?_ | refine saC ?_ | exact sdV | refine side_and ?_ ?_ | refine drawX_of mixed ?_)))
      · (repeat' ((conv => whnf); first | refine cpC (p1) ?_ | refine dpC (p1) ?_ | refine cpC (p2) ?_ | refine dpC (p2) ?_ | refine cpC (p3) ?_ | refine dpC (p3) ?_ | refine cpC (p4) ?_ | refine dpC (p4) ?_ | refine cpC (p5) ?_ | refine dpC (p5) ?_ | (exfalso; omega) | refine x0C ?_ | refine spC (fun hb => ?_) fun hb => ?_ | refine nilC (fun hb => ?_) ?_ | refine taC ?_ | refine saC ?_ | exact sdV | refine side_and ?_ ?_ | refine drawX_of mixed ?_))
        all_goals (
          have hmk : evMake sh (xs.getD (i : Int).toNat (Cd.dflt U.arr4)) i (eventsN sh xs i).at_ = (⟨1, ((eventsN sh xs i).at_ + pickS (xs.getD (i : Int).toNat (Cd.dflt U.arr4)).b 400), i, if pickS (xs.getD (i : Int).toNat (Cd.dflt U.arr4)).c 5 = 4 then (sh.getD (pickS ((xs.getD (i : Int).toNat (Cd.dflt U.arr4)).a.tdiv 3) sh.length).toNat (Cd.dflt U.goal)).rows.set (pickS (xs.getD (i : Int).toNat (Cd.dflt U.arr4)).d 24).toNat 0 else (sh.getD (pickS ((xs.getD (i : Int).toNat (Cd.dflt U.arr4)).a.tdiv 3) sh.length).toNat (Cd.dflt U.goal)).rows, min 90 ((sh.getD (pickS ((xs.getD (i : Int).toNat (Cd.dflt U.arr4)).a.tdiv 3) sh.length).toNat (Cd.dflt U.goal)).low + pickS (xs.getD (i : Int).toNat (Cd.dflt U.arr4)).c ((sh.getD (pickS ((xs.getD (i : Int).toNat (Cd.dflt U.arr4)).a.tdiv 3) sh.length).toNat (Cd.dflt U.goal)).high - (sh.getD (pickS ((xs.getD (i : Int).toNat (Cd.dflt U.arr4)).a.tdiv 3) sh.length).toNat (Cd.dflt U.goal)).low + 3)), pickS (xs.getD (i : Int).toNat (Cd.dflt U.arr4)).d 9 - 4, decide (0 < pickS (xs.getD (i : Int).toNat (Cd.dflt U.arr4)).c 4)⟩, ((eventsN sh xs i).at_ + pickS (xs.getD (i : Int).toNat (Cd.dflt U.arr4)).b 400)) := by
            unfold evMake; rw [if_pos hc]; dsimp only; rw [if_neg hA]
          clear p1 p2 p3 p4 p5
          generalize (sh.getD (pickS ((xs.getD (i : Int).toNat (Cd.dflt U.arr4)).a.tdiv 3) sh.length).toNat (Cd.dflt U.goal)) = s at *
          have p6 := pick15 (xs.getD (i : Int).toNat (Cd.dflt U.arr4)).d 9 xd (by omega)
          have p7 := pick15 (xs.getD (i : Int).toNat (Cd.dflt U.arr4)).c (s.high - s.low + 3) xc (by omega)
          have p8 := pick15 (xs.getD (i : Int).toNat (Cd.dflt U.arr4)).c 4 xc (by omega)
          have p9 := pick15 (xs.getD (i : Int).toNat (Cd.dflt U.arr4)).c 5 xc (by omega)
          have p10 := pick15 (xs.getD (i : Int).toNat (Cd.dflt U.arr4)).d 24 xd (by omega)
          have b6 := pickS_bd (c := (xs.getD (i : Int).toNat (Cd.dflt U.arr4)).d) (n := 9) (by omega)
          have b7 := pickS_bd (c := (xs.getD (i : Int).toNat (Cd.dflt U.arr4)).c) (n := s.high - s.low + 3) (by omega)
          have b10 := pickS_bd (c := (xs.getD (i : Int).toNat (Cd.dflt U.arr4)).d) (n := 24) (by omega)
          have hs1 := rshot s (by omega) ((eventsN sh xs i).at_ + pickS (xs.getD (i : Int).toNat (Cd.dflt U.arr4)).b 400) (i : Int) (pickS (xs.getD (i : Int).toNat (Cd.dflt U.arr4)).d 9 - 4)
          by_cases hB : pickS (xs.getD (i : Int).toNat (Cd.dflt U.arr4)).c 5 = 4
          · obtain ⟨ev, hevd⟩ : ∃ ev, ev = (⟨1, ((eventsN sh xs i).at_ + pickS (xs.getD (i : Int).toNat (Cd.dflt U.arr4)).b 400), i, (s.rows.set (0 + (pickS (xs.getD (i : Int).toNat (Cd.dflt U.arr4)).d 24).toNat) 0), min 90 (s.low + pickS (xs.getD (i : Int).toNat (Cd.dflt U.arr4)).c (s.high - s.low + 3)), pickS (xs.getD (i : Int).toNat (Cd.dflt U.arr4)).d 9 - 4, decide (0 < pickS (xs.getD (i : Int).toNat (Cd.dflt U.arr4)).c 4)⟩ : Event) := ⟨_, rfl⟩
            have hm : evMake sh (xs.getD (i : Int).toNat (Cd.dflt U.arr4)) i (eventsN sh xs i).at_ = (ev, ((eventsN sh xs i).at_ + pickS (xs.getD (i : Int).toNat (Cd.dflt U.arr4)).b 400)) := by
              rw [hevd, hmk]
              rw [if_pos hB, Nat.zero_add]
            have hnx : eventsN sh xs (i + 1) = ⟨if validE (insE (eventsN sh xs i).out ev) && decide ((eventsN sh xs i).out.length < (insE (eventsN sh xs i).out ev).length) then insE (eventsN sh xs i).out ev else (eventsN sh xs i).out, ((eventsN sh xs i).at_ + pickS (xs.getD (i : Int).toNat (Cd.dflt U.arr4)).b 400)⟩ := by rw [hst]; unfold evNext; rw [hm]
            have hyes : validE (insE (eventsN sh xs i).out ev) = true → (((eventsN sh xs i).out.length : Nat) : Int) < (insE (eventsN sh xs i).out ev).length → eventsN sh xs (i + 1) = ⟨insE (eventsN sh xs i).out ev, ((eventsN sh xs i).at_ + pickS (xs.getD (i : Int).toNat (Cd.dflt U.arr4)).b 400)⟩ := fun h1 h2 => by rw [hnx, h1, decide_eq_true (Int.ofNat_lt.1 h2)]; rfl
            have hno1 : validE (insE (eventsN sh xs i).out ev) = false → eventsN sh xs (i + 1) = ⟨(eventsN sh xs i).out, ((eventsN sh xs i).at_ + pickS (xs.getD (i : Int).toNat (Cd.dflt U.arr4)).b 400)⟩ := fun h1 => by rw [hnx, h1]; rfl
            have hno2 : ¬ (((eventsN sh xs i).out.length : Nat) : Int) < (insE (eventsN sh xs i).out ev).length → eventsN sh xs (i + 1) = ⟨(eventsN sh xs i).out, ((eventsN sh xs i).at_ + pickS (xs.getD (i : Int).toNat (Cd.dflt U.arr4)).b 400)⟩ := fun h1 => by rw [hnx, decide_eq_false (fun h => h1 (Int.ofNat_lt.2 h)), Bool.and_false]; rfl
            have hil := insE_len (eventsN sh xs i).out ev
            have hsv := rsorted (eventsN sh xs i).out [ev] (by omega) (by simp)
            have hvv := rvalidE (insE (eventsN sh xs i).out ev) (by omega) fun e he => by
              rcases insE_mem he with he | rfl
              · exact valid_elen v1 e he
              · rw [hevd]; show (((s.rows.set (0 + (pickS (xs.getD (i : Int).toNat (Cd.dflt U.arr4)).d 24).toNat) 0).length : Nat) : Int) ≤ _; rw [List.length_set]; omega
            change Meets _ _ _ _ _ (eS (insE (eventsN sh xs i).out ev)) _ at hsv
            rw [hevd] at hsv hvv hyes hno1 hno2 hil
            clear hnx hm hevd hmk hst
            (repeat' ((conv => whnf); first | refine cpC (p6) ?_ | refine dpC (p6) ?_ | refine cpC (p7) ?_ | refine dpC (p7) ?_ | refine cpC (p8) ?_ | refine dpC (p8) ?_ | refine cpC (p9) ?_ | refine dpC (p9) ?_ | refine cpC (p10) ?_ | refine dpC (p10) ?_ | (refine dcallh [] hs1 rfl rfl trivial ?_) | refine cpC (hvv) ?_ | refine dpC (hvv) ?_ | (exfalso; omega) | (refine frz_op [some 0, none, some 2, none] [(9, .any), (93, .any), (110, .any), (118, .any), (126, .any), (127, .any), (128, .any), (135, .any), (137, .agg [iS 1, iS ((eventsN sh xs i).at_ + pickS (xs.getD (i : Int).toNat (Cd.dflt U.arr4)).b 400), iS i, lS (s.rows.set (0 + (pickS (xs.getD (i : Int).toNat (Cd.dflt U.arr4)).d 24).toNat) 0), iS (min 90 (s.low + pickS (xs.getD (i : Int).toNat (Cd.dflt U.arr4)).c (s.high - s.low + 3))), iS (pickS (xs.getD (i : Int).toNat (Cd.dflt U.arr4)).d 9 - 4), bS (decide (0 < pickS (xs.getD (i : Int).toNat (Cd.dflt U.arr4)).c 4))])] [(1, .rows U.int []), (3, .rows U.int [])] (by exact bkV) ?_) | (refine frzC [some 0, some 1, some 2, some 3, none] [(138, .any)] [(4, .rows U.int [])] [eS (eventsN sh xs i).out, eS [(⟨1, ((eventsN sh xs i).at_ + pickS (xs.getD (i : Int).toNat (Cd.dflt U.arr4)).b 400), i, (s.rows.set (0 + (pickS (xs.getD (i : Int).toNat (Cd.dflt U.arr4)).d 24).toNat) 0), min 90 (s.low + pickS (xs.getD (i : Int).toNat (Cd.dflt U.arr4)).c (s.high - s.low + 3)), pickS (xs.getD (i : Int).toNat (Cd.dflt U.arr4)).d 9 - 4, decide (0 < pickS (xs.getD (i : Int).toNat (Cd.dflt U.arr4)).c 4)⟩ : Event)]] (by exact bkV) (by exact snV) ?_; (conv => whnf); refine cpC hsv ?_) | refine hK (i + 1) [some 0] _ _ ⟨by omega⟩ ⟨by omega⟩ (by (rw [hyes (by assumption) (by assumption)]; exact bkI)) | refine hK (i + 1) [some 0] _ _ ⟨by omega⟩ ⟨by omega⟩ (by (rw [hno1 (by assumption)]; exact bkI)) | refine hK (i + 1) [some 0] _ _ ⟨by omega⟩ ⟨by omega⟩ (by (rw [hno2 (by assumption)]; exact bkI)) | refine x0C ?_ | refine spC (fun hb => ?_) fun hb => ?_ | refine nilC (fun hb => ?_) ?_ | refine taC ?_ | refine saC ?_ | exact sdV | refine side_and ?_ ?_ | refine drawX_of mixed ?_))
          · obtain ⟨ev, hevd⟩ : ∃ ev, ev = (⟨1, ((eventsN sh xs i).at_ + pickS (xs.getD (i : Int).toNat (Cd.dflt U.arr4)).b 400), i, s.rows, min 90 (s.low + pickS (xs.getD (i : Int).toNat (Cd.dflt U.arr4)).c (s.high - s.low + 3)), pickS (xs.getD (i : Int).toNat (Cd.dflt U.arr4)).d 9 - 4, decide (0 < pickS (xs.getD (i : Int).toNat (Cd.dflt U.arr4)).c 4)⟩ : Event) := ⟨_, rfl⟩
            have hm : evMake sh (xs.getD (i : Int).toNat (Cd.dflt U.arr4)) i (eventsN sh xs i).at_ = (ev, ((eventsN sh xs i).at_ + pickS (xs.getD (i : Int).toNat (Cd.dflt U.arr4)).b 400)) := by
              rw [hevd, hmk]
              rw [if_neg hB]
            have hnx : eventsN sh xs (i + 1) = ⟨if validE (insE (eventsN sh xs i).out ev) && decide ((eventsN sh xs i).out.length < (insE (eventsN sh xs i).out ev).length) then insE (eventsN sh xs i).out ev else (eventsN sh xs i).out, ((eventsN sh xs i).at_ + pickS (xs.getD (i : Int).toNat (Cd.dflt U.arr4)).b 400)⟩ := by rw [hst]; unfold evNext; rw [hm]
            have hyes : validE (insE (eventsN sh xs i).out ev) = true → (((eventsN sh xs i).out.length : Nat) : Int) < (insE (eventsN sh xs i).out ev).length → eventsN sh xs (i + 1) = ⟨insE (eventsN sh xs i).out ev, ((eventsN sh xs i).at_ + pickS (xs.getD (i : Int).toNat (Cd.dflt U.arr4)).b 400)⟩ := fun h1 h2 => by rw [hnx, h1, decide_eq_true (Int.ofNat_lt.1 h2)]; rfl
            have hno1 : validE (insE (eventsN sh xs i).out ev) = false → eventsN sh xs (i + 1) = ⟨(eventsN sh xs i).out, ((eventsN sh xs i).at_ + pickS (xs.getD (i : Int).toNat (Cd.dflt U.arr4)).b 400)⟩ := fun h1 => by rw [hnx, h1]; rfl
            have hno2 : ¬ (((eventsN sh xs i).out.length : Nat) : Int) < (insE (eventsN sh xs i).out ev).length → eventsN sh xs (i + 1) = ⟨(eventsN sh xs i).out, ((eventsN sh xs i).at_ + pickS (xs.getD (i : Int).toNat (Cd.dflt U.arr4)).b 400)⟩ := fun h1 => by rw [hnx, decide_eq_false (fun h => h1 (Int.ofNat_lt.2 h)), Bool.and_false]; rfl
            have hil := insE_len (eventsN sh xs i).out ev
            have hsv := rsorted (eventsN sh xs i).out [ev] (by omega) (by simp)
            have hvv := rvalidE (insE (eventsN sh xs i).out ev) (by omega) fun e he => by
              rcases insE_mem he with he | rfl
              · exact valid_elen v1 e he
              · rw [hevd]; show ((s.rows.length : Nat) : Int) ≤ _; omega
            change Meets _ _ _ _ _ (eS (insE (eventsN sh xs i).out ev)) _ at hsv
            rw [hevd] at hsv hvv hyes hno1 hno2 hil
            clear hnx hm hevd hmk hst
            (repeat' ((conv => whnf); first | refine cpC (p6) ?_ | refine dpC (p6) ?_ | refine cpC (p7) ?_ | refine dpC (p7) ?_ | refine cpC (p8) ?_ | refine dpC (p8) ?_ | refine cpC (p9) ?_ | refine dpC (p9) ?_ | refine cpC (p10) ?_ | refine dpC (p10) ?_ | (refine dcallh [] hs1 rfl rfl trivial ?_) | refine cpC (hvv) ?_ | refine dpC (hvv) ?_ | (exfalso; omega) | (refine frz_op [some 0, none, some 2, none] [(9, .any), (93, .any), (110, .any), (118, .any), (126, .any), (127, .any), (128, .any), (135, .any), (137, .agg [iS 1, iS ((eventsN sh xs i).at_ + pickS (xs.getD (i : Int).toNat (Cd.dflt U.arr4)).b 400), iS i, lS s.rows, iS (min 90 (s.low + pickS (xs.getD (i : Int).toNat (Cd.dflt U.arr4)).c (s.high - s.low + 3))), iS (pickS (xs.getD (i : Int).toNat (Cd.dflt U.arr4)).d 9 - 4), bS (decide (0 < pickS (xs.getD (i : Int).toNat (Cd.dflt U.arr4)).c 4))])] [(1, .rows U.int []), (3, .rows U.int [])] (by exact bkV) ?_) | (refine frzC [some 0, some 1, some 2, some 3, none] [(138, .any)] [(4, .rows U.int [])] [eS (eventsN sh xs i).out, eS [(⟨1, ((eventsN sh xs i).at_ + pickS (xs.getD (i : Int).toNat (Cd.dflt U.arr4)).b 400), i, s.rows, min 90 (s.low + pickS (xs.getD (i : Int).toNat (Cd.dflt U.arr4)).c (s.high - s.low + 3)), pickS (xs.getD (i : Int).toNat (Cd.dflt U.arr4)).d 9 - 4, decide (0 < pickS (xs.getD (i : Int).toNat (Cd.dflt U.arr4)).c 4)⟩ : Event)]] (by exact bkV) (by exact snV) ?_; (conv => whnf); refine cpC hsv ?_) | refine hK (i + 1) [some 0] _ _ ⟨by omega⟩ ⟨by omega⟩ (by (rw [hyes (by assumption) (by assumption)]; exact bkI)) | refine hK (i + 1) [some 0] _ _ ⟨by omega⟩ ⟨by omega⟩ (by (rw [hno1 (by assumption)]; exact bkI)) | refine hK (i + 1) [some 0] _ _ ⟨by omega⟩ ⟨by omega⟩ (by (rw [hno2 (by assumption)]; exact bkI)) | refine x0C ?_ | refine spC (fun hb => ?_) fun hb => ?_ | refine nilC (fun hb => ?_) ?_ | refine taC ?_ | refine saC ?_ | exact sdV | refine side_and ?_ ?_ | refine drawX_of mixed ?_)))
    · obtain ⟨ev, hevd⟩ : ∃ ev, ev = (⟨2, ((eventsN sh xs i).at_ + pickS (xs.getD (i : Int).toNat (Cd.dflt U.arr4)).b 400), pickS (xs.getD (i : Int).toNat (Cd.dflt U.arr4)).a ((i : Int) + 1), [], 0, 0, false⟩ : Event) := ⟨_, rfl⟩
      have hm : evMake sh (xs.getD (i : Int).toNat (Cd.dflt U.arr4)) i (eventsN sh xs i).at_ = (ev, ((eventsN sh xs i).at_ + pickS (xs.getD (i : Int).toNat (Cd.dflt U.arr4)).b 400)) := by
        rw [hevd]; unfold evMake
        rw [if_neg hc]
      have hnx : eventsN sh xs (i + 1) = ⟨if validE (insE (eventsN sh xs i).out ev) && decide ((eventsN sh xs i).out.length < (insE (eventsN sh xs i).out ev).length) then insE (eventsN sh xs i).out ev else (eventsN sh xs i).out, ((eventsN sh xs i).at_ + pickS (xs.getD (i : Int).toNat (Cd.dflt U.arr4)).b 400)⟩ := by rw [hst]; unfold evNext; rw [hm]
      have hyes : validE (insE (eventsN sh xs i).out ev) = true → (((eventsN sh xs i).out.length : Nat) : Int) < (insE (eventsN sh xs i).out ev).length → eventsN sh xs (i + 1) = ⟨insE (eventsN sh xs i).out ev, ((eventsN sh xs i).at_ + pickS (xs.getD (i : Int).toNat (Cd.dflt U.arr4)).b 400)⟩ := fun h1 h2 => by rw [hnx, h1, decide_eq_true (Int.ofNat_lt.1 h2)]; rfl
      have hno1 : validE (insE (eventsN sh xs i).out ev) = false → eventsN sh xs (i + 1) = ⟨(eventsN sh xs i).out, ((eventsN sh xs i).at_ + pickS (xs.getD (i : Int).toNat (Cd.dflt U.arr4)).b 400)⟩ := fun h1 => by rw [hnx, h1]; rfl
      have hno2 : ¬ (((eventsN sh xs i).out.length : Nat) : Int) < (insE (eventsN sh xs i).out ev).length → eventsN sh xs (i + 1) = ⟨(eventsN sh xs i).out, ((eventsN sh xs i).at_ + pickS (xs.getD (i : Int).toNat (Cd.dflt U.arr4)).b 400)⟩ := fun h1 => by rw [hnx, decide_eq_false (fun h => h1 (Int.ofNat_lt.2 h)), Bool.and_false]; rfl
      have hil := insE_len (eventsN sh xs i).out ev
      have hsv := rsorted (eventsN sh xs i).out [ev] (by omega) (by simp)
      have hvv := rvalidE (insE (eventsN sh xs i).out ev) (by omega) fun e he => by
        rcases insE_mem he with he | rfl
        · exact valid_elen v1 e he
        · rw [hevd]; unfold ELen; dsimp only; simp
      change Meets _ _ _ _ _ (eS (insE (eventsN sh xs i).out ev)) _ at hsv
      rw [hevd] at hsv hvv hyes hno1 hno2 hil
      clear hnx hm hevd
      (repeat' ((conv => whnf); first | refine cpC (p1) ?_ | refine dpC (p1) ?_ | refine cpC (p2) ?_ | refine dpC (p2) ?_ | refine cpC (p3) ?_ | refine dpC (p3) ?_ | refine cpC (hvv) ?_ | refine dpC (hvv) ?_ | (exfalso; omega) | (refine frz_op [some 0, some 1] [(137, .agg [iS 2, iS ((eventsN sh xs i).at_ + pickS (xs.getD (i : Int).toNat (Cd.dflt U.arr4)).b 400), iS (pickS (xs.getD (i : Int).toNat (Cd.dflt U.arr4)).a ((i : Int) + 1)), lS [], iS 0, iS 0, bS false])] [] (by exact bkV) ?_) | (refine frzC [some 0, some 1, none] [(138, .any)] [(2, .rows U.int [])] [eS (eventsN sh xs i).out, eS [(⟨2, ((eventsN sh xs i).at_ + pickS (xs.getD (i : Int).toNat (Cd.dflt U.arr4)).b 400), pickS (xs.getD (i : Int).toNat (Cd.dflt U.arr4)).a ((i : Int) + 1), [], 0, 0, false⟩ : Event)]] (by exact bkV) (by exact snV) ?_; (conv => whnf); refine cpC hsv ?_) | refine cpC (hvv) ?_ | refine dpC (hvv) ?_ | refine hK (i + 1) [some 0] _ _ ⟨by omega⟩ ⟨by omega⟩ (by (rw [hyes (by assumption) (by assumption)]; exact bkI)) | refine hK (i + 1) [some 0] _ _ ⟨by omega⟩ ⟨by omega⟩ (by (rw [hno1 (by assumption)]; exact bkI)) | refine hK (i + 1) [some 0] _ _ ⟨by omega⟩ ⟨by omega⟩ (by (rw [hno2 (by assumption)]; exact bkI)) | refine x0C ?_ | refine spC (fun hb => ?_) fun hb => ?_ | refine nilC (fun hb => ?_) ?_ | refine taC ?_ | refine saC ?_ | exact sdV | refine side_and ?_ ?_ | refine drawX_of mixed ?_))
  · have hie : min xs.length 16 = i := by omega
    rw [hie]
    (repeat' ((conv => whnf); first | (exfalso; omega) | refine x0C ?_ | refine spC (fun hb => ?_) fun hb => ?_ | refine nilC (fun hb => ?_) ?_ | refine taC ?_ | refine saC ?_ | exact sdV | refine side_and ?_ ?_ | refine drawX_of mixed ?_))
    all_goals exact vwV
end Go.SX
