/-
  Walks: Tc1, Tc0, Tc2, Tc3, Tc4, Tp5, Td0, Td1: what single functions of the program compute.
-/
import Derived.Test.YtdaghncicimipaaGreatDoorSxTb5
import Derived.Test.YtdaghncicimipaaGreatDoorSxV9
namespace Go.SX
open Go.Proofs
set_option linter.unusedSimpArgs false
set_option linter.unusedVariables false
set_option maxHeartbeats 4000000
set_option maxRecDepth 100000
@[reducible] def goalC' (g : Goal) : List (PV Cd) := [.int .i64 g.kind, .dsl U.int g.rows, .int .i64 g.from_, .int .i64 g.to_, .int .i64 g.low, .int .i64 g.high, .bool g.clear, .int .i64 g.days, .int .i64 g.times, .int .i64 g.within, .dsl U.int g.cents, .dsl U.goal g.kids]
@[reducible] def takeC (g : Goal) (m : List Event) : List (SV Cd) := [.dptr [.dsl U.event m] 0, .dptr [.dsl U.int (longS g m)] 0, .ptr 0 0, .ptr 1 0, .dptr (goalC' g) 0]
@[reducible] def takeH (g : Goal) (m : List Event) (acc : List Int) : List (HS Cd) := [.vart none [.slice 2 0 1 0 acc.length], .vart none [.fn (.func 142) [] (takeC g m)], .rows U.int acc]
@[reducible] def takeD (g : Goal) (m : List Event) (acc : List Int) : List (HS Cd) := [.vart none [.slice 3 0 1 0 acc.length], .vart none [.fn (.func 142) [] (takeC g m)], .dead, .rows U.int acc]
/-- behind take: nothing was put down, or a new row -/
@[reducible] def takeO (g : Goal) (m : List Event) (acc r : List Int) : List (HS Cd) := match r with
  | [] => takeH g m acc
  | x :: r => takeD g m (acc ++ x :: r)
/-- what tells whether an EShot may be next -/
inductive CapT (g : Goal) (m : List Event) : List (SV Cd) → Prop
  | c0 : CapT g m [.dptr (goalC' g) 0]
  | c1 (i : Int) : CapT g m [.dptr (goalC' g) 0, .dptr [.dsl U.event m] 0, .dptr [.int .i64 i] 0]
theorem tnext0 (g : Goal) (hf : 0 ≤ g.from_ ∧ g.from_ ≤ 1000000) (hd : 0 ≤ g.days ∧ g.days ≤ 60) (e : Event) : Meets Tryz.prog Dc 144 [evA e, .dptr (goalC' g) 0] [] (bS (nextB g none e)) [] := by
  have h := tbegin g e hf hd
  refine meets_of_gx Ax tab_ok Tryz.func144 (c := _) rfl Tryz.call144 60 ?_
  (repeat' ((conv => whnf); first | refine x0C (eB ?_ rfl) | (exfalso; omega) | refine cpC (h) ?_ | refine dpC (h) ?_ | refine x0C ?_ | refine spC (fun hb => ?_) fun hb => ?_ | refine nilC (fun hb => ?_) ?_ | refine taC ?_ | refine saC ?_ | exact sdV | refine side_and ?_ ?_ | refine drawX_of mixed ?_))
  all_goals rfl
theorem tnext1 (g : Goal) (hd : 0 ≤ g.days ∧ g.days ≤ 60) (m : List Event) (hE : EvsOK m) (i : Nat) (hi : i < m.length) (e : Event) (he : I64d e) : Meets Tryz.prog Dc 143 [evA e, .dptr (goalC' g) 0, .dptr [.dsl U.event m] 0, .dptr [.int .i64 i] 0] [] (bS (nextB g (some (m.getD i (U.dflt .event))) e)) [] := by
  have hgi := getD_some (d := Cd.dflt U.event) hi
  have h := tfollow g (m.getD (i : Int).toNat (Cd.dflt U.event)) e (hE.i64 _ (List.mem_of_getElem? hgi)) he hd
  have hl := hE.len
  refine meets_of_gx Ax tab_ok Tryz.func143 (c := _) rfl Tryz.call143 60 ?_
  (repeat' ((conv => whnf); first | refine x0C (eB ?_ rfl) | (exfalso; omega) | refine cpC (h) ?_ | refine dpC (h) ?_ | refine x0C ?_ | refine spC (fun hb => ?_) fun hb => ?_ | refine nilC (fun hb => ?_) ?_ | refine taC ?_ | refine saC ?_ | exact sdV | refine side_and ?_ ?_ | refine drawX_of mixed ?_))
  all_goals rfl
theorem ttake (g : Goal) (hd : 0 ≤ g.days ∧ g.days ≤ 60) (m : List Event) (hE : EvsOK m) : ∀ (n from_ : Nat), from_ ≤ m.length → m.length - from_ = n → ∀ (need : Int) (f : FuncId) (caps : List (SV Cd)) (last : Option Event) (acc : List Int), 0 ≤ need → need ≤ 6 → CapT g m caps → (acc.length : Int) + (m.length - from_) ≤ 2000000 →
    (∀ x ∈ m, Meets Tryz.prog Dc f (evA x :: caps) [] (bS (nextB g last x)) []) →
    Meets Tryz.prog Dc 142 ([iS from_, iS need, .fn (.func f) [] caps] ++ takeC g m) (takeH g m acc) (bS (takeT g (m.drop from_) need last).2) (takeO g m acc (takeT g (m.drop from_) need last).1) := by
  intro n
  induction n using Nat.strongRecOn with
  | ind n ih =>
    intro from_ hfr hn need f caps last acc hn0 hn6 hc hacc hf
    have hl := hE.len
    rcases Int.lt_or_eq_of_le hn0 with hpos | rfl
    rotate_left
    · rw [takeT_zero]
      cases hc <;>
      · refine meets_of_gx Ax tab_ok Tryz.func142 (c := _) rfl Tryz.call142 200 ?_
        (repeat' ((conv => whnf); first | (exfalso; omega) | (refine end_fn [some 0, some 1, some 2] (.inr rfl) ?_ ?_ rfl rfl; (focus exact vwV); exact hsV) | refine x0C ?_ | refine spC (fun hb => ?_) fun hb => ?_ | refine nilC (fun hb => ?_) ?_ | refine taC ?_ | refine saC ?_ | exact sdV | refine side_and ?_ ?_ | refine drawX_of mixed ?_))
    · cases hc <;>
      · refine meets_of_gx Ax tab_ok Tryz.func142 (c := _) rfl Tryz.call142 200 ?_
        (repeat' ((conv => whnf); first | (exfalso; omega) | refine x0C ?_ | refine spC (fun hb => ?_) fun hb => ?_ | refine nilC (fun hb => ?_) ?_ | refine taC ?_ | refine saC ?_ | exact sdV | refine side_and ?_ ?_ | refine drawX_of mixed ?_))
        refine loop_up (fun i : Nat => [(11, bS false), (12, .ptr 3 0)]) (fun i => [(3, .vart none [iS i])]) (fun i => from_ ≤ i ∧ i ≤ m.length ∧ takeT g (m.drop from_) need last = takeT g (m.drop i) need last) (fun i => m.length - i) from_ ⟨Nat.le_refl _, hfr, rfl⟩ (by exact bkI) ?_
        rintro i ⟨hfi, hi, he⟩ K hK
        rw [he]
        have hll : (longS g m).length = m.length := longS_len g m
        rcases Nat.lt_or_ge i m.length with hlt | hge
        · have hgi := getD_some (d := Cd.dflt U.event) hlt
          have hx := hf _ (List.mem_of_getElem? hgi)
          have hdr := drop_getD (d := Cd.dflt U.event) hlt
          have hhd := longS_head g m i
          have hmiss := fun h => takeT_miss g (a := m.getD i (Cd.dflt U.event)) (l := m.drop (i + 1)) (need := need) (last := last) (by omega) h
          have hhit := fun h1 h2 => takeT_hit g (a := m.getD i (Cd.dflt U.event)) (l := m.drop (i + 1)) (need := need) (last := last) (by omega) h1 h2
          rw [← hdr] at hmiss hhit
          rw [hhd] at hmiss hhit
          cases hp : nextB g last (m.getD (i : Int).toNat (Cd.dflt U.event)) with
          | false =>
            rw [hp] at hx
            rw [hmiss (.inr hp)]
            rw [hmiss (.inr hp)] at he
            (repeat' ((conv => whnf); first | (exfalso; omega) | refine cpC (hx) ?_ | refine dpC (hx) ?_ | refine hK (i + 1) [some 0, some 1, some 2, some 4] _ _ ⟨⟨by omega, by omega, he⟩⟩ ⟨by omega⟩ (by exact bkI) | refine x0C ?_ | refine spC (fun hb => ?_) fun hb => ?_ | refine nilC (fun hb => ?_) ?_ | refine taC ?_ | refine saC ?_ | exact sdV | refine side_and ?_ ?_ | refine drawX_of mixed ?_))
          | true =>
            rw [hp] at hx
            by_cases hlo : need ≤ (longS g m).getD (i : Int).toNat (Cd.dflt U.int)
            · have hW : List.take acc.length acc ++ List.take 1 (List.drop 0 [(m.getD (i : Int).toNat (Cd.dflt U.event)).image]) = acc ++ [(m.getD i (Cd.dflt U.event)).image] := by simp
              have hWl : (List.take acc.length acc ++ List.take 1 (List.drop 0 [(m.getD (i : Int).toNat (Cd.dflt U.event)).image])).length = acc.length + 1 := by rw [hW]; simp
              have hih := ih (m.length - (i + 1)) (by omega) (i + 1) (by omega) rfl (need - 1) 143 _ (some (m.getD i (U.dflt .event))) (List.take acc.length acc ++ List.take 1 (List.drop 0 [(m.getD (i : Int).toNat (Cd.dflt U.event)).image])) (by omega) (by omega) (.c1 i) (by omega) fun x hx => tnext1 g hd m hE i hlt x (hE.i64 x hx)
              rw [show ((i + 1 : Nat) : Int) = (i : Int) + 1 from rfl] at hih
              have hh := hhit hlo hp
              cases hT : takeT g (m.drop (i + 1)) (need - 1) (some (m.getD i (U.dflt .event))) with
              | mk r ok =>
              have hh2 : takeT g (m.drop i) need last = ((m.getD i (Cd.dflt U.event)).image :: r, ok) := hh.trans (by rw [show takeT g (m.drop (i + 1)) (need - 1) (some (m.getD i (Cd.dflt U.event))) = (r, ok) from hT])
              rw [hT] at hih
              rw [hh2]
              cases r with
              | nil =>
                have hg : takeO g m acc ([(m.getD i (Cd.dflt U.event)).image], ok).1 = takeD g m (List.take acc.length acc ++ List.take 1 (List.drop 0 [(m.getD (i : Int).toNat (Cd.dflt U.event)).image])) := by rw [hW]
                rw [hg]
                (repeat' ((conv => whnf); first | (exfalso; omega) | refine cpC (hx) ?_ | refine dpC (hx) ?_ | (refine frzC [some 0, some 1, some 2, none, some 4, some 5] [(12, .any), (49, .any)] [(3, .rows U.int [])] ([iS ((i : Int) + 1), iS (need - 1), .fn (.func 143) [] [.dptr (goalC' g) 0, .dptr [.dsl U.event m] 0, .dptr [.int .i64 i] 0]] ++ takeC g m) (by exact bkV) (by exact snV) ?_; (conv => whnf); refine callh [some 0, some 1, some 5] hih rfl rfl ⟨rfl, rfl, rfl, trivial⟩ ?_) | (refine end_fn [some 0, some 1, some 2, some 5] (.inr rfl) ?_ ?_ rfl rfl; (focus exact vwV); exact hsV) | refine x0C ?_ | refine spC (fun hb => ?_) fun hb => ?_ | refine nilC (fun hb => ?_) ?_ | refine taC ?_ | refine saC ?_ | exact sdV | refine side_and ?_ ?_ | refine drawX_of mixed ?_))
              | cons y r =>
                have hg : takeO g m acc ((m.getD i (Cd.dflt U.event)).image :: y :: r, ok).1 = takeD g m ((List.take acc.length acc ++ List.take 1 (List.drop 0 [(m.getD (i : Int).toNat (Cd.dflt U.event)).image])) ++ y :: r) := by rw [hW, List.append_assoc]; rfl
                rw [hg]
                (repeat' ((conv => whnf); first | (exfalso; omega) | refine cpC (hx) ?_ | refine dpC (hx) ?_ | (refine frzC [some 0, some 1, some 2, none, some 4, some 5] [(12, .any), (49, .any)] [(3, .rows U.int [])] ([iS ((i : Int) + 1), iS (need - 1), .fn (.func 143) [] [.dptr (goalC' g) 0, .dptr [.dsl U.event m] 0, .dptr [.int .i64 i] 0]] ++ takeC g m) (by exact bkV) (by exact snV) ?_; (conv => whnf); refine callh [some 0, some 1, some 5] hih rfl rfl ⟨rfl, rfl, rfl, trivial⟩ ?_) | (refine end_fn [some 0, some 1, some 2, some 6] (.inr rfl) ?_ ?_ rfl rfl; (focus exact vwV); exact hsV) | refine x0C ?_ | refine spC (fun hb => ?_) fun hb => ?_ | refine nilC (fun hb => ?_) ?_ | refine taC ?_ | refine saC ?_ | exact sdV | refine side_and ?_ ?_ | refine drawX_of mixed ?_))
            · have hm := hmiss (.inl hlo)
              rw [hm] at he ⊢
              (repeat' ((conv => whnf); first | (exfalso; omega) | refine cpC (hx) ?_ | refine dpC (hx) ?_ | refine hK (i + 1) [some 0, some 1, some 2, some 4] _ _ ⟨⟨by omega, by omega, he⟩⟩ ⟨by omega⟩ (by exact bkI) | refine x0C ?_ | refine spC (fun hb => ?_) fun hb => ?_ | refine nilC (fun hb => ?_) ?_ | refine taC ?_ | refine saC ?_ | exact sdV | refine side_and ?_ ?_ | refine drawX_of mixed ?_))
        · rw [List.drop_of_length_le hge, takeT_nil g last (by omega)]
          (repeat' ((conv => whnf); first | (exfalso; omega) | (refine end_fn [some 0, some 1, some 2] (.inr rfl) ?_ ?_ rfl rfl; (focus exact vwV); exact hsV) | refine x0C ?_ | refine spC (fun hb => ?_) fun hb => ?_ | refine nilC (fun hb => ?_) ?_ | refine taC ?_ | refine saC ?_ | exact sdV | refine side_and ?_ ?_ | refine drawX_of mixed ?_))
end Go.SX

namespace Go.SX
open Go.Proofs
set_option linter.unusedSimpArgs false
set_option linter.unusedVariables false
set_option maxHeartbeats 4000000
set_option maxRecDepth 100000
theorem tevery (g : Goal) (hk : (g.kids.length : Int) = 1) (hdy : 0 ≤ g.days ∧ g.days ≤ 60) (hfr : 0 ≤ g.from_ ∧ g.from_ ≤ 1000000) (hti : 1 ≤ g.times ∧ g.times ≤ 6) (hg : GLen (kid0 g.kids)) (l : List Event) (now : Int) (h : EvsOK l) : Meets Tryz.prog Dc 115 [worldA l now, goalA g] [] (senR (everyM g l)) [] := by
  have h1 := tseen_meets (kid0 g.kids) hg l now h.len h.el
  have hE : EvsOK (seenS (kid0 g.kids) l) := ⟨Int.le_trans (Int.ofNat_le.2 (List.length_filter_le _ _)) h.len, fun e he => h.el e (List.mem_filter.1 he).1, fun e he => h.i64 e (List.mem_filter.1 he).1, fun e he => h.look e (List.mem_filter.1 he).1⟩
  unfold everyM
  generalize seenS (kid0 g.kids) l = m at h1 hE ⊢
  have hl := hE.len
  rw [takeS_T]
  have htk := ttake g hdy m hE m.length 0 (Nat.zero_le _) (Nat.sub_zero _) g.times 144 _ none [] (by omega) (by omega) .c0 (by simp; omega) fun x hx => tnext0 g hfr hdy x
  rw [List.drop_zero] at htk
  have htl := takeT_len g m g.times none
  have hts := takeS_len g m g.times none
  rw [takeS_T] at hts
  cases hT : takeT g m g.times none with
  | mk r ok =>
  rw [hT] at htk htl hts
  have hr0 : ok = true → r ≠ [] := fun e h => by
    subst e; subst h
    have := hts [] (by omega) rfl
    simp at this; omega
  have hst : List.replicate ((m.length : Nat) : Int).toNat (Cd.dflt U.int) = longR g m m.length := by rw [longR_start, Int.toNat_natCast]; rfl
  refine meets_of_gx Ax tab_ok Tryz.func115 (c := _) rfl Tryz.call115 400 ?_
  (repeat' ((conv => whnf); first | (exfalso; omega) | refine cpC (h1) ?_ | refine dpC (h1) ?_ | refine x0C ?_ | refine spC (fun hb => ?_) fun hb => ?_ | refine nilC (fun hb => ?_) ?_ | refine taC ?_ | refine saC ?_ | exact sdV | refine side_and ?_ ?_ | refine drawX_of mixed ?_))
  refine loop_up (fun j : Nat => [(8, iS ((j : Int) - 1))]) (fun j => [(4, .rows U.int (longR g m j))]) (fun j => j ≤ m.length) (fun j => j) m.length (Nat.le_refl _) (by exact bkI) ?_
  intro j hj K hK
  have hlr := longR_len g m hj
  match j with
  | 0 =>
    rw [longR_end]
    rw [show ((0 : Nat) : Int) = 0 from rfl] at htk
    cases ok with
    | false =>
      cases r <;>
      · (repeat' ((conv => whnf); first | (exfalso; omega) | refine x0C ?_ | refine spC (fun hb => ?_) fun hb => ?_ | refine nilC (fun hb => ?_) ?_ | refine taC ?_ | refine saC ?_ | exact sdV | refine side_and ?_ ?_ | refine drawX_of mixed ?_))
        refine frzC [none, none, some 2, none, none, none, some 6, some 7, none] [(2, .any), (3, .dptr (goalC' g) 0), (6, .dptr [.dsl U.event m] 0), (7, .dptr [.dsl U.int (longS g m)] 0), (13, .any), (20, .any), (62, .any), (63, .any), (64, .any), (66, .any)] [(0, .rows U.int []), (1, .rows U.int []), (3, .rows U.int []), (4, .rows U.int []), (5, .rows U.int []), (6, .vart none [.slice 8 0 1 0 0]), (7, .vart none [.fn (.func 142) [] [.dptr [.dsl U.event m] 0, .dptr [.dsl U.int (longS g m)] 0, .ptr 6 0, .ptr 7 0, .dptr (goalC' g) 0]]), (8, .rows U.int [])] [iS 0, iS g.times, .fn (.func 144) [] [.dptr (goalC' g) 0], .dptr [.dsl U.event m] 0, .dptr [.dsl U.int (longS g m)] 0, .ptr 6 0, .ptr 7 0, .dptr (goalC' g) 0] (by exact bkV) (by exact snV) ?_
        (conv => whnf)
        refine callh [some 6, some 7, some 8] htk rfl rfl ⟨rfl, rfl, rfl, trivial⟩ ?_
        (repeat' ((conv => whnf); first | (exfalso; omega) | refine x0C ?_ | refine spC (fun hb => ?_) fun hb => ?_ | refine nilC (fun hb => ?_) ?_ | refine taC ?_ | refine saC ?_ | exact sdV | refine side_and ?_ ?_ | refine drawX_of mixed ?_))
        all_goals exact vwV
    | true =>
      cases r with
      | nil => exact absurd rfl (hr0 rfl)
      | cons x r =>
        have him := images_meets (l := x :: r) (by simp) (by simp; simp at htl; omega)
        (repeat' ((conv => whnf); first | (exfalso; omega) | refine x0C ?_ | refine spC (fun hb => ?_) fun hb => ?_ | refine nilC (fun hb => ?_) ?_ | refine taC ?_ | refine saC ?_ | exact sdV | refine side_and ?_ ?_ | refine drawX_of mixed ?_))
        refine frzC [none, none, some 2, none, none, none, some 6, some 7, none] [(2, .any), (3, .dptr (goalC' g) 0), (6, .dptr [.dsl U.event m] 0), (7, .dptr [.dsl U.int (longS g m)] 0), (13, .any), (20, .any), (62, .any), (63, .any), (64, .any), (66, .any)] [(0, .rows U.int []), (1, .rows U.int []), (3, .rows U.int []), (4, .rows U.int []), (5, .rows U.int []), (6, .vart none [.slice 8 0 1 0 0]), (7, .vart none [.fn (.func 142) [] [.dptr [.dsl U.event m] 0, .dptr [.dsl U.int (longS g m)] 0, .ptr 6 0, .ptr 7 0, .dptr (goalC' g) 0]]), (8, .rows U.int [])] [iS 0, iS g.times, .fn (.func 144) [] [.dptr (goalC' g) 0], .dptr [.dsl U.event m] 0, .dptr [.dsl U.int (longS g m)] 0, .ptr 6 0, .ptr 7 0, .dptr (goalC' g) 0] (by exact bkV) (by exact snV) ?_
        (conv => whnf)
        refine callh [some 6, some 7, some 8] htk rfl rfl ⟨rfl, rfl, rfl, trivial⟩ ?_
        (repeat' ((conv => whnf); first | (exfalso; omega) | refine x0C ?_ | refine spC (fun hb => ?_) fun hb => ?_ | refine nilC (fun hb => ?_) ?_ | refine taC ?_ | refine saC ?_ | exact sdV | refine side_and ?_ ?_ | refine drawX_of mixed ?_))
        refine frzC [none, none, some 2, none, none, none, none, none, none, none] [(10, .any), (11, .any), (70, .any)] [(6, .rows U.int []), (7, .rows U.int []), (8, .rows U.int []), (9, .rows U.int [])] [lS (x :: r)] (by exact bkV) (by exact snV) ?_
        (conv => whnf)
        refine callh [] him rfl rfl trivial ?_
        (repeat' ((conv => whnf); first | (exfalso; omega) | refine x0C ?_ | refine spC (fun hb => ?_) fun hb => ?_ | refine nilC (fun hb => ?_) ?_ | refine taC ?_ | refine saC ?_ | exact sdV | refine side_and ?_ ?_ | refine drawX_of mixed ?_))
        all_goals exact vwV
  | i + 1 =>
    have e1 : (longR g m (i + 1)).set (0 + (((i + 1 : Nat) : Int) - 1).toNat) 1 = longQ g m i 0 := by
      rw [← longQ_start g m hj, show 0 + (((i + 1 : Nat) : Int) - 1).toNat = i by omega]
    have e2 := longQ_end g m (i := i) (t := m.length - (i + 1)) (by omega) rfl
    (repeat' ((conv => whnf); first | (exfalso; omega) | refine x0C ?_ | refine spC (fun hb => ?_) fun hb => ?_ | refine nilC (fun hb => ?_) ?_ | refine taC ?_ | refine saC ?_ | exact sdV | refine side_and ?_ ?_ | refine drawX_of mixed ?_))
    refine loop_up (fun t : Nat => [(9, iS ((i : Int) + 1 + t))]) (fun t => [(4, .rows U.int (longQ g m i t))]) (fun t => t ≤ m.length - (i + 1)) (fun t => m.length - (i + 1) - t) 0 (Nat.zero_le _) (by exact bkI) ?_
    intro t ht K2 hK2
    have hql := longQ_len g m (i := i) (t := t) (by omega)
    rcases Nat.lt_or_ge t (m.length - (i + 1)) with hlt | hge
    · have hgi := getD_some (d := Cd.dflt U.event) (show i < m.length by omega)
      have hgk := getD_some (d := Cd.dflt U.event) (show i + 1 + t < m.length by omega)
      have ei : (((i + 1 : Nat) : Int) - 1).toNat = i := by omega
      have ek : ((i : Int) + 1 + t).toNat = i + 1 + t := by omega
      have hfo := tfollow g (m.getD (((i + 1 : Nat) : Int) - 1).toNat (Cd.dflt U.event)) (m.getD ((i : Int) + 1 + t).toNat (Cd.dflt U.event)) (by rw [ei]; exact hE.i64 _ (List.mem_of_getElem? hgi)) (by rw [ek]; exact hE.i64 _ (List.mem_of_getElem? hgk)) hdy
      have hqb := longQ_bound g m (i := i) (t := t) (by omega)
      have hb1 : 1 ≤ (longQ g m i t).getD (0 + (((i + 1 : Nat) : Int) - 1).toNat) (Cd.dflt U.int) ∧ (longQ g m i t).getD (0 + (((i + 1 : Nat) : Int) - 1).toNat) (Cd.dflt U.int) ≤ m.length := by rw [ei, Nat.zero_add]; exact hqb.1
      have hb2 : (longQ g m i t).getD (0 + ((i : Int) + 1 + t).toNat) (Cd.dflt U.int) ≤ m.length ∧ 0 ≤ (longQ g m i t).getD (0 + ((i : Int) + 1 + t).toNat) (Cd.dflt U.int) := by rw [ek, Nat.zero_add]; exact hqb.2
      cases hF : doFollowB g (m.getD (((i + 1 : Nat) : Int) - 1).toNat (Cd.dflt U.event)) (m.getD ((i : Int) + 1 + t).toNat (Cd.dflt U.event)) with
      | false =>
        rw [hF] at hfo
        have e3 := longQ_keep g m (i := i) (t := t) (by omega) (by rw [ei, ek] at hF; exact hF)
        (repeat' ((conv => whnf); first | (exfalso; omega) | refine cpC (hfo) ?_ | refine dpC (hfo) ?_ | refine hK2 (t + 1) [some 0, some 1, some 2, some 3, some 4, some 5] _ _ ⟨by omega⟩ ⟨by omega⟩ (by (dsimp only; rw [e3]; exact bkI)) | refine x0C ?_ | refine spC (fun hb => ?_) fun hb => ?_ | refine nilC (fun hb => ?_) ?_ | refine taC ?_ | refine saC ?_ | exact sdV | refine side_and ?_ ?_ | refine drawX_of mixed ?_))
      | true =>
        rw [hF] at hfo
        have e4 : (longQ g m i t).set (0 + (((i + 1 : Nat) : Int) - 1).toNat) (max ((longQ g m i t).getD (0 + (((i + 1 : Nat) : Int) - 1).toNat) (Cd.dflt U.int)) (1 + (longQ g m i t).getD (0 + ((i : Int) + 1 + t).toNat) (Cd.dflt U.int))) = longQ g m i (t + 1) := by
          rw [ei, ek, Nat.zero_add, Nat.zero_add]
          exact longQ_set g m (i := i) (t := t) (by omega) (by rw [ei, ek] at hF; exact hF)
        (repeat' ((conv => whnf); first | (exfalso; omega) | refine cpC (hfo) ?_ | refine dpC (hfo) ?_ | refine hK2 (t + 1) [some 0, some 1, some 2, some 3, some 4, some 5] _ _ ⟨by omega⟩ ⟨by omega⟩ (by exact bkI) | refine x0C ?_ | refine spC (fun hb => ?_) fun hb => ?_ | refine nilC (fun hb => ?_) ?_ | refine taC ?_ | refine saC ?_ | exact sdV | refine side_and ?_ ?_ | refine drawX_of mixed ?_))
    · obtain rfl : t = m.length - (i + 1) := by omega
      rw [e2]
      (repeat' ((conv => whnf); first | (exfalso; omega) | refine hK i [some 0, some 1, some 2, some 3, some 4, some 5] _ _ ⟨by omega⟩ ⟨by omega⟩ (by exact bkI) | refine x0C ?_ | refine spC (fun hb => ?_) fun hb => ?_ | refine nilC (fun hb => ?_) ?_ | refine taC ?_ | refine saC ?_ | exact sdV | refine side_and ?_ ?_ | refine drawX_of mixed ?_))
end Go.SX

namespace Go.SX
open Go.Proofs
set_option linter.unusedSimpArgs false
set_option linter.unusedVariables false
set_option maxHeartbeats 4000000
set_option maxRecDepth 100000
def kindM (k : Int) (f : Nat) (i : Nat) : MapEntry := ⟨.int .i64 k, .func (.func f) #[] #[], i⟩
def kindsM : Obj := .map #[kindM 1 113 0, kindM 2 114 1, kindM 3 115 2, kindM 4 116 3, kindM 5 117 4, kindM 6 118 5] 6
theorem tmeanings : Meets Tryz.prog Dc 83 [] [] (.mapp 0) [.obj kindsM] := by
  refine meets_of_gx Ax tab_ok Tryz.func83 (c := _) rfl Tryz.call83 200 ?_
  (repeat' ((conv => whnf); first | (exfalso; omega) | refine side_and ⟨rfl⟩ ?_ | (refine end_fn [some 0] (.inr rfl) ?_ ?_ rfl rfl; (focus exact vwV); exact hsV) | refine x0C ?_ | refine spC (fun hb => ?_) fun hb => ?_ | refine nilC (fun hb => ?_) ?_ | refine taC ?_ | refine saC ?_ | exact sdV | refine side_and ?_ ?_ | refine drawX_of mixed ?_))
theorem senR_cases (s : Sen) : ∃ p im b, senR s = .tuple [senA p im, bS b] := by
  cases s with
  | none => exact ⟨_, _, _, rfl⟩
  | some x => exact ⟨_, _, _, rfl⟩
theorem tsense1 (g : Goal) (hk : g.kind = 1) (l : List Event) (now : Int) (s : Sen) (h : Meets Tryz.prog Dc 113 [worldA l now, goalA g] [] (senR s) []) : Meets Tryz.prog Dc 58 [worldA l now, goalA g] [] (senR s) [] := by
  cases g with
  | mk kind rows from_ to_ low high clear days times within cents kids =>
  dsimp only at hk
  subst hk
  obtain ⟨p, im, b, e⟩ := senR_cases s
  rw [e] at h ⊢
  refine meets_of_gx Ax tab_ok Tryz.func58 (c := _) rfl Tryz.call58 100 ?_
  (repeat' ((conv => whnf); first | (exfalso; omega) | (refine dcallh [] tmeanings rfl rfl trivial ?_) | refine ask_in rfl ?_ | refine cpC (h) ?_ | refine dpC (h) ?_ | refine x0C ?_ | refine spC (fun hb => ?_) fun hb => ?_ | refine nilC (fun hb => ?_) ?_ | refine taC ?_ | refine saC ?_ | exact sdV | refine side_and ?_ ?_ | refine drawX_of mixed ?_))
  all_goals exact vwV
theorem tsense2 (g : Goal) (hk : g.kind = 2) (l : List Event) (now : Int) (s : Sen) (h : Meets Tryz.prog Dc 114 [worldA l now, goalA g] [] (senR s) []) : Meets Tryz.prog Dc 58 [worldA l now, goalA g] [] (senR s) [] := by
  cases g with
  | mk kind rows from_ to_ low high clear days times within cents kids =>
  dsimp only at hk
  subst hk
  obtain ⟨p, im, b, e⟩ := senR_cases s
  rw [e] at h ⊢
  refine meets_of_gx Ax tab_ok Tryz.func58 (c := _) rfl Tryz.call58 100 ?_
  (repeat' ((conv => whnf); first | (exfalso; omega) | (refine dcallh [] tmeanings rfl rfl trivial ?_) | refine ask_in rfl ?_ | refine cpC (h) ?_ | refine dpC (h) ?_ | refine x0C ?_ | refine spC (fun hb => ?_) fun hb => ?_ | refine nilC (fun hb => ?_) ?_ | refine taC ?_ | refine saC ?_ | exact sdV | refine side_and ?_ ?_ | refine drawX_of mixed ?_))
  all_goals exact vwV
theorem tsense3 (g : Goal) (hk : g.kind = 3) (l : List Event) (now : Int) (s : Sen) (h : Meets Tryz.prog Dc 115 [worldA l now, goalA g] [] (senR s) []) : Meets Tryz.prog Dc 58 [worldA l now, goalA g] [] (senR s) [] := by
  cases g with
  | mk kind rows from_ to_ low high clear days times within cents kids =>
  dsimp only at hk
  subst hk
  obtain ⟨p, im, b, e⟩ := senR_cases s
  rw [e] at h ⊢
  refine meets_of_gx Ax tab_ok Tryz.func58 (c := _) rfl Tryz.call58 100 ?_
  (repeat' ((conv => whnf); first | (exfalso; omega) | (refine dcallh [] tmeanings rfl rfl trivial ?_) | refine ask_in rfl ?_ | refine cpC (h) ?_ | refine dpC (h) ?_ | refine x0C ?_ | refine spC (fun hb => ?_) fun hb => ?_ | refine nilC (fun hb => ?_) ?_ | refine taC ?_ | refine saC ?_ | exact sdV | refine side_and ?_ ?_ | refine drawX_of mixed ?_))
  all_goals exact vwV
theorem tsense4 (g : Goal) (hk : g.kind = 4) (l : List Event) (now : Int) (s : Sen) (h : Meets Tryz.prog Dc 116 [worldA l now, goalA g] [] (senR s) []) : Meets Tryz.prog Dc 58 [worldA l now, goalA g] [] (senR s) [] := by
  cases g with
  | mk kind rows from_ to_ low high clear days times within cents kids =>
  dsimp only at hk
  subst hk
  obtain ⟨p, im, b, e⟩ := senR_cases s
  rw [e] at h ⊢
  refine meets_of_gx Ax tab_ok Tryz.func58 (c := _) rfl Tryz.call58 100 ?_
  (repeat' ((conv => whnf); first | (exfalso; omega) | (refine dcallh [] tmeanings rfl rfl trivial ?_) | refine ask_in rfl ?_ | refine cpC (h) ?_ | refine dpC (h) ?_ | refine x0C ?_ | refine spC (fun hb => ?_) fun hb => ?_ | refine nilC (fun hb => ?_) ?_ | refine taC ?_ | refine saC ?_ | exact sdV | refine side_and ?_ ?_ | refine drawX_of mixed ?_))
  all_goals exact vwV
theorem tsense5 (g : Goal) (hk : g.kind = 5) (l : List Event) (now : Int) (s : Sen) (h : Meets Tryz.prog Dc 117 [worldA l now, goalA g] [] (senR s) []) : Meets Tryz.prog Dc 58 [worldA l now, goalA g] [] (senR s) [] := by
  cases g with
  | mk kind rows from_ to_ low high clear days times within cents kids =>
  dsimp only at hk
  subst hk
  obtain ⟨p, im, b, e⟩ := senR_cases s
  rw [e] at h ⊢
  refine meets_of_gx Ax tab_ok Tryz.func58 (c := _) rfl Tryz.call58 100 ?_
  (repeat' ((conv => whnf); first | (exfalso; omega) | (refine dcallh [] tmeanings rfl rfl trivial ?_) | refine ask_in rfl ?_ | refine cpC (h) ?_ | refine dpC (h) ?_ | refine x0C ?_ | refine spC (fun hb => ?_) fun hb => ?_ | refine nilC (fun hb => ?_) ?_ | refine taC ?_ | refine saC ?_ | exact sdV | refine side_and ?_ ?_ | refine drawX_of mixed ?_))
  all_goals exact vwV
theorem tsense6 (g : Goal) (hk : g.kind = 6) (l : List Event) (now : Int) (s : Sen) (h : Meets Tryz.prog Dc 118 [worldA l now, goalA g] [] (senR s) []) : Meets Tryz.prog Dc 58 [worldA l now, goalA g] [] (senR s) [] := by
  cases g with
  | mk kind rows from_ to_ low high clear days times within cents kids =>
  dsimp only at hk
  subst hk
  obtain ⟨p, im, b, e⟩ := senR_cases s
  rw [e] at h ⊢
  refine meets_of_gx Ax tab_ok Tryz.func58 (c := _) rfl Tryz.call58 100 ?_
  (repeat' ((conv => whnf); first | (exfalso; omega) | (refine dcallh [] tmeanings rfl rfl trivial ?_) | refine ask_in rfl ?_ | refine cpC (h) ?_ | refine dpC (h) ?_ | refine x0C ?_ | refine spC (fun hb => ?_) fun hb => ?_ | refine nilC (fun hb => ?_) ?_ | refine taC ?_ | refine saC ?_ | exact sdV | refine side_and ?_ ?_ | refine drawX_of mixed ?_))
  all_goals exact vwV
end Go.SX

namespace Go.SX
open Go.Proofs
set_option linter.unusedSimpArgs false
set_option linter.unusedVariables false
set_option maxHeartbeats 4000000
set_option maxRecDepth 100000
theorem tdelivery (g : Goal) (hk : (g.kids.length : Int) = 1) (l : List Event) (now : Int) (h : EvsOK l) (s : Sen) (hs : Meets Tryz.prog Dc 58 [worldA (restE l g.within) now, goalA (kid0 g.kids)] [] (senR s) []) : Meets Tryz.prog Dc 116 [worldA l now, goalA g] [] (senR s) [] := by
  have h1 := trest_meets l now g.within h.len h.i64
  obtain ⟨p, im, b, e⟩ := senR_cases s
  rw [e] at hs ⊢
  refine meets_of_gx Ax tab_ok Tryz.func116 (c := _) rfl Tryz.call116 100 ?_
  (repeat' ((conv => whnf); first | (exfalso; omega) | refine cpC (h1) ?_ | refine dpC (h1) ?_ | refine cpC (hs) ?_ | refine dpC (hs) ?_ | refine x0C ?_ | refine spC (fun hb => ?_) fun hb => ?_ | refine nilC (fun hb => ?_) ?_ | refine taC ?_ | refine saC ?_ | exact sdV | refine side_and ?_ ?_ | refine drawX_of mixed ?_))
  all_goals exact vwV
theorem tall (g : Goal) (d n : Int) (l : List Event) (now : Int) (hsz : sizeL g.kids d = some n) (hn : n ≤ 1000) (hkl : (g.kids.length : Int) ≤ 1000000) (hs : ∀ k ∈ g.kids, Meets Tryz.prog Dc 58 [worldA l now, goalA k] [] (senR (meanG k l)) []) : Meets Tryz.prog Dc 117 [worldA l now, goalA g] [] (senR (meanAll g.kids l 0 [])) [] := by
  refine meets_of_gx Ax tab_ok Tryz.func117 (c := _) rfl Tryz.call117 400 ?_
  (repeat' ((conv => whnf); first | (exfalso; omega) | refine x0C ?_ | refine spC (fun hb => ?_) fun hb => ?_ | refine nilC (fun hb => ?_) ?_ | refine taC ?_ | refine saC ?_ | exact sdV | refine side_and ?_ ?_ | refine drawX_of mixed ?_))
  refine loop_upT [some 0, some 1, some 2, none] (fun q : Nat × Int × List Int × Nat => [(5, bS false), (13, iS q.1)]) (fun q => [(2, .vart none [iS q.2.1, .slice 3 0 1 0 q.2.2.1.length]), (3, .rows U.int (q.2.2.1 ++ List.replicate q.2.2.2 0))]) (fun q => q.1 ≤ g.kids.length ∧ meanAll (g.kids.take q.1) l 0 [] = some (q.2.1, q.2.2.1)) (fun q => g.kids.length - q.1) (0, 0, [], 0) ⟨Nat.zero_le _, by rw [List.take_zero, meanAll]⟩ (by exact bkI) ?_
  rintro ⟨i, p, im, z⟩ ⟨hi, hm⟩ K hK
  dsimp only at hi hm hK ⊢
  rcases Nat.lt_or_ge i g.kids.length with hlt | hge
  · have hgi := getD_some (d := Cd.dflt U.goal) hlt
    have hkm := List.mem_of_getElem? hgi
    have hx := hs _ hkm
    obtain ⟨k0, hk1, hk2⟩ := sizeL_mem hsz hkm
    obtain ⟨n0, hn1, hn2⟩ := sizeL_take i hsz
    have hb0 := all_bound _ _ _ _ _ _ _ _ hn1 hm
    have hsn := meanAll_snoc (g.kids.take i) (g.kids.getD (i : Int).toNat (Cd.dflt U.goal)) l 0 []
    rw [show g.kids.take i ++ [g.kids.getD (i : Int).toNat (Cd.dflt U.goal)] = g.kids.take (i + 1) from (take_getD hlt).symm, hm] at hsn
    dsimp only at hsn
    cases hr : meanG (g.kids.getD (i : Int).toNat (Cd.dflt U.goal)) l with
    | none =>
      rw [hr] at hx
      rw [meanAll_bad ⟨_, hkm, hr⟩]
      (repeat' ((conv => whnf); first | (exfalso; omega) | refine cpC (hx) ?_ | refine dpC (hx) ?_ | refine x0C ?_ | refine spC (fun hb => ?_) fun hb => ?_ | refine nilC (fun hb => ?_) ?_ | refine taC ?_ | refine saC ?_ | exact sdV | refine side_and ?_ ?_ | refine drawX_of mixed ?_))
      all_goals exact vwV
    | some w =>
      obtain ⟨r, jm⟩ := w
      rw [hr] at hx hsn
      dsimp only at hsn
      have hb1 := mean_bound _ _ _ _ _ _ hk1 hr
      have hne := mean_ne _ _ _ _ _ _ hk1 hr
      simp only [List.length_nil] at hb0
      have hW : List.take im.length (im ++ List.replicate z 0) ++ jm = im ++ jm := by simp
      have hWl := congrArg List.length hW
      simp only [List.length_append (bs := jm)] at hWl
      have him := images_meets (l := List.take im.length (im ++ List.replicate z 0) ++ jm) (by rw [hW]; simp [hne]) (by rw [hW, List.length_append]; omega)
      rw [← hW] at hsn
      (repeat' ((conv => whnf); first | (exfalso; omega) | refine cpC (hx) ?_ | refine dpC (hx) ?_ | (refine frzC [some 0, some 1, some 2, none, some 4, some 5, none] [(33, .any), (36, .any)] [(2, .vart none [iS (p + r), .any]), (3, .rows U.int []), (6, .rows U.int [])] [lS (List.take im.length (im ++ List.replicate z 0) ++ jm)] (by exact bkV) (by exact snV) ?_; (conv => whnf); refine callh [] him rfl rfl trivial ?_) | refine hK (i + 1, p + r, setS (List.take im.length (im ++ List.replicate z 0) ++ jm), (List.take im.length (im ++ List.replicate z 0) ++ jm).length - (setS (List.take im.length (im ++ List.replicate z 0) ++ jm)).length) [some 0, some 1, some 2, some 7] _ _ ⟨⟨by dsimp only; omega, hsn⟩⟩ ⟨by dsimp only; omega⟩ (by exact bkI) | refine x0C ?_ | refine spC (fun hb => ?_) fun hb => ?_ | refine nilC (fun hb => ?_) ?_ | refine taC ?_ | refine saC ?_ | exact sdV | refine side_and ?_ ?_ | refine drawX_of mixed ?_))
  · rw [List.take_of_length_le hge] at hm
    rw [hm]
    (repeat' ((conv => whnf); first | (exfalso; omega) | refine x0C ?_ | refine spC (fun hb => ?_) fun hb => ?_ | refine nilC (fun hb => ?_) ?_ | refine taC ?_ | refine saC ?_ | exact sdV | refine side_and ?_ ?_ | refine drawX_of mixed ?_))
    all_goals exact vwV
def senB (b : Bool) (p : Int) (im : List Int) : Sen := if b then some (p, im) else none
theorem tany (g : Goal) (d n : Int) (l : List Event) (now : Int) (hsz : sizeL g.kids d = some n) (hn : n ≤ 1000) (hkl : (g.kids.length : Int) ≤ 1000000) (hcl : g.cents.length = g.kids.length) (hcb : ∀ c ∈ g.cents, 0 ≤ c ∧ c ≤ 1000000000) (hs : ∀ k ∈ g.kids, Meets Tryz.prog Dc 58 [worldA l now, goalA k] [] (senR (meanG k l)) []) : Meets Tryz.prog Dc 118 [worldA l now, goalA g] [] (senR (meanAny g.kids g.cents l none)) [] := by
  refine meets_of_gx Ax tab_ok Tryz.func118 (c := _) rfl Tryz.call118 400 ?_
  (repeat' ((conv => whnf); first | (exfalso; omega) | refine x0C ?_ | refine spC (fun hb => ?_) fun hb => ?_ | refine nilC (fun hb => ?_) ?_ | refine taC ?_ | refine saC ?_ | exact sdV | refine side_and ?_ ?_ | refine drawX_of mixed ?_))
  refine loop_upT [some 0, some 1, some 2] (fun q : Nat × Int × List Int × Bool => [(5, bS q.2.2.2), (13, iS q.1)]) (fun q => [(2, .vart none [iS q.2.1, lS q.2.2.1])]) (fun q => q.1 ≤ g.kids.length ∧ meanAny (g.kids.take q.1) g.cents l none = senB q.2.2.2 q.2.1 q.2.2.1 ∧ (q.2.2.2 = false → q.2.1 = 0 ∧ q.2.2.1 = [])) (fun q => g.kids.length - q.1) (0, 0, [], false) ⟨Nat.zero_le _, by rw [List.take_zero, meanAny]; rfl, fun _ => ⟨rfl, rfl⟩⟩ (by exact bkI) ?_
  rintro ⟨i, p, im, b⟩ ⟨hi, hm, h0⟩ K hK
  dsimp only at hi hm h0 hK ⊢
  rcases Nat.lt_or_ge i g.kids.length with hlt | hge
  · have hgi := getD_some (d := Cd.dflt U.goal) hlt
    have hkm := List.mem_of_getElem? hgi
    have hx := hs _ hkm
    obtain ⟨k0, hk1, hk2⟩ := sizeL_mem hsz hkm
    obtain ⟨n0, hn1, hn2⟩ := sizeL_take i hsz
    have hsn := meanAny_snoc (g.kids.take i) (g.kids.getD (i : Int).toNat (Cd.dflt U.goal)) l g.cents none
    rw [show g.kids.take i ++ [g.kids.getD (i : Int).toNat (Cd.dflt U.goal)] = g.kids.take (i + 1) from (take_getD hlt).symm, hm, List.length_take, Nat.min_eq_left hi] at hsn
    have hci := hcb _ (List.mem_of_getElem? (getD_some (d := Cd.dflt U.int) (show i < g.cents.length by omega)))
    have hcg : g.cents.getD (i : Int).toNat (Cd.dflt U.int) = g.cents.getD i 0 := rfl
    have hpb : 0 ≤ p ∧ p ≤ 2000000000000 := by
      cases b with
      | false => have := h0 rfl; omega
      | true =>
        rcases any_bound _ _ _ _ _ _ _ _ hn1 hcb (hm.trans (by unfold senB; rw [if_pos rfl])) with h | h
        · cases h
        · omega
    cases hr : meanG (g.kids.getD (i : Int).toNat (Cd.dflt U.goal)) l with
    | none =>
      rw [hr] at hx hsn
      (repeat' ((conv => whnf); first | (exfalso; omega) | refine cpC (hx) ?_ | refine dpC (hx) ?_ | refine hK (i + 1, p, im, b) [some 0, some 1, some 2] _ _ ⟨⟨by dsimp only; omega, hsn, h0⟩⟩ ⟨by dsimp only; omega⟩ (by exact bkI) | refine x0C ?_ | refine spC (fun hb => ?_) fun hb => ?_ | refine nilC (fun hb => ?_) ?_ | refine taC ?_ | refine saC ?_ | exact sdV | refine side_and ?_ ?_ | refine drawX_of mixed ?_))
    | some w =>
      obtain ⟨r, jm⟩ := w
      rw [hr] at hx hsn
      have hb1 := mean_bound _ _ _ _ _ _ hk1 hr
      cases b with
      | false =>
        obtain ⟨rfl, rfl⟩ := h0 rfl
        (repeat' ((conv => whnf); first | (exfalso; omega) | refine cpC (hx) ?_ | refine dpC (hx) ?_ | refine hK (i + 1, r + g.cents.getD (i : Int).toNat (Cd.dflt U.int), jm, true) [some 0, some 1, some 2] _ _ ⟨⟨by dsimp only; omega, hsn, fun h => by cases h⟩⟩ ⟨by dsimp only; omega⟩ (by exact bkI) | refine x0C ?_ | refine spC (fun hb => ?_) fun hb => ?_ | refine nilC (fun hb => ?_) ?_ | refine taC ?_ | refine saC ?_ | exact sdV | refine side_and ?_ ?_ | refine drawX_of mixed ?_))
      | true =>
        by_cases hlt2 : r + g.cents.getD (i : Int).toNat (Cd.dflt U.int) < p
        · have hsn2 : meanAny (g.kids.take (i + 1)) g.cents l none = senB true (r + g.cents.getD (i : Int).toNat (Cd.dflt U.int)) jm := by rw [hsn]; unfold stepAny senB; simp only [if_true]; exact if_pos hlt2
          (repeat' ((conv => whnf); first | (exfalso; omega) | refine cpC (hx) ?_ | refine dpC (hx) ?_ | refine hK (i + 1, r + g.cents.getD (i : Int).toNat (Cd.dflt U.int), jm, true) [some 0, some 1, some 2] _ _ ⟨⟨by dsimp only; omega, hsn2, fun h => by cases h⟩⟩ ⟨by dsimp only; omega⟩ (by exact bkI) | refine x0C ?_ | refine spC (fun hb => ?_) fun hb => ?_ | refine nilC (fun hb => ?_) ?_ | refine taC ?_ | refine saC ?_ | exact sdV | refine side_and ?_ ?_ | refine drawX_of mixed ?_))
        · have hsn2 : meanAny (g.kids.take (i + 1)) g.cents l none = senB true p im := by rw [hsn]; unfold stepAny senB; simp only [if_true]; exact if_neg hlt2
          (repeat' ((conv => whnf); first | (exfalso; omega) | refine cpC (hx) ?_ | refine dpC (hx) ?_ | refine hK (i + 1, p, im, true) [some 0, some 1, some 2] _ _ ⟨⟨by dsimp only; omega, hsn2, fun h => by cases h⟩⟩ ⟨by dsimp only; omega⟩ (by exact bkI) | refine x0C ?_ | refine spC (fun hb => ?_) fun hb => ?_ | refine nilC (fun hb => ?_) ?_ | refine taC ?_ | refine saC ?_ | exact sdV | refine side_and ?_ ?_ | refine drawX_of mixed ?_))
  · rw [List.take_of_length_le hge] at hm
    rw [hm]
    cases b with
    | false =>
      obtain ⟨rfl, rfl⟩ := h0 rfl
      (repeat' ((conv => whnf); first | (exfalso; omega) | refine x0C ?_ | refine spC (fun hb => ?_) fun hb => ?_ | refine nilC (fun hb => ?_) ?_ | refine taC ?_ | refine saC ?_ | exact sdV | refine side_and ?_ ?_ | refine drawX_of mixed ?_))
      all_goals exact vwV
    | true =>
      (repeat' ((conv => whnf); first | (exfalso; omega) | refine x0C ?_ | refine spC (fun hb => ?_) fun hb => ?_ | refine nilC (fun hb => ?_) ?_ | refine taC ?_ | refine saC ?_ | exact sdV | refine side_and ?_ ?_ | refine drawX_of mixed ?_))
      all_goals exact vwV
end Go.SX

namespace Go.SX
open Go.Proofs
set_option linter.unusedSimpArgs false
set_option linter.unusedVariables false
set_option maxHeartbeats 4000000
set_option maxRecDepth 100000
theorem evs_sub {l m : List Event} (h : EvsOK l) (hs : ∀ e ∈ m, e ∈ l) (hl : m.length ≤ l.length) : EvsOK m :=
  ⟨by have := h.len; omega, fun e he => h.el e (hs e he), fun e he => h.i64 e (hs e he), fun e he => h.look e (hs e he)⟩
theorem evs_rest {l : List Event} (h : EvsOK l) (n : Int) : EvsOK (restE l n) := evs_sub h (fun e he => (List.mem_filter.1 he).1) (List.length_filter_le _ _)
theorem kid0_mem {ks : List Goal} (h : (ks.length : Int) = 1) : kid0 ks ∈ ks := by
  match ks with
  | [] => simp at h
  | k :: _ => exact List.mem_cons_self
theorem tsense_meets : ∀ (j : Nat) (g : Goal) (d n : Int), 5 - d ≤ j → 1 ≤ d → sizeG g d = some n → GAll g → ∀ (l : List Event) (now : Int), EvsOK l → Meets Tryz.prog Dc 58 [worldA l now, goalA g] [] (senR (meanG g l)) [] := by
  intro j
  induction j with
  | zero =>
    intro g d n h1 h2 hs
    have := (size_ok hs).2.1
    omega
  | succ j ih =>
    intro g d n h1 h2 hs hG l now hE
    obtain ⟨hok, hd, m, hL, rfl⟩ := size_ok hs
    have hsz := sizeG_bound 4 g d (1 + m) (by omega) hs
    rw [show (5 : Int) ^ 4 = 625 by decide] at hsz
    obtain ⟨hgl, hgk⟩ := (GAll_iff g).1 hG
    have hkids : ∀ k ∈ g.kids, Meets Tryz.prog Dc 58 [worldA l now, goalA k] [] (senR (meanG k l)) [] := fun k hk => by
      obtain ⟨x, hx, _⟩ := sizeL_mem hL hk
      exact ih k (d + 1) x (by omega) (by omega) hx (GAllL_mem hgk hk) l now hE
    have hkk := (okB_parts hok).1
    rw [meanG_eq]
    have hkb : g.kind = 1 ∨ g.kind = 2 ∨ g.kind = 3 ∨ g.kind = 4 ∨ g.kind = 5 ∨ g.kind = 6 := by omega
    rcases hkb with e | e | e | e | e | e
    · rw [if_pos e]
      exact tsense1 g e l now _ (tsee g hgl l now hE)
    · rw [if_neg (by omega), if_pos e]
      have h1 := ok_one hok (by omega) (by omega) (by omega)
      exact tsense2 g e l now _ (tpair g h1 ((GAll_iff _).1 (GAllL_mem hgk (kid0_mem h1))).1 l now hE)
    · rw [if_neg (by omega), if_neg (by omega), if_pos e]
      have h1 := ok_one hok (by omega) (by omega) (by omega)
      have h3 := ok_days hok e
      exact tsense3 g e l now _ (tevery g h1 (by omega) (by omega) (ok_times hok e) ((GAll_iff _).1 (GAllL_mem hgk (kid0_mem h1))).1 l now hE)
    · rw [if_neg (by omega), if_neg (by omega), if_neg (by omega), if_pos e]
      have h1 := ok_one hok (by omega) (by omega) (by omega)
      rw [meanH_eq _ _ h1]
      obtain ⟨x, hx, _⟩ := sizeL_mem hL (kid0_mem h1)
      exact tsense4 g e l now _ (tdelivery g h1 l now hE _ (ih _ (d + 1) x (by omega) (by omega) hx (GAllL_mem hgk (kid0_mem h1)) _ now (evs_rest hE _)))
    · rw [if_neg (by omega), if_neg (by omega), if_neg (by omega), if_neg (by omega), if_pos e]
      have h2 := many_two hok (.inl e)
      exact tsense5 g e l now _ (tall g (d + 1) m l now hL (by omega) (by omega) hkids)
    · rw [if_neg (by omega), if_neg (by omega), if_neg (by omega), if_neg (by omega), if_neg (by omega)]
      have h2 := many_two hok (.inr e)
      have hc : g.cents.length = g.kids.length := by
        have := (okB_parts hok).2.2.2
        unfold centsB at this
        rw [if_pos e] at this
        simp only [Bool.and_eq_true, decide_eq_true_eq] at this
        omega
      exact tsense6 g e l now _ (tany g (d + 1) m l now hL (by omega) (by omega) hc (ok_cents hok) hkids)
theorem evs_valid {l : List Event} (h : validE l = true) (hel : ∀ e ∈ l, ELen e) : EvsOK l ∧ (l.length : Int) ≤ 120 ∧ ∀ e ∈ l, formB e = true := by
  unfold validE at h
  simp only [Bool.and_eq_true, decide_eq_true_eq] at h
  obtain ⟨h1, h2⟩ := h
  have hf : ∀ e ∈ l, formB e = true := by
    intro e he
    obtain ⟨i, hi, rfl⟩ := List.getElem_of_mem he
    unfold ordB at h2
    rw [List.all_eq_true] at h2
    have := h2 i (List.mem_range.2 hi)
    unfold okAt at this
    simp only [Bool.and_eq_true] at this
    have h3 := this.1.1
    unfold evt at h3
    rwa [List.getD_eq_getElem?_getD, List.getElem?_eq_getElem hi] at h3
  refine ⟨⟨by omega, hel, fun e he => ?_, fun e he => ?_⟩, h1, hf⟩
  · have := hf e he
    unfold formB at this
    simp only [Bool.and_eq_true, inB_iff] at this
    unfold I64d
    omega
  · have := hf e he
    unfold formB at this
    simp only [Bool.and_eq_true, inB_iff] at this
    have h3 := this.2
    split at h3
    · simp only [Bool.and_eq_true, inB_iff] at h3; omega
    · split at h3
      · simp only [Bool.and_eq_true, decide_eq_true_eq] at h3; omega
      · cases h3
/-- what is asked: price, images, is it met, and the error -/
def askS (g : Goal) (l : List Event) : Int × List Int × Bool × Int :=
  if validG g && validE l then (match meanG g l with | some (p, im) => (p, im, true, 0) | none => (0, [], false, 0)) else (0, [], false, 150)
theorem tsense_valid {g : Goal} (hG : GAll g) (hv : validG g = true) {l : List Event} (now : Int) (hE : EvsOK l) : Meets Tryz.prog Dc 58 [worldA l now, goalA g] [] (senR (meanG g l)) [] := by
  unfold validG at hv
  split at hv
  · cases hv
  · rename_i n hn
    exact tsense_meets 4 g 1 n (by omega) (by omega) hn hG l now hE
theorem tasked (g : Goal) (hG : GAll g) (l : List Event) (hl : (l.length : Int) ≤ 9223372036854775807) (hE : ∀ e ∈ l, ELen e) : Meets Tryz.prog Dc 37 [goalA g, eS l] [] (.tuple [senA (askS g l).1 (askS g l).2.1, bS (askS g l).2.2.1, iS (askS g l).2.2.2]) [] := by
  have h1 := valid_meets g hG
  have h2 := tvalid_meets l hl hE
  unfold askS
  cases hv : validG g with
  | false =>
    rw [hv] at h1
    refine meets_of_gx Ax tab_ok Tryz.func37 (c := _) rfl Tryz.call37 100 ?_
    (repeat' ((conv => whnf); first | (exfalso; omega) | refine cpC (h1) ?_ | refine dpC (h1) ?_ | refine cpC (h2) ?_ | refine dpC (h2) ?_ | refine x0C ?_ | refine spC (fun hb => ?_) fun hb => ?_ | refine nilC (fun hb => ?_) ?_ | refine taC ?_ | refine saC ?_ | exact sdV | refine side_and ?_ ?_ | refine drawX_of mixed ?_))
    all_goals exact vwV
  | true =>
    cases hw : validE l with
    | false =>
      rw [hv] at h1
      rw [hw] at h2
      refine meets_of_gx Ax tab_ok Tryz.func37 (c := _) rfl Tryz.call37 100 ?_
      (repeat' ((conv => whnf); first | (exfalso; omega) | refine cpC (h1) ?_ | refine dpC (h1) ?_ | refine cpC (h2) ?_ | refine dpC (h2) ?_ | refine x0C ?_ | refine spC (fun hb => ?_) fun hb => ?_ | refine nilC (fun hb => ?_) ?_ | refine taC ?_ | refine saC ?_ | exact sdV | refine side_and ?_ ?_ | refine drawX_of mixed ?_))
      all_goals exact vwV
    | true =>
      rw [hv] at h1
      rw [hw] at h2
      have h3 := tsense_valid hG hv 0 (evs_valid hw hE).1
      cases hm : meanG g l with
      | none =>
        rw [hm] at h3
        refine meets_of_gx Ax tab_ok Tryz.func37 (c := _) rfl Tryz.call37 100 ?_
        (repeat' ((conv => whnf); first | (exfalso; omega) | refine cpC (h1) ?_ | refine dpC (h1) ?_ | refine cpC (h2) ?_ | refine dpC (h2) ?_ | refine cpC (h3) ?_ | refine dpC (h3) ?_ | refine x0C ?_ | refine spC (fun hb => ?_) fun hb => ?_ | refine nilC (fun hb => ?_) ?_ | refine taC ?_ | refine saC ?_ | exact sdV | refine side_and ?_ ?_ | refine drawX_of mixed ?_))
        all_goals exact vwV
      | some w =>
        obtain ⟨r, jm⟩ := w
        rw [hm] at h3
        refine meets_of_gx Ax tab_ok Tryz.func37 (c := _) rfl Tryz.call37 100 ?_
        (repeat' ((conv => whnf); first | (exfalso; omega) | refine cpC (h1) ?_ | refine dpC (h1) ?_ | refine cpC (h2) ?_ | refine dpC (h2) ?_ | refine cpC (h3) ?_ | refine dpC (h3) ?_ | refine x0C ?_ | refine spC (fun hb => ?_) fun hb => ?_ | refine nilC (fun hb => ?_) ?_ | refine taC ?_ | refine saC ?_ | exact sdV | refine side_and ?_ ?_ | refine drawX_of mixed ?_))
        all_goals exact vwV
theorem tmet (g : Goal) (hG : GAll g) (l : List Event) (hl : (l.length : Int) ≤ 9223372036854775807) (hE : ∀ e ∈ l, ELen e) : Meets Tryz.prog Dc 14 [goalA g, eS l] [] (.tuple [bS (askS g l).2.2.1, iS (askS g l).2.2.2]) [] := by
  have h := tasked g hG l hl hE
  generalize askS g l = q at h ⊢
  refine meets_of_gx Ax tab_ok Tryz.func14 (c := _) rfl Tryz.call14 100 ?_
  (repeat' ((conv => whnf); first | (exfalso; omega) | refine cpC (h) ?_ | refine dpC (h) ?_ | refine x0C ?_ | refine spC (fun hb => ?_) fun hb => ?_ | refine nilC (fun hb => ?_) ?_ | refine taC ?_ | refine saC ?_ | exact sdV | refine side_and ?_ ?_ | refine drawX_of mixed ?_))
  all_goals exact vwV
theorem tprice (g : Goal) (hG : GAll g) (l : List Event) (hl : (l.length : Int) ≤ 9223372036854775807) (hE : ∀ e ∈ l, ELen e) : Meets Tryz.prog Dc 16 [goalA g, eS l] [] (.tuple [iS (askS g l).1, bS (askS g l).2.2.1, iS (askS g l).2.2.2]) [] := by
  have h := tasked g hG l hl hE
  generalize askS g l = q at h ⊢
  refine meets_of_gx Ax tab_ok Tryz.func16 (c := _) rfl Tryz.call16 100 ?_
  (repeat' ((conv => whnf); first | (exfalso; omega) | refine cpC (h) ?_ | refine dpC (h) ?_ | refine x0C ?_ | refine spC (fun hb => ?_) fun hb => ?_ | refine nilC (fun hb => ?_) ?_ | refine taC ?_ | refine saC ?_ | exact sdV | refine side_and ?_ ?_ | refine drawX_of mixed ?_))
  all_goals exact vwV
theorem tuses (g : Goal) (hG : GAll g) (l : List Event) (hl : (l.length : Int) ≤ 9223372036854775807) (hE : ∀ e ∈ l, ELen e) : Meets Tryz.prog Dc 18 [goalA g, eS l] [] (.tuple [lS (askS g l).2.1, iS (askS g l).2.2.2]) [] := by
  have h := tasked g hG l hl hE
  generalize askS g l = q at h ⊢
  refine meets_of_gx Ax tab_ok Tryz.func18 (c := _) rfl Tryz.call18 100 ?_
  (repeat' ((conv => whnf); first | (exfalso; omega) | refine cpC (h) ?_ | refine dpC (h) ?_ | refine x0C ?_ | refine spC (fun hb => ?_) fun hb => ?_ | refine nilC (fun hb => ?_) ?_ | refine taC ?_ | refine saC ?_ | exact sdV | refine side_and ?_ ?_ | refine drawX_of mixed ?_))
  all_goals exact vwV
end Go.SX

/-
  Plain law: what goals mean: the reference's way.
-/
set_option linter.unusedSimpArgs false
set_option linter.unusedVariables false
namespace Go.SX
theorem any_hit {α : Type} {p : α → Bool} {xs : List α} {i : Nat} {x : α} (h1 : xs[i]? = some x) (h2 : p x = true) : xs.any p = true :=
  List.any_eq_true.2 ⟨x, List.mem_of_getElem? h1, h2⟩
/-- the indices, of the first so many, of what fits -/
def idxN {α : Type} (p : α → Bool) (d : α) (l : List α) (i : Nat) : List Int := ((List.range i).filter fun j => p (l.getD j d)).map Int.ofNat
theorem idxN_succ {α : Type} (p : α → Bool) (d : α) (l : List α) (i : Nat) : idxN p d l (i + 1) = if p (l.getD i d) then idxN p d l i ++ [(i : Int)] else idxN p d l i := by
  unfold idxN
  rw [List.range_succ, List.filter_append, List.map_append]
  split
  · rename_i h; simp only [List.filter_cons, h, if_true, List.filter_nil, List.map_cons, List.map_nil]; rfl
  · rename_i h; simp only [List.filter_cons, h, Bool.false_eq_true, if_false, List.filter_nil, List.map_nil, List.append_nil]
theorem idxN_len {α : Type} (p : α → Bool) (d : α) (l : List α) (i : Nat) : (idxN p d l i).length ≤ i := by
  unfold idxN
  rw [List.length_map]
  exact Nat.le_trans (List.length_filter_le _ _) (by simp)
theorem idxN_map {α : Type} (p : α → Bool) (d : α) (l : List α) : ∀ i : Nat, i ≤ l.length → (idxN p d l i).map (fun j => l.getD j.toNat d) = (l.take i).filter p
  | 0, _ => by simp [idxN]
  | i + 1, h => by
    rw [idxN_succ, take_getD (d := d) (show i < l.length by omega), List.filter_append]
    have ih := idxN_map p d l i (by omega)
    cases hp : p (l.getD i d) with
    | true =>
      rw [if_pos rfl, List.map_append, ih]
      simp only [List.filter_cons, hp, if_true, List.filter_nil, List.map_cons, List.map_nil, Int.toNat_natCast]
    | false =>
      rw [if_neg (by simp), ih]
      simp only [List.filter_cons, hp, Bool.false_eq_true, if_false, List.filter_nil, List.append_nil]
theorem idxN_mem {α : Type} {p : α → Bool} {d : α} {l : List α} {i : Nat} {j : Int} (h : j ∈ idxN p d l i) : 0 ≤ j ∧ j < i := by
  unfold idxN at h
  obtain ⟨k, hk, rfl⟩ := List.mem_map.1 h
  have := List.mem_range.1 (List.mem_filter.1 hk).1
  show 0 ≤ (k : Int) ∧ (k : Int) < i
  omega
theorem putS_skip {l : List Int} {n : Int} {i : Nat} (hi : i < l.length) (h : l.getD i 0 < n) : putS (l.drop i) n = l.getD i 0 :: putS (l.drop (i + 1)) n := by
  rw [drop_getD (d := 0) hi, putS, if_pos h]
theorem putS_same {l : List Int} {n : Int} {i : Nat} (hi : i < l.length) (h : l.getD i 0 = n) : putS (l.drop i) n = l.drop i := by
  rw [drop_getD (d := 0) hi, putS, if_neg (by omega), if_pos h]
theorem putS_here {l : List Int} {n : Int} {i : Nat} (h : ¬ i < l.length ∨ n < l.getD i 0) : putS (l.drop i) n = n :: l.drop i := by
  by_cases hi : i < l.length
  · have h := h.resolve_left (fun e => e hi)
    rw [drop_getD (d := 0) hi, putS, if_neg (by omega), if_neg (by omega)]
  · rw [List.drop_of_length_le (by omega)]; rfl
end Go.SX
namespace Go.SX
/-- how a run goes on: what is put down, and the rest -/
def runInv (g : Goal) (m : List Event) (i : Nat) (out : List Int) (last : Option Event) : Prop :=
  (out.length : Int) ≤ g.times ∧ takeT g m g.times none = (out ++ (takeT g (m.drop i) (g.times - out.length) last).1, (takeT g (m.drop i) (g.times - out.length) last).2)
theorem runInv_start (g : Goal) (m : List Event) (h : 0 ≤ g.times) : runInv g m 0 [] none := ⟨by simpa using h, by simp⟩
theorem runInv_hit {g : Goal} {m : List Event} {i : Nat} {out : List Int} {last : Option Event} (h : runInv g m i out last) (hi : i < m.length) (ho : (out.length : Int) < g.times)
    (h1 : g.times - out.length ≤ (longS g m).getD i 0) (h2 : nextB g last (m.getD i (U.dflt .event)) = true) : runInv g m (i + 1) (out ++ [(m.getD i (U.dflt .event)).image]) (some (m.getD i (U.dflt .event))) := by
  obtain ⟨h3, h4⟩ := h
  have hd := drop_getD (d := U.dflt .event) hi
  have hh := takeT_hit g (a := m.getD i (U.dflt .event)) (l := m.drop (i + 1)) (need := g.times - out.length) (last := last) (by omega) (by rw [← hd, longS_head]; exact h1) h2
  rw [← hd] at hh
  rw [hh] at h4
  refine ⟨by simp; omega, ?_⟩
  rw [h4]
  simp only [List.length_append, List.length_singleton, List.append_assoc, List.singleton_append]
  rw [show g.times - ((out.length + 1 : Nat) : Int) = g.times - out.length - 1 by omega]
theorem runInv_miss {g : Goal} {m : List Event} {i : Nat} {out : List Int} {last : Option Event} (h : runInv g m i out last) (hi : i < m.length) (ho : (out.length : Int) < g.times)
    (h1 : ¬ g.times - out.length ≤ (longS g m).getD i 0 ∨ nextB g last (m.getD i (U.dflt .event)) = false) : runInv g m (i + 1) out last := by
  obtain ⟨h3, h4⟩ := h
  have hd := drop_getD (d := U.dflt .event) hi
  have hh := takeT_miss g (a := m.getD i (U.dflt .event)) (l := m.drop (i + 1)) (need := g.times - out.length) (last := last) (by omega) (by rw [← hd, longS_head]; exact h1)
  rw [← hd] at hh
  rw [hh] at h4
  exact ⟨h3, h4⟩
theorem runInv_end {g : Goal} {m : List Event} {i : Nat} {out : List Int} {last : Option Event} (h : runInv g m i out last) (hi : m.length ≤ i ∨ g.times ≤ (out.length : Int)) : takeT g m g.times none = (out, decide ((out.length : Int) = g.times)) := by
  obtain ⟨h3, h4⟩ := h
  rw [h4]
  by_cases he : (out.length : Int) = g.times
  · rw [he, Int.sub_self, takeT_zero, decide_eq_true rfl, List.append_nil]
  · rw [List.drop_of_length_le (hi.resolve_right (by omega)), takeT_nil g last (by omega), decide_eq_false he, List.append_nil]
end Go.SX

namespace Go.SX
open Go.Proofs
set_option linter.unusedSimpArgs false
set_option linter.unusedVariables false
set_option maxHeartbeats 4000000
set_option maxRecDepth 100000
theorem raway (a b : Int) (h1 : -4611686018427387904 ≤ a ∧ a ≤ 4611686018427387903) (h2 : -4611686018427387904 ≤ b ∧ b ≤ 4611686018427387903) : Meets Tryz.prog Dc 61 [iS a, iS b] [] (iS (gapS a b)) [] := by
  refine meets_of_gx Ax tab_ok Tryz.func61 (c := _) rfl Tryz.call61 60 ?_
  (repeat' ((conv => whnf); first | refine x0C (eI ?_ rfl) | (exfalso; omega) | refine x0C ?_ | refine spC (fun hb => ?_) fun hb => ?_ | refine nilC (fun hb => ?_) ?_ | refine taC ?_ | refine saC ?_ | exact sdV | refine side_and ?_ ?_ | refine drawX_of mixed ?_))
  all_goals rfl
theorem rdelivered (l : List Event) (e : Event) (within : Int) (hl : (l.length : Int) ≤ 1000000) (hE : ∀ e ∈ l, I64d e) (he : I64d e) (hw : 0 ≤ within ∧ within ≤ 1000000) : Meets Tryz.prog Dc 86 [eS l, evA e, iS within] [] (bS (delB l e within)) [] := by
  unfold I64d at he
  refine meets_of_gx Ax tab_ok Tryz.func86 (c := _) rfl Tryz.call86 100 ?_
  (repeat' ((conv => whnf); first | (exfalso; omega) | refine x0C ?_ | refine spC (fun hb => ?_) fun hb => ?_ | refine nilC (fun hb => ?_) ?_ | refine taC ?_ | refine saC ?_ | exact sdV | refine side_and ?_ ?_ | refine drawX_of mixed ?_))
  refine loop_up (fun i : Nat => [(6, bS false), (7, iS i)]) (fun _ => []) (fun i => i ≤ l.length ∧ (l.take i).any (fun d => decide (d.kind = 2) && decide (d.image = e.image) && inB (d.at_ - e.at_) 0 within) = false) (fun i => l.length - i) 0 ⟨Nat.zero_le _, by simp⟩ (by exact bkI) ?_
  rintro i ⟨hi, ha⟩ K hK
  rcases Nat.lt_or_ge i l.length with hlt | hge
  · have hgi := getD_some (d := Cd.dflt U.event) hlt
    have hd := hE _ (List.mem_of_getElem? hgi)
    unfold I64d at hd
    have hp1 : (l.getD (i : Int).toNat (Cd.dflt U.event)).kind = 2 → (l.getD (i : Int).toNat (Cd.dflt U.event)).image = e.image → e.at_ ≤ (l.getD (i : Int).toNat (Cd.dflt U.event)).at_ → (l.getD (i : Int).toNat (Cd.dflt U.event)).at_ ≤ e.at_ + within → delB l e within = true := fun h1 h2 h3 h4 => any_hit hgi (by simp only [decide_eq_true h1, decide_eq_true h2, (inB_iff ((l.getD (i : Int).toNat (Cd.dflt U.event)).at_ - e.at_) 0 within).2 ⟨by omega, by omega⟩, Bool.and_self])
    have hp0 : ¬ (l.getD (i : Int).toNat (Cd.dflt U.event)).kind = 2 ∨ ¬ (l.getD (i : Int).toNat (Cd.dflt U.event)).image = e.image ∨ ¬ e.at_ ≤ (l.getD (i : Int).toNat (Cd.dflt U.event)).at_ ∨ ¬ (l.getD (i : Int).toNat (Cd.dflt U.event)).at_ ≤ e.at_ + within → (l.take (i + 1)).any (fun d => decide (d.kind = 2) && decide (d.image = e.image) && inB (d.at_ - e.at_) 0 within) = false := fun h => any_take_succ hgi (by
      rcases h with h | h | h | h
      · rw [decide_eq_false h]; rfl
      · rw [decide_eq_false h, Bool.and_false]; rfl
      · rw [(inB_not _ _ _).2 (by omega), Bool.and_false]
      · rw [(inB_not _ _ _).2 (by omega), Bool.and_false]) ha
    (repeat' ((conv => whnf); first | refine x0C (eB ?_ rfl) | (exfalso; omega) | refine hK (i + 1) [some 0] _ _ ⟨⟨by omega, hp0 (by first | exact .inl (by assumption) | exact .inr (.inl (by assumption)) | exact .inr (.inr (.inl (by assumption))) | exact .inr (.inr (.inr (by assumption))))⟩⟩ ⟨by omega⟩ (by exact bkI) | refine x0C ?_ | refine spC (fun hb => ?_) fun hb => ?_ | refine nilC (fun hb => ?_) ?_ | refine taC ?_ | refine saC ?_ | exact sdV | refine side_and ?_ ?_ | refine drawX_of mixed ?_))
    all_goals exact (hp1 (by assumption) (by assumption) (by assumption) (by assumption)).symm
  · rw [show delB l e within = false from any_take_end hge ha]
    (repeat' ((conv => whnf); first | refine x0C (eB ?_ rfl) | (exfalso; omega) | refine x0C ?_ | refine spC (fun hb => ?_) fun hb => ?_ | refine nilC (fun hb => ?_) ?_ | refine taC ?_ | refine saC ?_ | exact sdV | refine side_and ?_ ?_ | refine drawX_of mixed ?_))
    all_goals rfl
theorem rput (l : List Int) (n : Int) (hl : (l.length : Int) ≤ 1000000) : Meets Tryz.prog Dc 62 [lS l, iS n] [] (lS (putS l n)) [] := by
  refine meets_of_gx Ax tab_ok Tryz.func62 (c := _) rfl Tryz.call62 100 ?_
  (repeat' ((conv => whnf); first | (exfalso; omega) | refine x0C ?_ | refine spC (fun hb => ?_) fun hb => ?_ | refine nilC (fun hb => ?_) ?_ | refine taC ?_ | refine saC ?_ | exact sdV | refine side_and ?_ ?_ | refine drawX_of mixed ?_))
  refine loop_up (fun i : Nat => [(5, iS i)]) (fun _ => []) (fun i => i ≤ l.length ∧ putS l n = l.take i ++ putS (l.drop i) n) (fun i => l.length - i) 0 ⟨Nat.zero_le _, by simp⟩ (by exact bkI) ?_
  rintro i ⟨hi, he⟩ K hK
  rcases Nat.lt_or_ge i l.length with hlt | hge
  · have hs : l.getD (i : Int).toNat (Cd.dflt U.int) < n → putS l n = l.take (i + 1) ++ putS (l.drop (i + 1)) n := fun h => by rw [he, putS_skip hlt h, take_getD (d := 0) hlt, List.append_assoc]; rfl
    have h2 : l.getD (i : Int).toNat (Cd.dflt U.int) = n → putS l n = l := fun h => by rw [he, putS_same hlt h, List.take_append_drop]
    have h3 : n < l.getD (i : Int).toNat (Cd.dflt U.int) → putS l n = l.take i ++ n :: l.drop i := fun h => by rw [he, putS_here (i := i) (.inr h)]
    by_cases h4 : l.getD (i : Int).toNat (Cd.dflt U.int) = n
    · rw [h2 h4]
      (repeat' ((conv => whnf); first | (exfalso; omega) | refine hK (i + 1) [] _ _ ⟨⟨by omega, hs (by assumption)⟩⟩ ⟨by omega⟩ (by exact bkI) | refine x0C ?_ | refine spC (fun hb => ?_) fun hb => ?_ | refine nilC (fun hb => ?_) ?_ | refine taC ?_ | refine saC ?_ | exact sdV | refine side_and ?_ ?_ | refine drawX_of mixed ?_))
      all_goals exact vwV
    · by_cases h5 : n < l.getD (i : Int).toNat (Cd.dflt U.int)
      · rw [h3 h5]
        (repeat' ((conv => whnf); first | (exfalso; omega) | refine hK (i + 1) [] _ _ ⟨⟨by omega, hs (by assumption)⟩⟩ ⟨by omega⟩ (by exact bkI) | refine x0C ?_ | refine spC (fun hb => ?_) fun hb => ?_ | refine nilC (fun hb => ?_) ?_ | refine taC ?_ | refine saC ?_ | exact sdV | refine side_and ?_ ?_ | refine drawX_of mixed ?_))
        all_goals exact vwV
      · (repeat' ((conv => whnf); first | (exfalso; omega) | refine hK (i + 1) [] _ _ ⟨⟨by omega, hs (by omega)⟩⟩ ⟨by omega⟩ (by exact bkI) | refine x0C ?_ | refine spC (fun hb => ?_) fun hb => ?_ | refine nilC (fun hb => ?_) ?_ | refine taC ?_ | refine saC ?_ | exact sdV | refine side_and ?_ ?_ | refine drawX_of mixed ?_))
  · rw [he, putS_here (.inl (by omega))]
    (repeat' ((conv => whnf); first | (exfalso; omega) | refine x0C ?_ | refine spC (fun hb => ?_) fun hb => ?_ | refine nilC (fun hb => ?_) ?_ | refine taC ?_ | refine saC ?_ | exact sdV | refine side_and ?_ ?_ | refine drawX_of mixed ?_))
    all_goals exact vwV
theorem rseen (g : Goal) (hg : GLen g) (l : List Event) (hl : (l.length : Int) ≤ 1000000) (hE : ∀ e ∈ l, ELen e) : Meets Tryz.prog Dc 60 [goalA g, eS l] [] (lS (idxN (seesB g) (U.dflt .event) l l.length)) [] := by
  refine meets_of_gx Ax tab_ok Tryz.func60 (c := _) rfl Tryz.call60 100 ?_
  (repeat' ((conv => whnf); first | (exfalso; omega) | refine x0C ?_ | refine spC (fun hb => ?_) fun hb => ?_ | refine nilC (fun hb => ?_) ?_ | refine taC ?_ | refine saC ?_ | exact sdV | refine side_and ?_ ?_ | refine drawX_of mixed ?_))
  refine loop_upT [some 0, none] (fun q : Nat × List Int => [(5, .slice 1 0 1 0 q.2.length), (6, iS q.1)]) (fun q => [(1, .rows U.int q.2)]) (fun q => q.1 ≤ l.length ∧ q.2 = idxN (seesB g) (U.dflt .event) l q.1) (fun q => l.length - q.1) (0, []) ⟨Nat.zero_le _, by simp [idxN]⟩ (by exact bkI) ?_
  rintro ⟨i, J⟩ ⟨hi, hJ⟩ K hK
  dsimp only at hi hJ hK ⊢
  have hJl := idxN_len (seesB g) (U.dflt .event) l i
  rw [← hJ] at hJl
  rcases Nat.lt_or_ge i l.length with hlt | hge
  · have hgi := getD_some (d := Cd.dflt U.event) hlt
    have hx := rsees g hg _ (hE _ (List.mem_of_getElem? hgi))
    have hsc := idxN_succ (seesB g) (U.dflt .event) l i
    cases hp : seesB g (l.getD (i : Int).toNat (Cd.dflt U.event)) with
    | false =>
      rw [hp] at hx
      have hsc2 : J = idxN (seesB g) (U.dflt .event) l (i + 1) := by rw [hsc, if_neg (fun h => by have h2 : seesB g (l.getD i (U.dflt .event)) = false := hp; rw [h2] at h; cases h), hJ]
      (repeat' ((conv => whnf); first | (exfalso; omega) | refine cpC (hx) ?_ | refine dpC (hx) ?_ | refine hK (i + 1, J) [some 0, some 1] _ _ ⟨⟨by dsimp only; omega, hsc2⟩⟩ ⟨by dsimp only; omega⟩ (by exact bkI) | refine x0C ?_ | refine spC (fun hb => ?_) fun hb => ?_ | refine nilC (fun hb => ?_) ?_ | refine taC ?_ | refine saC ?_ | exact sdV | refine side_and ?_ ?_ | refine drawX_of mixed ?_))
    | true =>
      rw [hp] at hx
      have hsc2 : List.take J.length J ++ List.take 1 (List.drop 0 [(i : Int)]) = idxN (seesB g) (U.dflt .event) l (i + 1) := by rw [hsc, if_pos (show seesB g (l.getD i (U.dflt .event)) = true from hp), ← hJ]; simp
      (repeat' ((conv => whnf); first | (exfalso; omega) | refine cpC (hx) ?_ | refine dpC (hx) ?_ | refine hK (i + 1, List.take J.length J ++ List.take 1 (List.drop 0 [(i : Int)])) [some 0, some 3] _ _ ⟨⟨by dsimp only; omega, hsc2⟩⟩ ⟨by dsimp only; omega⟩ (by exact bkI) | refine x0C ?_ | refine spC (fun hb => ?_) fun hb => ?_ | refine nilC (fun hb => ?_) ?_ | refine taC ?_ | refine saC ?_ | exact sdV | refine side_and ?_ ?_ | refine drawX_of mixed ?_))
  · rw [show l.length = i by omega, ← hJ]
    (repeat' ((conv => whnf); first | (exfalso; omega) | refine x0C ?_ | refine spC (fun hb => ?_) fun hb => ?_ | refine nilC (fun hb => ?_) ?_ | refine taC ?_ | refine saC ?_ | exact sdV | refine side_and ?_ ?_ | refine drawX_of mixed ?_))
    all_goals exact vwV
theorem rleft (l : List Event) (within : Int) (hl : (l.length : Int) ≤ 1000000) (hE : ∀ e ∈ l, I64d e) (hw : 0 ≤ within ∧ within ≤ 1000000) : Meets Tryz.prog Dc 64 [eS l, iS within] [] (eS (restE l within)) [] := by
  have hre : restE l within = (l.take l.length).filter (fun e => !(decide (e.kind = 1) && !delB l e within)) := by rw [List.take_length]; rfl
  refine meets_of_gx Ax tab_ok Tryz.func64 (c := _) rfl Tryz.call64 100 ?_
  (repeat' ((conv => whnf); first | (exfalso; omega) | refine x0C ?_ | refine spC (fun hb => ?_) fun hb => ?_ | refine nilC (fun hb => ?_) ?_ | refine taC ?_ | refine saC ?_ | exact sdV | refine side_and ?_ ?_ | refine drawX_of mixed ?_))
  refine loop_upT [none] (fun q : Nat × List Event => [(5, .slice 0 0 7 0 q.2.length), (6, iS q.1)]) (fun q => [(0, .rows U.event q.2)]) (fun q => q.1 ≤ l.length ∧ q.2 = (l.take q.1).filter (fun e => !(decide (e.kind = 1) && !delB l e within))) (fun q => l.length - q.1) (0, []) ⟨Nat.zero_le _, by simp⟩ (by exact bkI) ?_
  rintro ⟨i, J⟩ ⟨hi, hJ⟩ K hK
  dsimp only at hi hJ hK ⊢
  have hJl : J.length ≤ i := by rw [hJ]; exact Nat.le_trans (List.length_filter_le _ _) (by simp; omega)
  rcases Nat.lt_or_ge i l.length with hlt | hge
  · have hgi := getD_some (d := Cd.dflt U.event) hlt
    have hx := rdelivered l _ within hl hE (hE _ (List.mem_of_getElem? hgi)) hw
    have htk := take_getD (d := U.dflt .event) hlt
    have hsc : (l.take (i + 1)).filter (fun e => !(decide (e.kind = 1) && !delB l e within)) = J ++ [l.getD i (U.dflt .event)].filter (fun e => !(decide (e.kind = 1) && !delB l e within)) := by rw [htk, List.filter_append, hJ]
    have hkeep : ¬ (l.getD (i : Int).toNat (Cd.dflt U.event)).kind = 1 ∨ delB l (l.getD (i : Int).toNat (Cd.dflt U.event)) within = true → List.take J.length J ++ List.take 1 (List.drop 0 [l.getD (i : Int).toNat (Cd.dflt U.event)]) = (l.take (i + 1)).filter (fun e => !(decide (e.kind = 1) && !delB l e within)) := fun h => by
      have hc : (!(decide ((l.getD (i : Int).toNat (Cd.dflt U.event)).kind = 1) && !delB l (l.getD (i : Int).toNat (Cd.dflt U.event)) within)) = true := by
        rcases h with h | h
        · rw [decide_eq_false h]; rfl
        · rw [h, Bool.not_true, Bool.and_false]; rfl
      rw [hsc]
      show _ = J ++ [l.getD (i : Int).toNat (Cd.dflt U.event)].filter _
      rw [List.filter_cons, if_pos hc]
      simp
    have hdrop : (l.getD (i : Int).toNat (Cd.dflt U.event)).kind = 1 → delB l (l.getD (i : Int).toNat (Cd.dflt U.event)) within = false → J = (l.take (i + 1)).filter (fun e => !(decide (e.kind = 1) && !delB l e within)) := fun h1 h2 => by
      have hc : (!(decide ((l.getD (i : Int).toNat (Cd.dflt U.event)).kind = 1) && !delB l (l.getD (i : Int).toNat (Cd.dflt U.event)) within)) = false := by rw [decide_eq_true h1, h2]; rfl
      rw [hsc]
      show _ = J ++ [l.getD (i : Int).toNat (Cd.dflt U.event)].filter _
      rw [List.filter_cons, if_neg (by rw [hc]; simp)]
      simp
    (repeat' ((conv => whnf); first | (exfalso; omega) | refine cpC (hx) ?_ | refine dpC (hx) ?_ | refine hK (i + 1, J) [some 0] _ _ ⟨⟨by dsimp only; omega, hdrop (by assumption) (by assumption)⟩⟩ ⟨by dsimp only; omega⟩ (by exact bkI) | refine hK (i + 1, List.take J.length J ++ List.take 1 (List.drop 0 [l.getD (i : Int).toNat (Cd.dflt U.event)])) [some 2] _ _ ⟨⟨by dsimp only; omega, hkeep (by first | exact .inl (by assumption) | exact .inr (by assumption))⟩⟩ ⟨by dsimp only; omega⟩ (by exact bkI) | refine x0C ?_ | refine spC (fun hb => ?_) fun hb => ?_ | refine nilC (fun hb => ?_) ?_ | refine taC ?_ | refine saC ?_ | exact sdV | refine side_and ?_ ?_ | refine drawX_of mixed ?_))
  · rw [hre, show l.length = i by omega, ← hJ]
    (repeat' ((conv => whnf); first | (exfalso; omega) | refine x0C ?_ | refine spC (fun hb => ?_) fun hb => ?_ | refine nilC (fun hb => ?_) ?_ | refine taC ?_ | refine saC ?_ | exact sdV | refine side_and ?_ ?_ | refine drawX_of mixed ?_))
    all_goals exact vwV
end Go.SX

namespace Go.SX
open Go.Proofs
set_option linter.unusedSimpArgs false
set_option linter.unusedVariables false
set_option maxHeartbeats 4000000
set_option maxRecDepth 100000
/-- the EShots at some places -/
def atI (l : List Event) (js : List Int) : List Event := js.map fun j => l.getD j.toNat (U.dflt .event)
theorem atI_get (l : List Event) {js : List Int} {i : Nat} (h : i < js.length) : l.getD (js.getD i 0).toNat (U.dflt .event) = (atI l js).getD i (U.dflt .event) := by
  unfold atI
  simp [List.getD_eq_getElem?_getD, List.getElem?_eq_getElem h]
theorem rmost (g : Goal) (hdy : 0 ≤ g.days ∧ g.days ≤ 60) (l : List Event) (h : EvsOK l) (js : List Int) (hjl : (js.length : Int) ≤ 1000000) (hj : ∀ j ∈ js, 0 ≤ j ∧ j < l.length) : Meets Tryz.prog Dc 85 [goalA g, eS l, lS js] [] (lS (longS g (atI l js))) [] := by
  have hl := h.len
  obtain ⟨m, hm⟩ : ∃ m, m = atI l js := ⟨_, rfl⟩
  have hml : m.length = js.length := by rw [hm]; simp [atI]
  have hget := fun (i : Nat) (hi : i < js.length) => atI_get l hi
  rw [← hm] at hget ⊢
  have hmE : ∀ i : Nat, i < js.length → I64d (m.getD i (U.dflt .event)) := fun i hi => by
    rw [← hget i hi]
    have := hj _ (List.mem_of_getElem? (getD_some (d := 0) hi))
    rw [Int.toNat_natCast] at this
    exact h.i64 _ (List.mem_of_getElem? (getD_some (i := (js.getD i 0).toNat) (d := U.dflt .event) (by omega)))
  have hst : List.replicate ((js.length : Nat) : Int).toNat (Cd.dflt U.int) = longR g m m.length := by rw [longR_start, Int.toNat_natCast, hml]; rfl
  have hjb : ∀ i : Nat, i < js.length → 0 ≤ js.getD i (Cd.dflt U.int) ∧ js.getD i (Cd.dflt U.int) < l.length := fun i hi => by
    have := hj _ (List.mem_of_getElem? (getD_some (d := Cd.dflt U.int) hi))
    rw [Int.toNat_natCast] at this
    exact this
  refine meets_of_gx Ax tab_ok Tryz.func85 (c := _) rfl Tryz.call85 400 ?_
  (repeat' ((conv => whnf); first | (exfalso; omega) | refine x0C ?_ | refine spC (fun hb => ?_) fun hb => ?_ | refine nilC (fun hb => ?_) ?_ | refine taC ?_ | refine saC ?_ | exact sdV | refine side_and ?_ ?_ | refine drawX_of mixed ?_))
  refine loop_up (fun j : Nat => [(8, iS ((j : Int) - 1))]) (fun j => [(1, .rows U.int (longR g m j))]) (fun j => j ≤ m.length) (fun j => j) m.length (Nat.le_refl _) (by (rw [hml] at *; exact bkI)) ?_
  intro j hj2 K hK
  have hlr := longR_len g m hj2
  match j with
  | 0 =>
    rw [longR_end]
    (repeat' ((conv => whnf); first | (exfalso; omega) | refine x0C ?_ | refine spC (fun hb => ?_) fun hb => ?_ | refine nilC (fun hb => ?_) ?_ | refine taC ?_ | refine saC ?_ | exact sdV | refine side_and ?_ ?_ | refine drawX_of mixed ?_))
    all_goals (rw [← hml]; exact vwV)
  | i + 1 =>
    have e1 : (longR g m (i + 1)).set (0 + (((i + 1 : Nat) : Int) - 1).toNat) 1 = longQ g m i 0 := by
      rw [← longQ_start g m hj2, show 0 + (((i + 1 : Nat) : Int) - 1).toNat = i by omega]
    have e2 := longQ_end g m (i := i) (t := m.length - (i + 1)) (by omega) rfl
    (repeat' ((conv => whnf); first | (exfalso; omega) | refine x0C ?_ | refine spC (fun hb => ?_) fun hb => ?_ | refine nilC (fun hb => ?_) ?_ | refine taC ?_ | refine saC ?_ | exact sdV | refine side_and ?_ ?_ | refine drawX_of mixed ?_))
    refine loop_up (fun t : Nat => [(9, iS ((i : Int) + 1 + t))]) (fun t => [(1, .rows U.int (longQ g m i t))]) (fun t => t ≤ m.length - (i + 1)) (fun t => m.length - (i + 1) - t) 0 (Nat.zero_le _) (by exact bkI) ?_
    intro t ht K2 hK2
    have hql := longQ_len g m (i := i) (t := t) (by omega)
    rcases Nat.lt_or_ge t (m.length - (i + 1)) with hlt | hge
    · have ei : (((i + 1 : Nat) : Int) - 1).toNat = i := by omega
      have ek : ((i : Int) + 1 + t).toNat = i + 1 + t := by omega
      have hA : l.getD (js.getD (((i + 1 : Nat) : Int) - 1).toNat (Cd.dflt U.int)).toNat (Cd.dflt U.event) = m.getD i (U.dflt .event) := by rw [ei]; exact hget i (by omega)
      have hB : l.getD (js.getD ((i : Int) + 1 + t).toNat (Cd.dflt U.int)).toNat (Cd.dflt U.event) = m.getD (i + 1 + t) (U.dflt .event) := by rw [ek]; exact hget _ (by omega)
      have hbA := hjb i (by omega)
      have hbB := hjb (i + 1 + t) (by omega)
      have hbA2 : 0 ≤ js.getD (((i + 1 : Nat) : Int) - 1).toNat (Cd.dflt U.int) ∧ js.getD (((i + 1 : Nat) : Int) - 1).toNat (Cd.dflt U.int) < l.length := by rw [ei]; exact hbA
      have hbB2 : 0 ≤ js.getD ((i : Int) + 1 + t).toNat (Cd.dflt U.int) ∧ js.getD ((i : Int) + 1 + t).toNat (Cd.dflt U.int) < l.length := by rw [ek]; exact hbB
      have hdA := hmE i (by omega)
      have hdB := hmE (i + 1 + t) (by omega)
      rw [← hA] at hdA
      rw [← hB] at hdB
      unfold I64d at hdA hdB
      have hqb := longQ_bound g m (i := i) (t := t) (by omega)
      have hb1 : 1 ≤ (longQ g m i t).getD (0 + (((i + 1 : Nat) : Int) - 1).toNat) (Cd.dflt U.int) ∧ (longQ g m i t).getD (0 + (((i + 1 : Nat) : Int) - 1).toNat) (Cd.dflt U.int) ≤ m.length := by rw [ei, Nat.zero_add]; exact hqb.1
      have hb2 : (longQ g m i t).getD (0 + ((i : Int) + 1 + t).toNat) (Cd.dflt U.int) ≤ m.length ∧ 0 ≤ (longQ g m i t).getD (0 + ((i : Int) + 1 + t).toNat) (Cd.dflt U.int) := by rw [ek, Nat.zero_add]; exact hqb.2
      have hFe : doFollowB g (m.getD i (U.dflt .event)) (m.getD (i + 1 + t) (U.dflt .event)) = inB ((l.getD (js.getD ((i : Int) + 1 + t).toNat (Cd.dflt U.int)).toNat (Cd.dflt U.event)).at_ - (l.getD (js.getD (((i + 1 : Nat) : Int) - 1).toNat (Cd.dflt U.int)).toNat (Cd.dflt U.event)).at_) g.within (1440 * g.days) := by rw [hA, hB]; rfl
      cases hF : doFollowB g (m.getD i (U.dflt .event)) (m.getD (i + 1 + t) (U.dflt .event)) with
      | false =>
        have e3 := longQ_keep g m (i := i) (t := t) (by omega) hF
        rw [hFe, inB_not] at hF
        (repeat' ((conv => whnf); first | (exfalso; omega) | refine hK2 (t + 1) [some 0, some 1] _ _ ⟨by omega⟩ ⟨by omega⟩ (by (dsimp only; rw [e3]; exact bkI)) | refine x0C ?_ | refine spC (fun hb => ?_) fun hb => ?_ | refine nilC (fun hb => ?_) ?_ | refine taC ?_ | refine saC ?_ | exact sdV | refine side_and ?_ ?_ | refine drawX_of mixed ?_))
      | true =>
        have e4 : (longQ g m i t).set (0 + (((i + 1 : Nat) : Int) - 1).toNat) (max ((longQ g m i t).getD (0 + (((i + 1 : Nat) : Int) - 1).toNat) (Cd.dflt U.int)) (1 + (longQ g m i t).getD (0 + ((i : Int) + 1 + t).toNat) (Cd.dflt U.int))) = longQ g m i (t + 1) := by
          rw [ei, ek, Nat.zero_add, Nat.zero_add]
          exact longQ_set g m (i := i) (t := t) (by omega) hF
        rw [hFe, inB_iff] at hF
        (repeat' ((conv => whnf); first | (exfalso; omega) | refine hK2 (t + 1) [some 0, some 1] _ _ ⟨by omega⟩ ⟨by omega⟩ (by exact bkI) | refine x0C ?_ | refine spC (fun hb => ?_) fun hb => ?_ | refine nilC (fun hb => ?_) ?_ | refine taC ?_ | refine saC ?_ | exact sdV | refine side_and ?_ ?_ | refine drawX_of mixed ?_))
    · obtain rfl : t = m.length - (i + 1) := by omega
      rw [e2]
      (repeat' ((conv => whnf); first | (exfalso; omega) | refine hK i [some 0, some 1] _ _ ⟨by omega⟩ ⟨by omega⟩ (by exact bkI) | refine x0C ?_ | refine spC (fun hb => ?_) fun hb => ?_ | refine nilC (fun hb => ?_) ?_ | refine taC ?_ | refine saC ?_ | exact sdV | refine side_and ?_ ?_ | refine drawX_of mixed ?_))
/-- which place was last -/
def lastI : Option Nat → Int
  | none => -1
  | some k => k
theorem rrun (g : Goal) (hk : (g.kids.length : Int) = 1) (hdy : 0 ≤ g.days ∧ g.days ≤ 60) (hfr : 0 ≤ g.from_ ∧ g.from_ ≤ 1000000) (hti : 1 ≤ g.times ∧ g.times ≤ 6) (hg : GLen (kid0 g.kids)) (l : List Event) (h : EvsOK l) :
    Meets Tryz.prog Dc 63 [goalA g, eS l] [] (.tuple [lS (takeT g (seenS (kid0 g.kids) l) g.times none).1, bS (takeT g (seenS (kid0 g.kids) l) g.times none).2]) [] := by
  have hl := h.len
  have h1 := rseen (kid0 g.kids) hg l hl h.el
  have hjm := idxN_map (seesB (kid0 g.kids)) (U.dflt .event) l l.length (Nat.le_refl _)
  have hjl := idxN_len (seesB (kid0 g.kids)) (U.dflt .event) l l.length
  have hj := fun j (hj : j ∈ idxN (seesB (kid0 g.kids)) (U.dflt .event) l l.length) => idxN_mem hj
  rw [List.take_length] at hjm
  obtain ⟨m, hm⟩ : ∃ m, m = seenS (kid0 g.kids) l := ⟨_, rfl⟩
  rw [← hm]
  generalize idxN (seesB (kid0 g.kids)) (U.dflt .event) l l.length = js at *
  have hma : m = atI l js := by rw [hm]; exact hjm.symm
  have h2 := rmost g hdy l h js (by omega) hj
  rw [← hma] at h2
  have hml : m.length = js.length := by rw [hma]; simp [atI]
  have hget := fun (i : Nat) (hi : i < js.length) => atI_get l hi
  rw [← hma] at hget
  have hmE : ∀ i : Nat, i < js.length → I64d (m.getD i (U.dflt .event)) := fun i hi => by
    rw [← hget i hi]
    have := hj _ (List.mem_of_getElem? (getD_some (d := 0) hi))
    rw [Int.toNat_natCast] at this
    exact h.i64 _ (List.mem_of_getElem? (getD_some (i := (js.getD i 0).toNat) (d := U.dflt .event) (by omega)))
  have hjb : ∀ i : Nat, i < js.length → 0 ≤ js.getD i (Cd.dflt U.int) ∧ js.getD i (Cd.dflt U.int) < l.length := fun i hi => by
    have := hj _ (List.mem_of_getElem? (getD_some (d := Cd.dflt U.int) hi))
    rw [Int.toNat_natCast] at this
    exact this
  refine meets_of_gx Ax tab_ok Tryz.func63 (c := _) rfl Tryz.call63 400 ?_
  (repeat' ((conv => whnf); first | (exfalso; omega) | refine cpC (h1) ?_ | refine dpC (h1) ?_ | refine cpC (h2) ?_ | refine dpC (h2) ?_ | refine x0C ?_ | refine spC (fun hb => ?_) fun hb => ?_ | refine nilC (fun hb => ?_) ?_ | refine taC ?_ | refine saC ?_ | exact sdV | refine side_and ?_ ?_ | refine drawX_of mixed ?_))
  refine loop_upT [some 0, none] (fun q : Nat × Option Nat × List Int => [(8, .slice 1 0 1 0 q.2.2.length), (9, iS (lastI q.2.1)), (10, iS q.1)]) (fun q => [(1, .rows U.int q.2.2)]) (fun q => q.1 ≤ js.length ∧ (∀ k, q.2.1 = some k → k < js.length) ∧ runInv g m q.1 q.2.2 (q.2.1.map fun k => m.getD k (U.dflt .event))) (fun q => js.length - q.1) (0, none, []) ⟨Nat.zero_le _, fun k hk => (by cases hk), runInv_start g m (by omega)⟩ (by exact bkI) ?_
  rintro ⟨i, last, out⟩ ⟨hi, hlk, hinv⟩ K hK
  dsimp only at hi hlk hinv hK ⊢
  have hout := hinv.1
  by_cases hgo : i < js.length ∧ (out.length : Int) < g.times
  · obtain ⟨hlt, hot⟩ := hgo
    have hA : l.getD (js.getD (i : Int).toNat (Cd.dflt U.int)).toNat (Cd.dflt U.event) = m.getD i (U.dflt .event) := hget i hlt
    have hbA : 0 ≤ js.getD (i : Int).toNat (Cd.dflt U.int) ∧ js.getD (i : Int).toNat (Cd.dflt U.int) < l.length := hjb i hlt
    have hdA := hmE i hlt
    rw [← hA] at hdA
    unfold I64d at hdA
    have hlg : (longS g m).getD (i : Int).toNat (Cd.dflt U.int) = (longS g m).getD i 0 := rfl
    have hll : (longS g m).length = m.length := longS_len g m
    have hW : List.take out.length out ++ List.take 1 (List.drop 0 [(l.getD (js.getD (i : Int).toNat (Cd.dflt U.int)).toNat (Cd.dflt U.event)).image]) = out ++ [(m.getD i (U.dflt .event)).image] := by rw [hA]; simp
    have hhit := fun h1 h2 => runInv_hit hinv (by omega) hot h1 h2
    rw [← hW] at hhit
    have hmiss := fun h => runInv_miss hinv (by omega) hot h
    cases last with
    | none =>
      rw [show lastI none = -1 from rfl]
      have hn : nextB g none (m.getD i (U.dflt .event)) = decide ((l.getD (js.getD (i : Int).toNat (Cd.dflt U.int)).toNat (Cd.dflt U.event)).at_ ≤ g.from_ + 1440 * g.days) := by rw [hA]; rfl
      by_cases hfit : (l.getD (js.getD (i : Int).toNat (Cd.dflt U.int)).toNat (Cd.dflt U.event)).at_ ≤ g.from_ + 1440 * g.days
      · by_cases hlo : g.times - out.length ≤ (longS g m).getD (i : Int).toNat (Cd.dflt U.int)
        · have hr := hhit hlo (by rw [show (Option.map (fun k => m.getD k (U.dflt .event)) none : Option Event) = none from rfl, hn, decide_eq_true hfit])
          (repeat' ((conv => whnf); first | (exfalso; omega) | refine hK (i + 1, some i, List.take out.length out ++ List.take 1 (List.drop 0 [(l.getD (js.getD (i : Int).toNat (Cd.dflt U.int)).toNat (Cd.dflt U.event)).image])) [some 0, some 3] _ _ ⟨⟨by dsimp only; omega, fun k hk => by (injection hk with hk; omega), hr⟩⟩ ⟨by dsimp only; omega⟩ (by exact bkI) | refine x0C ?_ | refine spC (fun hb => ?_) fun hb => ?_ | refine nilC (fun hb => ?_) ?_ | refine taC ?_ | refine saC ?_ | exact sdV | refine side_and ?_ ?_ | refine drawX_of mixed ?_))
        · have hr := hmiss (.inl hlo)
          (repeat' ((conv => whnf); first | (exfalso; omega) | refine hK (i + 1, none, out) [some 0, some 1] _ _ ⟨⟨by dsimp only; omega, hlk, hr⟩⟩ ⟨by dsimp only; omega⟩ (by exact bkI) | refine x0C ?_ | refine spC (fun hb => ?_) fun hb => ?_ | refine nilC (fun hb => ?_) ?_ | refine taC ?_ | refine saC ?_ | exact sdV | refine side_and ?_ ?_ | refine drawX_of mixed ?_))
      · have hr := hmiss (.inr (by rw [show (Option.map (fun k => m.getD k (U.dflt .event)) none : Option Event) = none from rfl, hn, decide_eq_false hfit]))
        (repeat' ((conv => whnf); first | (exfalso; omega) | refine hK (i + 1, none, out) [some 0, some 1] _ _ ⟨⟨by dsimp only; omega, hlk, hr⟩⟩ ⟨by dsimp only; omega⟩ (by exact bkI) | refine x0C ?_ | refine spC (fun hb => ?_) fun hb => ?_ | refine nilC (fun hb => ?_) ?_ | refine taC ?_ | refine saC ?_ | exact sdV | refine side_and ?_ ?_ | refine drawX_of mixed ?_))
    | some k =>
      rw [show lastI (some k) = (k : Int) from rfl]
      have hkl := hlk k rfl
      have hB : l.getD (js.getD (k : Int).toNat (Cd.dflt U.int)).toNat (Cd.dflt U.event) = m.getD k (U.dflt .event) := hget k hkl
      have hbB : 0 ≤ js.getD (k : Int).toNat (Cd.dflt U.int) ∧ js.getD (k : Int).toNat (Cd.dflt U.int) < l.length := hjb k hkl
      have hdB := hmE k hkl
      rw [← hB] at hdB
      unfold I64d at hdB
      have hn : nextB g (some (m.getD k (U.dflt .event))) (m.getD i (U.dflt .event)) = inB ((l.getD (js.getD (i : Int).toNat (Cd.dflt U.int)).toNat (Cd.dflt U.event)).at_ - (l.getD (js.getD (k : Int).toNat (Cd.dflt U.int)).toNat (Cd.dflt U.event)).at_) g.within (1440 * g.days) := by rw [hA, hB]; rfl
      by_cases hfit : g.within ≤ (l.getD (js.getD (i : Int).toNat (Cd.dflt U.int)).toNat (Cd.dflt U.event)).at_ - (l.getD (js.getD (k : Int).toNat (Cd.dflt U.int)).toNat (Cd.dflt U.event)).at_ ∧ (l.getD (js.getD (i : Int).toNat (Cd.dflt U.int)).toNat (Cd.dflt U.event)).at_ - (l.getD (js.getD (k : Int).toNat (Cd.dflt U.int)).toNat (Cd.dflt U.event)).at_ ≤ 1440 * g.days
      · by_cases hlo : g.times - out.length ≤ (longS g m).getD (i : Int).toNat (Cd.dflt U.int)
        · have hr := hhit hlo (by rw [show (Option.map (fun k => m.getD k (U.dflt .event)) (some k) : Option Event) = some (m.getD k (U.dflt .event)) from rfl, hn]; exact (inB_iff _ _ _).2 hfit)
          (repeat' ((conv => whnf); first | (exfalso; omega) | refine hK (i + 1, some i, List.take out.length out ++ List.take 1 (List.drop 0 [(l.getD (js.getD (i : Int).toNat (Cd.dflt U.int)).toNat (Cd.dflt U.event)).image])) [some 0, some 3] _ _ ⟨⟨by dsimp only; omega, fun k hk => by (injection hk with hk; omega), hr⟩⟩ ⟨by dsimp only; omega⟩ (by exact bkI) | refine x0C ?_ | refine spC (fun hb => ?_) fun hb => ?_ | refine nilC (fun hb => ?_) ?_ | refine taC ?_ | refine saC ?_ | exact sdV | refine side_and ?_ ?_ | refine drawX_of mixed ?_))
        · have hr := hmiss (.inl hlo)
          (repeat' ((conv => whnf); first | (exfalso; omega) | refine hK (i + 1, some k, out) [some 0, some 1] _ _ ⟨⟨by dsimp only; omega, hlk, hr⟩⟩ ⟨by dsimp only; omega⟩ (by exact bkI) | refine x0C ?_ | refine spC (fun hb => ?_) fun hb => ?_ | refine nilC (fun hb => ?_) ?_ | refine taC ?_ | refine saC ?_ | exact sdV | refine side_and ?_ ?_ | refine drawX_of mixed ?_))
      · have hr := hmiss (.inr (by rw [show (Option.map (fun k => m.getD k (U.dflt .event)) (some k) : Option Event) = some (m.getD k (U.dflt .event)) from rfl, hn]; exact (inB_not _ _ _).2 hfit))
        (repeat' ((conv => whnf); first | (exfalso; omega) | refine hK (i + 1, some k, out) [some 0, some 1] _ _ ⟨⟨by dsimp only; omega, hlk, hr⟩⟩ ⟨by dsimp only; omega⟩ (by exact bkI) | refine x0C ?_ | refine spC (fun hb => ?_) fun hb => ?_ | refine nilC (fun hb => ?_) ?_ | refine taC ?_ | refine saC ?_ | exact sdV | refine side_and ?_ ?_ | refine drawX_of mixed ?_))
  · have he := runInv_end hinv (by omega)
    rw [he]
    (repeat' ((conv => whnf); first | (exfalso; omega) | refine x0C ?_ | refine spC (fun hb => ?_) fun hb => ?_ | refine nilC (fun hb => ?_) ?_ | refine taC ?_ | refine saC ?_ | exact sdV | refine side_and ?_ ?_ | refine drawX_of mixed ?_))
    all_goals exact vwV
end Go.SX
