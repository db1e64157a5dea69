/-
  Walks: Tc1, Tc0, Tc2, Tc3, Tc4, Td3, Tp6, Tp7, Tp8: what single functions of the program compute.
-/
import Derived.Test.YtdaghncicimipaaGreatDoorSxTb5
set_option linter.unusedVariables false
set_option linter.unusedSimpArgs false
namespace Go.SX
open Go.Proofs
set_option maxHeartbeats 4000000
set_option maxRecDepth 100000
@[reducible] def goalC' (g : Goal) : List (PV Cd) := [.int .i64 g.kind, .dsl U.int g.rows, .int .i64 g.from_, .int .i64 g.to_, .int .i64 g.low, .int .i64 g.high, .bool g.clear, .int .i64 g.days, .int .i64 g.times, .int .i64 g.within, .dsl U.int g.cents, .dsl U.goal g.kids]
@[reducible] def takeC (g : Goal) (m : List Event) : List (SV Cd) := [.dptr [.dsl U.event m] 0, .dptr [.dsl U.int (longS g m)] 0, .ptr 0 0, .ptr 1 0, .dptr (goalC' g) 0]
@[reducible] def takeH (g : Goal) (m : List Event) (acc : List Int) : List (HS Cd) := [.vart none [.slice 2 0 1 0 acc.length], .vart none [.fn (.func 142) [] (takeC g m)], .rows U.int acc]
@[reducible] def takeD (g : Goal) (m : List Event) (acc : List Int) : List (HS Cd) := [.vart none [.slice 3 0 1 0 acc.length], .vart none [.fn (.func 142) [] (takeC g m)], .dead, .rows U.int acc]
/-- behind take: nothing was put down, or a new row -/
@[reducible] def takeO (g : Goal) (m : List Event) (acc r : List Int) : List (HS Cd) := match r with
  | [] => takeH g m acc
  | x :: r => takeD g m (acc ++ x :: r)
/-- what tells whether an EShot may be next -/
inductive CapT (g : Goal) (m : List Event) : List (SV Cd) → Prop
  | c0 : CapT g m [.dptr (goalC' g) 0]
  | c1 (i : Int) : CapT g m [.dptr (goalC' g) 0, .dptr [.dsl U.event m] 0, .dptr [.int .i64 i] 0]
theorem tnext0 (g : Goal) (hf : 0 ≤ g.from_ ∧ g.from_ ≤ 1000000) (hd : 0 ≤ g.days ∧ g.days ≤ 60) (e : Event) : Meets Tryz.prog Dc 144 [evA e, .dptr (goalC' g) 0] [] (bS (nextB g none e)) [] := by
  have h := tbegin g e hf hd
  refine meets_of_gx Ax tab_ok Tryz.func144 (c := _) rfl Tryz.call144 60 ?_
  (repeat' ((conv => whnf); first | refine x0C (eB ?_ rfl) | (exfalso; omega) | refine cpC (h) ?_ | refine dpC (h) ?_ | refine x0C ?_ | refine spC (fun hb => ?_) fun hb => ?_ | refine nilC (fun hb => ?_) ?_ | refine taC ?_ | refine saC ?_ | exact sdV | refine side_and ?_ ?_ | refine drawX_of mixed ?_))
  all_goals rfl
theorem tnext1 (g : Goal) (hd : 0 ≤ g.days ∧ g.days ≤ 60) (m : List Event) (hE : EvsOK m) (i : Nat) (hi : i < m.length) (e : Event) (he : I64d e) : Meets Tryz.prog Dc 143 [evA e, .dptr (goalC' g) 0, .dptr [.dsl U.event m] 0, .dptr [.int .i64 i] 0] [] (bS (nextB g (some (m.getD i (U.dflt .event))) e)) [] := by
  have hgi := getD_some (d := Cd.dflt U.event) hi
  have h := tfollow g (m.getD (i : Int).toNat (Cd.dflt U.event)) e (hE.i64 _ (List.mem_of_getElem? hgi)) he hd
  have hl := hE.len
  refine meets_of_gx Ax tab_ok Tryz.func143 (c := _) rfl Tryz.call143 60 ?_
  (repeat' ((conv => whnf); first | refine x0C (eB ?_ rfl) | (exfalso; omega) | refine cpC (h) ?_ | refine dpC (h) ?_ | refine x0C ?_ | refine spC (fun hb => ?_) fun hb => ?_ | refine nilC (fun hb => ?_) ?_ | refine taC ?_ | refine saC ?_ | exact sdV | refine side_and ?_ ?_ | refine drawX_of mixed ?_))
  all_goals rfl
theorem ttake (g : Goal) (hd : 0 ≤ g.days ∧ g.days ≤ 60) (m : List Event) (hE : EvsOK m) : ∀ (n from_ : Nat), from_ ≤ m.length → m.length - from_ = n → ∀ (need : Int) (f : FuncId) (caps : List (SV Cd)) (last : Option Event) (acc : List Int), 0 ≤ need → need ≤ 6 → CapT g m caps → (acc.length : Int) + (m.length - from_) ≤ 2000000 →
    (∀ x ∈ m, Meets Tryz.prog Dc f (evA x :: caps) [] (bS (nextB g last x)) []) →
    Meets Tryz.prog Dc 142 ([iS from_, iS need, .fn (.func f) [] caps] ++ takeC g m) (takeH g m acc) (bS (takeT g (m.drop from_) need last).2) (takeO g m acc (takeT g (m.drop from_) need last).1) := by
  intro n
  induction n using Nat.strongRecOn with
  | ind n ih =>
    intro from_ hfr hn need f caps last acc hn0 hn6 hc hacc hf
    have hl := hE.len
    rcases Int.lt_or_eq_of_le hn0 with hpos | rfl
    rotate_left
    · rw [takeT_zero]
      cases hc <;>
      · refine meets_of_gx Ax tab_ok Tryz.func142 (c := _) rfl Tryz.call142 200 ?_
        (repeat' ((conv => whnf); first | (exfalso; omega) | (refine end_fn [some 0, some 1, some 2] (.inr rfl) ?_ ?_ rfl rfl; (focus exact vwV); exact hsV) | refine x0C ?_ | refine spC (fun hb => ?_) fun hb => ?_ | refine nilC (fun hb => ?_) ?_ | refine taC ?_ | refine saC ?_ | exact sdV | refine side_and ?_ ?_ | refine drawX_of mixed ?_))
    · cases hc <;>
      · refine meets_of_gx Ax tab_ok Tryz.func142 (c := _) rfl Tryz.call142 200 ?_
        (repeat' ((conv => whnf); first | (exfalso; omega) | refine x0C ?_ | refine spC (fun hb => ?_) fun hb => ?_ | refine nilC (fun hb => ?_) ?_ | refine taC ?_ | refine saC ?_ | exact sdV | refine side_and ?_ ?_ | refine drawX_of mixed ?_))
        refine loop_up (fun i : Nat => [(11, bS false), (12, .ptr 3 0)]) (fun i => [(3, .vart none [iS i])]) (fun i => from_ ≤ i ∧ i ≤ m.length ∧ takeT g (m.drop from_) need last = takeT g (m.drop i) need last) (fun i => m.length - i) from_ ⟨Nat.le_refl _, hfr, rfl⟩ (by exact bkI) ?_
        rintro i ⟨hfi, hi, he⟩ K hK
        rw [he]
        have hll : (longS g m).length = m.length := longS_len g m
        rcases Nat.lt_or_ge i m.length with hlt | hge
        · have hgi := getD_some (d := Cd.dflt U.event) hlt
          have hx := hf _ (List.mem_of_getElem? hgi)
          have hdr := drop_getD (d := Cd.dflt U.event) hlt
          have hhd := longS_head g m i
          have hmiss := fun h => takeT_miss g (a := m.getD i (Cd.dflt U.event)) (l := m.drop (i + 1)) (need := need) (last := last) (by omega) h
          have hhit := fun h1 h2 => takeT_hit g (a := m.getD i (Cd.dflt U.event)) (l := m.drop (i + 1)) (need := need) (last := last) (by omega) h1 h2
          rw [← hdr] at hmiss hhit
          rw [hhd] at hmiss hhit
          cases hp : nextB g last (m.getD (i : Int).toNat (Cd.dflt U.event)) with
          | false =>
            rw [hp] at hx
            rw [hmiss (.inr hp)]
            rw [hmiss (.inr hp)] at he
            (repeat' ((conv => whnf); first | (exfalso; omega) | refine cpC (hx) ?_ | refine dpC (hx) ?_ | refine hK (i + 1) [some 0, some 1, some 2, some 4] _ _ ⟨⟨by omega, by omega, he⟩⟩ ⟨by omega⟩ (by exact bkI) | refine x0C ?_ | refine spC (fun hb => ?_) fun hb => ?_ | refine nilC (fun hb => ?_) ?_ | refine taC ?_ | refine saC ?_ | exact sdV | refine side_and ?_ ?_ | refine drawX_of mixed ?_))
          | true =>
            rw [hp] at hx
            by_cases hlo : need ≤ (longS g m).getD (i : Int).toNat (Cd.dflt U.int)
            · have hW : List.take acc.length acc ++ List.take 1 (List.drop 0 [(m.getD (i : Int).toNat (Cd.dflt U.event)).image]) = acc ++ [(m.getD i (Cd.dflt U.event)).image] := by simp
              have hWl : (List.take acc.length acc ++ List.take 1 (List.drop 0 [(m.getD (i : Int).toNat (Cd.dflt U.event)).image])).length = acc.length + 1 := by rw [hW]; simp
              have hih := ih (m.length - (i + 1)) (by omega) (i + 1) (by omega) rfl (need - 1) 143 _ (some (m.getD i (U.dflt .event))) (List.take acc.length acc ++ List.take 1 (List.drop 0 [(m.getD (i : Int).toNat (Cd.dflt U.event)).image])) (by omega) (by omega) (.c1 i) (by omega) fun x hx => tnext1 g hd m hE i hlt x (hE.i64 x hx)
              rw [show ((i + 1 : Nat) : Int) = (i : Int) + 1 from rfl] at hih
              have hh := hhit hlo hp
              cases hT : takeT g (m.drop (i + 1)) (need - 1) (some (m.getD i (U.dflt .event))) with
              | mk r ok =>
              have hh2 : takeT g (m.drop i) need last = ((m.getD i (Cd.dflt U.event)).image :: r, ok) := hh.trans (by rw [show takeT g (m.drop (i + 1)) (need - 1) (some (m.getD i (Cd.dflt U.event))) = (r, ok) from hT])
              rw [hT] at hih
              rw [hh2]
              cases r with
              | nil =>
                have hg : takeO g m acc ([(m.getD i (Cd.dflt U.event)).image], ok).1 = takeD g m (List.take acc.length acc ++ List.take 1 (List.drop 0 [(m.getD (i : Int).toNat (Cd.dflt U.event)).image])) := by rw [hW]
                rw [hg]
                (repeat' ((conv => whnf); first | (exfalso; omega) | refine cpC (hx) ?_ | refine dpC (hx) ?_ | (refine frzC [some 0, some 1, some 2, none, some 4, some 5] [(12, .any), (49, .any)] [(3, .rows U.int [])] ([iS ((i : Int) + 1), iS (need - 1), .fn (.func 143) [] [.dptr (goalC' g) 0, .dptr [.dsl U.event m] 0, .dptr [.int .i64 i] 0]] ++ takeC g m) (by exact bkV) (by exact snV) ?_; (conv => whnf); refine callh [some 0, some 1, some 5] hih rfl rfl ⟨rfl, rfl, rfl, trivial⟩ ?_) | (refine end_fn [some 0, some 1, some 2, some 5] (.inr rfl) ?_ ?_ rfl rfl; (focus exact vwV); exact hsV) | refine x0C ?_ | refine spC (fun hb => ?_) fun hb => ?_ | refine nilC (fun hb => ?_) ?_ | refine taC ?_ | refine saC ?_ | exact sdV | refine side_and ?_ ?_ | refine drawX_of mixed ?_))
              | cons y r =>
                have hg : takeO g m acc ((m.getD i (Cd.dflt U.event)).image :: y :: r, ok).1 = takeD g m ((List.take acc.length acc ++ List.take 1 (List.drop 0 [(m.getD (i : Int).toNat (Cd.dflt U.event)).image])) ++ y :: r) := by rw [hW, List.append_assoc]; rfl
                rw [hg]
                (repeat' ((conv => whnf); first | (exfalso; omega) | refine cpC (hx) ?_ | refine dpC (hx) ?_ | (refine frzC [some 0, some 1, some 2, none, some 4, some 5] [(12, .any), (49, .any)] [(3, .rows U.int [])] ([iS ((i : Int) + 1), iS (need - 1), .fn (.func 143) [] [.dptr (goalC' g) 0, .dptr [.dsl U.event m] 0, .dptr [.int .i64 i] 0]] ++ takeC g m) (by exact bkV) (by exact snV) ?_; (conv => whnf); refine callh [some 0, some 1, some 5] hih rfl rfl ⟨rfl, rfl, rfl, trivial⟩ ?_) | (refine end_fn [some 0, some 1, some 2, some 6] (.inr rfl) ?_ ?_ rfl rfl; (focus exact vwV); exact hsV) | refine x0C ?_ | refine spC (fun hb => ?_) fun hb => ?_ | refine nilC (fun hb => ?_) ?_ | refine taC ?_ | refine saC ?_ | exact sdV | refine side_and ?_ ?_ | refine drawX_of mixed ?_))
            · have hm := hmiss (.inl hlo)
              rw [hm] at he ⊢
              (repeat' ((conv => whnf); first | (exfalso; omega) | refine cpC (hx) ?_ | refine dpC (hx) ?_ | refine hK (i + 1) [some 0, some 1, some 2, some 4] _ _ ⟨⟨by omega, by omega, he⟩⟩ ⟨by omega⟩ (by exact bkI) | refine x0C ?_ | refine spC (fun hb => ?_) fun hb => ?_ | refine nilC (fun hb => ?_) ?_ | refine taC ?_ | refine saC ?_ | exact sdV | refine side_and ?_ ?_ | refine drawX_of mixed ?_))
        · rw [List.drop_of_length_le hge, takeT_nil g last (by omega)]
          (repeat' ((conv => whnf); first | (exfalso; omega) | (refine end_fn [some 0, some 1, some 2] (.inr rfl) ?_ ?_ rfl rfl; (focus exact vwV); exact hsV) | refine x0C ?_ | refine spC (fun hb => ?_) fun hb => ?_ | refine nilC (fun hb => ?_) ?_ | refine taC ?_ | refine saC ?_ | exact sdV | refine side_and ?_ ?_ | refine drawX_of mixed ?_))
theorem tevery (g : Goal) (hk : (g.kids.length : Int) = 1) (hdy : 0 ≤ g.days ∧ g.days ≤ 60) (hfr : 0 ≤ g.from_ ∧ g.from_ ≤ 1000000) (hti : 1 ≤ g.times ∧ g.times ≤ 6) (hg : GLen (kid0 g.kids)) (l : List Event) (now : Int) (h : EvsOK l) : Meets Tryz.prog Dc 115 [worldA l now, goalA g] [] (senR (everyM g l)) [] := by
  have h1 := tseen_meets (kid0 g.kids) hg l now h.len h.el
  have hE : EvsOK (seenS (kid0 g.kids) l) := ⟨Int.le_trans (Int.ofNat_le.2 (List.length_filter_le _ _)) h.len, fun e he => h.el e (List.mem_filter.1 he).1, fun e he => h.i64 e (List.mem_filter.1 he).1, fun e he => h.look e (List.mem_filter.1 he).1⟩
  unfold everyM
  generalize seenS (kid0 g.kids) l = m at h1 hE ⊢
  have hl := hE.len
  rw [takeS_T]
  have htk := ttake g hdy m hE m.length 0 (Nat.zero_le _) (Nat.sub_zero _) g.times 144 _ none [] (by omega) (by omega) .c0 (by simp; omega) fun x hx => tnext0 g hfr hdy x
  rw [List.drop_zero] at htk
  have htl := takeT_len g m g.times none
  have hts := takeS_len g m g.times none
  rw [takeS_T] at hts
  cases hT : takeT g m g.times none with
  | mk r ok =>
  rw [hT] at htk htl hts
  have hr0 : ok = true → r ≠ [] := fun e h => by
    subst e; subst h
    have := hts [] (by omega) rfl
    simp at this; omega
  have hst : List.replicate ((m.length : Nat) : Int).toNat (Cd.dflt U.int) = longR g m m.length := by rw [longR_start, Int.toNat_natCast]; rfl
  refine meets_of_gx Ax tab_ok Tryz.func115 (c := _) rfl Tryz.call115 400 ?_
  (repeat' ((conv => whnf); first | (exfalso; omega) | refine cpC (h1) ?_ | refine dpC (h1) ?_ | refine x0C ?_ | refine spC (fun hb => ?_) fun hb => ?_ | refine nilC (fun hb => ?_) ?_ | refine taC ?_ | refine saC ?_ | exact sdV | refine side_and ?_ ?_ | refine drawX_of mixed ?_))
  refine loop_up (fun j : Nat => [(8, iS ((j : Int) - 1))]) (fun j => [(4, .rows U.int (longR g m j))]) (fun j => j ≤ m.length) (fun j => j) m.length (Nat.le_refl _) (by exact bkI) ?_
  intro j hj K hK
  have hlr := longR_len g m hj
  match j with
  | 0 =>
    rw [longR_end]
    rw [show ((0 : Nat) : Int) = 0 from rfl] at htk
    cases ok with
    | false =>
      cases r <;>
      · (repeat' ((conv => whnf); first | (exfalso; omega) | refine x0C ?_ | refine spC (fun hb => ?_) fun hb => ?_ | refine nilC (fun hb => ?_) ?_ | refine taC ?_ | refine saC ?_ | exact sdV | refine side_and ?_ ?_ | refine drawX_of mixed ?_))
        refine frzC [none, none, some 2, none, none, none, some 6, some 7, none] [(2, .any), (3, .dptr (goalC' g) 0), (6, .dptr [.dsl U.event m] 0), (7, .dptr [.dsl U.int (longS g m)] 0), (13, .any), (20, .any), (62, .any), (63, .any), (64, .any), (66, .any)] [(0, .rows U.int []), (1, .rows U.int []), (3, .rows U.int []), (4, .rows U.int []), (5, .rows U.int []), (6, .vart none [.slice 8 0 1 0 0]), (7, .vart none [.fn (.func 142) [] [.dptr [.dsl U.event m] 0, .dptr [.dsl U.int (longS g m)] 0, .ptr 6 0, .ptr 7 0, .dptr (goalC' g) 0]]), (8, .rows U.int [])] [iS 0, iS g.times, .fn (.func 144) [] [.dptr (goalC' g) 0], .dptr [.dsl U.event m] 0, .dptr [.dsl U.int (longS g m)] 0, .ptr 6 0, .ptr 7 0, .dptr (goalC' g) 0] (by exact bkV) (by exact snV) ?_
        (conv => whnf)
        refine callh [some 6, some 7, some 8] htk rfl rfl ⟨rfl, rfl, rfl, trivial⟩ ?_
        (repeat' ((conv => whnf); first | (exfalso; omega) | refine x0C ?_ | refine spC (fun hb => ?_) fun hb => ?_ | refine nilC (fun hb => ?_) ?_ | refine taC ?_ | refine saC ?_ | exact sdV | refine side_and ?_ ?_ | refine drawX_of mixed ?_))
        all_goals exact vwV
    | true =>
      cases r with
      | nil => exact absurd rfl (hr0 rfl)
      | cons x r =>
        have him := images_meets (l := x :: r) (by simp) (by simp; simp at htl; omega)
        (repeat' ((conv => whnf); first | (exfalso; omega) | refine x0C ?_ | refine spC (fun hb => ?_) fun hb => ?_ | refine nilC (fun hb => ?_) ?_ | refine taC ?_ | refine saC ?_ | exact sdV | refine side_and ?_ ?_ | refine drawX_of mixed ?_))
        refine frzC [none, none, some 2, none, none, none, some 6, some 7, none] [(2, .any), (3, .dptr (goalC' g) 0), (6, .dptr [.dsl U.event m] 0), (7, .dptr [.dsl U.int (longS g m)] 0), (13, .any), (20, .any), (62, .any), (63, .any), (64, .any), (66, .any)] [(0, .rows U.int []), (1, .rows U.int []), (3, .rows U.int []), (4, .rows U.int []), (5, .rows U.int []), (6, .vart none [.slice 8 0 1 0 0]), (7, .vart none [.fn (.func 142) [] [.dptr [.dsl U.event m] 0, .dptr [.dsl U.int (longS g m)] 0, .ptr 6 0, .ptr 7 0, .dptr (goalC' g) 0]]), (8, .rows U.int [])] [iS 0, iS g.times, .fn (.func 144) [] [.dptr (goalC' g) 0], .dptr [.dsl U.event m] 0, .dptr [.dsl U.int (longS g m)] 0, .ptr 6 0, .ptr 7 0, .dptr (goalC' g) 0] (by exact bkV) (by exact snV) ?_
        (conv => whnf)
        refine callh [some 6, some 7, some 8] htk rfl rfl ⟨rfl, rfl, rfl, trivial⟩ ?_
        (repeat' ((conv => whnf); first | (exfalso; omega) | refine x0C ?_ | refine spC (fun hb => ?_) fun hb => ?_ | refine nilC (fun hb => ?_) ?_ | refine taC ?_ | refine saC ?_ | exact sdV | refine side_and ?_ ?_ | refine drawX_of mixed ?_))
        refine frzC [none, none, some 2, none, none, none, none, none, none, none] [(10, .any), (11, .any), (70, .any)] [(6, .rows U.int []), (7, .rows U.int []), (8, .rows U.int []), (9, .rows U.int [])] [lS (x :: r)] (by exact bkV) (by exact snV) ?_
        (conv => whnf)
        refine callh [] him rfl rfl trivial ?_
        (repeat' ((conv => whnf); first | (exfalso; omega) | refine x0C ?_ | refine spC (fun hb => ?_) fun hb => ?_ | refine nilC (fun hb => ?_) ?_ | refine taC ?_ | refine saC ?_ | exact sdV | refine side_and ?_ ?_ | refine drawX_of mixed ?_))
        all_goals exact vwV
  | i + 1 =>
    have e1 : (longR g m (i + 1)).set (0 + (((i + 1 : Nat) : Int) - 1).toNat) 1 = longQ g m i 0 := by
      rw [← longQ_start g m hj, show 0 + (((i + 1 : Nat) : Int) - 1).toNat = i by omega]
    have e2 := longQ_end g m (i := i) (t := m.length - (i + 1)) (by omega) rfl
    (repeat' ((conv => whnf); first | (exfalso; omega) | refine x0C ?_ | refine spC (fun hb => ?_) fun hb => ?_ | refine nilC (fun hb => ?_) ?_ | refine taC ?_ | refine saC ?_ | exact sdV | refine side_and ?_ ?_ | refine drawX_of mixed ?_))
    refine loop_up (fun t : Nat => [(9, iS ((i : Int) + 1 + t))]) (fun t => [(4, .rows U.int (longQ g m i t))]) (fun t => t ≤ m.length - (i + 1)) (fun t => m.length - (i + 1) - t) 0 (Nat.zero_le _) (by exact bkI) ?_
    intro t ht K2 hK2
    have hql := longQ_len g m (i := i) (t := t) (by omega)
    rcases Nat.lt_or_ge t (m.length - (i + 1)) with hlt | hge
    · have hgi := getD_some (d := Cd.dflt U.event) (show i < m.length by omega)
      have hgk := getD_some (d := Cd.dflt U.event) (show i + 1 + t < m.length by omega)
      have ei : (((i + 1 : Nat) : Int) - 1).toNat = i := by omega
      have ek : ((i : Int) + 1 + t).toNat = i + 1 + t := by omega
      have hfo := tfollow g (m.getD (((i + 1 : Nat) : Int) - 1).toNat (Cd.dflt U.event)) (m.getD ((i : Int) + 1 + t).toNat (Cd.dflt U.event)) (by rw [ei]; exact hE.i64 _ (List.mem_of_getElem? hgi)) (by rw [ek]; exact hE.i64 _ (List.mem_of_getElem? hgk)) hdy
      have hqb := longQ_bound g m (i := i) (t := t) (by omega)
      have hb1 : 1 ≤ (longQ g m i t).getD (0 + (((i + 1 : Nat) : Int) - 1).toNat) (Cd.dflt U.int) ∧ (longQ g m i t).getD (0 + (((i + 1 : Nat) : Int) - 1).toNat) (Cd.dflt U.int) ≤ m.length := by rw [ei, Nat.zero_add]; exact hqb.1
      have hb2 : (longQ g m i t).getD (0 + ((i : Int) + 1 + t).toNat) (Cd.dflt U.int) ≤ m.length ∧ 0 ≤ (longQ g m i t).getD (0 + ((i : Int) + 1 + t).toNat) (Cd.dflt U.int) := by rw [ek, Nat.zero_add]; exact hqb.2
      cases hF : doFollowB g (m.getD (((i + 1 : Nat) : Int) - 1).toNat (Cd.dflt U.event)) (m.getD ((i : Int) + 1 + t).toNat (Cd.dflt U.event)) with
      | false =>
        rw [hF] at hfo
        have e3 := longQ_keep g m (i := i) (t := t) (by omega) (by rw [ei, ek] at hF; exact hF)
        (repeat' ((conv => whnf); first | (exfalso; omega) | refine cpC (hfo) ?_ | refine dpC (hfo) ?_ | refine hK2 (t + 1) [some 0, some 1, some 2, some 3, some 4, some 5] _ _ ⟨by omega⟩ ⟨by omega⟩ (by (dsimp only; rw [e3]; exact bkI)) | refine x0C ?_ | refine spC (fun hb => ?_) fun hb => ?_ | refine nilC (fun hb => ?_) ?_ | refine taC ?_ | refine saC ?_ | exact sdV | refine side_and ?_ ?_ | refine drawX_of mixed ?_))
      | true =>
        rw [hF] at hfo
        have e4 : (longQ g m i t).set (0 + (((i + 1 : Nat) : Int) - 1).toNat) (max ((longQ g m i t).getD (0 + (((i + 1 : Nat) : Int) - 1).toNat) (Cd.dflt U.int)) (1 + (longQ g m i t).getD (0 + ((i : Int) + 1 + t).toNat) (Cd.dflt U.int))) = longQ g m i (t + 1) := by
          rw [ei, ek, Nat.zero_add, Nat.zero_add]
          exact longQ_set g m (i := i) (t := t) (by omega) (by rw [ei, ek] at hF; exact hF)
        (repeat' ((conv => whnf); first | (exfalso; omega) | refine cpC (hfo) ?_ | refine dpC (hfo) ?_ | refine hK2 (t + 1) [some 0, some 1, some 2, some 3, some 4, some 5] _ _ ⟨by omega⟩ ⟨by omega⟩ (by exact bkI) | refine x0C ?_ | refine spC (fun hb => ?_) fun hb => ?_ | refine nilC (fun hb => ?_) ?_ | refine taC ?_ | refine saC ?_ | exact sdV | refine side_and ?_ ?_ | refine drawX_of mixed ?_))
    · obtain rfl : t = m.length - (i + 1) := by omega
      rw [e2]
      (repeat' ((conv => whnf); first | (exfalso; omega) | refine hK i [some 0, some 1, some 2, some 3, some 4, some 5] _ _ ⟨by omega⟩ ⟨by omega⟩ (by exact bkI) | refine x0C ?_ | refine spC (fun hb => ?_) fun hb => ?_ | refine nilC (fun hb => ?_) ?_ | refine taC ?_ | refine saC ?_ | exact sdV | refine side_and ?_ ?_ | refine drawX_of mixed ?_))
def kindM (k : Int) (f : Nat) (i : Nat) : MapEntry := ⟨.int .i64 k, .func (.func f) #[] #[], i⟩
def kindsM : Obj := .map #[kindM 1 113 0, kindM 2 114 1, kindM 3 115 2, kindM 4 116 3, kindM 5 117 4, kindM 6 118 5] 6
theorem tmeanings : Meets Tryz.prog Dc 83 [] [] (.mapp 0) [.obj kindsM] := by
  refine meets_of_gx Ax tab_ok Tryz.func83 (c := _) rfl Tryz.call83 200 ?_
  (repeat' ((conv => whnf); first | (exfalso; omega) | refine side_and ⟨rfl⟩ ?_ | (refine end_fn [some 0] (.inr rfl) ?_ ?_ rfl rfl; (focus exact vwV); exact hsV) | refine x0C ?_ | refine spC (fun hb => ?_) fun hb => ?_ | refine nilC (fun hb => ?_) ?_ | refine taC ?_ | refine saC ?_ | exact sdV | refine side_and ?_ ?_ | refine drawX_of mixed ?_))
theorem senR_cases (s : Sen) : ∃ p im b, senR s = .tuple [senA p im, bS b] := by
  cases s with
  | none => exact ⟨_, _, _, rfl⟩
  | some x => exact ⟨_, _, _, rfl⟩
theorem tsense1 (g : Goal) (hk : g.kind = 1) (l : List Event) (now : Int) (s : Sen) (h : Meets Tryz.prog Dc 113 [worldA l now, goalA g] [] (senR s) []) : Meets Tryz.prog Dc 58 [worldA l now, goalA g] [] (senR s) [] := by
  cases g with
  | mk kind rows from_ to_ low high clear days times within cents kids =>
  dsimp only at hk
  subst hk
  obtain ⟨p, im, b, e⟩ := senR_cases s
  rw [e] at h ⊢
  refine meets_of_gx Ax tab_ok Tryz.func58 (c := _) rfl Tryz.call58 100 ?_
  (repeat' ((conv => whnf); first | (exfalso; omega) | (refine dcallh [] tmeanings rfl rfl trivial ?_) | refine ask_in rfl ?_ | refine cpC (h) ?_ | refine dpC (h) ?_ | refine x0C ?_ | refine spC (fun hb => ?_) fun hb => ?_ | refine nilC (fun hb => ?_) ?_ | refine taC ?_ | refine saC ?_ | exact sdV | refine side_and ?_ ?_ | refine drawX_of mixed ?_))
  all_goals exact vwV
theorem tsense2 (g : Goal) (hk : g.kind = 2) (l : List Event) (now : Int) (s : Sen) (h : Meets Tryz.prog Dc 114 [worldA l now, goalA g] [] (senR s) []) : Meets Tryz.prog Dc 58 [worldA l now, goalA g] [] (senR s) [] := by
  cases g with
  | mk kind rows from_ to_ low high clear days times within cents kids =>
  dsimp only at hk
  subst hk
  obtain ⟨p, im, b, e⟩ := senR_cases s
  rw [e] at h ⊢
  refine meets_of_gx Ax tab_ok Tryz.func58 (c := _) rfl Tryz.call58 100 ?_
  (repeat' ((conv => whnf); first | (exfalso; omega) | (refine dcallh [] tmeanings rfl rfl trivial ?_) | refine ask_in rfl ?_ | refine cpC (h) ?_ | refine dpC (h) ?_ | refine x0C ?_ | refine spC (fun hb => ?_) fun hb => ?_ | refine nilC (fun hb => ?_) ?_ | refine taC ?_ | refine saC ?_ | exact sdV | refine side_and ?_ ?_ | refine drawX_of mixed ?_))
  all_goals exact vwV
theorem tsense3 (g : Goal) (hk : g.kind = 3) (l : List Event) (now : Int) (s : Sen) (h : Meets Tryz.prog Dc 115 [worldA l now, goalA g] [] (senR s) []) : Meets Tryz.prog Dc 58 [worldA l now, goalA g] [] (senR s) [] := by
  cases g with
  | mk kind rows from_ to_ low high clear days times within cents kids =>
  dsimp only at hk
  subst hk
  obtain ⟨p, im, b, e⟩ := senR_cases s
  rw [e] at h ⊢
  refine meets_of_gx Ax tab_ok Tryz.func58 (c := _) rfl Tryz.call58 100 ?_
  (repeat' ((conv => whnf); first | (exfalso; omega) | (refine dcallh [] tmeanings rfl rfl trivial ?_) | refine ask_in rfl ?_ | refine cpC (h) ?_ | refine dpC (h) ?_ | refine x0C ?_ | refine spC (fun hb => ?_) fun hb => ?_ | refine nilC (fun hb => ?_) ?_ | refine taC ?_ | refine saC ?_ | exact sdV | refine side_and ?_ ?_ | refine drawX_of mixed ?_))
  all_goals exact vwV
theorem tsense4 (g : Goal) (hk : g.kind = 4) (l : List Event) (now : Int) (s : Sen) (h : Meets Tryz.prog Dc 116 [worldA l now, goalA g] [] (senR s) []) : Meets Tryz.prog Dc 58 [worldA l now, goalA g] [] (senR s) [] := by
  cases g with
  | mk kind rows from_ to_ low high clear days times within cents kids =>
  dsimp only at hk
  subst hk
  obtain ⟨p, im, b, e⟩ := senR_cases s
  rw [e] at h ⊢
  refine meets_of_gx Ax tab_ok Tryz.func58 (c := _) rfl Tryz.call58 100 ?_
  (repeat' ((conv => whnf); first | (exfalso; omega) | (refine dcallh [] tmeanings rfl rfl trivial ?_) | refine ask_in rfl ?_ | refine cpC (h) ?_ | refine dpC (h) ?_ | refine x0C ?_ | refine spC (fun hb => ?_) fun hb => ?_ | refine nilC (fun hb => ?_) ?_ | refine taC ?_ | refine saC ?_ | exact sdV | refine side_and ?_ ?_ | refine drawX_of mixed ?_))
  all_goals exact vwV
theorem tsense5 (g : Goal) (hk : g.kind = 5) (l : List Event) (now : Int) (s : Sen) (h : Meets Tryz.prog Dc 117 [worldA l now, goalA g] [] (senR s) []) : Meets Tryz.prog Dc 58 [worldA l now, goalA g] [] (senR s) [] := by
  cases g with
  | mk kind rows from_ to_ low high clear days times within cents kids =>
  dsimp only at hk
  subst hk
  obtain ⟨p, im, b, e⟩ := senR_cases s
  rw [e] at h ⊢
  refine meets_of_gx Ax tab_ok Tryz.func58 (c := _) rfl Tryz.call58 100 ?_
  (repeat' ((conv => whnf); first | (exfalso; omega) | (refine dcallh [] tmeanings rfl rfl trivial ?_) | refine ask_in rfl ?_ | refine cpC (h) ?_ | refine dpC (h) ?_ | refine x0C ?_ | refine spC (fun hb => ?_) fun hb => ?_ | refine nilC (fun hb => ?_) ?_ | refine taC ?_ | refine saC ?_ | exact sdV | refine side_and ?_ ?_ | refine drawX_of mixed ?_))
  all_goals exact vwV
theorem tsense6 (g : Goal) (hk : g.kind = 6) (l : List Event) (now : Int) (s : Sen) (h : Meets Tryz.prog Dc 118 [worldA l now, goalA g] [] (senR s) []) : Meets Tryz.prog Dc 58 [worldA l now, goalA g] [] (senR s) [] := by
  cases g with
  | mk kind rows from_ to_ low high clear days times within cents kids =>
  dsimp only at hk
  subst hk
  obtain ⟨p, im, b, e⟩ := senR_cases s
  rw [e] at h ⊢
  refine meets_of_gx Ax tab_ok Tryz.func58 (c := _) rfl Tryz.call58 100 ?_
  (repeat' ((conv => whnf); first | (exfalso; omega) | (refine dcallh [] tmeanings rfl rfl trivial ?_) | refine ask_in rfl ?_ | refine cpC (h) ?_ | refine dpC (h) ?_ | refine x0C ?_ | refine spC (fun hb => ?_) fun hb => ?_ | refine nilC (fun hb => ?_) ?_ | refine taC ?_ | refine saC ?_ | exact sdV | refine side_and ?_ ?_ | refine drawX_of mixed ?_))
  all_goals exact vwV
theorem tdelivery (g : Goal) (hk : (g.kids.length : Int) = 1) (l : List Event) (now : Int) (h : EvsOK l) (s : Sen) (hs : Meets Tryz.prog Dc 58 [worldA (restE l g.within) now, goalA (kid0 g.kids)] [] (senR s) []) : Meets Tryz.prog Dc 116 [worldA l now, goalA g] [] (senR s) [] := by
  have h1 := trest_meets l now g.within h.len h.i64
  obtain ⟨p, im, b, e⟩ := senR_cases s
  rw [e] at hs ⊢
  refine meets_of_gx Ax tab_ok Tryz.func116 (c := _) rfl Tryz.call116 100 ?_
  (repeat' ((conv => whnf); first | (exfalso; omega) | refine cpC (h1) ?_ | refine dpC (h1) ?_ | refine cpC (hs) ?_ | refine dpC (hs) ?_ | refine x0C ?_ | refine spC (fun hb => ?_) fun hb => ?_ | refine nilC (fun hb => ?_) ?_ | refine taC ?_ | refine saC ?_ | exact sdV | refine side_and ?_ ?_ | refine drawX_of mixed ?_))
  all_goals exact vwV
theorem tall (g : Goal) (d n : Int) (l : List Event) (now : Int) (hsz : sizeL g.kids d = some n) (hn : n ≤ 1000) (hkl : (g.kids.length : Int) ≤ 1000000) (hs : ∀ k ∈ g.kids, Meets Tryz.prog Dc 58 [worldA l now, goalA k] [] (senR (meanG k l)) []) : Meets Tryz.prog Dc 117 [worldA l now, goalA g] [] (senR (meanAll g.kids l 0 [])) [] := by
  refine meets_of_gx Ax tab_ok Tryz.func117 (c := _) rfl Tryz.call117 400 ?_
  (repeat' ((conv => whnf); first | (exfalso; omega) | refine x0C ?_ | refine spC (fun hb => ?_) fun hb => ?_ | refine nilC (fun hb => ?_) ?_ | refine taC ?_ | refine saC ?_ | exact sdV | refine side_and ?_ ?_ | refine drawX_of mixed ?_))
  refine loop_upT [some 0, some 1, some 2, none] (fun q : Nat × Int × List Int × Nat => [(5, bS false), (13, iS q.1)]) (fun q => [(2, .vart none [iS q.2.1, .slice 3 0 1 0 q.2.2.1.length]), (3, .rows U.int (q.2.2.1 ++ List.replicate q.2.2.2 0))]) (fun q => q.1 ≤ g.kids.length ∧ meanAll (g.kids.take q.1) l 0 [] = some (q.2.1, q.2.2.1)) (fun q => g.kids.length - q.1) (0, 0, [], 0) ⟨Nat.zero_le _, by rw [List.take_zero, meanAll]⟩ (by exact bkI) ?_
  rintro ⟨i, p, im, z⟩ ⟨hi, hm⟩ K hK
  dsimp only at hi hm hK ⊢
  rcases Nat.lt_or_ge i g.kids.length with hlt | hge
  · have hgi := getD_some (d := Cd.dflt U.goal) hlt
    have hkm := List.mem_of_getElem? hgi
    have hx := hs _ hkm
    obtain ⟨k0, hk1, hk2⟩ := sizeL_mem hsz hkm
    obtain ⟨n0, hn1, hn2⟩ := sizeL_take i hsz
    have hb0 := all_bound _ _ _ _ _ _ _ _ hn1 hm
    have hsn := meanAll_snoc (g.kids.take i) (g.kids.getD (i : Int).toNat (Cd.dflt U.goal)) l 0 []
    rw [show g.kids.take i ++ [g.kids.getD (i : Int).toNat (Cd.dflt U.goal)] = g.kids.take (i + 1) from (take_getD hlt).symm, hm] at hsn
    dsimp only at hsn
    cases hr : meanG (g.kids.getD (i : Int).toNat (Cd.dflt U.goal)) l with
    | none =>
      rw [hr] at hx
      rw [meanAll_bad ⟨_, hkm, hr⟩]
      (repeat' ((conv => whnf); first | (exfalso; omega) | refine cpC (hx) ?_ | refine dpC (hx) ?_ | refine x0C ?_ | refine spC (fun hb => ?_) fun hb => ?_ | refine nilC (fun hb => ?_) ?_ | refine taC ?_ | refine saC ?_ | exact sdV | refine side_and ?_ ?_ | refine drawX_of mixed ?_))
      all_goals exact vwV
    | some w =>
      obtain ⟨r, jm⟩ := w
      rw [hr] at hx hsn
      dsimp only at hsn
      have hb1 := mean_bound _ _ _ _ _ _ hk1 hr
      have hne := mean_ne _ _ _ _ _ _ hk1 hr
      simp only [List.length_nil] at hb0
      have hW : List.take im.length (im ++ List.replicate z 0) ++ jm = im ++ jm := by simp
      have hWl := congrArg List.length hW
      simp only [List.length_append (bs := jm)] at hWl
      have him := images_meets (l := List.take im.length (im ++ List.replicate z 0) ++ jm) (by rw [hW]; simp [hne]) (by rw [hW, List.length_append]; omega)
      rw [← hW] at hsn
      (repeat' ((conv => whnf); first | (exfalso; omega) | refine cpC (hx) ?_ | refine dpC (hx) ?_ | (refine frzC [some 0, some 1, some 2, none, some 4, some 5, none] [(33, .any), (36, .any)] [(2, .vart none [iS (p + r), .any]), (3, .rows U.int []), (6, .rows U.int [])] [lS (List.take im.length (im ++ List.replicate z 0) ++ jm)] (by exact bkV) (by exact snV) ?_; (conv => whnf); refine callh [] him rfl rfl trivial ?_) | refine hK (i + 1, p + r, setS (List.take im.length (im ++ List.replicate z 0) ++ jm), (List.take im.length (im ++ List.replicate z 0) ++ jm).length - (setS (List.take im.length (im ++ List.replicate z 0) ++ jm)).length) [some 0, some 1, some 2, some 7] _ _ ⟨⟨by dsimp only; omega, hsn⟩⟩ ⟨by dsimp only; omega⟩ (by exact bkI) | refine x0C ?_ | refine spC (fun hb => ?_) fun hb => ?_ | refine nilC (fun hb => ?_) ?_ | refine taC ?_ | refine saC ?_ | exact sdV | refine side_and ?_ ?_ | refine drawX_of mixed ?_))
  · rw [List.take_of_length_le hge] at hm
    rw [hm]
    (repeat' ((conv => whnf); first | (exfalso; omega) | refine x0C ?_ | refine spC (fun hb => ?_) fun hb => ?_ | refine nilC (fun hb => ?_) ?_ | refine taC ?_ | refine saC ?_ | exact sdV | refine side_and ?_ ?_ | refine drawX_of mixed ?_))
    all_goals exact vwV
def senB (b : Bool) (p : Int) (im : List Int) : Sen := if b then some (p, im) else none
theorem tany (g : Goal) (d n : Int) (l : List Event) (now : Int) (hsz : sizeL g.kids d = some n) (hn : n ≤ 1000) (hkl : (g.kids.length : Int) ≤ 1000000) (hcl : g.cents.length = g.kids.length) (hcb : ∀ c ∈ g.cents, 0 ≤ c ∧ c ≤ 1000000000) (hs : ∀ k ∈ g.kids, Meets Tryz.prog Dc 58 [worldA l now, goalA k] [] (senR (meanG k l)) []) : Meets Tryz.prog Dc 118 [worldA l now, goalA g] [] (senR (meanAny g.kids g.cents l none)) [] := by
  refine meets_of_gx Ax tab_ok Tryz.func118 (c := _) rfl Tryz.call118 400 ?_
  (repeat' ((conv => whnf); first | (exfalso; omega) | refine x0C ?_ | refine spC (fun hb => ?_) fun hb => ?_ | refine nilC (fun hb => ?_) ?_ | refine taC ?_ | refine saC ?_ | exact sdV | refine side_and ?_ ?_ | refine drawX_of mixed ?_))
  refine loop_upT [some 0, some 1, some 2] (fun q : Nat × Int × List Int × Bool => [(5, bS q.2.2.2), (13, iS q.1)]) (fun q => [(2, .vart none [iS q.2.1, lS q.2.2.1])]) (fun q => q.1 ≤ g.kids.length ∧ meanAny (g.kids.take q.1) g.cents l none = senB q.2.2.2 q.2.1 q.2.2.1 ∧ (q.2.2.2 = false → q.2.1 = 0 ∧ q.2.2.1 = [])) (fun q => g.kids.length - q.1) (0, 0, [], false) ⟨Nat.zero_le _, by rw [List.take_zero, meanAny]; rfl, fun _ => ⟨rfl, rfl⟩⟩ (by exact bkI) ?_
  rintro ⟨i, p, im, b⟩ ⟨hi, hm, h0⟩ K hK
  dsimp only at hi hm h0 hK ⊢
  rcases Nat.lt_or_ge i g.kids.length with hlt | hge
  · have hgi := getD_some (d := Cd.dflt U.goal) hlt
    have hkm := List.mem_of_getElem? hgi
    have hx := hs _ hkm
    obtain ⟨k0, hk1, hk2⟩ := sizeL_mem hsz hkm
    obtain ⟨n0, hn1, hn2⟩ := sizeL_take i hsz
    have hsn := meanAny_snoc (g.kids.take i) (g.kids.getD (i : Int).toNat (Cd.dflt U.goal)) l g.cents none
    rw [show g.kids.take i ++ [g.kids.getD (i : Int).toNat (Cd.dflt U.goal)] = g.kids.take (i + 1) from (take_getD hlt).symm, hm, List.length_take, Nat.min_eq_left hi] at hsn
    have hci := hcb _ (List.mem_of_getElem? (getD_some (d := Cd.dflt U.int) (show i < g.cents.length by omega)))
    have hcg : g.cents.getD (i : Int).toNat (Cd.dflt U.int) = g.cents.getD i 0 := rfl
    have hpb : 0 ≤ p ∧ p ≤ 2000000000000 := by
      cases b with
      | false => have := h0 rfl; omega
      | true =>
        rcases any_bound _ _ _ _ _ _ _ _ hn1 hcb (hm.trans (by unfold senB; rw [if_pos rfl])) with h | h
        · cases h
        · omega
    cases hr : meanG (g.kids.getD (i : Int).toNat (Cd.dflt U.goal)) l with
    | none =>
      rw [hr] at hx hsn
      (repeat' ((conv => whnf); first | (exfalso; omega) | refine cpC (hx) ?_ | refine dpC (hx) ?_ | refine hK (i + 1, p, im, b) [some 0, some 1, some 2] _ _ ⟨⟨by dsimp only; omega, hsn, h0⟩⟩ ⟨by dsimp only; omega⟩ (by exact bkI) | refine x0C ?_ | refine spC (fun hb => ?_) fun hb => ?_ | refine nilC (fun hb => ?_) ?_ | refine taC ?_ | refine saC ?_ | exact sdV | refine side_and ?_ ?_ | refine drawX_of mixed ?_))
    | some w =>
      obtain ⟨r, jm⟩ := w
      rw [hr] at hx hsn
      have hb1 := mean_bound _ _ _ _ _ _ hk1 hr
      cases b with
      | false =>
        obtain ⟨rfl, rfl⟩ := h0 rfl
        (repeat' ((conv => whnf); first | (exfalso; omega) | refine cpC (hx) ?_ | refine dpC (hx) ?_ | refine hK (i + 1, r + g.cents.getD (i : Int).toNat (Cd.dflt U.int), jm, true) [some 0, some 1, some 2] _ _ ⟨⟨by dsimp only; omega, hsn, fun h => by cases h⟩⟩ ⟨by dsimp only; omega⟩ (by exact bkI) | refine x0C ?_ | refine spC (fun hb => ?_) fun hb => ?_ | refine nilC (fun hb => ?_) ?_ | refine taC ?_ | refine saC ?_ | exact sdV | refine side_and ?_ ?_ | refine drawX_of mixed ?_))
      | true =>
        by_cases hlt2 : r + g.cents.getD (i : Int).toNat (Cd.dflt U.int) < p
        · have hsn2 : meanAny (g.kids.take (i + 1)) g.cents l none = senB true (r + g.cents.getD (i : Int).toNat (Cd.dflt U.int)) jm := by rw [hsn]; unfold stepAny senB; simp only [if_true]; exact if_pos hlt2
          (repeat' ((conv => whnf); first | (exfalso; omega) | refine cpC (hx) ?_ | refine dpC (hx) ?_ | refine hK (i + 1, r + g.cents.getD (i : Int).toNat (Cd.dflt U.int), jm, true) [some 0, some 1, some 2] _ _ ⟨⟨by dsimp only; omega, hsn2, fun h => by cases h⟩⟩ ⟨by dsimp only; omega⟩ (by exact bkI) | refine x0C ?_ | refine spC (fun hb => ?_) fun hb => ?_ | refine nilC (fun hb => ?_) ?_ | refine taC ?_ | refine saC ?_ | exact sdV | refine side_and ?_ ?_ | refine drawX_of mixed ?_))
        · have hsn2 : meanAny (g.kids.take (i + 1)) g.cents l none = senB true p im := by rw [hsn]; unfold stepAny senB; simp only [if_true]; exact if_neg hlt2
          (repeat' ((conv => whnf); first | (exfalso; omega) | refine cpC (hx) ?_ | refine dpC (hx) ?_ | refine hK (i + 1, p, im, true) [some 0, some 1, some 2] _ _ ⟨⟨by dsimp only; omega, hsn2, fun h => by cases h⟩⟩ ⟨by dsimp only; omega⟩ (by exact bkI) | refine x0C ?_ | refine spC (fun hb => ?_) fun hb => ?_ | refine nilC (fun hb => ?_) ?_ | refine taC ?_ | refine saC ?_ | exact sdV | refine side_and ?_ ?_ | refine drawX_of mixed ?_))
  · rw [List.take_of_length_le hge] at hm
    rw [hm]
    cases b with
    | false =>
      obtain ⟨rfl, rfl⟩ := h0 rfl
      (repeat' ((conv => whnf); first | (exfalso; omega) | refine x0C ?_ | refine spC (fun hb => ?_) fun hb => ?_ | refine nilC (fun hb => ?_) ?_ | refine taC ?_ | refine saC ?_ | exact sdV | refine side_and ?_ ?_ | refine drawX_of mixed ?_))
      all_goals exact vwV
    | true =>
      (repeat' ((conv => whnf); first | (exfalso; omega) | refine x0C ?_ | refine spC (fun hb => ?_) fun hb => ?_ | refine nilC (fun hb => ?_) ?_ | refine taC ?_ | refine saC ?_ | exact sdV | refine side_and ?_ ?_ | refine drawX_of mixed ?_))
      all_goals exact vwV
theorem evs_sub {l m : List Event} (h : EvsOK l) (hs : ∀ e ∈ m, e ∈ l) (hl : m.length ≤ l.length) : EvsOK m :=
  ⟨by have := h.len; omega, fun e he => h.el e (hs e he), fun e he => h.i64 e (hs e he), fun e he => h.look e (hs e he)⟩
theorem evs_rest {l : List Event} (h : EvsOK l) (n : Int) : EvsOK (restE l n) := evs_sub h (fun e he => (List.mem_filter.1 he).1) (List.length_filter_le _ _)
theorem kid0_mem {ks : List Goal} (h : (ks.length : Int) = 1) : kid0 ks ∈ ks := by
  match ks with
  | [] => simp at h
  | k :: _ => exact List.mem_cons_self
theorem tsense_meets : ∀ (j : Nat) (g : Goal) (d n : Int), 5 - d ≤ j → 1 ≤ d → sizeG g d = some n → GAll g → ∀ (l : List Event) (now : Int), EvsOK l → Meets Tryz.prog Dc 58 [worldA l now, goalA g] [] (senR (meanG g l)) [] := by
  intro j
  induction j with
  | zero =>
    intro g d n h1 h2 hs
    have := (size_ok hs).2.1
    omega
  | succ j ih =>
    intro g d n h1 h2 hs hG l now hE
    obtain ⟨hok, hd, m, hL, rfl⟩ := size_ok hs
    have hsz := sizeG_bound 4 g d (1 + m) (by omega) hs
    rw [show (5 : Int) ^ 4 = 625 by decide] at hsz
    obtain ⟨hgl, hgk⟩ := (GAll_iff g).1 hG
    have hkids : ∀ k ∈ g.kids, Meets Tryz.prog Dc 58 [worldA l now, goalA k] [] (senR (meanG k l)) [] := fun k hk => by
      obtain ⟨x, hx, _⟩ := sizeL_mem hL hk
      exact ih k (d + 1) x (by omega) (by omega) hx (GAllL_mem hgk hk) l now hE
    have hkk := (okB_parts hok).1
    rw [meanG_eq]
    have hkb : g.kind = 1 ∨ g.kind = 2 ∨ g.kind = 3 ∨ g.kind = 4 ∨ g.kind = 5 ∨ g.kind = 6 := by omega
    rcases hkb with e | e | e | e | e | e
    · rw [if_pos e]
      exact tsense1 g e l now _ (tsee g hgl l now hE)
    · rw [if_neg (by omega), if_pos e]
      have h1 := ok_one hok (by omega) (by omega) (by omega)
      exact tsense2 g e l now _ (tpair g h1 ((GAll_iff _).1 (GAllL_mem hgk (kid0_mem h1))).1 l now hE)
    · rw [if_neg (by omega), if_neg (by omega), if_pos e]
      have h1 := ok_one hok (by omega) (by omega) (by omega)
      have h3 := ok_days hok e
      exact tsense3 g e l now _ (tevery g h1 (by omega) (by omega) (ok_times hok e) ((GAll_iff _).1 (GAllL_mem hgk (kid0_mem h1))).1 l now hE)
    · rw [if_neg (by omega), if_neg (by omega), if_neg (by omega), if_pos e]
      have h1 := ok_one hok (by omega) (by omega) (by omega)
      rw [meanH_eq _ _ h1]
      obtain ⟨x, hx, _⟩ := sizeL_mem hL (kid0_mem h1)
      exact tsense4 g e l now _ (tdelivery g h1 l now hE _ (ih _ (d + 1) x (by omega) (by omega) hx (GAllL_mem hgk (kid0_mem h1)) _ now (evs_rest hE _)))
    · rw [if_neg (by omega), if_neg (by omega), if_neg (by omega), if_neg (by omega), if_pos e]
      have h2 := many_two hok (.inl e)
      exact tsense5 g e l now _ (tall g (d + 1) m l now hL (by omega) (by omega) hkids)
    · rw [if_neg (by omega), if_neg (by omega), if_neg (by omega), if_neg (by omega), if_neg (by omega)]
      have h2 := many_two hok (.inr e)
      have hc : g.cents.length = g.kids.length := by
        have := (okB_parts hok).2.2.2
        unfold centsB at this
        rw [if_pos e] at this
        simp only [Bool.and_eq_true, decide_eq_true_eq] at this
        omega
      exact tsense6 g e l now _ (tany g (d + 1) m l now hL (by omega) (by omega) hc (ok_cents hok) hkids)
theorem evs_valid {l : List Event} (h : validE l = true) (hel : ∀ e ∈ l, ELen e) : EvsOK l ∧ (l.length : Int) ≤ 120 ∧ ∀ e ∈ l, formB e = true := by
  unfold validE at h
  simp only [Bool.and_eq_true, decide_eq_true_eq] at h
  obtain ⟨h1, h2⟩ := h
  have hf : ∀ e ∈ l, formB e = true := by
    intro e he
    obtain ⟨i, hi, rfl⟩ := List.getElem_of_mem he
    unfold ordB at h2
    rw [List.all_eq_true] at h2
    have := h2 i (List.mem_range.2 hi)
    unfold okAt at this
    simp only [Bool.and_eq_true] at this
    have h3 := this.1.1
    unfold evt at h3
    rwa [List.getD_eq_getElem?_getD, List.getElem?_eq_getElem hi] at h3
  refine ⟨⟨by omega, hel, fun e he => ?_, fun e he => ?_⟩, h1, hf⟩
  · have := hf e he
    unfold formB at this
    simp only [Bool.and_eq_true, inB_iff] at this
    unfold I64d
    omega
  · have := hf e he
    unfold formB at this
    simp only [Bool.and_eq_true, inB_iff] at this
    have h3 := this.2
    split at h3
    · simp only [Bool.and_eq_true, inB_iff] at h3; omega
    · split at h3
      · simp only [Bool.and_eq_true, decide_eq_true_eq] at h3; omega
      · cases h3
/-- what is asked: price, images, is it met, and the error -/
def askS (g : Goal) (l : List Event) : Int × List Int × Bool × Int :=
  if validG g && validE l then (match meanG g l with | some (p, im) => (p, im, true, 0) | none => (0, [], false, 0)) else (0, [], false, 150)
theorem tsense_valid {g : Goal} (hG : GAll g) (hv : validG g = true) {l : List Event} (now : Int) (hE : EvsOK l) : Meets Tryz.prog Dc 58 [worldA l now, goalA g] [] (senR (meanG g l)) [] := by
  unfold validG at hv
  split at hv
  · cases hv
  · rename_i n hn
    exact tsense_meets 4 g 1 n (by omega) (by omega) hn hG l now hE
theorem tasked (g : Goal) (hG : GAll g) (l : List Event) (hl : (l.length : Int) ≤ 9223372036854775807) (hE : ∀ e ∈ l, ELen e) : Meets Tryz.prog Dc 37 [goalA g, eS l] [] (.tuple [senA (askS g l).1 (askS g l).2.1, bS (askS g l).2.2.1, iS (askS g l).2.2.2]) [] := by
  have h1 := valid_meets g hG
  have h2 := tvalid_meets l hl hE
  unfold askS
  cases hv : validG g with
  | false =>
    rw [hv] at h1
    refine meets_of_gx Ax tab_ok Tryz.func37 (c := _) rfl Tryz.call37 100 ?_
    (repeat' ((conv => whnf); first | (exfalso; omega) | refine cpC (h1) ?_ | refine dpC (h1) ?_ | refine cpC (h2) ?_ | refine dpC (h2) ?_ | refine x0C ?_ | refine spC (fun hb => ?_) fun hb => ?_ | refine nilC (fun hb => ?_) ?_ | refine taC ?_ | refine saC ?_ | exact sdV | refine side_and ?_ ?_ | refine drawX_of mixed ?_))
    all_goals exact vwV
  | true =>
    cases hw : validE l with
    | false =>
      rw [hv] at h1
      rw [hw] at h2
      refine meets_of_gx Ax tab_ok Tryz.func37 (c := _) rfl Tryz.call37 100 ?_
      (repeat' ((conv => whnf); first | (exfalso; omega) | refine cpC (h1) ?_ | refine dpC (h1) ?_ | refine cpC (h2) ?_ | refine dpC (h2) ?_ | refine x0C ?_ | refine spC (fun hb => ?_) fun hb => ?_ | refine nilC (fun hb => ?_) ?_ | refine taC ?_ | refine saC ?_ | exact sdV | refine side_and ?_ ?_ | refine drawX_of mixed ?_))
      all_goals exact vwV
    | true =>
      rw [hv] at h1
      rw [hw] at h2
      have h3 := tsense_valid hG hv 0 (evs_valid hw hE).1
      cases hm : meanG g l with
      | none =>
        rw [hm] at h3
        refine meets_of_gx Ax tab_ok Tryz.func37 (c := _) rfl Tryz.call37 100 ?_
        (repeat' ((conv => whnf); first | (exfalso; omega) | refine cpC (h1) ?_ | refine dpC (h1) ?_ | refine cpC (h2) ?_ | refine dpC (h2) ?_ | refine cpC (h3) ?_ | refine dpC (h3) ?_ | refine x0C ?_ | refine spC (fun hb => ?_) fun hb => ?_ | refine nilC (fun hb => ?_) ?_ | refine taC ?_ | refine saC ?_ | exact sdV | refine side_and ?_ ?_ | refine drawX_of mixed ?_))
        all_goals exact vwV
      | some w =>
        obtain ⟨r, jm⟩ := w
        rw [hm] at h3
        refine meets_of_gx Ax tab_ok Tryz.func37 (c := _) rfl Tryz.call37 100 ?_
        (repeat' ((conv => whnf); first | (exfalso; omega) | refine cpC (h1) ?_ | refine dpC (h1) ?_ | refine cpC (h2) ?_ | refine dpC (h2) ?_ | refine cpC (h3) ?_ | refine dpC (h3) ?_ | refine x0C ?_ | refine spC (fun hb => ?_) fun hb => ?_ | refine nilC (fun hb => ?_) ?_ | refine taC ?_ | refine saC ?_ | exact sdV | refine side_and ?_ ?_ | refine drawX_of mixed ?_))
        all_goals exact vwV
theorem tmet (g : Goal) (hG : GAll g) (l : List Event) (hl : (l.length : Int) ≤ 9223372036854775807) (hE : ∀ e ∈ l, ELen e) : Meets Tryz.prog Dc 14 [goalA g, eS l] [] (.tuple [bS (askS g l).2.2.1, iS (askS g l).2.2.2]) [] := by
  have h := tasked g hG l hl hE
  generalize askS g l = q at h ⊢
  refine meets_of_gx Ax tab_ok Tryz.func14 (c := _) rfl Tryz.call14 100 ?_
  (repeat' ((conv => whnf); first | (exfalso; omega) | refine cpC (h) ?_ | refine dpC (h) ?_ | refine x0C ?_ | refine spC (fun hb => ?_) fun hb => ?_ | refine nilC (fun hb => ?_) ?_ | refine taC ?_ | refine saC ?_ | exact sdV | refine side_and ?_ ?_ | refine drawX_of mixed ?_))
  all_goals exact vwV
theorem tprice (g : Goal) (hG : GAll g) (l : List Event) (hl : (l.length : Int) ≤ 9223372036854775807) (hE : ∀ e ∈ l, ELen e) : Meets Tryz.prog Dc 16 [goalA g, eS l] [] (.tuple [iS (askS g l).1, bS (askS g l).2.2.1, iS (askS g l).2.2.2]) [] := by
  have h := tasked g hG l hl hE
  generalize askS g l = q at h ⊢
  refine meets_of_gx Ax tab_ok Tryz.func16 (c := _) rfl Tryz.call16 100 ?_
  (repeat' ((conv => whnf); first | (exfalso; omega) | refine cpC (h) ?_ | refine dpC (h) ?_ | refine x0C ?_ | refine spC (fun hb => ?_) fun hb => ?_ | refine nilC (fun hb => ?_) ?_ | refine taC ?_ | refine saC ?_ | exact sdV | refine side_and ?_ ?_ | refine drawX_of mixed ?_))
  all_goals exact vwV
theorem tuses (g : Goal) (hG : GAll g) (l : List Event) (hl : (l.length : Int) ≤ 9223372036854775807) (hE : ∀ e ∈ l, ELen e) : Meets Tryz.prog Dc 18 [goalA g, eS l] [] (.tuple [lS (askS g l).2.1, iS (askS g l).2.2.2]) [] := by
  have h := tasked g hG l hl hE
  generalize askS g l = q at h ⊢
  refine meets_of_gx Ax tab_ok Tryz.func18 (c := _) rfl Tryz.call18 100 ?_
  (repeat' ((conv => whnf); first | (exfalso; omega) | refine cpC (h) ?_ | refine dpC (h) ?_ | refine x0C ?_ | refine spC (fun hb => ?_) fun hb => ?_ | refine nilC (fun hb => ?_) ?_ | refine taC ?_ | refine saC ?_ | exact sdV | refine side_and ?_ ?_ | refine drawX_of mixed ?_))
  all_goals exact vwV
theorem ok_within {g : Goal} (h : okB g = true) (hk : g.kind = 4) : 0 ≤ g.within ∧ g.within ≤ 1000000 := by
  have := (okB_parts h).2.1
  unfold limB at this
  rw [hk] at this
  simp [inB_iff] at this
  omega
theorem rints (a b : List Int) (ha : (a.length : Int) ≤ 9223372036854775807) (hb : (b.length : Int) ≤ 9223372036854775807) : Meets Tryz.prog Dc 20 [lS a, lS b] [] (bS (decide (a = b))) [] := by
  by_cases hlen : a.length = b.length
  rotate_left
  · rw [decide_eq_false (fun e => hlen (by rw [e]))]
    refine meets_of_gx Ax tab_ok Tryz.func20 (c := _) rfl Tryz.call20 100 ?_
    (repeat' ((conv => whnf); first | refine x0C (eB ?_ rfl) | (exfalso; omega) | refine x0C ?_ | refine spC (fun hb => ?_) fun hb => ?_ | refine nilC (fun hb => ?_) ?_ | refine taC ?_ | refine saC ?_ | exact sdV | refine side_and ?_ ?_ | refine drawX_of mixed ?_))
    all_goals rfl
  · refine meets_of_gx Ax tab_ok Tryz.func20 (c := _) rfl Tryz.call20 100 ?_
    (repeat' ((conv => whnf); first | (exfalso; omega) | refine x0C ?_ | refine spC (fun hb => ?_) fun hb => ?_ | refine nilC (fun hb => ?_) ?_ | refine taC ?_ | refine saC ?_ | exact sdV | refine side_and ?_ ?_ | refine drawX_of mixed ?_))
    refine loop_upT [] (fun i : Nat => [(5, iS i)]) (fun _ => []) (fun i => i ≤ a.length ∧ a.take i = b.take i) (fun i => a.length - i) 0 ⟨Nat.zero_le _, by simp⟩ (by exact bkI) ?_
    rintro i ⟨hi, he⟩ K hK
    rcases Nat.lt_or_ge i a.length with hlt | hge
    · have t1 := take_getD (d := Cd.dflt U.int) hlt
      have t2 := take_getD (d := Cd.dflt U.int) (show i < b.length by omega)
      have hs : a.getD (i : Int).toNat (Cd.dflt U.int) = b.getD (i : Int).toNat (Cd.dflt U.int) → a.take (i + 1) = b.take (i + 1) := fun h => by
        rw [t1, t2, he, show a.getD i (Cd.dflt U.int) = b.getD i (Cd.dflt U.int) from h]
      have hn : ¬ a.getD (i : Int).toNat (Cd.dflt U.int) = b.getD (i : Int).toNat (Cd.dflt U.int) → decide (a = b) = false := fun h => decide_eq_false fun e => h (by rw [e])
      (repeat' ((conv => whnf); first | refine x0C (eB ?_ rfl) | (exfalso; omega) | refine hK (i + 1) [] _ _ ⟨⟨by omega, hs (by assumption)⟩⟩ ⟨by omega⟩ (by exact bkI) | refine x0C ?_ | refine spC (fun hb => ?_) fun hb => ?_ | refine nilC (fun hb => ?_) ?_ | refine taC ?_ | refine saC ?_ | exact sdV | refine side_and ?_ ?_ | refine drawX_of mixed ?_))
      all_goals exact (hn (by assumption)).symm
    · rw [List.take_of_length_le hge, List.take_of_length_le (by omega)] at he
      rw [decide_eq_true he]
      (repeat' ((conv => whnf); first | refine x0C (eB ?_ rfl) | (exfalso; omega) | refine x0C ?_ | refine spC (fun hb => ?_) fun hb => ?_ | refine nilC (fun hb => ?_) ?_ | refine taC ?_ | refine saC ?_ | exact sdV | refine side_and ?_ ?_ | refine drawX_of mixed ?_))
      all_goals rfl
end Go.SX

/-
  Plain law: what is met stays so with further events, and its price does not rise.
-/
namespace Go.SX
/-! pairs -/
theorem pair_some (g : Goal) : ∀ l : List Event, (∃ a b, [a, b].Sublist l ∧ pfB g a b = true) ↔ (pairS g l).isSome = true
  | [] => by
    simp only [pairS, Option.isSome_none, Bool.false_eq_true, iff_false]
    rintro ⟨a, b, h, _⟩
    cases h
  | c :: l => by
    rw [pairS_cons]
    cases hf : l.find? (pfB g c) with
    | some b =>
      simp only [Option.isSome_some, iff_true]
      obtain ⟨h1, h2⟩ := (List.find?_eq_some_iff_append.1 hf)
      refine ⟨c, b, ?_, h1⟩
      have hb : b ∈ l := List.mem_of_find?_eq_some hf
      exact List.Sublist.cons_cons c (List.singleton_sublist.2 hb)
    | none =>
      rw [← pair_some g l]
      rw [List.find?_eq_none] at hf
      constructor
      · rintro ⟨a, b, h, hp⟩
        cases h with
        | cons _ h => exact ⟨a, b, h, hp⟩
        | cons_cons _ h => exact absurd hp (hf b (List.singleton_sublist.1 h))
      · rintro ⟨a, b, h, hp⟩
        exact ⟨a, b, h.cons _, hp⟩
/-! runs -/
def chainB (g : Goal) : List Event → Prop
  | [] => True
  | [_] => True
  | a :: b :: l => doFollowB g a b = true ∧ chainB g (b :: l)
theorem chain_tail {g : Goal} {a : Event} {l : List Event} (h : chainB g (a :: l)) : chainB g l := by
  cases l with
  | nil => trivial
  | cons b l => exact h.2
theorem chain_take {g : Goal} : ∀ (n : Nat) {l : List Event}, chainB g l → chainB g (l.take n)
  | 0, l, _ => by rw [List.take_zero]; trivial
  | n + 1, [], _ => trivial
  | n + 1, [a], _ => by simp [chainB]
  | 1, a :: b :: l, _ => by simp [chainB]
  | n + 2, a :: b :: l, h => ⟨h.1, chain_take (n + 1) h.2⟩
/-- the longest run from a -/
theorem best_le {g : Goal} {a : Event} : ∀ {ps : List (Event × Int)} {p : Event × Int}, p ∈ ps → doFollowB g a p.1 = true → ∀ m : Int, 1 + p.2 ≤ ps.foldl (fun m p => if doFollowB g a p.1 then max m (1 + p.2) else m) m
  | [], p, h, _, _ => by cases h
  | q :: ps, p, h, hf, m => by
    have mono : ∀ (ps : List (Event × Int)) (m : Int), m ≤ ps.foldl (fun m p => if doFollowB g a p.1 then max m (1 + p.2) else m) m := by
      intro ps
      induction ps with
      | nil => intro m; exact Int.le_refl _
      | cons q ps ih =>
        intro m
        simp only [List.foldl_cons]
        refine Int.le_trans ?_ (ih _)
        split <;> omega
    simp only [List.foldl_cons]
    rcases List.mem_cons.1 h with rfl | h
    · refine Int.le_trans ?_ (mono ps _)
      rw [if_pos hf]; omega
    · exact best_le h hf _
theorem best_get {g : Goal} {a : Event} {ps : List (Event × Int)} {m : Int} : ps.foldl (fun m p => if doFollowB g a p.1 then max m (1 + p.2) else m) m = m ∨ ∃ p ∈ ps, doFollowB g a p.1 = true ∧ ps.foldl (fun m p => if doFollowB g a p.1 then max m (1 + p.2) else m) m = 1 + p.2 := by
  induction ps generalizing m with
  | nil => exact .inl rfl
  | cons q ps ih =>
    simp only [List.foldl_cons]
    by_cases hf : doFollowB g a q.1 = true
    · rw [if_pos hf]
      rcases ih (m := max m (1 + q.2)) with h | ⟨p, h1, h2, h3⟩
      · rw [h]
        rcases Int.le_total m (1 + q.2) with h4 | h4
        · exact .inr ⟨q, by simp, hf, by omega⟩
        · exact .inl (by omega)
      · exact .inr ⟨p, by simp [h1], h2, h3⟩
    · rw [if_neg hf]
      rcases ih (m := m) with h | ⟨p, h1, h2, h3⟩
      · exact .inl h
      · exact .inr ⟨p, by simp [h1], h2, h3⟩
/-- the numbers of longS are lengths of runs -/
theorem long_run (g : Goal) : ∀ (a : Event) (l : List Event), ∃ c, (a :: c).Sublist (a :: l) ∧ chainB g (a :: c) ∧ ((a :: c).length : Int) = (longS g (a :: l)).headD 0 := by
  intro a l
  induction hn : l.length using Nat.strongRecOn generalizing a l with
  | ind n ih =>
    rw [longS_cons]
    simp only [List.headD_cons]
    unfold bestS
    rcases best_get (g := g) (a := a) (ps := l.zip (longS g l)) (m := 1) with h | ⟨p, h1, h2, h3⟩
    · exact ⟨[], by simp, trivial, by rw [h]; rfl⟩
    · rw [h3]
      obtain ⟨i, hi, hp⟩ := List.getElem_of_mem h1
      have hil : i < l.length := by simp [longS_len] at hi; omega
      have hp1 : p.1 = l[i] := by rw [← hp]; simp
      have hp2 : p.2 = (longS g l).getD i 0 := by rw [← hp]; simp [List.getD_eq_getElem?_getD, List.getElem?_eq_getElem (show i < (longS g l).length by rw [longS_len]; exact hil)]
      have hd := List.drop_eq_getElem_cons hil
      obtain ⟨c, c1, c2, c3⟩ := ih (l.drop (i + 1)).length (by simp; omega) l[i] (l.drop (i + 1)) rfl
      rw [← hd, longS_head] at c3
      refine ⟨l[i] :: c, ?_, ⟨by rw [← hp1]; exact h2, c2⟩, ?_⟩
      · refine List.Sublist.cons_cons a (c1.trans ?_)
        rw [← hd]; exact List.drop_sublist i l
      · rw [hp2, ← c3]; simp; omega
/-- .. and no run is longer -/
theorem run_long (g : Goal) : ∀ (n : Nat) (a : Event) (c l : List Event), l.length = n → c.Sublist l → chainB g (a :: c) → ((a :: c).length : Int) ≤ (longS g (a :: l)).headD 0 := by
  intro n
  induction n using Nat.strongRecOn with
  | ind n ih =>
    intro a c l hn hs hc
    rw [longS_cons]
    simp only [List.headD_cons]
    cases c with
    | nil =>
      have := bestS_bound g a l.length (by omega) _ (l.zip (longS g l)) rfl fun p hp => (longS_bound g l p.2 (List.of_mem_zip hp).2).2
      simp; omega
    | cons b c =>
      -- where b stands
      have hb : ∃ i, i < l.length ∧ l[i]? = some b ∧ c.Sublist (l.drop (i + 1)) := by
        clear ih hc hn
        induction l with
        | nil => cases hs
        | cons x l ihl =>
          cases hs with
          | cons _ h =>
            obtain ⟨i, h1, h2, h3⟩ := ihl h
            exact ⟨i + 1, by simp; omega, by simpa using h2, by simpa using h3⟩
          | cons_cons _ h => exact ⟨0, by simp, by simp, by simpa using h⟩
      obtain ⟨i, hi, hbi, hci⟩ := hb
      have hd := List.drop_eq_getElem_cons hi
      have hbe : l[i] = b := by rw [List.getElem?_eq_getElem hi] at hbi; injection hbi
      rw [hbe] at hd
      have h1 := ih (l.drop (i + 1)).length (by simp; omega) b c (l.drop (i + 1)) rfl hci hc.2
      rw [← hd, longS_head] at h1
      have hi2 : i < (longS g l).length := by rw [longS_len]; exact hi
      have hm : (b, (longS g l).getD i 0) ∈ l.zip (longS g l) := by
        rw [List.mem_iff_getElem?]
        refine ⟨i, ?_⟩
        rw [List.getElem?_zip_eq_some]
        exact ⟨hbi, by rw [List.getD_eq_getElem?_getD, List.getElem?_eq_getElem hi2]; rfl⟩
      have h2 := best_le (g := g) (a := a) hm hc.1 1
      unfold bestS
      simp only [List.length_cons] at h1 ⊢
      omega
/-- does a run fit behind what was last? -/
def fitsB (g : Goal) (last : Option Event) : List Event → Prop
  | [] => True
  | a :: _ => nextB g last a = true
theorem take_of_run (g : Goal) : ∀ (l : List Event) (n : Nat) (last : Option Event) (c : List Event), c.Sublist l → c.length = n → chainB g c → fitsB g last c → (takeT g l n last).2 = true
  | l, 0, last, c, _, _, _, _ => by rw [show ((0 : Nat) : Int) = 0 from rfl, takeT_zero]
  | [], n + 1, last, c, hs, hl, _, _ => by rw [List.sublist_nil.1 hs] at hl; cases hl
  | a :: l, n + 1, last, c, hs, hl, hc, hf => by
    by_cases h : ((n + 1 : Nat) : Int) ≤ (longS g (a :: l)).headD 0 ∧ nextB g last a = true
    · rw [takeT_hit g (by omega) h.1 h.2]
      obtain ⟨d, d1, d2, d3⟩ := long_run g a l
      have hd1 : d.Sublist l := List.cons_sublist_cons.1 d1
      have hle : n ≤ d.length := by
        have := h.1; simp only [List.length_cons] at d3; omega
      have hch : chainB g (a :: d.take n) := chain_take (n + 1) d2
      have := take_of_run g l n (some a) (d.take n) ((List.take_sublist n d).trans hd1) (by simp; omega) (chain_tail hch) (by
        cases hx : d.take n with
        | nil => trivial
        | cons b r => rw [hx] at hch; exact hch.1)
      rw [show ((n + 1 : Nat) : Int) - 1 = n by omega]
      exact this
    · have h' : ¬ ((n + 1 : Nat) : Int) ≤ (longS g (a :: l)).headD 0 ∨ nextB g last a = false := by
        by_cases h1 : ((n + 1 : Nat) : Int) ≤ (longS g (a :: l)).headD 0
        · right
          cases hn : nextB g last a with
          | false => rfl
          | true => exact absurd ⟨h1, hn⟩ h
        · exact .inl h1
      rw [takeT_miss g (by omega) h']
      cases hs with
      | cons _ hs => exact take_of_run g l (n + 1) last c hs hl hc hf
      | cons_cons _ hs =>
        rename_i c
        exfalso
        rcases h' with h1 | h1
        · have := run_long g l.length a c l rfl hs hc
          rw [hl] at this; omega
        · rw [show nextB g last a = true from hf] at h1; cases h1
theorem run_of_take (g : Goal) : ∀ (l : List Event) (n : Nat) (last : Option Event), (takeT g l n last).2 = true → ∃ c, c.Sublist l ∧ c.length = n ∧ chainB g c ∧ fitsB g last c ∧ (takeT g l n last).1 = c.map (·.image)
  | l, 0, last, _ => ⟨[], List.nil_sublist _, rfl, trivial, trivial, by rw [show ((0 : Nat) : Int) = 0 from rfl, takeT_zero]; rfl⟩
  | [], n + 1, last, h => by rw [takeT_nil g last (by omega)] at h; cases h
  | a :: l, n + 1, last, h => by
    by_cases h0 : ((n + 1 : Nat) : Int) ≤ (longS g (a :: l)).headD 0 ∧ nextB g last a = true
    · rw [takeT_hit g (by omega) h0.1 h0.2] at h ⊢
      rw [show ((n + 1 : Nat) : Int) - 1 = n by omega] at h ⊢
      obtain ⟨c, c1, c2, c3, c4, c5⟩ := run_of_take g l n (some a) h
      refine ⟨a :: c, c1.cons_cons a, by simp [c2], ?_, h0.2, by rw [c5]; rfl⟩
      cases c with
      | nil => trivial
      | cons b c => exact ⟨c4, c3⟩
    · have h' : ¬ ((n + 1 : Nat) : Int) ≤ (longS g (a :: l)).headD 0 ∨ nextB g last a = false := by
        by_cases h1 : ((n + 1 : Nat) : Int) ≤ (longS g (a :: l)).headD 0
        · right
          cases hn : nextB g last a with
          | false => rfl
          | true => exact absurd ⟨h1, hn⟩ h0
        · exact .inl h1
      rw [takeT_miss g (by omega) h'] at h ⊢
      obtain ⟨c, c1, c2, c3, c4, c5⟩ := run_of_take g l (n + 1) last h
      exact ⟨c, c1.cons a, c2, c3, c4, c5⟩
end Go.SX

/-
  Plain law: what goals mean of fewer events: of a part of them, and of those of the images alone.
-/
namespace Go.SX
theorem takeT_part {g : Goal} {m l : List Event} (h : m.Sublist l) {n : Int} (hn : 0 ≤ n) (hm : (takeT g m n none).2 = true) : (takeT g l n none).2 = true := by
  obtain ⟨k, rfl⟩ : ∃ k : Nat, n = k := ⟨n.toNat, by omega⟩
  obtain ⟨c, c1, c2, c3, c4, _⟩ := run_of_take g m k none hm
  exact take_of_run g l k none c (c1.trans h) c2 c3 c4
theorem filter_part {p q : Event → Bool} (hpq : ∀ e, p e = true → q e = true) {m l : List Event} (h : m.Sublist l) : (m.filter p).Sublist (l.filter q) := by
  have h1 : m.filter p = (m.filter q).filter p := by
    rw [List.filter_filter]
    refine List.filter_congr fun e _ => ?_
    cases hp : p e with
    | false => rfl
    | true => rw [hpq e hp]; rfl
  rw [h1]
  exact (List.filter_sublist).trans (h.filter q)
theorem delB_part {m l : List Event} (h : m.Sublist l) {e : Event} {n : Int} (hd : delB m e n = true) : delB l e n = true := by
  unfold delB at *
  obtain ⟨x, hx, hp⟩ := List.any_eq_true.1 hd
  exact List.any_eq_true.2 ⟨x, h.subset hx, hp⟩
theorem restE_part {m l : List Event} (h : m.Sublist l) (n : Int) : (restE m n).Sublist (restE l n) := by
  refine filter_part (fun e he => ?_) h
  cases hk : decide (e.kind = 1) with
  | false => rfl
  | true =>
    rw [hk] at he
    have : delB m e n = true := by simpa using he
    rw [delB_part h this]; rfl
/-- one way of meeting is at least as good as another -/
def betterS (a b : Sen) : Prop := ∀ p im, b = some (p, im) → ∃ q jm, a = some (q, jm) ∧ q ≤ p
theorem better_any {r r' : Sen} {c : Int} {acc acc' : Sen} (h1 : betterS r r') (h2 : betterS acc acc') : betterS (stepAny r c acc) (stepAny r' c acc') := by
  intro p im h
  have key : ∀ (r acc : Sen) (c : Int), (∀ q jm, r = some (q, jm) → ∃ s km, stepAny r c acc = some (s, km) ∧ s ≤ q + c) ∧ ∀ q jm, acc = some (q, jm) → ∃ s km, stepAny r c acc = some (s, km) ∧ s ≤ q := by
    intro r acc c
    cases r with
    | none => exact ⟨fun q jm h => (by cases h), fun q jm h => ⟨q, jm, h, Int.le_refl _⟩⟩
    | some w =>
      obtain ⟨a, b⟩ := w
      cases acc with
      | none =>
        refine ⟨fun q jm h => ?_, fun q jm h => (by cases h)⟩
        injection h with h; injection h with e1 e2; subst e1
        exact ⟨_, _, rfl, Int.le_refl _⟩
      | some v =>
        obtain ⟨a2, b2⟩ := v
        by_cases hlt : a + c < a2
        · have e : stepAny (some (a, b)) c (some (a2, b2)) = some (a + c, b) := if_pos hlt
          refine ⟨fun q jm h => ?_, fun q jm h => ?_⟩
          · injection h with h; injection h with e1 e2; subst e1
            exact ⟨_, _, e, Int.le_refl _⟩
          · injection h with h; injection h with e1 e2; subst e1
            exact ⟨_, _, e, by omega⟩
        · have e : stepAny (some (a, b)) c (some (a2, b2)) = some (a2, b2) := if_neg hlt
          refine ⟨fun q jm h => ?_, fun q jm h => ?_⟩
          · injection h with h; injection h with e1 e2; subst e1
            exact ⟨_, _, e, by omega⟩
          · injection h with h; injection h with e1 e2; subst e1
            exact ⟨_, _, e, Int.le_refl _⟩
  rcases stepAny_some h with h7 | ⟨q, h7, h8⟩
  · obtain ⟨q, jm, h3, h4⟩ := h2 _ _ h7
    obtain ⟨s, km, h5, h6⟩ := (key r acc c).2 _ _ h3
    exact ⟨s, km, h5, by omega⟩
  · obtain ⟨q', jm, h3, h4⟩ := h1 _ _ h7
    obtain ⟨s, km, h5, h6⟩ := (key r acc c).1 _ _ h3
    exact ⟨s, km, h5, by omega⟩
mutual
theorem mean_part : ∀ (g : Goal) (d n : Int) {m l : List Event}, sizeG g d = some n → m.Sublist l → betterS (meanG g l) (meanG g m)
  | ⟨kind, rows, from_, to_, low, high, clear, days, times, within, cents, kids⟩, d, n, m, l, hs, h => by
    have hall := all_part kids
    have hany := any_part kids
    have hhd := hd_part kids
    obtain ⟨hok, hd, q, hL, rfl⟩ := size_ok hs
    generalize hg : (⟨kind, rows, from_, to_, low, high, clear, days, times, within, cents, kids⟩ : Goal) = g at *
    have hkd : g.kids = kids := by rw [← hg]
    intro p im hm
    rw [meanG_eq] at hm ⊢
    split at hm
    · rename_i e
      rw [if_pos e]
      unfold seeM at hm ⊢
      have hf : (seenS g m).Sublist (seenS g l) := h.filter _
      split at hm
      · cases hm
      · rename_i a r hr
        injection hm with hm; injection hm with h1 h2; subst h1
        rw [hr] at hf
        cases hx : seenS g l with
        | nil => rw [hx] at hf; cases hf
        | cons b s => exact ⟨0, _, rfl, Int.le_refl _⟩
    · rename_i e1
      rw [if_neg e1]
      split at hm
      · rename_i e
        rw [if_pos e]
        unfold pairM at hm ⊢
        have hf : (seenS (kid0 g.kids) m).Sublist (seenS (kid0 g.kids) l) := h.filter _
        split at hm
        · cases hm
        · rename_i a b hp
          injection hm with hm; injection hm with h1 h2; subst h1
          obtain ⟨x, y, h3, h4⟩ := (pair_some g _).2 (show (pairS g (seenS (kid0 g.kids) m)).isSome = true by rw [hp]; rfl)
          have := (pair_some g _).1 ⟨x, y, h3.trans hf, h4⟩
          cases hx : pairS g (seenS (kid0 g.kids) l) with
          | none => rw [hx] at this; cases this
          | some w => exact ⟨0, _, rfl, Int.le_refl _⟩
      · rename_i e2
        rw [if_neg e2]
        split at hm
        · rename_i e
          rw [if_pos e]
          have ht := ok_times hok e
          unfold everyM at hm ⊢
          have hf : (seenS (kid0 g.kids) m).Sublist (seenS (kid0 g.kids) l) := h.filter _
          rw [takeS_T] at hm ⊢
          cases hb : (takeT g (seenS (kid0 g.kids) m) g.times none).2 with
          | false => rw [hb] at hm; cases hm
          | true =>
            rw [hb] at hm
            injection hm with hm; injection hm with h1 h2; subst h1
            rw [takeT_part hf (by omega) hb]
            exact ⟨0, _, rfl, Int.le_refl _⟩
        · rename_i e3
          rw [if_neg e3]
          split at hm
          · rename_i e
            rw [if_pos e]
            rw [hkd] at hm ⊢
            rw [hkd] at hL
            exact hhd _ _ hL (restE_part h _) _ _ hm
          · rename_i e4
            rw [if_neg e4]
            split at hm
            · rename_i e
              rw [if_pos e]
              rw [hkd] at hm ⊢
              rw [hkd] at hL
              exact hall _ _ hL h 0 0 [] [] (Int.le_refl _) _ _ hm
            · rename_i e5
              rw [if_neg e5]
              rw [hkd] at hm ⊢
              rw [hkd] at hL
              exact hany _ _ hL h g.cents none none (fun _ _ h => by cases h) _ _ hm
theorem hd_part : ∀ (ks : List Goal) (d n : Int) {m l : List Event}, sizeL ks d = some n → m.Sublist l → betterS (meanH ks l) (meanH ks m)
  | [], d, n, m, l, hs, h => by intro p im hm; rw [meanH] at hm; cases hm
  | k :: ks, d, n, m, l, hs, h => by
    rw [sizeL] at hs
    split at hs
    · cases hs
    · rename_i q hq
      rw [meanH, meanH]
      exact mean_part k d q hq h
theorem all_part : ∀ (ks : List Goal) (d n : Int) {m l : List Event}, sizeL ks d = some n → m.Sublist l → ∀ (p q : Int) (im jm : List Int), q ≤ p → betterS (meanAll ks l q jm) (meanAll ks m p im)
  | [], d, n, m, l, hs, h, p, q, im, jm, hqp => by
    intro r km hm
    rw [meanAll] at hm ⊢
    injection hm with hm; injection hm with h1 h2
    exact ⟨q, jm, rfl, by omega⟩
  | k :: ks, d, n, m, l, hs, h, p, q, im, jm, hqp => by
    rw [sizeL] at hs
    split at hs
    · cases hs
    · rename_i a ha
      split at hs
      · cases hs
      · rename_i b hb
        intro r km hm
        rw [meanAll] at hm ⊢
        split at hm
        · cases hm
        · rename_i s lm hs'
          obtain ⟨s2, lm2, h1, h2⟩ := mean_part k d a ha h _ _ hs'
          rw [h1]
          exact all_part ks d b hb h _ _ _ _ (by omega) _ _ hm
theorem any_part : ∀ (ks : List Goal) (d n : Int) {m l : List Event}, sizeL ks d = some n → m.Sublist l → ∀ (cs : List Int) (acc acc' : Sen), betterS acc acc' → betterS (meanAny ks cs l acc) (meanAny ks cs m acc')
  | [], d, n, m, l, hs, h, cs, acc, acc', hb => by rw [meanAny, meanAny]; exact hb
  | k :: ks, d, n, m, l, hs, h, cs, acc, acc', hb => by
    rw [sizeL] at hs
    split at hs
    · cases hs
    · rename_i a ha
      split at hs
      · cases hs
      · rename_i b hb'
        rw [meanAny, meanAny]
        exact any_part ks d b hb' h _ _ _ (better_any (mean_part k d a ha h) hb)
end
/-! the events of some images -/
def onI (S : List Int) (l : List Event) : List Event := l.filter fun e => decide (e.image ∈ S)
theorem seen_on (g : Goal) (S : List Int) (l : List Event) : seenS g (onI S l) = onI S (seenS g l) := by
  unfold seenS onI
  rw [List.filter_filter, List.filter_filter]
  exact List.filter_congr fun e _ => Bool.and_comm _ _
theorem rest_on (S : List Int) (l : List Event) (n : Int) : restE (onI S l) n = onI S (restE l n) := by
  unfold restE onI
  rw [List.filter_filter, List.filter_filter]
  refine List.filter_congr fun e _ => ?_
  cases hS : decide (e.image ∈ S) with
  | false => rw [Bool.and_false, Bool.false_and]
  | true =>
    have : delB (l.filter fun e => decide (e.image ∈ S)) e n = delB l e n := by
      unfold delB
      rw [Bool.eq_iff_iff]
      simp only [List.any_eq_true, List.mem_filter, Bool.and_eq_true, decide_eq_true_eq]
      constructor
      · rintro ⟨x, ⟨h1, h2⟩, h3⟩; exact ⟨x, h1, h3⟩
      · rintro ⟨x, h1, h3⟩; exact ⟨x, ⟨h1, by rw [h3.1.2]; simpa using hS⟩, h3⟩
    rw [this, Bool.and_comm]
theorem sub_on {S : List Int} {c l : List Event} (h : c.Sublist l) (hS : ∀ e ∈ c, e.image ∈ S) : c.Sublist (onI S l) := by
  have : c = c.filter fun e => decide (e.image ∈ S) := by
    rw [List.filter_eq_self.2]; intro e he; simpa using hS e he
  rw [this]
  exact h.filter _
mutual
theorem mean_on : ∀ (g : Goal) (d n : Int) (l : List Event), sizeG g d = some n → ∀ (p : Int) (im : List Int), meanG g l = some (p, im) → ∀ S : List Int, (∀ x ∈ im, x ∈ S) → ∃ q jm, meanG g (onI S l) = some (q, jm) ∧ q ≤ p
  | ⟨kind, rows, from_, to_, low, high, clear, days, times, within, cents, kids⟩, d, n, l, hs, p, im, hm, S, hS => by
    have hall := all_on kids
    have hany := any_on kids
    have hhd := hd_on kids
    obtain ⟨hok, hd, q, hL, rfl⟩ := size_ok hs
    generalize hg : (⟨kind, rows, from_, to_, low, high, clear, days, times, within, cents, kids⟩ : Goal) = g at *
    have hkd : g.kids = kids := by rw [← hg]
    rw [meanG_eq] at hm ⊢
    split at hm
    · rename_i e
      rw [if_pos e]
      unfold seeM at hm ⊢
      rw [seen_on]
      split at hm
      · cases hm
      · rename_i a r hr
        injection hm with hm; injection hm with h1 h2; subst h1; subst h2
        rw [hr]
        have : decide (a.image ∈ S) = true := by simpa using hS a.image (by simp)
        unfold onI
        rw [List.filter_cons, if_pos this]
        exact ⟨0, _, rfl, Int.le_refl _⟩
    · rename_i e1
      rw [if_neg e1]
      split at hm
      · rename_i e
        rw [if_pos e]
        unfold pairM at hm ⊢
        rw [seen_on]
        split at hm
        · cases hm
        · rename_i a b hp
          injection hm with hm; injection hm with h1 h2; subst h1; subst h2
          have hab : [a, b].Sublist (seenS (kid0 g.kids) l) ∧ pfB g a b = true := by
            clear hS e1 e
            generalize seenS (kid0 g.kids) l = m at hp
            induction m with
            | nil => simp [pairS] at hp
            | cons c m ih =>
              rw [pairS_cons] at hp
              cases hf : m.find? (pfB g c) with
              | some x =>
                rw [hf] at hp
                injection hp with hp; injection hp with e1 e2; subst e1; subst e2
                exact ⟨List.Sublist.cons_cons c (List.singleton_sublist.2 (List.mem_of_find?_eq_some hf)), List.find?_some hf⟩
              | none =>
                rw [hf] at hp
                obtain ⟨h1, h2⟩ := ih hp
                exact ⟨h1.cons c, h2⟩
          have := (pair_some g (onI S (seenS (kid0 g.kids) l))).1 ⟨a, b, sub_on hab.1 (fun e he => hS _ (by
            rw [mem_setS]
            rcases List.mem_cons.1 he with rfl | he
            · simp
            · rw [List.mem_singleton.1 he]; simp)), hab.2⟩
          cases hx : pairS g (onI S (seenS (kid0 g.kids) l)) with
          | none => rw [hx] at this; cases this
          | some w => exact ⟨0, _, rfl, Int.le_refl _⟩
      · rename_i e2
        rw [if_neg e2]
        split at hm
        · rename_i e
          rw [if_pos e]
          have ht := ok_times hok e
          unfold everyM at hm ⊢
          rw [seen_on, takeS_T]
          rw [takeS_T] at hm
          cases hb : (takeT g (seenS (kid0 g.kids) l) g.times none).2 with
          | false => rw [hb] at hm; cases hm
          | true =>
            rw [hb] at hm
            injection hm with hm; injection hm with h1 h2; subst h1; subst h2
            obtain ⟨k, hk⟩ : ∃ k : Nat, g.times = k := ⟨g.times.toNat, by omega⟩
            rw [hk] at hb hS ⊢
            obtain ⟨c, c1, c2, c3, c4, c5⟩ := run_of_take g _ k none hb
            rw [take_of_run g _ k none c (sub_on c1 fun e he => hS _ (by rw [mem_setS, c5]; exact List.mem_map.2 ⟨e, he, rfl⟩)) c2 c3 c4]
            exact ⟨0, _, rfl, Int.le_refl _⟩
        · rename_i e3
          rw [if_neg e3]
          split at hm
          · rename_i e
            rw [if_pos e, rest_on]
            rw [hkd] at hm hL ⊢
            exact hhd _ _ _ hL _ _ hm S hS
          · rename_i e4
            rw [if_neg e4]
            split at hm
            · rename_i e
              rw [if_pos e]
              rw [hkd] at hm hL ⊢
              exact (hall _ _ l hL 0 [] _ _ hm S hS 0 [] (Int.le_refl _)).2
            · rename_i e5
              rw [if_neg e5]
              rw [hkd] at hm hL ⊢
              rcases hany _ _ l hL g.cents none _ _ hm S hS none with h | h
              · cases h
              · exact h
theorem hd_on : ∀ (ks : List Goal) (d n : Int) (l : List Event), sizeL ks d = some n → ∀ (p : Int) (im : List Int), meanH ks l = some (p, im) → ∀ S : List Int, (∀ x ∈ im, x ∈ S) → ∃ q jm, meanH ks (onI S l) = some (q, jm) ∧ q ≤ p
  | [], d, n, l, hs, p, im, hm, S, hS => by rw [meanH] at hm; cases hm
  | k :: ks, d, n, l, hs, p, im, hm, S, hS => by
    rw [sizeL] at hs
    split at hs
    · cases hs
    · rename_i q hq
      rw [meanH] at hm ⊢
      exact mean_on k d q l hq p im hm S hS
theorem all_on : ∀ (ks : List Goal) (d n : Int) (l : List Event), sizeL ks d = some n → ∀ (p : Int) (im : List Int) (r : Int) (km : List Int), meanAll ks l p im = some (r, km) → ∀ S : List Int, (∀ x ∈ km, x ∈ S) → ∀ (q : Int) (jm : List Int), q ≤ p →
    (∀ x ∈ im, x ∈ km) ∧ ∃ s lm, meanAll ks (onI S l) q jm = some (s, lm) ∧ s ≤ r
  | [], d, n, l, hs, p, im, r, km, hm, S, hS, q, jm, hqp => by
    rw [meanAll] at hm ⊢
    injection hm with hm; injection hm with h1 h2; subst h1; subst h2
    exact ⟨fun x hx => hx, q, jm, rfl, hqp⟩
  | k :: ks, d, n, l, hs, p, im, r, km, hm, S, hS, q, jm, hqp => by
    rw [sizeL] at hs
    split at hs
    · cases hs
    · rename_i a ha
      split at hs
      · cases hs
      · rename_i b hb
        rw [meanAll] at hm ⊢
        split at hm
        · cases hm
        · rename_i s lm hs'
          have h0 := (all_on ks d b l hb _ _ _ _ hm S hS _ [] (Int.le_refl _)).1
          obtain ⟨s2, lm2, h1, h2⟩ := mean_on k d a l ha _ _ hs' S fun x hx => hS x (h0 x (by rw [mem_setS]; simp [hx]))
          rw [h1]
          refine ⟨fun x hx => h0 x (by rw [mem_setS]; simp [hx]), ?_⟩
          exact (all_on ks d b l hb _ _ _ _ hm S hS (q + s2) (setS (jm ++ lm2)) (by omega)).2
theorem any_on : ∀ (ks : List Goal) (d n : Int) (l : List Event), sizeL ks d = some n → ∀ (cs : List Int) (acc : Sen) (r : Int) (km : List Int), meanAny ks cs l acc = some (r, km) → ∀ S : List Int, (∀ x ∈ km, x ∈ S) → ∀ acc' : Sen,
    acc = some (r, km) ∨ ∃ s lm, meanAny ks cs (onI S l) acc' = some (s, lm) ∧ s ≤ r
  | [], d, n, l, hs, cs, acc, r, km, hm, S, hS, acc' => by rw [meanAny] at hm; exact .inl hm
  | k :: ks, d, n, l, hs, cs, acc, r, km, hm, S, hS, acc' => by
    rw [sizeL] at hs
    split at hs
    · cases hs
    · rename_i a ha
      split at hs
      · cases hs
      · rename_i b hb
        rw [meanAny] at hm ⊢
        rcases any_on ks d b l hb _ _ _ _ hm S hS (stepAny (meanG k (onI S l)) (cs.getD 0 0) acc') with h | h
        · rcases stepAny_some h with h | ⟨p, h1, h2⟩
          · exact .inl h
          · right
            obtain ⟨q, jm, h3, h4⟩ := mean_on k d a l ha _ _ h1 S hS
            have h5 : betterS (stepAny (meanG k (onI S l)) (cs.getD 0 0) acc') (stepAny (some (p, km)) (cs.getD 0 0) none) := better_any (fun p' im' e => by
              injection e with e; injection e with e1 e2; subst e1; exact ⟨q, jm, h3, h4⟩) (fun _ _ e => by cases e)
            have h6 := any_part ks d b hb (List.Sublist.refl (onI S l)) cs.tail _ _ h5
            -- what begins with (p + c) ends no higher
            have low : ∀ (ks : List Goal) (cs : List Int) (m : List Event) (x : Int) (y : List Int), ∃ s lm, meanAny ks cs m (some (x, y)) = some (s, lm) ∧ s ≤ x := by
              intro ks
              induction ks with
              | nil => intro cs m x y; exact ⟨x, y, by rw [meanAny], Int.le_refl _⟩
              | cons k ks ih =>
                intro cs m x y
                rw [meanAny]
                cases hk : meanG k m with
                | none => exact ih _ _ _ _
                | some w =>
                  obtain ⟨u, v⟩ := w
                  by_cases hlt : u + cs.getD 0 0 < x
                  · rw [show stepAny (some (u, v)) (cs.getD 0 0) (some (x, y)) = some (u + cs.getD 0 0, v) from if_pos hlt]
                    obtain ⟨s, lm, h1, h2⟩ := ih cs.tail m (u + cs.getD 0 0) v
                    exact ⟨s, lm, h1, by omega⟩
                  · rw [show stepAny (some (u, v)) (cs.getD 0 0) (some (x, y)) = some (x, y) from if_neg hlt]
                    exact ih _ _ _ _
            obtain ⟨s, lm, h7, h8⟩ := low ks cs.tail (onI S l) (p + cs.getD 0 0) km
            obtain ⟨s2, lm2, h9, h10⟩ := h6 s lm h7
            exact ⟨s2, lm2, h9, by omega⟩
        · exact .inr h
end
end Go.SX

/-
  Plain law: the goals that integers determine (the reference's examples), and why they are valid.
-/
namespace Go.SX
def pickS (c n : Int) : Int := (if c < 0 then -(c + 1) else c) % n
theorem pickS_bd {c n : Int} (h : 0 < n) : 0 ≤ pickS c n ∧ pickS c n < n := ⟨Int.emod_nonneg _ (by omega), Int.emod_lt_of_pos _ h⟩
/-- a cell more -/
def orAt (rows : List Int) (y : Nat) (x : Int) : List Int := rows.set y (bitop .or .i64 (rows.getD y 0) (shlop .i64 1 x))
theorem orAt_len (rows : List Int) (y : Nat) (x : Int) : (orAt rows y x).length = rows.length := by unfold orAt; simp
def cellS (x : A5) (y k : Nat) (rows : List Int) : List Int := orAt rows (min 23 (pickS x.b 24 + y)).toNat ((pickS x.a 48 + k).tmod 48)
def rowsK (x : A5) (y k : Nat) (rows : List Int) : List Int := (List.range k).foldl (fun r k => cellS x y k r) rows
def rowsY (x : A5) (n y : Nat) : List Int := (List.range y).foldl (fun r y => rowsK x y n r) (List.replicate 24 0)
theorem rowsK_succ (x : A5) (y k : Nat) (r : List Int) : rowsK x y (k + 1) r = cellS x y k (rowsK x y k r) := by unfold rowsK; rw [List.range_succ, List.foldl_append]; rfl
theorem rowsY_succ (x : A5) (n y : Nat) : rowsY x n (y + 1) = rowsK x y n (rowsY x n y) := by unfold rowsY; rw [List.range_succ, List.foldl_append]; rfl
theorem rowsK_len (x : A5) (y : Nat) : ∀ (k : Nat) (r : List Int), (rowsK x y k r).length = r.length
  | 0, r => rfl
  | k + 1, r => by rw [rowsK_succ]; unfold cellS; rw [orAt_len, rowsK_len x y k r]
theorem rowsY_len (x : A5) (n : Nat) : ∀ y : Nat, (rowsY x n y).length = 24
  | 0 => by simp [rowsY]
  | y + 1 => by rw [rowsY_succ, rowsK_len, rowsY_len x n y]
def seeRows (x : A5) : List Int :=
  if pickS x.c 3 = 0 then orAt (rowsY x (pickS (x.a.tdiv 48) 3 + 1).toNat (pickS (x.b.tdiv 24) 3 + 1).toNat) (pickS x.b 24).toNat (pickS x.c 48) else rowsY x (pickS (x.a.tdiv 48) 3 + 1).toNat (pickS (x.b.tdiv 24) 3 + 1).toNat
def seeS (x : A5) : Goal := ⟨1, seeRows x, pickS x.c 3000, pickS x.c 3000 + 1 + pickS x.d 5000, pickS x.e 40, pickS x.e 40 + pickS (x.e.tdiv 40) 51, decide (pickS x.d 2 = 1), 0, 0, 0, [], []⟩
/-! areas -/
structure RowsOK (rows : List Int) : Prop where
  len : rows.length = 24
  ok : ∀ r ∈ rows, 0 ≤ r ∧ r ≤ 281474976710655
theorem or_ok {a : Int} {x : Int} (ha : 0 ≤ a ∧ a ≤ 281474976710655) (hx : 0 ≤ x ∧ x < 48) : (0 ≤ bitop .or .i64 a (shlop .i64 1 x) ∧ bitop .or .i64 a (shlop .i64 1 x) ≤ 281474976710655) ∧ bitop .or .i64 a (shlop .i64 1 x) ≠ 0 := by
  obtain ⟨n, rfl⟩ : ∃ n : Nat, a = n := ⟨a.toNat, by omega⟩
  obtain ⟨k, rfl⟩ : ∃ k : Nat, x = k := ⟨x.toNat, by omega⟩
  have hk : k < 48 := by omega
  have h1 : 2 ^ k < 2 ^ 48 := Nat.pow_lt_pow_right (by omega) hk
  have hn : n < 2 ^ 48 := by omega
  rw [shl_one hk, or_nat hn h1]
  have h2 : n ||| 2 ^ k < 2 ^ 48 := Nat.or_lt_two_pow hn h1
  have h3 : n ||| 2 ^ k ≠ 0 := fun e => by
    have := congrArg (fun z => z.testBit k) e
    simp at this
  omega
theorem orAt_ok {rows : List Int} (h : RowsOK rows) {y : Nat} (hy : y < 24) {x : Int} (hx : 0 ≤ x ∧ x < 48) : RowsOK (orAt rows y x) ∧ (orAt rows y x).any (fun r => decide (r ≠ 0)) = true := by
  have hg : rows.getD y 0 ∈ rows := by
    rw [List.getD_eq_getElem?_getD, List.getElem?_eq_getElem (by rw [h.len]; exact hy)]
    exact List.getElem_mem _
  obtain ⟨h1, h2⟩ := or_ok (h.ok _ hg) hx
  refine ⟨⟨by rw [orAt_len, h.len], fun r hr => ?_⟩, ?_⟩
  · unfold orAt at hr
    rcases List.mem_or_eq_of_mem_set hr with hr | rfl
    · exact h.ok r hr
    · exact h1
  · rw [List.any_eq_true]
    refine ⟨bitop .or .i64 (rows.getD y 0) (shlop .i64 1 x), ?_, by simpa using h2⟩
    unfold orAt
    rw [List.mem_iff_getElem?]
    exact ⟨y, by rw [List.getElem?_set_self (by rw [h.len]; exact hy)]⟩
theorem cellS_ok (x : A5) (y k : Nat) {rows : List Int} (h : RowsOK rows) : RowsOK (cellS x y k rows) ∧ (cellS x y k rows).any (fun r => decide (r ≠ 0)) = true := by
  have b1 := pickS_bd (c := x.b) (n := 24) (by omega)
  have b2 := pickS_bd (c := x.a) (n := 48) (by omega)
  unfold cellS
  refine orAt_ok h (by omega) ?_
  rw [Int.tmod_eq_emod_of_nonneg (by omega)]
  omega
theorem rowsK_ok (x : A5) (y : Nat) : ∀ (k : Nat) (r : List Int), RowsOK r → RowsOK (rowsK x y k r) ∧ (0 < k → (rowsK x y k r).any (fun r => decide (r ≠ 0)) = true)
  | 0, r, h => ⟨h, fun e => by omega⟩
  | k + 1, r, h => by
    rw [rowsK_succ]
    have := cellS_ok x y k (rowsK_ok x y k r h).1
    exact ⟨this.1, fun _ => this.2⟩
theorem rowsY_ok (x : A5) (n : Nat) (hn : 0 < n) : ∀ y : Nat, RowsOK (rowsY x n y) ∧ (0 < y → (rowsY x n y).any (fun r => decide (r ≠ 0)) = true)
  | 0 => ⟨⟨by simp [rowsY], fun r hr => by simp [rowsY] at hr; omega⟩, fun e => by omega⟩
  | y + 1 => by
    rw [rowsY_succ]
    have := rowsK_ok x y n _ (rowsY_ok x n hn y).1
    exact ⟨this.1, fun _ => this.2 hn⟩
theorem seeRows_ok (x : A5) : RowsOK (seeRows x) ∧ (seeRows x).any (fun r => decide (r ≠ 0)) = true := by
  have b1 := pickS_bd (c := x.b.tdiv 24) (n := 3) (by omega)
  have b2 := pickS_bd (c := x.a.tdiv 48) (n := 3) (by omega)
  have b3 := pickS_bd (c := x.b) (n := 24) (by omega)
  have b4 := pickS_bd (c := x.c) (n := 48) (by omega)
  have h := rowsY_ok x (pickS (x.a.tdiv 48) 3 + 1).toNat (by omega) (pickS (x.b.tdiv 24) 3 + 1).toNat
  unfold seeRows
  split
  · exact orAt_ok h.1 (by omega) (by omega)
  · exact ⟨h.1, h.2 (by omega)⟩
theorem seeS_ok (x : A5) : okB (seeS x) = true := by
  obtain ⟨h1, h2⟩ := seeRows_ok x
  have b1 := pickS_bd (c := x.c) (n := 3000) (by omega)
  have b2 := pickS_bd (c := x.d) (n := 5000) (by omega)
  have b3 := pickS_bd (c := x.e) (n := 40) (by omega)
  have b4 := pickS_bd (c := x.e.tdiv 40) (n := 51) (by omega)
  have ha : areaB (seeRows x) = true := by
    unfold areaB
    rw [h1.len, Bool.and_eq_true]
    refine ⟨rfl, List.all_eq_true.2 fun r hr => ?_⟩
    exact (inB_iff _ _ _).2 (h1.ok r hr)
  unfold okB plainB restG limB partsB manyB centsB seeS
  simp only [ha, h2]
  simp [inB_iff]
  omega
theorem seeS_size (x : A5) {d : Int} (hd : d ≤ 4) : sizeG (seeS x) d = some 1 := by
  rw [sizeG_eq, seeS_ok, decide_eq_false (by omega)]
  rfl
/-! goals with parts -/
def zero5 : A5 := ⟨0, 0, 0, 0, 0⟩
def y5 (x : List A5) (i : Int) : A5 := if i < x.length then x.getD i.toNat zero5 else zero5
structure KidSt where
  kids : List Goal
  cents : List Int
  used : Int
  count : Int
/-- the parts, so many -/
def kidsN (rec : Int → Int → Goal × Int × Int) (y : A5) (at_ most : Int) : Nat → KidSt
  | 0 => ⟨[], [], 1, 1⟩
  | i + 1 =>
    let s := kidsN rec y at_ most i
    let r := rec (at_ + s.used) (most - s.count - max 0 (1 - (i : Int)))
    ⟨s.kids ++ [r.1], s.cents ++ [pickS (IntKind.i64.wrap (y.c + IntKind.i64.wrap ((i : Int) * y.d))) 1000], s.used + r.2.1, s.count + r.2.2⟩
/-- does it go on? -/
def goB (rec : Int → Int → Goal × Int × Int) (y : A5) (at_ most many : Int) (i : Nat) : Bool := decide ((i : Int) < many) && (decide ((i : Int) < 2) || decide ((kidsN rec y at_ most i).count < most))
def endI (rec : Int → Int → Goal × Int × Int) (y : A5) (at_ most many : Int) : Nat → Nat → Nat
  | 0, i => i
  | f + 1, i => if goB rec y at_ most many i then endI rec y at_ most many f (i + 1) else i
def kindS (j : Nat) (x : List A5) (at_ most : Int) : Int :=
  if j = 0 ∨ most < 2 ∨ (x.length : Int) ≤ at_ + 1 ∨ 5 ≤ 1 + pickS ((y5 x at_).a.tdiv 144) 6 ∧ most < 3 then 1 else 1 + pickS ((y5 x at_).a.tdiv 144) 6
def goalsS : Nat → List A5 → Int → Int → Goal × Int × Int
  | 0, x, at_, most => (seeS (y5 x at_), 1, 1)
  | j + 1, x, at_, most =>
    let y := y5 x at_
    let next := y5 x (at_ + 1)
    let k := kindS (j + 1) x at_ most
    if k = 2 then (⟨2, [], 0, 0, 1 + pickS y.b 8, 0, false, 0, 0, 1 + pickS y.c 3000, [], [seeS next]⟩, 2, 2)
    else if k = 3 then (⟨3, [], pickS y.e 3000, 0, 0, 0, false, 1 + pickS y.b 4, 1 + pickS y.c 4, pickS y.d (1440 * (1 + pickS y.b 4) + 1), [], [seeS next]⟩, 2, 2)
    else if k = 4 then (⟨4, [], 0, 0, 0, 0, false, 0, 0, pickS y.b 3000, [], [seeS next]⟩, 2, 2)
    else if k = 5 ∨ k = 6 then
      let s := kidsN (goalsS j x) y at_ most (endI (goalsS j x) y at_ most (2 + pickS y.b 3) 4 0)
      (⟨k, [], 0, 0, 0, 0, false, 0, 0, 0, if k = 6 then s.cents else [], s.kids⟩, s.used, s.count)
    else (seeS y, 1, 1)
def goalS (x : List A5) : Goal := (goalsS 3 x 0 9).1
end Go.SX
