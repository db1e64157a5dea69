/-
  Walks: Th1, Th2, Th3, Tr0, Th4, Tr1, Th5, Ts0, Th9: what single functions of the program compute.
-/
import Derived.Test.YtdaghncicimipaaGreatDoorSxTq6
import Derived.Test.YtdaghncicimipaaGreatDoorSxTd7
set_option linter.unusedVariables false
set_option linter.unusedSimpArgs false
namespace Go.SX
open Go.Proofs
set_option maxHeartbeats 4000000
set_option maxRecDepth 100000
/-- a contract over what lasts, at what the caller gives up for it -/
theorem mgiveC {C : Cod} {P : Program} {D : Codec C} {f : FuncId} {args args' : List (SV C)} {p : PV C} {H1 : List (HS C)} (hM : Meets P D f args' [] (.p p) []) (hv : Seen H1 [] args args') : Meets P D f args H1 (.p p) (H1.map fun _ => .dead) := by
 refine ⟨hM.enter, fun w E hm vs hs hd => ?_⟩
 let B0 : Base := ⟨w, { F := E.F, β := fun _ => .fresh }, fun _ => True, 0, fun _ _ => rfl⟩
 have hf0 : Fr B0 E w := ⟨rfl, rfl, rfl, Nat.le_refl _, fun b _ ho => absurd trivial ho, ⟨fun b hb => ⟨hb, rfl⟩, fun c => .inr (.inr rfl), fun c b e => by cases e⟩, fun b _ => .inr (.inl trivial), fun c b _ => .inl trivial⟩
 obtain ⟨g1, g2, g3⟩ := view_env hs hf0 (θ := []) (Hp' := []) ⟨trivial, rfl, rfl⟩
 have hd' := view_denA hs g1 args args' vs hv.h hd
 refine (hM.calls w (E.view [] []) (fun c _ => rfl) vs g2 hd').mono ?_
 rintro e w' ⟨v, E', rfl, hv', hsat, hfr⟩
 refine ⟨v, { F := E'.F, β := fun c => if c < H1.length then .dead else .fresh }, rfl, by simp only [Den] at hv' ⊢; exact hv', ⟨fun c => ?_, fun c b e => ?_, fun c c' b e _ => ?_, hsat.F, hsat.glob⟩, ⟨hfr.os, hfr.tape, hfr.output, hfr.size, fun b hb _ => hfr.same b hb (by rintro ⟨c, hc⟩; cases hc), ⟨fun b hb => hfr.late.F b (.inl hb), fun c => ?_, fun c b _ e => ?_⟩, fun b hb => ?_, fun c b e => ?_⟩⟩
 ·by_cases hc : c < H1.length
  ·simp only [if_pos hc]
   show getC (H1.map fun _ => .dead) c = .dead
   have : ∀ (l : List (HS C)) (c : Nat), c < l.length → getC (l.map fun _ => (.dead : HS C)) c = .dead := by
    intro l
    induction l with
    | nil => intro c h; cases h
    | cons a l ih =>
     intro c h
     cases c with
     | zero => rfl
     | succ c => exact ih c (by simpa using h)
   exact this H1 c hc
  ·simp only [if_neg hc]
   show getC (H1.map fun _ => .dead) c = .fresh
   have : ∀ (l : List (HS C)) (c : Nat), ¬ c < l.length → getC (l.map fun _ => (.dead : HS C)) c = .fresh := by
    intro l
    induction l with
    | nil => intro c h; rfl
    | cons a l ih =>
     intro c h
     cases c with
     | zero => simp at h
     | succ c => exact ih c (by simpa using h)
   exact this H1 c hc
 ·dsimp only at e; split at e <;> cases e
 ·dsimp only at e; split at e <;> cases e
 ·by_cases hc : c < H1.length
  ·exact .inr (.inl (if_pos hc))
  ·exact .inr (.inr (hm c (by omega)))
 ·dsimp only at e; split at e <;> cases e
 ·rcases hfr.newF b hb with h | ⟨c, hc⟩ | h
  ·rcases h with h | ⟨c, _, hc⟩
   ·exact .inl h
   ·exact .inr (.inl ⟨c, hc⟩)
  ·cases hc
  ·exact .inr (.inr h)
 ·dsimp only at e; split at e <;> cases e
theorem indexI (l : List Int) (v : Int) (hl : (l.length : Int) ≤ 9223372036854775807) : Meets Tryz.prog Dc 137 [lS l, iS v] [] (iS (idxF (fun x => decide (v = x)) l)) [] := by
 refine meets_of_gx Ax tab_ok Tryz.func137 (c := _) rfl Tryz.call137 200 ?_
 (repeat' ((conv => whnf); first | fail))
 refine loop_up (fun i : Nat => [(8, iS i)]) (fun _ => []) (fun i => i ≤ l.length ∧ (l.take i).any (fun x => decide (v = x)) = false) (fun i => l.length - i) 0 ⟨Nat.zero_le _, by simp⟩ (by exact bkV) ?_
 intro i hi K hK
 rcases Nat.lt_or_ge i l.length with hlt | hge
 ·have hg := getD_some (d := Cd.dflt U.int) hlt
  by_cases hv : v = l.getD (i : Int).toNat (Cd.dflt U.int)
  ·have h1 := idxF_hit (p := fun x => decide (v = x)) hg (decide_eq_true hv) hi.2
   (repeat' ((conv => whnf); first | (exfalso; omega) | refine x0C (eI h1.symm rfl) | refine spC (fun hb => ?_) fun hb => ?_ | refine saC ?_))
  ·have h1 := any_take_succ (p := fun x => decide (v = x)) hg (decide_eq_false hv) hi.2
   (repeat' ((conv => whnf); first | (exfalso; omega) | refine hK (i + 1) [] _ _ ⟨by omega, h1⟩ ⟨by omega⟩ (by exact bkV) | refine spC (fun hb => ?_) fun hb => ?_ | refine saC ?_))
 ·have := idxF_miss (any_take_end hge hi.2)
  (repeat' ((conv => whnf); first | (exfalso; omega) | refine x0C (eI this.symm rfl) | refine spC (fun hb => ?_) fun hb => ?_))
theorem hasI (l : List Int) (v : Int) (hl : (l.length : Int) ≤ 9223372036854775807) : Meets Tryz.prog Dc 108 [lS l, iS v] [] (bS (decide (v ∈ l))) [] := by
 have h := indexI l v hl
 have e : decide (v ∈ l) = decide (0 ≤ idxF (fun x => decide (v = x)) l) := by
  rw [idxF_nonneg, Bool.eq_iff_iff, decide_eq_true_eq, List.any_eq_true]
  constructor
  ·intro h; exact ⟨v, h, by simp⟩
  ·rintro ⟨x, h1, h2⟩
   rw [decide_eq_true_eq] at h2
   rw [h2]; exact h1
 rw [e]
 refine meets_of_gx Ax tab_ok Tryz.func108 (c := _) rfl Tryz.call108 100 ?_
 (repeat' ((conv => whnf); first | refine x0C (eB ?_ rfl) | refine cpC (h) ?_))
 all_goals rfl
theorem tdeliver1 (p : Int) (im : List Int) (hl : (im.length : Int) ≤ 9223372036854775807) (e : Event) : Meets Tryz.prog Dc 107 [evA e, .dptr [.int .i64 p, .dsl U.int im] 0] [] (bS (!decide (e.image ∈ im))) [] := by
 have h := hasI im e.image hl
 refine meets_of_gx Ax tab_ok Tryz.func107 (c := _) rfl Tryz.call107 100 ?_
 (repeat' ((conv => whnf); first | refine x0C (eB ?_ rfl) | refine cpC (h) ?_))
 all_goals rfl
def hopesT (l : List Event) (within now : Int) (i : Nat) : List Event := ((l.take i).filter (openB l within now)).map fun e => delT now e.image
theorem hopesT_succ {l : List Event} {within now : Int} {i : Nat} (h : i < l.length) : hopesT l within now (i + 1) = if openB l within now (l.getD i dE) then hopesT l within now i ++ [delT now (l.getD i dE).image] else hopesT l within now i := by
 unfold hopesT
 rw [take_tl h, List.filter_append, List.map_append]
 show _ ++ List.map _ (List.filter (openB l within now) [l.getD i dE]) = _
 generalize l.getD i dE = e
 cases hc : openB l within now e <;> simp [hc]
theorem hopesT_len (l : List Event) (within now : Int) (i : Nat) : (hopesT l within now i).length ≤ i := by
 unfold hopesT
 rw [List.length_map]
 exact Nat.le_trans (List.length_filter_le _ _) (by simp; omega)
theorem hopesT_end (l : List Event) (within now : Int) : hopesT l within now l.length = hopesS l within now := by unfold hopesT hopesS; rw [List.take_length]
theorem keep_is (im : List Int) (l : List Event) : keep (fun e => !decide (e.image ∈ im)) l = l.filter fun e => decide (e.image ∈ im) := by
 unfold keep; congr 1; funext e; simp
theorem withDel_take {l : List Event} {i : Nat} (h : i < l.length) : withDel (l.take (i + 1)) = withDel (l.take i) ++ [l.getD i dE, delT (l.getD i dE).at_ (l.getD i dE).image] := by
 unfold withDel
 rw [take_tl h, List.flatMap_append]; simp
theorem withDel_len : ∀ l : List Event, (withDel l).length = 2 * l.length
 | [] => rfl
 | e :: l => by
  have := withDel_len l
  unfold withDel at *
  rw [List.flatMap_cons, List.length_append, this]; simp; omega
theorem senR_ims (s : Sen) : ∃ p b, senR s = .tuple [senA p (imsOf s), bS b] := by
 cases s with
 | none => exact ⟨0, false, rfl⟩
 | some w => exact ⟨w.1, true, rfl⟩
def delM (g : Goal) (l : List Event) (now : Int) : Option (List Event) → Option (List Event)
 | none => none
 | some more => some (delOut (hopesS l g.within now) more (imsOf (meanG (kid0 g.kids) (mergeS (hopedS l g.within now ++ more)))))
theorem tdeliver (g : Goal) (hk : (g.kids.length : Int) = 1) (hw : 0 ≤ g.within ∧ g.within ≤ 1000000) (l : List Event) (hl : EvsOK l) (hll : l.length ≤ 100000) (hla : ∀ e ∈ l, 0 ≤ e.at_ ∧ e.at_ ≤ 1000000) (now image : Int) (hnow : 0 ≤ now ∧ now ≤ 1000000) (F : Option (List Event))
  (hF : Meets Tryz.prog Dc 50 [worldA (hopedS l g.within now) now, goalA (kid0 g.kids), iS image] [] (finR F) [])
  (hFl : ∀ more, F = some more → more.length ≤ 100000)
  (hs : ∀ more, F = some more → Meets Tryz.prog Dc 58 [worldA (mergeS (hopedS l g.within now ++ more)) now, goalA (kid0 g.kids)] [] (senR (meanG (kid0 g.kids) (mergeS (hopedS l g.within now ++ more)))) [])
  (hsl : ∀ more, F = some more → ((imsOf (meanG (kid0 g.kids) (mergeS (hopedS l g.within now ++ more)))).length : Int) ≤ 9223372036854775807) :
  Meets Tryz.prog Dc 75 [worldA l now, goalA g, iS image] [] (finR (delM g l now F)) [] := by
 have hlen := hl.len
 generalize hX : delM g l now F = X
 refine meets_of_gx Ax tab_ok Tryz.func75 (c := _) rfl Tryz.call75 900 ?_
 (repeat' ((conv => whnf); first | fail))
 refine loop_upT [some 0, some 1, none] (fun q : Nat × List Event => [(22, iS q.1), (8, .slice 2 0 7 0 q.2.length)]) (fun q => [(2, .rows U.event q.2)]) (fun q => q.1 ≤ l.length ∧ q.2 = hopesT l g.within now q.1) (fun q => l.length - q.1) (0, []) ⟨Nat.zero_le _, rfl⟩ (by exact bkI) ?_
 rintro ⟨i, H⟩ ⟨hi, hH⟩ K hK
 dsimp only at hi hH hK ⊢
 have hHl : H.length ≤ i := by rw [hH]; exact hopesT_len _ _ _ _
 rcases Nat.lt_or_ge i l.length with hlt | hge
 ·have hgi := getD_some (d := Cd.dflt U.event) hlt
  have hei := hla _ (List.mem_of_getElem? hgi)
  have hd := tdel_meets l now (l.getD (i : Int).toNat (Cd.dflt U.event)) g.within hlen hl.i64 (hl.i64 _ (List.mem_of_getElem? hgi))
  have hsu := hopesT_succ (within := g.within) (now := now) hlt
  have hyes : (l.getD (i : Int).toNat (Cd.dflt U.event)).kind = 1 → now ≤ (l.getD (i : Int).toNat (Cd.dflt U.event)).at_ + g.within → delB l (l.getD (i : Int).toNat (Cd.dflt U.event)) g.within = false → List.take H.length H ++ List.take 1 (List.drop 0 [delT now (l.getD (i : Int).toNat (Cd.dflt U.event)).image]) = hopesT l g.within now (i + 1) := fun h1 h2 h3 => by
   rw [hsu, if_pos (by
    unfold openB
    simp only [Bool.and_eq_true, decide_eq_true_eq, Bool.not_eq_true']
    exact ⟨⟨h1, h2⟩, h3⟩), ← hH, List.take_length]; rfl
  have hno1 : ¬ (l.getD (i : Int).toNat (Cd.dflt U.event)).kind = 1 → H = hopesT l g.within now (i + 1) := fun h1 => by
   rw [hsu, if_neg (by
    unfold openB
    simp only [Bool.and_eq_true, decide_eq_true_eq]
    exact fun h => h1 h.1.1), ← hH]
  have hno2 : ¬ now ≤ (l.getD (i : Int).toNat (Cd.dflt U.event)).at_ + g.within → H = hopesT l g.within now (i + 1) := fun h1 => by
   rw [hsu, if_neg (by
    unfold openB
    simp only [Bool.and_eq_true, decide_eq_true_eq]
    exact fun h => h1 h.1.2), ← hH]
  have hno3 : delB l (l.getD (i : Int).toNat (Cd.dflt U.event)) g.within = true → H = hopesT l g.within now (i + 1) := fun h1 => by
   rw [hsu, if_neg (by
    unfold openB
    simp only [Bool.and_eq_true, Bool.not_eq_true']
    exact fun h => by rw [show delB l (l.getD i dE) g.within = true from h1] at h; cases h.2), ← hH]
  by_cases c1 : (l.getD (i : Int).toNat (Cd.dflt U.event)).kind = 1
  ·by_cases c2 : now ≤ (l.getD (i : Int).toNat (Cd.dflt U.event)).at_ + g.within
   ·cases hB : delB l (l.getD (i : Int).toNat (Cd.dflt U.event)) g.within with
    | true =>
     rw [hB] at hd
     have hW := hno3 hB
     (repeat' ((conv => whnf); first | (exfalso; omega) | refine cpC (hd) ?_ | refine hK (i + 1, H) [some 0, some 1, some 2] _ _ ⟨⟨by dsimp only; omega, hW⟩⟩ ⟨by dsimp only; omega⟩ (by exact bkI) | refine spC (fun hb => ?_) fun hb => ?_ | refine saC ?_))
    | false =>
     rw [hB] at hd
     have hW := hyes c1 c2 hB
     (repeat' ((conv => whnf); first | (exfalso; omega) | refine cpC (hd) ?_ | (refine frz_op [some 0, some 1, some 2, some 3] [(52, evA (delT now (l.getD (i : Int).toNat (Cd.dflt U.event)).image))] [] (by exact bkV) ?_) | refine spC (fun hb => ?_) fun hb => ?_ | refine saC ?_))
     (conv => whnf)
     refine hK (i + 1, List.take H.length H ++ List.take 1 (List.drop 0 [delT now (l.getD (i : Int).toNat (Cd.dflt U.event)).image])) [some 0, some 1, some 5] _ _ ⟨⟨by dsimp only; omega, hW⟩⟩ ⟨by dsimp only; omega⟩ ?_
     exact bkI
   ·have hW := hno2 c2
    (repeat' ((conv => whnf); first | (exfalso; omega) | refine hK (i + 1, H) [some 0, some 1, some 2] _ _ ⟨⟨by dsimp only; omega, hW⟩⟩ ⟨by dsimp only; omega⟩ (by exact bkI) | refine spC (fun hb => ?_) fun hb => ?_ | refine saC ?_))
  ·have hW := hno1 c1
   (repeat' ((conv => whnf); first | (exfalso; omega) | refine hK (i + 1, H) [some 0, some 1, some 2] _ _ ⟨⟨by dsimp only; omega, hW⟩⟩ ⟨by dsimp only; omega⟩ (by exact bkI) | refine spC (fun hb => ?_) fun hb => ?_ | refine saC ?_))
 ·have hHe : H = hopesS l g.within now := by rw [hH, show i = l.length by omega, hopesT_end]
  have hHS : H.length ≤ l.length := by omega
  have hm := mergedO l H (by rw [List.length_append]; omega)
  have hoM : hopedS l g.within now = restE (mergeS (l ++ H)) g.within := by rw [hHe]; rfl
  rw [hoM] at hF hs hsl
  have hMl : (mergeS (l ++ H)).length ≤ 200000 := by
   refine Nat.le_trans (List.Nodup.length_le_of_subset (str_nodup (merge_str _)) (fun x hx => merge_sub hx)) ?_
   rw [List.length_append]; omega
  have hMm : ∀ e ∈ mergeS (l ++ H), I64d e := fun e he => by
   rcases List.mem_append.1 (merge_sub he) with h | h
   ·exact hl.i64 e h
   ·rw [hHe] at h
    obtain ⟨x, _, _, rfl⟩ := hopes_mem h
    show -4611686018427387904 ≤ now ∧ now ≤ 4611686018427387903
    omega
  have hr := trest_meets (mergeS (l ++ H)) now g.within (by omega) hMm
  unfold delM at hX
  rw [← hHe] at hX
  rw [hoM] at hX
  generalize hM : mergeS (l ++ H) = M at *
  have hRl : (restE M g.within).length ≤ M.length := List.length_filter_le _ _
  generalize hR : restE M g.within = R at *
  cases F with
  | none =>
   obtain rfl : none = X := hX
   (repeat' ((conv => whnf); first | (exfalso; omega) | (refine dcallh [some 3, some 2] hm rfl rfl ⟨rfl, rfl, trivial⟩ ?_) | refine dpC (hr) ?_ | refine dpC (hF) ?_ | refine x0C ?_ | refine spC (fun hb => ?_) fun hb => ?_ | refine taC ?_ | refine saC ?_ | refine drawX_of mixed ?_))
   all_goals exact vwV
  | some more =>
   dsimp only at hX
   have hml := hFl more rfl
   have hs := hs more rfl
   have hsl := hsl more rfl
   rw [finR_cases, show (some more).getD [] = more from rfl, show (some more).isSome = true from rfl] at hF
   obtain ⟨sp, sb, hsr⟩ := senR_ims (meanG (kid0 g.kids) (mergeS (R ++ more)))
   rw [hsr] at hs
   generalize imsOf (meanG (kid0 g.kids) (mergeS (R ++ more))) = im at *
   have hm2 : Meets Tryz.prog Dc 76 [.slice 0 0 1 0 2] [.rows U.evs [⟨R⟩, ⟨more⟩]] (eS (mergeS (R ++ more))) [.dead] := mgiveC (by
    have := merged [⟨R⟩, ⟨more⟩] (by simp) (by simp [catS]; omega)
    rw [show catS [⟨R⟩, ⟨more⟩] = R ++ more by simp [catS]] at this
    exact this) (by exact snV)
   (repeat' ((conv => whnf); first | (exfalso; omega) | (refine dcallh [some 3, some 2] hm rfl rfl ⟨rfl, rfl, trivial⟩ ?_) | refine dpC (hr) ?_ | refine dpC (hF) ?_ | (refine dcallh [some 5] hm2 rfl rfl ⟨rfl, trivial⟩ ?_) | refine dpC (hs) ?_ | refine spC (fun hb => ?_) fun hb => ?_ | refine taC ?_ | refine saC ?_ | refine drawX_of mixed ?_))
   have hdf := deleteFunc (f := 107) (.c1 [.int .i64 sp, .dsl U.int im]) H (by omega) fun e he => tdeliver1 sp im hsl e
   rw [keep_is] at hdf
   refine frzC [some 0, some 1, some 2, some 3, some 4, some 5, none] [(14, .any), (96, .fn (.func 107) [] [.dptr [.int .i64 sp, .dsl U.int im] 0])] [(6, .rows U.int [])] [.slice 2 0 7 0 H.length, .fn (.func 107) [] [.dptr [.int .i64 sp, .dsl U.int im] 0]] (by exact bkV) (by exact snV) ?_
   (conv => whnf)
   refine callh [some 2] hdf rfl rfl ⟨rfl, trivial⟩ ?_
   (repeat' ((conv => whnf); first | fail))
   obtain ⟨O, hO⟩ : ∃ O, O = H.filter fun e => decide (e.image ∈ im) := ⟨_, rfl⟩
   have hOl : O.length ≤ H.length := by rw [hO]; exact List.length_filter_le _ _
   rw [← hO] at hdf ⊢
   have hX' : X = some (mergeS (O ++ withDel more)) := by rw [← hX, hO]; rfl
   clear hX
   subst hX'
   have hwl := withDel_len
   refine loop_upT [some 0, some 1, some 2, none, some 4, some 5, some 6] (fun q : Nat × Nat × List Event => [(100, iS q.1), (16, .slice 2 0 7 0 q.2.1), (8, .any), (58, .any), (59, .any), (95, .any), (97, .any)]) (fun q => [(2, .rows U.event q.2.2), (3, .rows U.int [])]) (fun q => q.1 ≤ more.length ∧ q.2.1 ≤ q.2.2.length ∧ q.2.2.take q.2.1 = O ++ withDel (more.take q.1)) (fun q => more.length - q.1) (0, O.length, O ++ List.replicate (H.length - O.length) (U.dflt .event)) ⟨Nat.zero_le _, by dsimp only; rw [List.length_append]; omega, by dsimp only; rw [List.take_left']; simp [withDel]; rfl⟩ (by exact bkI) ?_
   rintro ⟨k, n, Y⟩ ⟨hk', hn, hY⟩ K hK
   dsimp only at hk' hn hY hK ⊢
   have hnl : n = O.length + 2 * k := by
    have := congrArg List.length hY
    rw [List.length_take, List.length_append, hwl, List.length_take] at this
    omega
   rcases Nat.lt_or_ge k more.length with hlt | hge
   ·obtain ⟨x, hx⟩ : ∃ x, x = more.getD (k : Int).toNat (Cd.dflt U.event) := ⟨_, rfl⟩
    have hwd := withDel_take hlt
    have hW : ∀ z : List Event, z = List.take n Y ++ List.take 2 (List.drop 0 [x, delT x.at_ x.image]) → z.length = n + 2 ∧ z.take z.length = O ++ withDel (more.take (k + 1)) := fun z hz => by
     have e : z = O ++ withDel (more.take (k + 1)) := by
      rw [hz, hY, hwd, List.append_assoc, hx]; rfl
     have el : z.length = n + 2 := by
      rw [e, List.length_append, hwl, List.length_take]; omega
     exact ⟨el, by rw [List.take_length]; exact e⟩
    have hW2 := hW _ rfl
    rw [hx] at hW2
    (repeat' ((conv => whnf); first | (exfalso; omega) | (refine frz_op [some 0, some 1, some 2, some 3, some 4, some 5, some 6, some 7] [(110, evA (delT (more.getD (k : Int).toNat (Cd.dflt U.event)).at_ (more.getD (k : Int).toNat (Cd.dflt U.event)).image))] [] (by exact bkV) ?_) | refine spC (fun hb => ?_) fun hb => ?_ | refine saC ?_))
    (conv => whnf)
    refine hK (k + 1, (List.take n Y ++ List.take 2 (List.drop 0 [more.getD (k : Int).toNat (Cd.dflt U.event), delT (more.getD (k : Int).toNat (Cd.dflt U.event)).at_ (more.getD (k : Int).toNat (Cd.dflt U.event)).image])).length, List.take n Y ++ List.take 2 (List.drop 0 [more.getD (k : Int).toNat (Cd.dflt U.event), delT (more.getD (k : Int).toNat (Cd.dflt U.event)).at_ (more.getD (k : Int).toNat (Cd.dflt U.event)).image])) [some 0, some 1, some 9, some 3, some 4, some 5, some 6] _ _ ⟨⟨by dsimp only; omega, Nat.le_refl _, hW2.2⟩⟩ ⟨by dsimp only; omega⟩ ?_
    exact bkI
   ·have hYe : Y.take n = O ++ withDel more := by rw [hY, List.take_of_length_le hge]
    have hm3 := merged [⟨O ++ withDel more⟩] (by simp) (by simp [catS, hwl]; omega)
    rw [show catS [⟨O ++ withDel more⟩] = O ++ withDel more by simp [catS]] at hm3
    have hm3 : Meets Tryz.prog Dc 76 [.slice 0 0 1 0 1] [.rows U.evs [⟨O ++ withDel more⟩]] (eS (mergeS (O ++ withDel more))) [.dead] := mgiveC hm3 (by exact snV)
    rw [← hYe] at hm3 ⊢
    (repeat' ((conv => whnf); first | (exfalso; omega) | (refine frz_op [some 0, some 1, none, some 3, some 4, some 5, some 6] [(16, .any), (114, eS (List.take n Y))] [(2, .rows U.int [])] (by exact bkV) ?_) | (refine callh [some 7] hm3 rfl rfl ⟨rfl, trivial⟩ ?_) | refine x0C ?_ | refine spC (fun hb => ?_) fun hb => ?_ | refine saC ?_))
    all_goals exact vwV
theorem tfin_met (g : Goal) (l : List Event) (now image : Int) (p : Int) (im : List Int) (hm : meanG g l = some (p, im)) (hs : Meets Tryz.prog Dc 58 [worldA l now, goalA g] [] (senR (meanG g l)) []) : Meets Tryz.prog Dc 50 [worldA l now, goalA g, iS image] [] (finR (finG g l now image)) [] := by
 rw [finG_eq, hm]
 rw [hm] at hs
 refine meets_of_gx Ax tab_ok Tryz.func50 (c := _) rfl Tryz.call50 300 ?_
 (repeat' ((conv => whnf); first | refine cpC (hs) ?_ | refine x0C ?_))
 all_goals exact vwV
theorem tfin_see (g : Goal) (hk : g.kind = 1) (hr : (g.rows.length : Int) ≤ 1000) (l : List Event) (now image : Int) (hi : 0 ≤ image ∧ image ≤ 900000) (hm : meanG g l = none) (hs : Meets Tryz.prog Dc 58 [worldA l now, goalA g] [] (senR (meanG g l)) []) : Meets Tryz.prog Dc 50 [worldA l now, goalA g, iS image] [] (finR (finG g l now image)) [] := by
 have h := tfinish1 g hk hr l now image (by omega) hs
 have e : finG g l now image = finS1 g l now image := by
  rw [finG_eq, hm, if_neg (by simp), if_pos hk]
  unfold finSee finS1
  rw [hm]; rfl
 rw [e]; exact h
theorem tfin_pair (g : Goal) (hk : g.kind = 2) (h1 : (g.kids.length : Int) = 1) (hr : ((kid0 g.kids).rows.length : Int) ≤ 1000) (l : List Event) (now image : Int) (hi : 0 ≤ image ∧ image ≤ 900000) (hm : meanG g l = none) (hs : Meets Tryz.prog Dc 58 [worldA l now, goalA g] [] (senR (meanG g l)) []) : Meets Tryz.prog Dc 50 [worldA l now, goalA g, iS image] [] (finR (finG g l now image)) [] := by
 rw [finG_eq, hm, if_neg (by simp), if_neg (by omega), if_pos hk]
 rw [hm] at hs
 unfold finPair
 obtain ⟨kid, hkid⟩ : ∃ kid, kid = kid0 g.kids := ⟨_, rfl⟩
 rw [← hkid] at hr ⊢
 have hka : kid = g.kids.getD (Int.toNat 0) (Cd.dflt U.goal) := hkid
 by_cases hlt : max now kid.from_ < kid.to_
 ·rw [if_pos hlt]
  have ha1 := tat kid hr image (max now kid.from_) (-4) (by omega)
  have ha2 := tat kid hr (image + 1) (max now kid.from_) 4 (by omega)
  rw [hka] at ha1 ha2 hlt ⊢
  refine meets_of_gx Ax tab_ok Tryz.func50 (c := _) rfl Tryz.call50 500 ?_
  (repeat' ((conv => whnf); first | (exfalso; omega) | refine cpC (hs) ?_ | (refine callh [some 4] ha1 rfl rfl ⟨rfl, trivial⟩ ?_) | (refine callh [some 4] ha2 rfl rfl ⟨rfl, trivial⟩ ?_) | (refine frz_op [some 0, some 1, some 2, some 3, some 4, none, none] [(76, evA (shotE (g.kids.getD (Int.toNat 0) (Cd.dflt U.goal)) (max now (g.kids.getD (Int.toNat 0) (Cd.dflt U.goal)).from_) image (-4))), (79, evA (shotE (g.kids.getD (Int.toNat 0) (Cd.dflt U.goal)) (max now (g.kids.getD (Int.toNat 0) (Cd.dflt U.goal)).from_) (image + 1) 4))] [(5, .rows U.int []), (6, .rows U.int [])] (by exact bkV) ?_) | refine x0C ?_ | refine spC (fun hb => ?_) fun hb => ?_ | refine saC ?_))
  all_goals exact vwV
 ·rw [if_neg hlt]
  rw [hka] at hlt
  refine meets_of_gx Ax tab_ok Tryz.func50 (c := _) rfl Tryz.call50 500 ?_
  (repeat' ((conv => whnf); first | (exfalso; omega) | refine cpC (hs) ?_ | refine x0C ?_ | refine spC (fun hb => ?_) fun hb => ?_ | refine saC ?_))
  all_goals exact vwV
theorem tfin_every (g : Goal) (hok : okB g = true) (hk : g.kind = 3) (hr : ((kid0 g.kids).rows.length : Int) ≤ 1000) (hg : GLen (kid0 g.kids)) (hkf : 0 ≤ (kid0 g.kids).from_ ∧ (kid0 g.kids).from_ ≤ 1000000) (l : List Event) (hl : EvsOK l) (hla : ∀ e ∈ l, 0 ≤ e.at_ ∧ e.at_ ≤ 1000000) (now image : Int) (hnow : 0 ≤ now ∧ now ≤ 1000000) (hi : 0 ≤ image ∧ image ≤ 900000) (hm : meanG g l = none) (hs : Meets Tryz.prog Dc 58 [worldA l now, goalA g] [] (senR (meanG g l)) []) : Meets Tryz.prog Dc 50 [worldA l now, goalA g, iS image] [] (finR (finG g l now image)) [] := by
 rw [finG_eq, hm, if_neg (by simp), if_neg (by omega), if_neg (by omega), if_pos hk]
 rw [hm] at hs
 have hti := ok_times hok hk
 have hdy := ok_days hok hk
 have h1 := ok_one hok (by omega) (by omega) (by omega)
 have hsee := tseen_meets (kid0 g.kids) hg l now hl.len hl.el
 have hM : EvsOK (seenS (kid0 g.kids) l) := ⟨Int.le_trans (Int.ofNat_le.2 (List.length_filter_le _ _)) hl.len, fun e he => hl.el e (List.mem_filter.1 he).1, fun e he => hl.i64 e (List.mem_filter.1 he).1, fun e he => hl.look e (List.mem_filter.1 he).1⟩
 have hgo := tgoOn g (kid0 g.kids) hti (by omega) (by omega) (by omega) hr (seenS (kid0 g.kids) l) hM (fun e he => hla e (List.mem_filter.1 he).1) l now image (max now (kid0 g.kids).from_) (by omega) hi hsee
 change Meets _ _ _ _ _ (finR (finEvery g l now image)) _ at hgo
 rw [finR_cases] at hgo ⊢
 generalize (if (goN g (kid0 g.kids) (seenS (kid0 g.kids) l) (max now (kid0 g.kids).from_) (seenS (kid0 g.kids) l).length).1 < 0 then image else image + (g.times - (goN g (kid0 g.kids) (seenS (kid0 g.kids) l) (max now (kid0 g.kids).from_) (seenS (kid0 g.kids) l).length).1).toNat) = im2 at hgo
 refine meets_of_gx Ax tab_ok Tryz.func50 (c := _) rfl Tryz.call50 500 ?_
 (repeat' ((conv => whnf); first | (exfalso; omega) | refine cpC (hs) ?_ | (refine callh [some 4] hgo rfl rfl ⟨rfl, trivial⟩ ?_) | refine x0C ?_ | refine spC (fun hb => ?_) fun hb => ?_ | refine saC ?_))
 all_goals exact vwV
theorem tfin_del (g : Goal) (hk : g.kind = 4) (h1 : (g.kids.length : Int) = 1) (l : List Event) (now image : Int) (hi : 0 ≤ image ∧ image ≤ 900000) (hm : meanG g l = none) (hs : Meets Tryz.prog Dc 58 [worldA l now, goalA g] [] (senR (meanG g l)) []) (hd : Meets Tryz.prog Dc 75 [worldA l now, goalA g, iS image] [] (finR (delM g l now (finG (kid0 g.kids) (hopedS l g.within now) now image))) []) : Meets Tryz.prog Dc 50 [worldA l now, goalA g, iS image] [] (finR (finG g l now image)) [] := by
 have e : finG g l now image = delM g l now (finG (kid0 g.kids) (hopedS l g.within now) now image) := by
  rw [finG_eq, hm, if_neg (by simp), if_neg (by omega), if_neg (by omega), if_neg (by omega), if_pos hk, finH_eq _ _ _ _ _ h1]
  cases finG (kid0 g.kids) (hopedS l g.within now) now image <;> rfl
 rw [e]
 rw [hm] at hs
 rw [finR_cases] at hd ⊢
 refine meets_of_gx Ax tab_ok Tryz.func50 (c := _) rfl Tryz.call50 500 ?_
 (repeat' ((conv => whnf); first | (exfalso; omega) | refine cpC (hs) ?_ | refine cpC (hd) ?_ | refine x0C ?_ | refine spC (fun hb => ?_) fun hb => ?_))
 all_goals exact vwV
theorem countE_take {l : List Event} {j : Nat} (h : j < l.length) : countE (l.take (j + 1)) = if (l.getD j dE).kind = 1 then countE (l.take j) + 1 else countE (l.take j) := by
 rw [take_tl h, count_app]
 show _ + countE [l.getD j dE] = _
 generalize l.getD j dE = e
 unfold countE
 split
 ·rename_i hk; simp [hk]
 ·rename_i hk; simp [hk]
theorem merge_len (l : List Event) : (mergeS l).length ≤ l.length := List.Nodup.length_le_of_subset (str_nodup (merge_str _)) fun x hx => merge_sub hx
theorem tfin_all (g : Goal) (hk : g.kind = 5) (hkl : (g.kids.length : Int) ≤ 4) (l : List Event) (now image : Int) (B : Int) (hB : B ≤ 800000) (hi : 0 ≤ image ∧ image ≤ B) (hm : meanG g l = none) (hs : Meets Tryz.prog Dc 58 [worldA l now, goalA g] [] (senR (meanG g l)) [])
  (hf : ∀ k ∈ g.kids, ∀ im : Int, 0 ≤ im → image ≤ im → im ≤ B + 400 → Meets Tryz.prog Dc 50 [worldA l now, goalA k, iS im] [] (finR (finG k l now im)) [])
  (hbd : ∀ k ∈ g.kids, ∀ (im : Int) (more : List Event), 0 ≤ im → image ≤ im → im ≤ B + 400 → finG k l now im = some more → more.length ≤ 200000 ∧ countE more ≤ 100) :
  Meets Tryz.prog Dc 50 [worldA l now, goalA g, iS image] [] (finR (finG g l now image)) [] := by
 rw [finG_eq, hm, if_neg (by simp), if_neg (by omega), if_neg (by omega), if_neg (by omega), if_neg (by omega), if_pos hk]
 rw [hm] at hs
 refine meets_of_gx Ax tab_ok Tryz.func50 (c := _) rfl Tryz.call50 700 ?_
 (repeat' ((conv => whnf); first | (exfalso; omega) | refine cpC (hs) ?_ | refine spC (fun hb => ?_) fun hb => ?_))
 obtain ⟨X, hX⟩ : ∃ X, X = finAll g.kids l now image [] := ⟨_, rfl⟩
 rw [← hX]
 refine loop_upT [some 0, some 1, some 2, some 3, some 4] (fun q : Nat × Int × List Event => [(103, iS q.1), (2, iS q.2.1), (13, eS q.2.2)]) (fun q => []) (fun q => q.1 ≤ g.kids.length ∧ X = finAll (g.kids.drop q.1) l now q.2.1 q.2.2 ∧ (image ≤ q.2.1 ∧ q.2.1 ≤ image + 100 * q.1) ∧ q.2.2.length ≤ 200000 * q.1) (fun q => g.kids.length - q.1) (0, image, []) ⟨Nat.zero_le _, hX, by dsimp only; omega, by dsimp only; simp⟩ (by exact bkI) ?_
 rintro ⟨i, im, out⟩ ⟨hi1, hXi, him, hol⟩ K hK
 dsimp only at hi1 hXi him hol hK ⊢
 rcases Nat.lt_or_ge i g.kids.length with hlt | hge
 ·have hgi := getD_some (d := Cd.dflt U.goal) hlt
  have hmem := List.mem_of_getElem? hgi
  have hfk := hf _ hmem im (by omega) (by omega) (by omega)
  have hdr : g.kids.drop i = g.kids.getD (i : Int).toNat (Cd.dflt U.goal) :: g.kids.drop (i + 1) := drop_getD (d := U.dflt .goal) hlt
  rw [hdr, finAll] at hXi
  have hbk := hbd _ hmem im
  cases hF : finG (g.kids.getD (i : Int).toNat (Cd.dflt U.goal)) l now im with
  | none =>
   rw [hF] at hfk hXi
   dsimp only at hXi
   rw [hXi]
   (repeat' ((conv => whnf); first | (exfalso; omega) | refine cpC (hfk) ?_ | refine x0C ?_ | refine spC (fun hb => ?_) fun hb => ?_ | refine saC ?_))
   all_goals exact vwV
  | some more =>
   obtain ⟨hml, hmc⟩ := hbk more (by omega) (by omega) (by omega) hF
   rw [hF] at hfk hXi
   dsimp only at hXi
   have hcn := count_nonneg more
   have hme := merge_len (out ++ more)
   rw [List.length_append] at hme
   (repeat' ((conv => whnf); first | (exfalso; omega) | refine cpC (hfk) ?_ | refine spC (fun hb => ?_) fun hb => ?_ | refine saC ?_))
   have hm2 : Meets Tryz.prog Dc 76 [.slice 0 0 1 0 2] [.rows U.evs [⟨out⟩, ⟨more⟩]] (eS (mergeS (out ++ more))) [.dead] := mgiveC (by
    have := merged [⟨out⟩, ⟨more⟩] (by simp) (by simp [catS]; omega)
    rw [show catS [⟨out⟩, ⟨more⟩] = out ++ more by simp [catS]] at this
    exact this) (by exact snV)
   refine loop_upT [some 0, some 1, some 2, some 3, some 4, some 5] (fun q : Nat × Int => [(118, iS q.1), (2, iS q.2)]) (fun q => []) (fun q => q.1 ≤ more.length ∧ q.2 = im + countE (more.take q.1)) (fun q => more.length - q.1) (0, im) ⟨Nat.zero_le _, by dsimp only; rw [List.take_zero]; show im = im + 0; omega⟩ (by exact bkI) ?_
   rintro ⟨j, z⟩ ⟨hj, hz⟩ K2 hK2
   dsimp only at hj hz hK2 ⊢
   have hcj := count_nonneg (more.take j)
   have hcj2 : countE (more.take j) ≤ countE more := by
    have := count_app (more.take j) (more.drop j)
    rw [List.take_append_drop] at this
    have := count_nonneg (more.drop j)
    omega
   rcases Nat.lt_or_ge j more.length with hjl | hjl
   ·have hsu := countE_take hjl
    by_cases hke : (more.getD (j : Int).toNat (Cd.dflt U.event)).kind = 1
    ·rw [if_pos (show (more.getD j dE).kind = 1 from hke)] at hsu
     (repeat' ((conv => whnf); first | (exfalso; omega) | refine hK2 (j + 1, z + 1) [some 0, some 1, some 2, some 3, some 4, some 5] _ _ ⟨⟨by dsimp only; omega, by dsimp only; omega⟩⟩ ⟨by dsimp only; omega⟩ (by exact bkI) | refine spC (fun hb => ?_) fun hb => ?_ | refine saC ?_))
    ·rw [if_neg (show ¬ (more.getD j dE).kind = 1 from hke)] at hsu
     (repeat' ((conv => whnf); first | (exfalso; omega) | refine hK2 (j + 1, z) [some 0, some 1, some 2, some 3, some 4, some 5] _ _ ⟨⟨by dsimp only; omega, by dsimp only; omega⟩⟩ ⟨by dsimp only; omega⟩ (by exact bkI) | refine spC (fun hb => ?_) fun hb => ?_ | refine saC ?_))
   ·have hzz : z = im + countE more := by rw [hz, List.take_of_length_le hjl]
    subst hzz
    (repeat' ((conv => whnf); first | (exfalso; omega) | (refine callh [some 6] hm2 rfl rfl ⟨rfl, trivial⟩ ?_) | refine hK (i + 1, im + countE more, mergeS (out ++ more)) [some 0, some 1, some 2, some 3, some 4] _ _ ⟨⟨by dsimp only; omega, hXi, by dsimp only; omega, by dsimp only; omega⟩⟩ ⟨by dsimp only; omega⟩ (by exact bkI) | refine spC (fun hb => ?_) fun hb => ?_ | refine saC ?_))
    done
 ·have he : X = some out := by rw [hXi, List.drop_of_length_le hge, finAll]
  rw [he]
  (repeat' ((conv => whnf); first | (exfalso; omega) | refine x0C ?_ | refine spC (fun hb => ?_) fun hb => ?_))
  all_goals exact vwV
theorem tfin_any (g : Goal) (hk : g.kind = 6) (hkl : (g.kids.length : Int) ≤ 4) (l : List Event) (now image : Int) (hm : meanG g l = none) (hs : Meets Tryz.prog Dc 58 [worldA l now, goalA g] [] (senR (meanG g l)) [])
  (hf : ∀ k ∈ g.kids, Meets Tryz.prog Dc 50 [worldA l now, goalA k, iS image] [] (finR (finG k l now image)) []) :
  Meets Tryz.prog Dc 50 [worldA l now, goalA g, iS image] [] (finR (finG g l now image)) [] := by
 rw [finG_eq, hm, if_neg (by simp), if_neg (by omega), if_neg (by omega), if_neg (by omega), if_neg (by omega), if_neg (by omega)]
 rw [hm] at hs
 refine meets_of_gx Ax tab_ok Tryz.func50 (c := _) rfl Tryz.call50 700 ?_
 (repeat' ((conv => whnf); first | (exfalso; omega) | refine cpC (hs) ?_ | refine spC (fun hb => ?_) fun hb => ?_))
 obtain ⟨X, hX⟩ : ∃ X, X = finAny g.kids l now image := ⟨_, rfl⟩
 rw [← hX]
 refine loop_upT [some 0, some 1, some 2, some 3, some 4] (fun q : Nat => [(139, iS q)]) (fun q => []) (fun q => q ≤ g.kids.length ∧ X = finAny (g.kids.drop q) l now image) (fun q => g.kids.length - q) 0 ⟨Nat.zero_le _, hX⟩ (by exact bkI) ?_
 rintro i ⟨hi1, hXi⟩ K hK
 rcases Nat.lt_or_ge i g.kids.length with hlt | hge
 ·have hgi := getD_some (d := Cd.dflt U.goal) hlt
  have hfk := hf _ (List.mem_of_getElem? hgi)
  have hdr : g.kids.drop i = g.kids.getD (i : Int).toNat (Cd.dflt U.goal) :: g.kids.drop (i + 1) := drop_getD (d := U.dflt .goal) hlt
  rw [hdr, finAny] at hXi
  cases hF : finG (g.kids.getD (i : Int).toNat (Cd.dflt U.goal)) l now image with
  | none =>
   rw [hF] at hfk hXi
   dsimp only at hXi
   (repeat' ((conv => whnf); first | (exfalso; omega) | refine cpC (hfk) ?_ | refine hK (i + 1) [some 0, some 1, some 2, some 3, some 4] _ _ ⟨⟨by omega, hXi⟩⟩ ⟨by omega⟩ (by exact bkI) | refine spC (fun hb => ?_) fun hb => ?_ | refine saC ?_))
  | some more =>
   rw [hF] at hfk hXi
   dsimp only at hXi
   rw [hXi]
   (repeat' ((conv => whnf); first | (exfalso; omega) | refine cpC (hfk) ?_ | refine x0C ?_ | refine spC (fun hb => ?_) fun hb => ?_ | refine saC ?_))
   all_goals exact vwV
 ·have he : X = none := by rw [hXi, List.drop_of_length_le hge, finAny]
  rw [he]
  (repeat' ((conv => whnf); first | (exfalso; omega) | refine x0C ?_ | refine spC (fun hb => ?_) fun hb => ?_))
  all_goals exact vwV
end Go.SX

/-
 Plain law: how many events finish a goal.
-/
namespace Go.SX
theorem old_len {l out : List Event} {now image : Int} (hs : StrE out) (h : ∀ e ∈ out, e.image < image → e = delT now e.image ∧ ∃ x ∈ l, x.image = e.image) : out.length ≤ newN out image + l.length := by
 have h1 : out.length ≤ ((out.filter fun e => decide (image ≤ e.image)) ++ l.map fun x => delT now x.image).length := by
  refine List.Nodup.length_le_of_subset (str_nodup hs) fun e he => ?_
  by_cases hi : image ≤ e.image
  ·exact List.mem_append.2 (.inl (List.mem_filter.2 ⟨he, by simpa using hi⟩))
  ·obtain ⟨e1, x, x1, x2⟩ := h e he (by omega)
   exact List.mem_append.2 (.inr (List.mem_map.2 ⟨x, x1, by rw [x2]; exact e1.symm⟩))
 rw [List.length_append, List.length_map] at h1
 exact h1
theorem fin_len {g : Goal} {n : Int} {l out : List Event} {now image : Int} (h : FinOK g n l now image out) : (out.length : Int) ≤ 4 * n + l.length ∧ countE out ≤ 4 * n := by
 have h1 := old_len h.good.str h.old
 have h2 := h.new
 refine ⟨by omega, ?_⟩
 have : countE out ≤ newN out image := by
  unfold countE newN
  have : (out.filter fun e => decide (e.kind = 1)).length ≤ (out.filter fun e => decide (image ≤ e.image)).length := by
   refine List.Nodup.length_le_of_subset (goodO_nodup h.good) fun e he => ?_
   obtain ⟨e1, e2⟩ := List.mem_filter.1 he
   exact List.mem_filter.2 ⟨e1, by simpa using (h.good.shots e e1 (by simpa using e2)).1⟩
  omega
 omega
end Go.SX

namespace Go.SX
open Go.Proofs
set_option maxHeartbeats 4000000
set_option maxRecDepth 100000
theorem form_evs {e : Event} (h : formB e = true) : ELen e ∧ (0 ≤ e.at_ ∧ e.at_ ≤ 1000000) ∧ -1000 ≤ e.look ∧ e.look ≤ 1000 := by
 unfold formB at h
 simp only [Bool.and_eq_true, inB_iff] at h
 obtain ⟨⟨h1, h2⟩, h3⟩ := h
 refine ⟨?_, h1, ?_⟩
 ·unfold ELen
  split at h3
  ·simp only [Bool.and_eq_true] at h3
   have := h3.2
   unfold areaB at this
   simp only [Bool.and_eq_true, decide_eq_true_eq] at this
   omega
  ·split at h3
   ·simp only [Bool.and_eq_true, decide_eq_true_eq] at h3; omega
   ·cases h3
 ·split at h3
  ·simp only [Bool.and_eq_true, inB_iff] at h3; omega
  ·split at h3
   ·simp only [Bool.and_eq_true, decide_eq_true_eq] at h3; omega
   ·cases h3
theorem evs_of {l : List Event} (hl : (l.length : Int) ≤ 1000000) (h : ∀ e ∈ l, ELen e ∧ (0 ≤ e.at_ ∧ e.at_ ≤ 1000000) ∧ -1000 ≤ e.look ∧ e.look ≤ 1000) : EvsOK l :=
 ⟨hl, fun e he => (h e he).1, fun e he => by have := (h e he).2.1; unfold I64d; omega, fun e he => (h e he).2.2⟩
theorem ctx_evs {l : List Event} {now image : Int} (hc : CtxO l now image) (hl : (l.length : Int) ≤ 1000000) : EvsOK l := evs_of hl fun e he => form_evs (hc.form e he)
theorem good_evs {l : List Event} {now image : Int} (ht : 0 ≤ now) (hc : GoodO l now image) : ∀ e ∈ l, ELen e ∧ (0 ≤ e.at_ ∧ e.at_ ≤ 1000000) ∧ -1000 ≤ e.look ∧ e.look ≤ 1000 := fun e he => by
 have h1 := hc.late e he
 by_cases hk : e.kind = 1
 ·have h2 := hc.shots e he hk
  refine ⟨?_, by omega, by omega⟩
  have := h2.2.2.2
  unfold areaB at this
  simp only [Bool.and_eq_true, decide_eq_true_eq] at this
  unfold ELen; omega
 ·have h2 := (hc.plain e he).resolve_left hk
  refine ⟨?_, by omega, ?_⟩
  ·rw [h2]; unfold ELen delT; simp
  ·rw [h2]; unfold delT; dsimp only; omega
theorem hoped_len (l : List Event) (w now : Int) : (hopedS l w now).length ≤ 2 * l.length := by
 refine Nat.le_trans (List.length_filter_le _ _) (Nat.le_trans (merge_len _) ?_)
 rw [List.length_append]
 have : (hopesS l w now).length ≤ l.length := by
  unfold hopesS; rw [List.length_map]; exact List.length_filter_le _ _
 omega
theorem size_area {g : Goal} (h : okB g = true) (hk : g.kind = 1) : (g.rows.length : Int) ≤ 1000 := by
 have := see_area h hk
 unfold areaB at this
 simp only [Bool.and_eq_true, decide_eq_true_eq] at this
 omega
theorem tfin_leaf (g : Goal) (d n : Int) (hs : sizeG g d = some n) (hd1 : 1 ≤ d) (hG : GAll g) (hk3 : g.kind ≤ 3) (l : List Event) (now image : Int) (hc : CtxO l now image) (hl : (l.length : Int) ≤ 1000) (hi : 0 ≤ image ∧ image ≤ 900000) (hnow : 0 ≤ now ∧ now ≤ 1000000) : Meets Tryz.prog Dc 50 [worldA l now, goalA g, iS image] [] (finR (finG g l now image)) [] := by
 have hE := ctx_evs hc (by omega)
 have hsen := tsense_meets 4 g d n (by omega) hd1 hs hG l now hE
 obtain ⟨hok, hd, m, hL, rfl⟩ := size_ok hs
 obtain ⟨hgl, hgk⟩ := (GAll_iff g).1 hG
 cases hm : meanG g l with
 | some w => exact tfin_met g l now image w.1 w.2 (by rw [hm]) hsen
 | none =>
  have hkk := (okB_parts hok).1
  have hkb : g.kind = 1 ∨ g.kind = 2 ∨ g.kind = 3 := by omega
  rcases hkb with e | e | e
  ·exact tfin_see g e (size_area hok e) l now image hi hm hsen
  ·have h1 := ok_one hok (by omega) (by omega) (by omega)
   obtain ⟨q, hq, _, hko, hkk1⟩ := kid_see hok (.inl e) hL
   exact tfin_pair g e h1 (size_area hko hkk1) l now image hi hm hsen
  ·have h1 := ok_one hok (by omega) (by omega) (by omega)
   obtain ⟨q, hq, _, hko, hkk1⟩ := kid_see hok (.inr e) hL
   have hso := see_ok hko hkk1
   exact tfin_every g hok e (size_area hko hkk1) ((GAll_iff _).1 (GAllL_mem hgk (kid0_mem h1))).1 hso.fr l hE (fun x hx => (form_evs (hc.form x hx)).2.1) now image hnow hi hm hsen
theorem ims_len {g : Goal} {d n : Int} {l : List Event} (hs : sizeG g d = some n) (hn : n ≤ 1000) : ((imsOf (meanG g l)).length : Int) ≤ 9223372036854775807 := by
 cases hm : meanG g l with
 | none => exact (by decide : (0 : Int) ≤ 9223372036854775807)
 | some w =>
  have := mean_bound g d n l w.1 w.2 hs (by rw [hm])
  show ((w.2.length : Nat) : Int) ≤ _
  omega
theorem tfin_meets : ∀ (j : Nat) (g : Goal) (d n : Int), 5 - d ≤ j → 1 ≤ d → sizeG g d = some n → n ≤ 12 → GAll g → ∀ (l : List Event) (now image : Int), CtxO l now image → (l.length : Int) ≤ 120 → (0 ≤ image ∧ image ≤ 10000 - 1000 * j) → (0 ≤ now ∧ now ≤ 1000000) → Meets Tryz.prog Dc 50 [worldA l now, goalA g, iS image] [] (finR (finG g l now image)) [] := by
 intro j
 induction j with
 | zero =>
  intro g d n h1 h2 hs
  have := (size_ok hs).2.1
  omega
 | succ j ih =>
  intro g d n h1 h2 hs hn hG l now image hc hl hi hnow
  have hE := ctx_evs hc (by omega)
  have hsen := tsense_meets 4 g d n (by omega) h2 hs hG l now hE
  obtain ⟨hok, hd, m, hL, rfl⟩ := size_ok hs
  obtain ⟨hgl, hgk⟩ := (GAll_iff g).1 hG
  by_cases hk3 : g.kind ≤ 3
  ·exact tfin_leaf g d _ hs h2 hG hk3 l now image hc (by omega) (by omega) hnow
  cases hm : meanG g l with
  | some w => exact tfin_met g l now image w.1 w.2 (by rw [hm]) hsen
  | none =>
   have hkk := (okB_parts hok).1
   have hkb : g.kind = 4 ∨ g.kind = 5 ∨ g.kind = 6 := by omega
   rcases hkb with e | e | e
   ·have hone := ok_one hok (by omega) (by omega) (by omega)
    obtain ⟨q, hq, rfl⟩ := kid_ok hL hone
    have hkk3 := kid_kind hok hone
    unfold lastK at hkk3
    rw [if_neg (by omega), if_pos e] at hkk3
    have hw := ok_within hok e
    have hGk := GAllL_mem hgk (kid0_mem hone)
    have hhc := hoped_ctx (within := g.within) hc hnow
    have hhl := hoped_len l g.within now
    have hfo : ∀ more, finG (kid0 g.kids) (hopedS l g.within now) now image = some more → FinOK (kid0 g.kids) m (hopedS l g.within now) now image more := fun more h => fin_ok _ _ _ _ _ _ _ hq hhc hi.1 hnow h
    refine tfin_del g e hone l now image (by omega) hm hsen ?_
    refine tdeliver g hone hw l hE (by omega) (fun x hx => (form_evs (hc.form x hx)).2.1) now image hnow _ ?_ ?_ ?_ ?_
    ·exact tfin_leaf _ (d + 1) _ hq (by omega) hGk hkk3 _ now image hhc (by omega) (by omega) hnow
    ·intro more hmore
     have := (fin_len (hfo more hmore)).1
     omega
    ·intro more hmore
     refine tsense_meets 4 _ (d + 1) _ (by omega) (by omega) hq hGk _ now (evs_of ?_ fun x hx => ?_)
     ·have h3 := merge_len (hopedS l g.within now ++ more)
      rw [List.length_append] at h3
      have := (fin_len (hfo more hmore)).1
      omega
     ·rcases List.mem_append.1 (merge_sub hx) with h | h
      ·exact form_evs (hhc.form x h)
      ·exact good_evs hnow.1 (hfo more hmore).good x h
    ·intro more hmore
     exact ims_len hq (by omega)
   ·have h2' := many_two hok (.inl e)
    refine tfin_all g e h2'.2 l now image (10000 - 1000 * ((j : Int) + 1)) (by omega) (by omega) hm hsen ?_ ?_
    ·intro k hk im hi1 hi2 hi3
     obtain ⟨x, hx, hxm⟩ := sizeL_mem hL hk
     exact ih k (d + 1) x (by omega) (by omega) hx (by omega) (GAllL_mem hgk hk) l now im (ctx_mono hc hi2) hl ⟨hi1, by omega⟩ hnow
    ·intro k hk im more hi1 hi2 hi3 hmore
     obtain ⟨x, hx, hxm⟩ := sizeL_mem hL hk
     have := fin_len (fin_ok k (d + 1) x l now im more hx (ctx_mono hc hi2) hi1 hnow hmore)
     omega
   ·have h2' := many_two hok (.inr e)
    refine tfin_any g e h2'.2 l now image hm hsen fun k hk => ?_
    obtain ⟨x, hx, hxm⟩ := sizeL_mem hL hk
    exact ih k (d + 1) x (by omega) (by omega) hx (by omega) (GAllL_mem hgk hk) l now image hc hl (by omega) hnow
end Go.SX

/-
 Plain law: the events that integers determine lie early, and have small images.
-/
namespace Go.SX
theorem see_from (x : A5) : ∀ s ∈ seesG (seeS x), s.from_ ≤ 3000 := by
 intro s hs
 rw [seesG_eq, if_pos (show (seeS x).kind = 1 from rfl)] at hs
 rw [List.mem_singleton.1 hs]
 have := pickS_bd (c := x.c) (n := 3000) (by omega)
 unfold seeS; dsimp only; omega
theorem kids_from {rec : Int → Int → Goal × Int × Int} (hr : ∀ a m, ∀ s ∈ seesG (rec a m).1, s.from_ ≤ 3000) (y : A5) (at_ most : Int) : ∀ i : Nat, ∀ s ∈ seesL (kidsN rec y at_ most i).kids, s.from_ ≤ 3000
 | 0 => fun s hs => by rw [kidsN, seesL] at hs; cases hs
 | i + 1 => fun s hs => by
  rw [kidsN] at hs
  dsimp only at hs
  rw [seesL_snoc] at hs
  rcases List.mem_append.1 hs with h | h
  ·exact kids_from hr y at_ most i s h
  ·exact hr _ _ s h
theorem goals_from : ∀ (j : Nat) (x : List A5) (at_ most : Int), ∀ s ∈ seesG (goalsS j x at_ most).1, s.from_ ≤ 3000
 | 0, x, at_, most => by rw [goalsS]; exact see_from _
 | j + 1, x, at_, most => by
  have one : ∀ g : Goal, g.kind ≠ 1 → (∃ z, g.kids = [seeS z]) → ∀ s ∈ seesG g, s.from_ ≤ 3000 := fun g hk ⟨z, hz⟩ s hs => by
   rw [seesG_eq, if_neg hk, hz, seesL, seesL, List.append_nil] at hs
   exact see_from z s hs
  rw [goalsS]
  dsimp only
  split
  ·exact one _ (by show (2 : Int) ≠ 1; omega) ⟨_, rfl⟩
  ·split
   ·exact one _ (by show (3 : Int) ≠ 1; omega) ⟨_, rfl⟩
   ·split
    ·exact one _ (by show (4 : Int) ≠ 1; omega) ⟨_, rfl⟩
    ·split
     ·rename_i e
      intro s hs
      rw [seesG_eq, if_neg (by dsimp only; omega)] at hs
      exact kids_from (fun a m => goals_from j x a m) _ _ _ _ s hs
     ·exact see_from _
theorem goal_from (x : List A5) : ∀ s ∈ shotsS (goalS x), s.from_ ≤ 3000 := by
 unfold shotsS goalS
 split
 ·exact goals_from 3 x 0 9
 ·intro s hs; cases hs
theorem events_early (shots : List Goal) (xs : List A4) (h : ∀ s ∈ shots, s.from_ ≤ 3000) : ∀ i : Nat, i ≤ 1000 → (eventsN shots xs i).at_ ≤ 3000 + 400 * i ∧ ∀ e ∈ (eventsN shots xs i).out, e.at_ ≤ 3000 + 400 * i ∧ e.image < i
 | 0, _ => ⟨by simp [eventsN], fun e he => by simp [eventsN] at he⟩
 | i + 1, hi => by
  obtain ⟨h1, h2⟩ := events_early shots xs h i (by omega)
  have hb := pickS_bd (c := (xs.getD i zero4).b) (n := 400) (by omega)
  have hm : (evMake shots (xs.getD i zero4) i (eventsN shots xs i).at_).2 ≤ 3000 + 400 * ((i : Int) + 1) ∧ (evMake shots (xs.getD i zero4) i (eventsN shots xs i).at_).1.at_ ≤ 3000 + 400 * ((i : Int) + 1) ∧ (evMake shots (xs.getD i zero4) i (eventsN shots xs i).at_).1.image < (i : Int) + 1 := by
   unfold evMake
   split
   ·rename_i hc
    have hbd := pickS_bd (c := (xs.getD i zero4).a.tdiv 3) (n := shots.length) (by omega)
    have hm : shots.getD (pickS ((xs.getD i zero4).a.tdiv 3) shots.length).toNat (U.dflt .goal) ∈ shots := by
     rw [List.getD_eq_getElem?_getD, List.getElem?_eq_getElem (by omega)]
     exact List.getElem_mem _
    have := h _ hm
    dsimp only
    split <;> omega
   ·have := pickS_bd (c := (xs.getD i zero4).a) (n := (i : Int) + 1) (by omega)
    dsimp only; omega
  rw [eventsN]
  unfold evNext
  refine ⟨by dsimp only; omega, fun e he => ?_⟩
  dsimp only at he
  split at he
  ·rcases insE_mem he with he | rfl
   ·have := h2 e he; omega
   ·omega
  ·have := h2 e he; omega
theorem events_small (xs : List A5) (ys : List A4) : ∀ e ∈ eventsS (goalS xs) ys, e.at_ ≤ 9400 ∧ e.image < 16 := by
 intro e he
 have := (events_early (shotsS (goalS xs)) ys (goal_from xs) (min ys.length 16) (by omega)).2 e he
 omega
/-! valid events as a context -/
theorem valid_parts {l : List Event} (h : validE l = true) : (l.length : Int) ≤ 120 ∧ (∀ e ∈ l, formB e = true) ∧ StrE l ∧ l.Pairwise noDup := by
 unfold validE at h
 simp only [Bool.and_eq_true, decide_eq_true_eq] at h
 obtain ⟨h1, h2⟩ := h
 rw [ord_iff] at h2
 exact ⟨h1, h2.1, h2.2.1, h2.2.2⟩
theorem ctx_of {l : List Event} {now image : Int} (hv : validE l = true) (h1 : ∀ e ∈ l, e.at_ < now) (h2 : ∀ e ∈ l, e.image < image) : CtxO l now image := by
 obtain ⟨_, a, b, _⟩ := valid_parts hv
 exact ⟨b, a, fun e he _ => h1 e he, fun e he => by have := h1 e he; omega, h2⟩
end Go.SX

namespace Go.SX
open Go.Proofs
set_option maxHeartbeats 4000000
set_option maxRecDepth 100000
theorem fold_ge : ∀ (l : List Event) (m : Int), m ≤ l.foldl (fun m e => max m (e.image + 1)) m ∧ ∀ e ∈ l, e.image < l.foldl (fun m e => max m (e.image + 1)) m
 | [], m => ⟨Int.le_refl _, fun e he => (by cases he)⟩
 | x :: l, m => by
  obtain ⟨h1, h2⟩ := fold_ge l (max m (x.image + 1))
  rw [List.foldl_cons]
  refine ⟨by omega, fun e he => ?_⟩
  rcases List.mem_cons.1 he with rfl | he
  ·omega
  ·exact h2 e he
theorem next_gt (l : List Event) : ∀ e ∈ l, e.image < nextI l := by
 intro e he
 unfold nextI nextN
 rw [List.take_length]
 exact (fold_ge l 0).2 e he
theorem next_bd {l : List Event} (h : validE l = true) : 0 ≤ nextI l ∧ nextI l ≤ 1000 := nextN_bd (valid_image h) l.length (Nat.le_refl _)
/-- what Finish asks for -/
structure AskF (g : Goal) (l : List Event) (now : Int) : Prop where
 ctx : CtxO l now (nextI l)
 now : 0 ≤ now ∧ now ≤ 1000000
 goal : validG g = true
 evs : validE l = true
theorem okF_ask {g : Goal} {l : List Event} {now : Int} (h : okF g l now = true) : AskF g l now := by
 unfold okF at h
 simp only [Bool.and_eq_true, Bool.not_eq_true'] at h
 obtain ⟨⟨⟨h1, h2⟩, h3⟩, h4⟩ := h
 rw [inB_iff] at h2
 rw [List.any_eq_false] at h1
 refine ⟨ctx_of h4 (fun e he => ?_) (next_gt l), h2, h3, h4⟩
 have := h1 e he
 unfold lateB at this
 simp only [Bool.or_eq_true, decide_eq_true_eq] at this
 omega
def finA (g : Goal) (l : List Event) (now : Int) : Option (List Event) := finG g l now (nextI l)
theorem valid_twelve {g : Goal} (h : validG g = true) : ∃ n, sizeG g 1 = some n ∧ n ≤ 12 := by
 unfold validG at h
 split at h
 ·cases h
 ·rename_i n hn
  exact ⟨n, hn, by simpa using h⟩
theorem tfin (g : Goal) (hG : GAll g) (l : List Event) (hl : (l.length : Int) ≤ 9223372036854775807) (hE : ∀ e ∈ l, ELen e) (now : Int) :
  Meets Tryz.prog Dc 27 [goalA g, eS l, iS now] [] (if okF g l now then .tuple [eS ((finA g l now).getD []), bS (finA g l now).isSome, iS 0] else .tuple [eS [], bS false, iS 150]) [] := by
 refine tFinish g hG l hl hE now (finA g l now) fun h => ?_
 obtain ⟨a, b, c, d⟩ := okF_ask h
 obtain ⟨n, hn, hn12⟩ := valid_twelve c
 have := next_bd d
 exact tfin_meets 4 g 1 n (by omega) (by omega) hn hn12 hG l now (nextI l) a (valid_parts d).1 (by omega) b
theorem tdoom (g : Goal) (hG : GAll g) (l : List Event) (hl : (l.length : Int) ≤ 9223372036854775807) (hE : ∀ e ∈ l, ELen e) (now : Int) :
  Meets Tryz.prog Dc 25 [goalA g, eS l, iS now] [] (.tuple [bS (okF g l now && (finA g l now).isNone), iS (if okF g l now then 0 else 150)]) [] := by
 have h := tfin g hG l hl hE now
 cases hok : okF g l now with
 | false =>
  rw [hok, if_neg (by simp)] at h
  exact tDoomed g l now [] false 150 h
 | true =>
  rw [hok, if_pos rfl] at h
  have := tDoomed g l now _ _ 0 h
  rw [if_pos rfl]
  have e : (true && (finA g l now).isNone) = (decide ((0 : Int) = 0) && !(finA g l now).isSome) := by cases finA g l now <;> rfl
  rw [e]
  exact this
/-! what Finish and Doomed say -/
theorem rshot2 (g : Goal) (hr : (g.rows.length : Int) ≤ 1000) (at_ image look : Int) : Meets Tryz.prog Dc 56 [goalA g, iS at_, iS image, iS look] [] (.agg [iS 1, iS at_, iS image, .slice 0 0 1 0 g.rows.length, iS g.low, iS look, bS true]) [.rows U.int g.rows] := by
 refine meets_of_gx Ax tab_ok Tryz.func56 (c := _) rfl Tryz.call56 400 ?_
 (repeat' ((conv => whnf); first | (refine end_fn [some 3] (.inr rfl) ?_ ?_ rfl rfl; (focus exact vwV); exact hsV) | refine taC ?_ | refine saC ?_ | refine drawX_of mixed ?_))
theorem ropen (l : List Event) (e : Event) (within now : Int) (hl : (l.length : Int) ≤ 1000000) (hE : ∀ e ∈ l, I64d e) (he : I64d e) (hw : 0 ≤ within ∧ within ≤ 1000000) : Meets Tryz.prog Dc 78 [eS l, evA e, iS within, iS now] [] (bS (openB l within now e)) [] := by
 have h := rdelivered l e within hl hE he hw
 unfold I64d at he
 unfold openB
 generalize delB l e within = b at *
 refine meets_of_gx Ax tab_ok Tryz.func78 (c := _) rfl Tryz.call78 100 ?_
 (repeat' ((conv => whnf); first | refine x0C (eB ?_ rfl) | refine cpC (h) ?_ | refine spC (fun hb => ?_) fun hb => ?_ | refine saC ?_))
 all_goals clear h
 all_goals (first | (simp_all []; done) | (simp_all []; omega) | (simp_all []; grind))
theorem rdel (a b : Int) : Meets Tryz.prog Dc 79 [iS a, iS b] [] (evA (delT a b)) [] := by
 refine meets_of_gx Ax tab_ok Tryz.func79 (c := _) rfl Tryz.call79 100 ?_
 (repeat' ((conv => whnf); first | refine x0C ?_))
 all_goals exact vwV
theorem rshotP (g : Goal) (hr : (g.rows.length : Int) ≤ 1000) (at_ image look : Int) : Meets Tryz.prog Dc 56 [goalA g, iS at_, iS image, iS look] [] (evA (shotE g at_ image look)) [] := by
 refine meets_of_gx Ax tab_ok Tryz.func56 (c := _) rfl Tryz.call56 400 ?_
 (repeat' ((conv => whnf); first | refine x0C ?_ | refine taC ?_ | refine saC ?_ | refine drawX_of mixed ?_))
 all_goals exact vwV
theorem rfin_met (g : Goal) (l : List Event) (now image : Int) (p : Int) (im : List Int) (hm : meanG g l = some (p, im)) (hs : Meets Tryz.prog Dc 39 [goalA g, eS l] [] (meanR (meanG g l)) []) : Meets Tryz.prog Dc 52 [goalA g, eS l, iS now, iS image] [] (finR (finG g l now image)) [] := by
 rw [finG_eq, hm]
 rw [hm] at hs
 refine meets_of_gx Ax tab_ok Tryz.func52 (c := _) rfl Tryz.call52 300 ?_
 (repeat' ((conv => whnf); first | refine cpC (hs) ?_ | refine x0C ?_))
 all_goals exact vwV
theorem rfin_see (g : Goal) (hk : g.kind = 1) (hr : (g.rows.length : Int) ≤ 1000) (l : List Event) (now image : Int) (hm : meanG g l = none) (hs : Meets Tryz.prog Dc 39 [goalA g, eS l] [] (meanR (meanG g l)) []) : Meets Tryz.prog Dc 52 [goalA g, eS l, iS now, iS image] [] (finR (finG g l now image)) [] := by
 rw [finG_eq, hm, if_neg (by simp), if_pos hk]
 rw [hm] at hs
 unfold finSee
 by_cases hlt : max now g.from_ < g.to_
 ·rw [if_pos hlt]
  have ha := rshotP g hr (max now g.from_) image 0
  refine meets_of_gx Ax tab_ok Tryz.func52 (c := _) rfl Tryz.call52 300 ?_
  (repeat' ((conv => whnf); first | (exfalso; omega) | refine cpC (hs) ?_ | refine cpC (ha) ?_ | refine x0C ?_ | refine spC (fun hb => ?_) fun hb => ?_ | refine saC ?_))
  all_goals exact vwV
 ·rw [if_neg hlt]
  refine meets_of_gx Ax tab_ok Tryz.func52 (c := _) rfl Tryz.call52 300 ?_
  (repeat' ((conv => whnf); first | (exfalso; omega) | refine cpC (hs) ?_ | refine x0C ?_ | refine spC (fun hb => ?_) fun hb => ?_))
  all_goals exact vwV
theorem rfin_pair (g : Goal) (hk : g.kind = 2) (h1 : (g.kids.length : Int) = 1) (hr : ((kid0 g.kids).rows.length : Int) ≤ 1000) (l : List Event) (now image : Int) (hi : 0 ≤ image ∧ image ≤ 900000) (hm : meanG g l = none) (hs : Meets Tryz.prog Dc 39 [goalA g, eS l] [] (meanR (meanG g l)) []) : Meets Tryz.prog Dc 52 [goalA g, eS l, iS now, iS image] [] (finR (finG g l now image)) [] := by
 rw [finG_eq, hm, if_neg (by simp), if_neg (by omega), if_pos hk]
 rw [hm] at hs
 unfold finPair
 obtain ⟨kid, hkid⟩ : ∃ kid, kid = kid0 g.kids := ⟨_, rfl⟩
 rw [← hkid] at hr ⊢
 have hka : kid = g.kids.getD (Int.toNat 0) (Cd.dflt U.goal) := hkid
 by_cases hlt : max now kid.from_ < kid.to_
 ·rw [if_pos hlt]
  have ha1 := rshotP kid hr (max now kid.from_) image (-4)
  have ha2 := rshotP kid hr (max now kid.from_) (image + 1) 4
  rw [hka] at ha1 ha2 hlt ⊢
  refine meets_of_gx Ax tab_ok Tryz.func52 (c := _) rfl Tryz.call52 500 ?_
  (repeat' ((conv => whnf); first | (exfalso; omega) | refine cpC (hs) ?_ | refine dpC (ha1) ?_ | refine dpC (ha2) ?_ | refine x0C ?_ | refine spC (fun hb => ?_) fun hb => ?_ | refine taC ?_ | refine saC ?_ | refine drawX_of mixed ?_))
  all_goals exact vwV
 ·rw [if_neg hlt]
  rw [hka] at hlt
  refine meets_of_gx Ax tab_ok Tryz.func52 (c := _) rfl Tryz.call52 500 ?_
  (repeat' ((conv => whnf); first | (exfalso; omega) | refine cpC (hs) ?_ | refine x0C ?_ | refine spC (fun hb => ?_) fun hb => ?_ | refine saC ?_))
  all_goals exact vwV
theorem rfin_every (g : Goal) (hk : g.kind = 3) (l : List Event) (now image : Int) (hm : meanG g l = none) (hs : Meets Tryz.prog Dc 39 [goalA g, eS l] [] (meanR (meanG g l)) []) (hg : Meets Tryz.prog Dc 77 [goalA g, eS l, iS now, iS image] [] (finR (finEvery g l now image)) []) : Meets Tryz.prog Dc 52 [goalA g, eS l, iS now, iS image] [] (finR (finG g l now image)) [] := by
 rw [finG_eq, hm, if_neg (by simp), if_neg (by omega), if_neg (by omega), if_pos hk]
 rw [hm] at hs
 rw [finR_cases] at hg ⊢
 refine meets_of_gx Ax tab_ok Tryz.func52 (c := _) rfl Tryz.call52 500 ?_
 (repeat' ((conv => whnf); first | (exfalso; omega) | refine cpC (hs) ?_ | refine cpC (hg) ?_ | refine x0C ?_ | refine spC (fun hb => ?_) fun hb => ?_))
 all_goals exact vwV
end Go.SX
