/-
  Plain: both readers read the same goals, orders and texts.
-/
import Derived.Test.YtijedffphgckmaaGreatDoorSxOr4
import Derived.Test.YtijedffphgckmaaGreatDoorSxUb0
import Derived.Test.YtijedffphgckmaaGreatDoorSxUb9
set_option linter.unusedVariables false
set_option linter.unusedSimpArgs false
namespace Go.SX
theorem sim_areafrom {β : Type} (ws : List Wd) {R : List Int → Int → Int → Rs β} {RX : List Int → XP β} (hR : ∀ rows, SimP ws (R rows) (RX rows)) (hS : ∀ rows, Stay (RX rows)) : SimP ws (fun a m => (areaP ws 1200 0 0 (List.replicate 24 0) a m).bind fun rows a m => (mustW ws [w_from] a m).bind fun _ a m => R rows a m) (fun a w m => (xRuns ws a w m).bind fun rows a w m => (xMust ws [w_from] a w m).bind fun _ a w m => RX rows a w m) := fun a m h0 h1 => by
 have hA := sim_area ws 1199 0 (-2) (List.replicate 24 0) a m h0 h1 (by omega) (by omega) (by omega) (by omega) (by omega) (.inr (by omega))
 have hX : xRuns ws a false m = xBody ws 1199 0 (-2) (List.replicate 24 0) a false m := by
  unfold xRuns
  rw [runs_succ, if_pos (by simp)]
 have hF := fun rows => sim_bind (sim_must ws [w_from] (by decide)) (fun _ : Unit => hR rows) (fun _ => hS rows)
 have hFS : ∀ rows, Stay (fun a w m => (xMust ws [w_from] a w m).bind fun _ a w m => RX rows a w m) := fun rows => stay_bind (stay_must ws _) fun _ => hS rows
 dsimp only
 rw [hX]
 generalize xBody ws 1199 0 (-2) (List.replicate 24 0) a false m = X at hA
 rw [show (-2 : Int) + 2 = 0 from rfl] at hA
 cases hp : areaP ws 1200 0 0 (List.replicate 24 0) a m with
 | no b k =>
  rw [show areaP ws (1199 + 1) 0 0 (List.replicate 24 0) a m = areaP ws 1200 0 0 (List.replicate 24 0) a m from rfl, hp] at hA
  have hA : X.2.1 = b ∧ X.2.2.1 = true := hA
  constructor
  ·show ((xMust ws [w_from] X.2.1 X.2.2.1 X.2.2.2).bind fun _ a w m => RX X.1 a w m).2.1 = b ∧ ((xMust ws [w_from] X.2.1 X.2.2.1 X.2.2.2).bind fun _ a w m => RX X.1 a w m).2.2.1 = true
   rw [hA.1, hA.2]
   exact hFS X.1 b _
  ·intro v b' k' e; cases e
 | ok rows b k =>
  rw [show areaP ws (1199 + 1) 0 0 (List.replicate 24 0) a m = areaP ws 1200 0 0 (List.replicate 24 0) a m from rfl, hp] at hA
  obtain ⟨hA, g0, g1⟩ := hA
  rcases hA with ⟨hA, hne⟩ | ⟨hpk, hA1, hA2⟩
  ·rw [hA]
   exact hF rows b k g0 g1
  ·have hno : mustW ws [w_from] b k = .no b k := by rw [mustW, hpk, if_neg (by decide)]
   show Sim ((mustW ws [w_from] b k).bind fun _ a m => R rows a m) _ ∧ _
   rw [hno]
   constructor
   ·show ((xMust ws [w_from] X.2.1 X.2.2.1 X.2.2.2).bind fun _ a w m => RX X.1 a w m).2.1 = b ∧ ((xMust ws [w_from] X.2.1 X.2.2.1 X.2.2.2).bind fun _ a w m => RX X.1 a w m).2.2.1 = true
    rw [hA1, hA2]
    exact hFS X.1 b _
   ·intro v b' k' e
    have e : (mustW ws [w_from] b k).bind (fun _ a m => R rows a m) = .ok v b' k' := e
    rw [hno] at e; cases e
/-- alike, as long as q holds; and what is wrong stays so -/
structure SPQ {α : Type} (q : Prop) (ws : List Wd) (P : Int → Int → Rs α) (X : XP α) : Prop where
 sim : q → SimP ws P X
 stay : Stay X
theorem sp_ret {α : Type} {q : Prop} {ws : List Wd} (v : α) : SPQ q ws (fun a m => .ok v a m) (fun a w m => (v, a, w, m)) := ⟨fun _ => sim_ret v, stay_ret v⟩
theorem sp_must {β : Type} {q : Prop} {ws : List Wd} {k : Unit → Int → Int → Rs β} {K : Unit → XP β} (l : List Wd) (hl : ∀ s ∈ l, s ≠ [32]) (hK : ∀ v, SPQ q ws (k v) (K v)) : SPQ q ws (fun a m => (mustW ws l a m).bind (k · · ·)) (fun a w m => (xMust ws l a w m).bind K) :=
 ⟨fun h => sim_bind (sim_must ws l hl) (fun v => (hK v).sim h) (fun v => (hK v).stay), stay_bind (stay_must ws l) fun v => (hK v).stay⟩
theorem sp_num {β : Type} {q : Prop} {ws : List Wd} {k : Int → Int → Int → Rs β} {K : Int → XP β} {lo hi : Int} (hb : q → 0 ≤ lo ∧ hi < 10000000000) (hK : ∀ v, SPQ (q ∧ lo ≤ v ∧ v ≤ hi) ws (k v) (K v)) : SPQ q ws (fun a m => (numP ws lo hi a m).bind (k · · ·)) (fun a w m => (xNum ws lo hi a w m).bind K) :=
 ⟨fun h => sim_bindQ (fun v => lo ≤ v ∧ v ≤ hi) (sim_num ws (hb h).1 (hb h).2) (fun _ _ _ _ _ e => num_bd e) (fun v hv => (hK v).sim ⟨h, hv⟩) (fun v => (hK v).stay), stay_bind (stay_num ws _ _) fun v => (hK v).stay⟩
theorem sp_word {β : Type} {q : Prop} {ws : List Wd} {k : Bool → Int → Int → Rs β} {K : Bool → XP β} {s t : Wd} (hs : s ≠ [32]) (ht : t ≠ [32]) (hK : ∀ v, SPQ q ws (k v) (K v)) : SPQ q ws (fun a m => (wordP ws s t a m).bind (k · · ·)) (fun a w m => (xWord ws s t a w m).bind K) :=
 ⟨fun h => sim_bind (sim_word ws hs ht) (fun v => (hK v).sim h) (fun v => (hK v).stay), stay_bind (stay_word ws s t) fun v => (hK v).stay⟩
theorem sp_sub {α β : Type} {q : Prop} {ws : List Wd} {P : Int → Int → Rs α} {X : XP α} {k : α → Int → Int → Rs β} {K : α → XP β} (hP : SPQ q ws P X) (hK : ∀ v, SPQ q ws (k v) (K v)) : SPQ q ws (fun a m => (P a m).bind (k · · ·)) (fun a w m => (X a w m).bind K) :=
 ⟨fun h => sim_bind (hP.sim h) (fun v => (hK v).sim h) (fun v => (hK v).stay), stay_bind hP.stay fun v => (hK v).stay⟩
theorem sp_area {β : Type} {q : Prop} {ws : List Wd} {R : List Int → Int → Int → Rs β} {RX : List Int → XP β} (hR : ∀ rows, SPQ q ws (R rows) (RX rows)) : SPQ q ws (fun a m => (areaP ws 1200 0 0 (List.replicate 24 0) a m).bind fun rows a m => (mustW ws [w_from] a m).bind fun _ a m => R rows a m) (fun a w m => (xRuns ws a w m).bind fun rows a w m => (xMust ws [w_from] a w m).bind fun _ a w m => RX rows a w m) :=
 ⟨fun h => sim_areafrom ws (fun rows => (hR rows).sim h) (fun rows => (hR rows).stay), stay_bind (stay_runs ws _ _ _ _) fun rows => stay_bind (stay_must ws _) fun _ => (hR rows).stay⟩
theorem sp_see (ws : List Wd) : SPQ True ws (seeP ws) (xSee ws) := by
 show SPQ True ws (fun a m => seeP ws a m) (fun a w m => xSee ws a w m)
 unfold seeP xSee
 refine sp_area fun rows => sp_num (fun _ => by omega) fun f => sp_must [w_to] (by decide) fun _ => sp_num (fun h => by omega) fun t => ?_
 refine sp_must [w_sun] (by decide) fun _ => sp_num (fun _ => by omega) fun lo => sp_must [w_to] (by decide) fun _ => sp_num (fun h => by omega) fun hi => ?_
 exact sp_word (by decide) (by decide) fun c => sp_ret _
theorem sp_pair {q : Prop} {ws : List Wd} {sub : Int → Int → Rs Goal} {X : XP Goal} (h : SPQ q ws sub X) : SPQ q ws (pairP ws sub) (xPair ws X) := by
 show SPQ q ws (fun a m => pairP ws sub a m) (fun a w m => xPair ws X a w m)
 unfold pairP xPair
 refine sp_must [w_looks] (by decide) fun _ => sp_num (fun _ => by omega) fun lo => sp_must [w_within] (by decide) fun _ => sp_num (fun h => by omega) fun t => ?_
 exact sp_must [w_of] (by decide) fun _ => sp_sub ⟨fun h' => h.sim h'.1.1, h.stay⟩ fun k => sp_ret _
theorem sp_every {q : Prop} {ws : List Wd} {sub : Int → Int → Rs Goal} {X : XP Goal} (h : SPQ q ws sub X) : SPQ q ws (everyP ws sub) (xEvery ws X) := by
 show SPQ q ws (fun a m => everyP ws sub a m) (fun a w m => xEvery ws X a w m)
 unfold everyP xEvery
 refine sp_num (fun _ => by omega) fun d => sp_must [w_days] (by decide) fun _ => sp_num (fun h => by omega) fun t => ?_
 refine sp_must [w_times, w_apart] (by decide) fun _ => sp_num (fun h => by omega) fun wi => sp_must [w_from] (by decide) fun _ => sp_num (fun h => by omega) fun f => ?_
 exact sp_must [w_of] (by decide) fun _ => sp_sub ⟨fun h' => h.sim h'.1.1.1.1, h.stay⟩ fun k => sp_ret _
theorem sp_del {q : Prop} {ws : List Wd} {sub : Int → Int → Rs Goal} {X : XP Goal} (h : SPQ q ws sub X) : SPQ q ws (delP ws sub) (xDel ws X) := by
 show SPQ q ws (fun a m => delP ws sub a m) (fun a w m => xDel ws X a w m)
 unfold delP xDel
 refine sp_must [w_within] (by decide) fun _ => sp_num (fun h => by omega) fun t => ?_
 exact sp_must [w_of] (by decide) fun _ => sp_sub ⟨fun h' => h.sim h'.1, h.stay⟩ fun k => sp_ret _
/-! parts -/
def mkL (k : Int) (r : List Int × List Goal) : Goal := ⟨k, [], 0, 0, 0, 0, false, 0, 0, 0, r.1, r.2⟩
def mapX {α β : Type} (f : α → β) (X : XP α) : XP β := fun a w m => (X a w m).bind fun v a w m => (f v, a, w, m)
theorem stay_partsL (ws : List Wd) (X : XP Goal) (k : Int) : ∀ (n : Nat) (cents : List Int) (kids : List Goal), Stay (xPartsL ws X k n cents kids)
 | 0, cents, kids => stay_ret _
 | n + 1, cents, kids => fun a m => by
  have e : xPartsL ws X k (n + 1) cents kids a true m = ((cents, kids), a, true, m) := by rw [xPartsL]; simp
  rw [e]
  exact ⟨rfl, rfl⟩
theorem stay_map {α β : Type} (f : α → β) {X : XP α} (h : Stay X) : Stay (mapX f X) := stay_bind h fun v => stay_ret _
theorem sim_partsL (ws : List Wd) {sub : Int → Int → Rs Goal} {X : XP Goal} (h : SPQ True ws sub X) (k : Int) : ∀ (n : Nat) (cents : List Int) (kids : List Goal), kids.length ≤ 3 → kids.length + n = 5 → SimP ws (partsP ws sub k n cents kids) (mapX (mkL k) (xPartsL ws X k n cents kids))
 | 0, cents, kids, hk, hn => by omega
 | n + 1, cents, kids, hk, hn => by
  -- behind a part
  have tail : ∀ (cents : List Int) (g : Goal), SPQ True ws (fun a m => if 1 < kids.length + 1 then
     if peekW ws a = w_close then .ok ⟨k, [], 0, 0, 0, 0, false, 0, 0, 0, cents, kids ++ [g]⟩ (a + 1) m
     else if kids.length + 1 = 4 ∨ m = 0 then .no a m
     else (mustW ws [w_comma] a (m - 1)).bind fun _ a m => partsP ws sub k n cents (kids ++ [g]) a m
    else (mustW ws [w_comma] a m).bind fun _ a m => partsP ws sub k n cents (kids ++ [g]) a m)
    (fun a w m => (if kids.length + 1 = 1 then (xMust ws [w_comma] a w m).bind fun _ a w m => xPartsL ws X k n cents (kids ++ [g]) a w m
     else (xIs ws w_close a w m).bind fun b a w m =>
     if b then ((cents, kids ++ [g]), a, w, m)
     else if kids.length + 1 = 4 ∨ m = 0 then ((cents, kids ++ [g]), a, true, m)
     else (xMust ws [w_comma] a w (m - 1)).bind fun _ a w m => xPartsL ws X k n cents (kids ++ [g]) a w m).bind fun v a w m => (mkL k v, a, w, m)) := fun cents g => by
   have rec1 : SPQ True ws (fun a m => (mustW ws [w_comma] a m).bind fun _ a m => partsP ws sub k n cents (kids ++ [g]) a m) (fun a w m => ((xMust ws [w_comma] a w m).bind fun _ a w m => xPartsL ws X k n cents (kids ++ [g]) a w m).bind fun v a w m => (mkL k v, a, w, m)) ∨ kids.length = 3 := by
    by_cases h3 : kids.length = 3
    ·exact .inr h3
    ·exact .inl (sp_must (K := fun _ => mapX (mkL k) (xPartsL ws X k n cents (kids ++ [g]))) [w_comma] (by decide) fun _ => ⟨fun _ => sim_partsL ws h k n cents (kids ++ [g]) (by simp; omega) (by simp; omega), stay_map _ (stay_partsL ws X k n _ _)⟩)
   have rst : Stay (fun a w m => ((xMust ws [w_comma] a w m).bind fun _ a w m => xPartsL ws X k n cents (kids ++ [g]) a w m).bind fun v a w m => (mkL k v, a, w, m)) := stay_bind (stay_bind (stay_must ws _) fun _ => stay_partsL ws X k n _ _) fun v => stay_ret _
   by_cases h1 : kids.length + 1 = 1
   ·have hn1 : ¬ 1 < kids.length + 1 := by omega
    simp only [if_neg hn1, if_pos h1]
    rcases rec1 with r | r
    ·exact r
    ·omega
   ·have hn1 : 1 < kids.length + 1 := by omega
    simp only [if_pos hn1, if_neg h1]
    constructor
    ·intro _ a m h0 h1'
     unfold xIs
     simp only
     rw [next_peek (by decide) h0 h1']
     by_cases hp : peekW ws a = w_close
     ·have := peek_in (by decide) h1' hp
      rw [if_pos hp, decide_eq_true hp]
      exact ⟨rfl, fun v b k' e => by injection e with _ e _; subst e; omega⟩
     ·rw [if_neg hp, decide_eq_false hp]
      by_cases hc : kids.length + 1 = 4 ∨ m = 0
      ·rw [if_pos hc]
       show Sim _ ((if kids.length + 1 = 4 ∨ m = 0 then ((cents, kids ++ [g]), a, true, m) else _ : Xr (List Int × List Goal)).bind fun v a w m => (mkL k v, a, w, m)) ∧ _
       rw [if_pos hc]
       exact ⟨⟨rfl, rfl⟩, fun v b k' e => by cases e⟩
      ·rw [if_neg hc]
       show Sim _ ((if kids.length + 1 = 4 ∨ m = 0 then ((cents, kids ++ [g]), a, true, m) else (xMust ws [w_comma] a false (m - 1)).bind fun _ a w m => xPartsL ws X k n cents (kids ++ [g]) a w m : Xr (List Int × List Goal)).bind fun v a w m => (mkL k v, a, w, m)) ∧ _
       rw [if_neg hc]
       rcases rec1 with r | r
       ·exact r.sim trivial a (m - 1) h0 h1'
       ·omega
    ·intro a m
     unfold xIs
     simp only
     rw [next_wrong]
     by_cases hc : kids.length + 1 = 4 ∨ m = 0
     ·show ((if kids.length + 1 = 4 ∨ m = 0 then ((cents, kids ++ [g]), a, true, m) else (xMust ws [w_comma] a true (m - 1)).bind fun _ a w m => xPartsL ws X k n cents (kids ++ [g]) a w m : Xr (List Int × List Goal)).bind fun v a w m => (mkL k v, a, w, m)).2.1 = a ∧ ((if kids.length + 1 = 4 ∨ m = 0 then ((cents, kids ++ [g]), a, true, m) else (xMust ws [w_comma] a true (m - 1)).bind fun _ a w m => xPartsL ws X k n cents (kids ++ [g]) a w m : Xr (List Int × List Goal)).bind fun v a w m => (mkL k v, a, w, m)).2.2.1 = true
      rw [if_pos hc]
      exact ⟨rfl, rfl⟩
     ·show ((if kids.length + 1 = 4 ∨ m = 0 then ((cents, kids ++ [g]), a, true, m) else (xMust ws [w_comma] a true (m - 1)).bind fun _ a w m => xPartsL ws X k n cents (kids ++ [g]) a w m : Xr (List Int × List Goal)).bind fun v a w m => (mkL k v, a, w, m)).2.1 = a ∧ ((if kids.length + 1 = 4 ∨ m = 0 then ((cents, kids ++ [g]), a, true, m) else (xMust ws [w_comma] a true (m - 1)).bind fun _ a w m => xPartsL ws X k n cents (kids ++ [g]) a w m : Xr (List Int × List Goal)).bind fun v a w m => (mkL k v, a, w, m)).2.2.1 = true
      rw [if_neg hc]
      exact rst a (m - 1)
  have hc : SPQ True ws (fun a m => (if k = 6 then (numP ws 0 1000000000 a m).bind fun c a m => .ok (cents ++ [c]) a m else .ok cents a m : Rs (List Int))) (fun a w m => (if k = 6 then fun a w m => (xNum ws 0 1000000000 a w m).bind fun c a w m => (cents ++ [c], a, w, m) else fun a w m => (cents, a, w, m) : XP (List Int)) a w m) := by
   by_cases hk6 : k = 6
   ·simp only [if_pos hk6]; exact sp_num (fun _ => by omega) fun c => sp_ret _
   ·simp only [if_neg hk6]; exact sp_ret _
  have all := (sp_sub hc fun cents => sp_sub h fun g => tail cents g).sim trivial
  intro a m h0 h1
  have := all a m h0 h1
  rw [partsP]
  exact this
theorem sp_list {q : Prop} (ws : List Wd) {sub : Int → Int → Rs Goal} {X : XP Goal} (h : SPQ q ws sub X) (k : Int) : SPQ q ws (listP ws sub k) (xList ws X k) :=
 sp_must (K := fun _ => mapX (mkL k) (xPartsL ws X k 5 [] [])) [w_open] (by decide) fun _ => ⟨fun hq => sim_partsL ws ⟨fun _ => h.sim hq, h.stay⟩ k 5 [] [] (by simp) rfl, stay_map _ (stay_partsL ws X k 5 _ _)⟩
theorem need_wrong (ws : List Wd) (s : Wd) (g d a m : Int) : xNeed ws s g d a true m = (false, a, true, m) := by unfold xNeed; rw [next_wrong]; rfl
theorem stay_goal (ws : List Wd) : ∀ (f : Nat) (most d : Int), Stay (xGoal ws f most d)
 | 0, most, d => fun a m => ⟨rfl, rfl⟩
 | f + 1, most, d => fun a m => by
  rw [xGoal]
  simp only [need_wrong]
  simp
theorem need_no {ws : List Wd} {s : Wd} (hs : s ≠ [32]) {g d a m : Int} (h0 : 0 ≤ a) (h1 : a ≤ ws.length) (hp : peekW ws a ≠ s) : xNeed ws s g d a false m = (false, a, false, m) := by
 unfold xNeed; rw [next_peek hs h0 h1, decide_eq_false hp]; rfl
theorem need_yes {ws : List Wd} {s : Wd} (hs : s ≠ [32]) {g d a m : Int} (h0 : 0 ≤ a) (h1 : a ≤ ws.length) (hp : peekW ws a = s) : xNeed ws s g d a false m = if m < g ∨ (0 < g ∧ 4 ≤ d) then (true, a, true, m) else (true, a + 1, false, m - g) := by
 unfold xNeed; rw [next_peek hs h0 h1, decide_eq_true hp, if_pos rfl]
theorem need_bind_no {β : Type} {ws : List Wd} {s : Wd} (hs : s ≠ [32]) {g d a m : Int} (h0 : 0 ≤ a) (h1 : a ≤ ws.length) : (xNeed ws s g d a false m).1 = decide (peekW ws a = s) := by
 by_cases hp : peekW ws a = s
 ·rw [need_yes hs h0 h1 hp, decide_eq_true hp]; split <;> rfl
 ·rw [need_no hs h0 h1 hp, decide_eq_false hp]
theorem sim_goal (ws : List Wd) : ∀ (f : Nat) (of_ most d : Int), 1 ≤ f → (f : Int) + d = 5 → most = lastK of_ → SimP ws (goalP ws f of_ d) (xGoal ws (f + 1) most d)
 | 0, of_, most, d, h1f, hfd, hm => by omega
 | f + 1, of_, most, d, h1f, hfd, hm => fun a m h0 h1 => by
  have ih : ∀ o : Int, SPQ (1 ≤ f) ws (goalP ws f o (d + 1)) (xGoal ws (f + 1) (lastK o) (d + 1)) := fun o => ⟨fun hf => sim_goal ws f o _ (d + 1) hf (by omega) rfl, stay_goal ws _ _ _⟩
  have ws1 := sp_see ws
  have ws2 := sp_pair (ih 2)
  have ws3 := sp_every (ih 3)
  have ws4 := sp_del (ih 4)
  have ws5 := sp_list ws (ih 5) 5
  have ws6 := sp_list ws (ih 6) 6
  -- a form that fits
  have go : ∀ (q : Prop) (s : Wd) (k g : Int) (P : Int → Int → Rs Goal) (X : XP Goal), s ≠ [32] → SPQ q ws P X → (¬ (0 < g ∧ 4 ≤ d) → q) → peekW ws a = s → ¬ lastK of_ < k →
    (Sim (if lastK of_ < k ∨ m < g ∨ (0 < g ∧ d = 4) then .no a m else P (a + 1) (m - g)) ((xNeed ws s g d a false m).bind fun _ => X) ∧ ∀ v b n, (if lastK of_ < k ∨ m < g ∨ (0 < g ∧ d = 4) then .no a m else P (a + 1) (m - g) : Rs Goal) = .ok v b n → 0 ≤ b ∧ b ≤ ws.length) := by
   intro q s k g P X hs hPX hq hp hk
   have hin := peek_in hs h1 hp
   rw [need_yes hs h0 h1 hp]
   by_cases hc : m < g ∨ (0 < g ∧ 4 ≤ d)
   ·rw [if_pos (show lastK of_ < k ∨ m < g ∨ (0 < g ∧ d = 4) by omega), if_pos hc]
    exact ⟨hPX.stay a m, fun v b n e => by cases e⟩
   ·rw [if_neg (show ¬ (lastK of_ < k ∨ m < g ∨ (0 < g ∧ d = 4)) by omega), if_neg hc]
    exact hPX.sim (hq (fun h => hc (.inr h))) (a + 1) (m - g) (by omega) (by omega)
  have hq : ∀ g : Int, 0 < g → ¬ (0 < g ∧ 4 ≤ d) → 1 ≤ f := fun g hg h => by omega
  have none_fits : ∀ k g : Int, lastK of_ < k → (Sim (if lastK of_ < k ∨ m < g ∨ (0 < g ∧ d = 4) then .no a m else .no a m : Rs Goal) ((zeroG, a, true, m) : Xr Goal)) := fun k g h => by
   rw [if_pos (.inl h)]; exact ⟨rfl, rfl⟩
  rw [goalP, xGoal]
  simp only [need_bind_no (β := Unit) (s := w_see) (by decide) h0 h1, need_bind_no (β := Unit) (s := w_pair) (by decide) h0 h1, need_bind_no (β := Unit) (s := w_every) (by decide) h0 h1, need_bind_no (β := Unit) (s := w_deliver) (by decide) h0 h1, need_bind_no (β := Unit) (s := w_all) (by decide) h0 h1, need_bind_no (β := Unit) (s := w_any) (by decide) h0 h1, decide_eq_true_eq]
  rw [hm]
  have l2 : lastK 2 = 1 := rfl
  have l3 : lastK 3 = 1 := rfl
  have l4 : lastK 4 = 3 := rfl
  have l5 : lastK 5 = 6 := rfl
  have l6 : lastK 6 = 6 := rfl
  rw [l2] at ws2
  rw [l3] at ws3
  rw [l4] at ws4
  rw [l5] at ws5
  rw [l6] at ws6
  have hlk : 1 ≤ lastK of_ := by unfold lastK; split; omega; split <;> omega
  by_cases p1 : peekW ws a = w_see
  ·rw [if_pos p1, p1]
   exact go True w_see 1 0 _ _ (by decide) ws1 (fun _ => trivial) p1 (by omega)
  rw [if_neg p1]
  by_cases p2 : peekW ws a = w_pair
  ·rw [p2]
   by_cases hk : (2 : Int) ≤ lastK of_
   ·rw [if_pos ⟨hk, rfl⟩]
    exact go _ w_pair 2 1 _ _ (by decide) ws2 (hq 1 (by omega)) p2 (by omega)
   ·rw [if_neg (fun h => hk h.1), if_neg (fun h => absurd h.2 (by decide)), if_neg (fun h => absurd h.2 (by decide)), if_neg (fun h => absurd h.2 (by decide)), if_neg (fun h => absurd h.2 (by decide))]
    show Sim (if lastK of_ < 2 ∨ m < 1 ∨ (0 < (1 : Int) ∧ d = 4) then .no a m else _ : Rs Goal) ((zeroG, a, true, m) : Xr Goal) ∧ ∀ v b n, (if lastK of_ < 2 ∨ m < 1 ∨ (0 < (1 : Int) ∧ d = 4) then .no a m else _ : Rs Goal) = .ok v b n → _
    rw [if_pos (.inl (by omega))]
    exact ⟨⟨rfl, rfl⟩, fun v b n e => by cases e⟩
  by_cases p3 : peekW ws a = w_every
  ·rw [p3]
   by_cases hk : (3 : Int) ≤ lastK of_
   ·rw [if_neg (fun h => absurd h.2 (by decide)), if_pos ⟨hk, rfl⟩]
    exact go _ w_every 3 1 _ _ (by decide) ws3 (hq 1 (by omega)) p3 (by omega)
   ·rw [if_neg (fun h => absurd h.2 (by decide)), if_neg (fun h => hk h.1), if_neg (fun h => absurd h.2 (by decide)), if_neg (fun h => absurd h.2 (by decide)), if_neg (fun h => absurd h.2 (by decide))]
    show Sim (if lastK of_ < 3 ∨ m < 1 ∨ (0 < (1 : Int) ∧ d = 4) then .no a m else _ : Rs Goal) ((zeroG, a, true, m) : Xr Goal) ∧ ∀ v b n, (if lastK of_ < 3 ∨ m < 1 ∨ (0 < (1 : Int) ∧ d = 4) then .no a m else _ : Rs Goal) = .ok v b n → _
    rw [if_pos (.inl (by omega))]
    exact ⟨⟨rfl, rfl⟩, fun v b n e => by cases e⟩
  by_cases p4 : peekW ws a = w_deliver
  ·rw [p4]
   by_cases hk : (4 : Int) ≤ lastK of_
   ·rw [if_neg (fun h => absurd h.2 (by decide)), if_neg (fun h => absurd h.2 (by decide)), if_pos ⟨hk, rfl⟩]
    exact go _ w_deliver 4 1 _ _ (by decide) ws4 (hq 1 (by omega)) p4 (by omega)
   ·rw [if_neg (fun h => absurd h.2 (by decide)), if_neg (fun h => absurd h.2 (by decide)), if_neg (fun h => hk h.1), if_neg (fun h => absurd h.2 (by decide)), if_neg (fun h => absurd h.2 (by decide))]
    show Sim (if lastK of_ < 4 ∨ m < 1 ∨ (0 < (1 : Int) ∧ d = 4) then .no a m else _ : Rs Goal) ((zeroG, a, true, m) : Xr Goal) ∧ ∀ v b n, (if lastK of_ < 4 ∨ m < 1 ∨ (0 < (1 : Int) ∧ d = 4) then .no a m else _ : Rs Goal) = .ok v b n → _
    rw [if_pos (.inl (by omega))]
    exact ⟨⟨rfl, rfl⟩, fun v b n e => by cases e⟩
  by_cases p5 : peekW ws a = w_all
  ·rw [p5]
   by_cases hk : (5 : Int) ≤ lastK of_
   ·rw [if_neg (fun h => absurd h.2 (by decide)), if_neg (fun h => absurd h.2 (by decide)), if_neg (fun h => absurd h.2 (by decide)), if_pos ⟨hk, rfl⟩]
    exact go _ w_all 5 2 _ _ (by decide) ws5 (hq 2 (by omega)) p5 (by omega)
   ·rw [if_neg (fun h => absurd h.2 (by decide)), if_neg (fun h => absurd h.2 (by decide)), if_neg (fun h => absurd h.2 (by decide)), if_neg (fun h => hk h.1), if_neg (fun h => absurd h.2 (by decide))]
    show Sim (if lastK of_ < 5 ∨ m < 2 ∨ (0 < (2 : Int) ∧ d = 4) then .no a m else _ : Rs Goal) ((zeroG, a, true, m) : Xr Goal) ∧ ∀ v b n, (if lastK of_ < 5 ∨ m < 2 ∨ (0 < (2 : Int) ∧ d = 4) then .no a m else _ : Rs Goal) = .ok v b n → _
    rw [if_pos (.inl (by omega))]
    exact ⟨⟨rfl, rfl⟩, fun v b n e => by cases e⟩
  by_cases p6 : peekW ws a = w_any
  ·rw [p6]
   by_cases hk : (6 : Int) ≤ lastK of_
   ·rw [if_neg (fun h => absurd h.2 (by decide)), if_neg (fun h => absurd h.2 (by decide)), if_neg (fun h => absurd h.2 (by decide)), if_neg (fun h => absurd h.2 (by decide)), if_pos ⟨hk, rfl⟩]
    exact go _ w_any 6 2 _ _ (by decide) ws6 (hq 2 (by omega)) p6 (by omega)
   ·rw [if_neg (fun h => absurd h.2 (by decide)), if_neg (fun h => absurd h.2 (by decide)), if_neg (fun h => absurd h.2 (by decide)), if_neg (fun h => absurd h.2 (by decide)), if_neg (fun h => hk h.1)]
    show Sim (if lastK of_ < 6 ∨ m < 2 ∨ (0 < (2 : Int) ∧ d = 4) then .no a m else _ : Rs Goal) ((zeroG, a, true, m) : Xr Goal) ∧ ∀ v b n, (if lastK of_ < 6 ∨ m < 2 ∨ (0 < (2 : Int) ∧ d = 4) then .no a m else _ : Rs Goal) = .ok v b n → _
    rw [if_pos (.inl (by omega))]
    exact ⟨⟨rfl, rfl⟩, fun v b n e => by cases e⟩
  have hform : formW (peekW ws a) = none := by
   unfold formW
   rw [if_neg p1, if_neg p2, if_neg p3, if_neg p4, if_neg p5, if_neg p6]
  rw [hform, if_neg (fun h => p2 h.2), if_neg (fun h => p3 h.2), if_neg (fun h => p4 h.2), if_neg (fun h => p5 h.2), if_neg (fun h => p6 h.2)]
  exact ⟨⟨rfl, rfl⟩, fun v b n e => by cases e⟩
/-! orders -/
theorem stay_group (ws : List Wd) : Stay (xGroup ws) := by
 refine stay_bind (stay_is ws _) fun b => ?_
 cases b
 ·exact stay_num ws _ _
 ·exact stay_ret _
theorem sim_group (ws : List Wd) : SimP ws (groupP ws) (xGroup ws) := fun a m h0 h1 => by
 unfold groupP xGroup xIs
 rw [next_peek (by decide) h0 h1]
 by_cases hp : peekW ws a = w_none
 ·have := peek_in (by decide) h1 hp
  rw [if_pos hp, decide_eq_true hp]
  exact ⟨rfl, fun v b k e => by injection e with _ e _; subst e; omega⟩
 ·rw [if_neg hp, decide_eq_false hp]
  exact sim_num ws (by omega) (by omega) a m h0 h1
theorem sp_order (ws : List Wd) : SPQ True ws (orderC ws (fun o a m => .ok o a m)) (xOrder ws) := by
 show SPQ True ws (fun a m => orderC ws (fun o a m => .ok o a m) a m) (fun a w m => xOrder ws a w m)
 unfold orderC xOrder
 refine sp_must [w_order] (by decide) fun _ => sp_num (fun _ => by omega) fun id => sp_must [w_by] (by decide) fun _ => sp_num (fun _ => by omega) fun ow => ?_
 refine sp_must [w_for] (by decide) fun _ => sp_num (fun _ => by omega) fun pr => sp_must [w_group] (by decide) fun _ => sp_sub ⟨fun _ => sim_group ws, stay_group ws⟩ fun gr => ?_
 refine sp_word (by decide) (by decide) fun ur => sp_must [w_known] (by decide) fun _ => sp_num (fun _ => by omega) fun kn => sp_must [w_due] (by decide) fun _ => sp_num (fun h => by omega) fun du => ?_
 refine sp_must [w_colon] (by decide) fun _ => sp_sub ⟨fun _ => sim_goal ws 4 5 6 1 (by omega) (by omega) rfl, stay_goal ws _ _ _⟩ fun g => ?_
 exact sp_must [w_dot] (by decide) fun _ => sp_ret _
/-- what the reference makes of a text -/
def xParse (s : Wd) : Order × Int × Int := if 20000 < s.length then (zeroO, 0, 130) else
 if (xOrder (tokensW s) 0 false 11).2.2.1 = true ∨ (xOrder (tokensW s) 0 false 11).2.1 < (tokensW s).length then (zeroO, (xOrder (tokensW s) 0 false 11).2.1, 130) else ((xOrder (tokensW s) 0 false 11).1, (xOrder (tokensW s) 0 false 11).2.1, 0)
theorem parse_same (s : Wd) : xParse s = parseS s := by
 unfold xParse parseS
 by_cases hl : 20000 < s.length
 ·rw [if_pos hl, if_pos hl]
 ·rw [if_neg hl, if_neg hl, orderP_eq, orderC_bind]
  have h := ((sp_order (tokensW s)).sim trivial 0 11 (Int.le_refl _) (by omega)).1
  cases hp : orderC (tokensW s) (fun o a m => .ok o a m) 0 11 with
  | no a m =>
   rw [hp] at h
   have h : (xOrder (tokensW s) 0 false 11).2.1 = a ∧ (xOrder (tokensW s) 0 false 11).2.2.1 = true := h
   rw [if_pos (.inl h.2), h.1]
  | ok o a m =>
   rw [hp] at h
   have h : xOrder (tokensW s) 0 false 11 = (o, a, false, m) := h
   rw [h]
   dsimp only [Rs.bind, endP]
   by_cases ha : a < (tokensW s).length
   ·rw [if_pos (.inr ha), if_pos ha]
   ·rw [if_neg (show ¬ (false = true ∨ a < (tokensW s).length) by intro h; rcases h with h | h; cases h; exact ha h), if_neg ha]
end Go.SX

/-
 Plain: the reference's reader stays within its words.
-/
namespace Go.SX
def KP {α : Type} (ws : List Wd) (K : XP α) : Prop := ∀ a w m, InW ws a m → InW ws (K a w m).2.1 (K a w m).2.2.2
theorem kp_ret {α : Type} {ws : List Wd} (v : α) : KP ws (fun a w m => (v, a, w, m) : XP α) := fun a w m h => h
theorem kp_bind {α β : Type} {ws : List Wd} {X : XP α} {K : α → XP β} (h : KP ws X) (hk : ∀ v, KP ws (K v)) : KP ws (fun a w m => (X a w m).bind K) := fun a w m hi => hk _ _ _ _ (h a w m hi)
theorem next_in {ws : List Wd} {s : Wd} {a : Int} {w : Bool} (h : xNext ws s a w = true) : a < ws.length ∧ w = false := by
 unfold xNext at h
 simp only [Bool.and_eq_true, Bool.not_eq_true', decide_eq_true_eq] at h
 exact ⟨h.1.2, h.1.1⟩
theorem InW.up {ws : List Wd} {a m : Int} (h : InW ws a m) (ha : a < ws.length) : InW ws (a + 1) m := ⟨by have := h.a0; omega, by omega, h.m0, h.m1⟩
theorem kp_is (ws : List Wd) (s : Wd) : KP ws (xIs ws s) := fun a w m hi => by
 unfold xIs
 split
 ·rename_i h; exact hi.up (next_in h).1
 ·exact hi
theorem kp_must (ws : List Wd) : ∀ l, KP ws (xMust ws l)
 | [] => fun a w m hi => hi
 | s :: l => fun a w m hi => by
  rw [xMust]
  dsimp only
  split
  ·rename_i h; exact kp_must ws l _ _ _ (hi.up (next_in h).1)
  ·exact kp_must ws l _ _ _ hi
theorem kp_num (ws : List Wd) (lo hi : Int) : KP ws (xNum ws lo hi) := fun a w m h => by
 unfold xNum
 split
 ·exact h
 ·rename_i hc
  simp only [not_or] at hc
  exact h.up (by omega)
theorem kp_need (ws : List Wd) (s : Wd) {g : Int} (hg : 0 ≤ g) (d : Int) : KP ws (xNeed ws s g d) := fun a w m h => by
 unfold xNeed
 split
 ·rename_i hn
  split
  ·exact h
  ·rename_i hc
   have := next_in hn
   exact ⟨by show (0 : Int) ≤ a + 1; have := h.a0; omega, by show a + 1 ≤ _; omega, by show (0 : Int) ≤ m - g; omega, by show m - g ≤ 1000; have := h.m1; omega⟩
 ·exact h
theorem kp_word (ws : List Wd) (s t : Wd) : KP ws (xWord ws s t) := by
 refine kp_bind (kp_is ws s) fun c => kp_bind ?_ fun _ => kp_ret c
 cases c
 ·exact kp_must ws [t]
 ·exact kp_ret ()
theorem kp_runs (ws : List Wd) : ∀ (n : Nat) (y last : Int) (rows : List Int), KP ws (xRunsL ws n y last rows)
 | 0, y, last, rows => kp_ret rows
 | n + 1, y, last, rows => fun a w m h => by
  rw [runs_succ]
  split
  ·unfold xBody
   split
   ·exact h
   ·exact (kp_bind (kp_must ws [w_at]) fun _ => kp_bind (kp_num ws _ 23) fun y' => kp_bind (kp_num ws _ 47) fun first => kp_bind (kp_num ws first 47) fun last' => fun a w m h => kp_runs ws n y' last' _ a w m h) a w m h
  ·exact h
theorem kp_see (ws : List Wd) : KP ws (xSee ws) := by
 refine kp_bind (kp_runs ws _ _ _ _) fun rows => ?_
 refine kp_bind (kp_must ws _) fun _ => kp_bind (kp_num ws _ _) fun f => kp_bind (kp_must ws _) fun _ => kp_bind (kp_num ws _ _) fun t => ?_
 refine kp_bind (kp_must ws _) fun _ => kp_bind (kp_num ws _ _) fun lo => kp_bind (kp_must ws _) fun _ => kp_bind (kp_num ws _ _) fun hi => ?_
 exact kp_bind (kp_word ws _ _) fun c => kp_ret _
theorem kp_pair {ws : List Wd} {X : XP Goal} (h : KP ws X) : KP ws (xPair ws X) :=
 kp_bind (kp_must ws _) fun _ => kp_bind (kp_num ws _ _) fun lo => kp_bind (kp_must ws _) fun _ => kp_bind (kp_num ws _ _) fun wi => kp_bind (kp_must ws _) fun _ => kp_bind h fun k => kp_ret _
theorem kp_every {ws : List Wd} {X : XP Goal} (h : KP ws X) : KP ws (xEvery ws X) :=
 kp_bind (kp_num ws _ _) fun d => kp_bind (kp_must ws _) fun _ => kp_bind (kp_num ws _ _) fun t => kp_bind (kp_must ws _) fun _ => kp_bind (kp_num ws _ _) fun wi => kp_bind (kp_must ws _) fun _ => kp_bind (kp_num ws _ _) fun f => kp_bind (kp_must ws _) fun _ => kp_bind h fun k => kp_ret _
theorem kp_del {ws : List Wd} {X : XP Goal} (h : KP ws X) : KP ws (xDel ws X) :=
 kp_bind (kp_must ws _) fun _ => kp_bind (kp_num ws _ _) fun wi => kp_bind (kp_must ws _) fun _ => kp_bind h fun k => kp_ret _
theorem kp_partsL {ws : List Wd} {X : XP Goal} (h : KP ws X) (k : Int) : ∀ (n : Nat) (cents : List Int) (kids : List Goal), KP ws (xPartsL ws X k n cents kids)
 | 0, cents, kids => kp_ret _
 | n + 1, cents, kids => fun a w m hi => by
  rw [xPartsL]
  dsimp only
  split
  ·exact hi
  ·have hc : KP ws (if k = 6 then fun a w m => (xNum ws 0 1000000000 a w m).bind fun c a w m => (cents ++ [c], a, w, m) else fun a w m => (cents, a, w, m) : XP (List Int)) := by
    split
    ·exact kp_bind (kp_num ws _ _) fun c => kp_ret _
    ·exact kp_ret _
   refine (kp_bind hc fun cents => kp_bind h fun g => ?_) a w m hi
   intro a w m hi
   simp only
   split
   ·exact (kp_bind (kp_must ws [w_comma]) fun _ => kp_partsL h k n cents (kids ++ [g])) a w m hi
   ·refine (kp_bind (kp_is ws w_close) fun b => ?_) a w m hi
    intro a w m hi
    simp only
    split
    ·exact hi
    ·split
     ·exact hi
     ·rename_i hc
      simp only [not_or] at hc
      exact (kp_bind (kp_must ws [w_comma]) fun _ => kp_partsL h k n cents (kids ++ [g])) a w (m - 1) ⟨hi.a0, hi.a1, by have := hi.m0; omega, by have := hi.m1; omega⟩
theorem kp_list {ws : List Wd} {X : XP Goal} (h : KP ws X) (k : Int) : KP ws (xList ws X k) := kp_bind (kp_must ws _) fun _ => kp_bind (kp_partsL h k 5 _ _) fun r => kp_ret _
theorem kp_goal (ws : List Wd) : ∀ (f : Nat) (most d : Int), KP ws (xGoal ws f most d)
 | 0, most, d => fun a w m h => h
 | f + 1, most, d => fun a w m h => by
  have ih := fun o => kp_goal ws f o (d + 1)
  rw [xGoal]
  dsimp only
  split
  ·exact (kp_bind (kp_need ws w_see (by omega) d) fun _ => kp_see ws) a w m h
  ·split
   ·exact (kp_bind (kp_need ws w_pair (by omega) d) fun _ => kp_pair (ih 1)) a w m h
   ·split
    ·exact (kp_bind (kp_need ws w_every (by omega) d) fun _ => kp_every (ih 1)) a w m h
    ·split
     ·exact (kp_bind (kp_need ws w_deliver (by omega) d) fun _ => kp_del (ih 3)) a w m h
     ·split
      ·exact (kp_bind (kp_need ws w_all (by omega) d) fun _ => kp_list (ih 6) 5) a w m h
      ·split
       ·exact (kp_bind (kp_need ws w_any (by omega) d) fun _ => kp_list (ih 6) 6) a w m h
       ·exact h
end Go.SX

namespace Go.SX
open Go.Proofs
set_option maxHeartbeats 4000000
set_option maxRecDepth 100000
@[reducible] def rdX (ws : List Wd) (a : Int) (w : Bool) (m : Int) : List (HS Cd) := [.vart none [wsS ws, iS a, bS w, iS m]]
theorem xnext {ws : List Wd} {a m : Int} (hi : InW ws a m) (hn : WsOK ws) (w : Bool) (s : Wd) : Meets Tryz.prog Dc 79 [.ptr 0 0, wS s] (rdX ws a w m) (bS (xNext ws s a w)) (rdX ws a w m) := by
 obtain ⟨h1, h2, h3, h4⟩ := hi
 have hl := hn.n
 cases w with
 | true =>
  rw [next_wrong]
  refine meets_of_gx Ax tab_ok Tryz.func79 (c := _) rfl Tryz.call79 60 ?_
  (repeat' ((conv => whnf); first | (exfalso; omega) | (refine end_fn [some 0] (.inr rfl) ?_ ?_ rfl rfl; (focus exact vwV); exact hsV) | refine x0C ?_ | refine spC (fun hb => ?_) fun hb => ?_ | refine nilC (fun hb => ?_) ?_ | refine taC ?_ | refine saC ?_ | exact sdV | refine side_and ?_ ?_ | refine drawX_of mixed ?_))
 | false =>
  by_cases ha : a < ws.length
  ·have e : xNext ws s a false = decide (ws.getD a.toNat (Cd.dflt U.str) = s) := by unfold xNext; rw [decide_eq_true ha]; rfl
   rw [e]
   refine meets_of_gx Ax tab_ok Tryz.func79 (c := _) rfl Tryz.call79 60 ?_
   (repeat' ((conv => whnf); first | (exfalso; omega) | (refine end_fn [some 0] (.inr rfl) ?_ ?_ rfl rfl; (focus exact vwV); exact hsV) | refine x0C ?_ | refine spC (fun hb => ?_) fun hb => ?_ | refine nilC (fun hb => ?_) ?_ | refine taC ?_ | refine saC ?_ | exact sdV | refine side_and ?_ ?_ | refine drawX_of mixed ?_))
  ·have e : xNext ws s a false = false := by unfold xNext; rw [decide_eq_false ha]; rfl
   rw [e]
   refine meets_of_gx Ax tab_ok Tryz.func79 (c := _) rfl Tryz.call79 60 ?_
   (repeat' ((conv => whnf); first | (exfalso; omega) | (refine end_fn [some 0] (.inr rfl) ?_ ?_ rfl rfl; (focus exact vwV); exact hsV) | refine x0C ?_ | refine spC (fun hb => ?_) fun hb => ?_ | refine nilC (fun hb => ?_) ?_ | refine taC ?_ | refine saC ?_ | exact sdV | refine side_and ?_ ?_ | refine drawX_of mixed ?_))
theorem xis {ws : List Wd} {a m : Int} (hi : InW ws a m) (hn : WsOK ws) (w : Bool) (s : Wd) : Meets Tryz.prog Dc 55 [.ptr 0 0, wS s] (rdX ws a w m) (bS (xIs ws s a w m).1) (rdX ws (xIs ws s a w m).2.1 (xIs ws s a w m).2.2.1 (xIs ws s a w m).2.2.2) := by
 have q := xnext hi hn w s
 obtain ⟨h1, h2, h3, h4⟩ := hi
 have hl := hn.n
 unfold xIs
 cases hx : xNext ws s a w with
 | true =>
  have := (next_in hx).1
  rw [hx] at q
  rw [if_pos rfl]
  refine meets_of_gx Ax tab_ok Tryz.func55 (c := _) rfl Tryz.call55 60 ?_
  (repeat' ((conv => whnf); first | (exfalso; omega) | (refine callh [some 0] q rfl rfl ⟨rfl, trivial⟩ ?_) | (refine end_fn [some 0] (.inr rfl) ?_ ?_ rfl rfl; (focus exact vwV); exact hsV) | refine x0C ?_ | refine spC (fun hb => ?_) fun hb => ?_ | refine nilC (fun hb => ?_) ?_ | refine taC ?_ | refine saC ?_ | exact sdV | refine side_and ?_ ?_ | refine drawX_of mixed ?_))
 | false =>
  rw [hx] at q
  rw [if_neg (by decide)]
  refine meets_of_gx Ax tab_ok Tryz.func55 (c := _) rfl Tryz.call55 60 ?_
  (repeat' ((conv => whnf); first | (exfalso; omega) | (refine callh [some 0] q rfl rfl ⟨rfl, trivial⟩ ?_) | (refine end_fn [some 0] (.inr rfl) ?_ ?_ rfl rfl; (focus exact vwV); exact hsV) | refine x0C ?_ | refine spC (fun hb => ?_) fun hb => ?_ | refine nilC (fun hb => ?_) ?_ | refine taC ?_ | refine saC ?_ | exact sdV | refine side_and ?_ ?_ | refine drawX_of mixed ?_))
theorem must_cons (ws : List Wd) (s : Wd) (l : List Wd) (a : Int) (w : Bool) (m : Int) : xMust ws (s :: l) a w m = xMust ws l (xIs ws s a w m).2.1 ((xIs ws s a w m).2.2.1 || !(xIs ws s a w m).1) m := by
 rw [xMust]
 unfold xIs
 dsimp only
 cases hx : xNext ws s a w with
 | true => simp [hx]
 | false => simp [hx]
theorem is_room (ws : List Wd) (s : Wd) (a : Int) (w : Bool) (m : Int) : (xIs ws s a w m).2.2.2 = m := by unfold xIs; split <;> rfl
theorem must_room (ws : List Wd) : ∀ (l : List Wd) (a : Int) (w : Bool) (m : Int), (xMust ws l a w m).2.2.2 = m
 | [], a, w, m => rfl
 | s :: l, a, w, m => by rw [must_cons, must_room ws l]
theorem xmust {ws : List Wd} {a m : Int} (hi : InW ws a m) (hn : WsOK ws) (w : Bool) (l : List Wd) (hl : l.length ≤ 10) : Meets Tryz.prog Dc 53 [.ptr 0 0, .slice 1 0 1 0 l.length] (rdX ws a w m ++ [.rows U.str l]) (.tuple []) (rdX ws (xMust ws l a w m).2.1 (xMust ws l a w m).2.2.1 (xMust ws l a w m).2.2.2 ++ [.rows U.str l]) := by
 rw [must_room]
 have hq : ∀ a w, InW ws a m → ∀ s, Meets Tryz.prog Dc 55 [.ptr 0 0, wS s] (rdX ws a w m) (bS (xIs ws s a w m).1) (rdX ws (xIs ws s a w m).2.1 (xIs ws s a w m).2.2.1 (xIs ws s a w m).2.2.2) := fun a w hi s => xis hi hn w s
 obtain ⟨S, hS⟩ : ∃ S, S = ((xMust ws l a w m).2.1, (xMust ws l a w m).2.2.1) := ⟨_, rfl⟩
 have e1 : (xMust ws l a w m).2.1 = S.1 := by rw [hS]
 have e2 : (xMust ws l a w m).2.2.1 = S.2 := by rw [hS]
 rw [e1, e2]
 clear e1 e2
 refine meets_of_gx Ax tab_ok Tryz.func53 (c := _) rfl Tryz.call53 100 ?_
 (repeat' ((conv => whnf); first | (exfalso; omega) | refine x0C ?_ | refine spC (fun hb => ?_) fun hb => ?_ | refine nilC (fun hb => ?_) ?_ | refine taC ?_ | refine saC ?_ | exact sdV | refine side_and ?_ ?_ | refine drawX_of mixed ?_))
 refine loop_up (fun q : Nat × Int × Bool => [(4, iS q.1)]) (fun q => [(0, .vart none [wsS ws, iS q.2.1, bS q.2.2, iS m])]) (fun q => q.1 ≤ l.length ∧ InW ws q.2.1 m ∧ (xMust ws (l.drop q.1) q.2.1 q.2.2 m).2.1 = S.1 ∧ (xMust ws (l.drop q.1) q.2.1 q.2.2 m).2.2.1 = S.2) (fun q => l.length - q.1) (0, a, w) ⟨Nat.zero_le _, hi, by rw [hS]; rfl, by rw [hS]; rfl⟩ (by exact bkI) ?_
 clear hi hS
 rintro ⟨i, a, w⟩ ⟨hi, hin, hS1, hS2⟩ K hK
 dsimp only at hi hin hS1 hS2 hK ⊢
 rcases Nat.lt_or_ge i l.length with hlt | hge
 ·have hdr := drop_getD (d := Cd.dflt U.str) hlt
  rw [show l.getD i (Cd.dflt U.str) = l.getD (0 + (i : Int).toNat) (Cd.dflt U.str) by rw [Nat.zero_add]; rfl] at hdr
  rw [hdr, must_cons] at hS1 hS2
  have q := hq a w hin (l.getD (0 + (i : Int).toNat) (Cd.dflt U.str))
  have hk := kp_is ws (l.getD (0 + (i : Int).toNat) (Cd.dflt U.str)) a w m hin
  rw [is_room] at hk
  rw [is_room] at q
  generalize xIs ws (l.getD (0 + (i : Int).toNat) (Cd.dflt U.str)) a w m = x at *
  obtain ⟨b, a', w', m'⟩ := x
  dsimp only at hS1 hS2 q hk
  clear hq hdr
  cases b with
  | true =>
   rw [Bool.not_true, Bool.or_false] at hS1 hS2
   (repeat' ((conv => whnf); first | (exfalso; omega) | (refine callh [some 0] q rfl rfl ⟨rfl, trivial⟩ ?_) | refine hK (i + 1, a', w') [some 0, some 1] _ _ ⟨⟨by dsimp only; omega, hk, hS1, hS2⟩⟩ ⟨by dsimp only; omega⟩ (by exact bkI) | refine x0C ?_ | refine spC (fun hb => ?_) fun hb => ?_ | refine nilC (fun hb => ?_) ?_ | refine taC ?_ | refine saC ?_ | exact sdV | refine side_and ?_ ?_ | refine drawX_of mixed ?_))
  | false =>
   rw [Bool.not_false, Bool.or_true] at hS1 hS2
   (repeat' ((conv => whnf); first | (exfalso; omega) | (refine callh [some 0] q rfl rfl ⟨rfl, trivial⟩ ?_) | refine hK (i + 1, a', true) [some 0, some 1] _ _ ⟨⟨by dsimp only; omega, hk, hS1, hS2⟩⟩ ⟨by dsimp only; omega⟩ (by exact bkI) | refine x0C ?_ | refine spC (fun hb => ?_) fun hb => ?_ | refine nilC (fun hb => ?_) ?_ | refine taC ?_ | refine saC ?_ | exact sdV | refine side_and ?_ ?_ | refine drawX_of mixed ?_))
 ·rw [List.drop_eq_nil_of_le hge] at hS1 hS2
  have hS1 : a = S.1 := hS1
  have hS2 : w = S.2 := hS2
  rw [← hS1, ← hS2]
  (repeat' ((conv => whnf); first | (exfalso; omega) | (refine end_fn [some 0, some 1] (.inl rfl) ?_ ?_ rfl rfl; (focus exact vwV); exact hsV) | refine x0C ?_ | refine spC (fun hb => ?_) fun hb => ?_ | refine nilC (fun hb => ?_) ?_ | refine taC ?_ | refine saC ?_ | exact sdV | refine side_and ?_ ?_ | refine drawX_of mixed ?_))
end Go.SX

namespace Go.SX
open Go.Proofs
set_option maxHeartbeats 400000000
set_option maxRecDepth 100000
theorem u8_wrap {x : Int} (h : 0 ≤ x ∧ x ≤ 255) : IntKind.u8.wrap x = x := by
 simp only [IntKind.wrap, IntKind.signed, IntKind.bits]
 simp
 omega
theorem xvalue (s : Wd) (hs : s.length ≤ 1000000) : Meets Tryz.prog Dc 78 [wS s] [] (iS (valS s)) [] := by
 have e48 : s.getD 0 0 = 48 ↔ ((s.getD (Int.toNat 0) 0).toNat : Int) = 48 := by
  show s.getD 0 0 = 48 ↔ ((s.getD 0 0).toNat : Int) = 48
  constructor
  ·intro h; rw [h]; rfl
  ·intro h
   refine UInt8.toNat_inj.1 ?_
   have : (48 : UInt8).toNat = 48 := rfl
   omega
 unfold valS
 by_cases hc : s.length = 0 ∨ 10 < s.length ∨ (s.getD 0 0 = 48 ∧ 1 < s.length)
 ·rw [if_pos hc]
  rw [e48] at hc
  rcases hc with hc | hc | hc
  ·refine meets_of_gx Ax tab_ok Tryz.func78 (c := _) rfl Tryz.call78 300 ?_
   (repeat' ((conv => whnf); first | (exfalso; omega) | (refine end_fn [] (.inr rfl) ?_ ?_ rfl rfl; (focus exact vwV); exact hsV) | refine spC (fun hb => ?_) fun hb => ?_))
  ·refine meets_of_gx Ax tab_ok Tryz.func78 (c := _) rfl Tryz.call78 300 ?_
   (repeat' ((conv => whnf); first | (exfalso; omega) | (refine end_fn [] (.inr rfl) ?_ ?_ rfl rfl; (focus exact vwV); exact hsV) | refine spC (fun hb => ?_) fun hb => ?_))
  ·obtain ⟨hc1, hc2⟩ := hc
   by_cases h10 : 10 < s.length
   ·refine meets_of_gx Ax tab_ok Tryz.func78 (c := _) rfl Tryz.call78 300 ?_
    (repeat' ((conv => whnf); first | (exfalso; omega) | (refine end_fn [] (.inr rfl) ?_ ?_ rfl rfl; (focus exact vwV); exact hsV) | refine spC (fun hb => ?_) fun hb => ?_))
   ·refine meets_of_gx Ax tab_ok Tryz.func78 (c := _) rfl Tryz.call78 300 ?_
    (repeat' ((conv => whnf); first | (exfalso; omega) | (refine end_fn [] (.inr rfl) ?_ ?_ rfl rfl; (focus exact vwV); exact hsV) | refine spC (fun hb => ?_) fun hb => ?_ | refine saC ?_))
 ·rw [if_neg hc]
  rw [e48] at hc
  simp only [not_or, not_and] at hc
  obtain ⟨c1, c2, c3⟩ := hc
  by_cases h48 : ((s.getD (Int.toNat 0) 0).toNat : Int) = 48
  ·have c4 := c3 h48
   clear c3 e48
   refine meets_of_gx Ax tab_ok Tryz.func78 (c := _) rfl Tryz.call78 300 ?_
   (repeat' ((conv => whnf); first | (exfalso; omega) | refine spC (fun hb => ?_) fun hb => ?_ | refine saC ?_))
   conv => whnf
   refine loop_up (fun q : Nat × Int => [(3, iS q.2), (4, iS q.1)]) (fun _ => []) (fun q => q.1 ≤ s.length ∧ digS 0 s = digS q.2 (s.drop q.1) ∧ 0 ≤ q.2 ∧ q.2 + 1 ≤ 10 ^ q.1) (fun q => s.length - q.1) (0, 0) ⟨Nat.zero_le _, rfl, by omega, by simp⟩ (by exact bkI) ?_
   rintro ⟨i, n⟩ ⟨hi, hd, hn0, hn1⟩ K hK
   dsimp only at hi hd hn0 hn1 hK ⊢
   rcases Nat.lt_or_ge i s.length with hlt | hge
   ·have hdr := drop_getD (d := (0 : UInt8)) hlt
    rw [show s.getD i (0 : UInt8) = s.getD (i : Int).toNat 0 from rfl] at hdr
    rw [hdr, digS] at hd
    have hp : (10 : Int) ^ (i + 1) = 10 * 10 ^ i := by rw [Int.pow_succ, Int.mul_comm]
    have hp2 : (10 : Int) ^ i ≤ 10 ^ 9 := by
     have := Nat.pow_le_pow_right (n := 10) (by omega) (show i ≤ 9 by omega)
     exact_mod_cast this
    by_cases hb : (s.getD (i : Int).toNat 0).toNat < 48 ∨ 57 < (s.getD (i : Int).toNat 0).toNat
    ·rw [if_pos hb] at hd
     rw [hd]
     (repeat' ((conv => whnf); first | (exfalso; omega) | (refine end_fn [] (.inr rfl) ?_ ?_ rfl rfl; (focus exact vwV); exact hsV) | refine spC (fun hb => ?_) fun hb => ?_ | refine saC ?_))
    ·rw [if_neg hb] at hd
     have hle := (s.getD (i : Int).toNat 0).toNat_lt
     have hwr := u8_wrap (x := ((s.getD (i : Int).toNat 0).toNat : Int) - 48) (by omega)
     rw [← hwr] at hd
     (repeat' ((conv => whnf); first | (exfalso; omega) | refine hK (i + 1, 10 * n + IntKind.u8.wrap (((s.getD (i : Int).toNat 0).toNat : Int) - 48)) [] _ _ ⟨⟨by dsimp only; omega, hd, by dsimp only; omega, by dsimp only; omega⟩⟩ ⟨by dsimp only; omega⟩ (by exact bkI) | refine spC (fun hb => ?_) fun hb => ?_ | refine saC ?_))
   ·rw [List.drop_eq_nil_of_le hge, digS] at hd
    rw [hd]
    (repeat' ((conv => whnf); first | (exfalso; omega) | (refine end_fn [] (.inr rfl) ?_ ?_ rfl rfl; (focus exact vwV); exact hsV) | refine spC (fun hb => ?_) fun hb => ?_))
  ·clear c3 e48
   refine meets_of_gx Ax tab_ok Tryz.func78 (c := _) rfl Tryz.call78 300 ?_
   (repeat' ((conv => whnf); first | (exfalso; omega) | refine spC (fun hb => ?_) fun hb => ?_ | refine saC ?_))
   conv => whnf
   refine loop_up (fun q : Nat × Int => [(3, iS q.2), (4, iS q.1)]) (fun _ => []) (fun q => q.1 ≤ s.length ∧ digS 0 s = digS q.2 (s.drop q.1) ∧ 0 ≤ q.2 ∧ q.2 + 1 ≤ 10 ^ q.1) (fun q => s.length - q.1) (0, 0) ⟨Nat.zero_le _, rfl, by omega, by simp⟩ (by exact bkI) ?_
   rintro ⟨i, n⟩ ⟨hi, hd, hn0, hn1⟩ K hK
   dsimp only at hi hd hn0 hn1 hK ⊢
   rcases Nat.lt_or_ge i s.length with hlt | hge
   ·have hdr := drop_getD (d := (0 : UInt8)) hlt
    rw [show s.getD i (0 : UInt8) = s.getD (i : Int).toNat 0 from rfl] at hdr
    rw [hdr, digS] at hd
    have hp : (10 : Int) ^ (i + 1) = 10 * 10 ^ i := by rw [Int.pow_succ, Int.mul_comm]
    have hp2 : (10 : Int) ^ i ≤ 10 ^ 9 := by
     have := Nat.pow_le_pow_right (n := 10) (by omega) (show i ≤ 9 by omega)
     exact_mod_cast this
    by_cases hb : (s.getD (i : Int).toNat 0).toNat < 48 ∨ 57 < (s.getD (i : Int).toNat 0).toNat
    ·rw [if_pos hb] at hd
     rw [hd]
     (repeat' ((conv => whnf); first | (exfalso; omega) | (refine end_fn [] (.inr rfl) ?_ ?_ rfl rfl; (focus exact vwV); exact hsV) | refine spC (fun hb => ?_) fun hb => ?_ | refine saC ?_))
    ·rw [if_neg hb] at hd
     have hle := (s.getD (i : Int).toNat 0).toNat_lt
     have hwr := u8_wrap (x := ((s.getD (i : Int).toNat 0).toNat : Int) - 48) (by omega)
     rw [← hwr] at hd
     (repeat' ((conv => whnf); first | (exfalso; omega) | refine hK (i + 1, 10 * n + IntKind.u8.wrap (((s.getD (i : Int).toNat 0).toNat : Int) - 48)) [] _ _ ⟨⟨by dsimp only; omega, hd, by dsimp only; omega, by dsimp only; omega⟩⟩ ⟨by dsimp only; omega⟩ (by exact bkI) | refine spC (fun hb => ?_) fun hb => ?_ | refine saC ?_))
   ·rw [List.drop_eq_nil_of_le hge, digS] at hd
    rw [hd]
    (repeat' ((conv => whnf); first | (exfalso; omega) | (refine end_fn [] (.inr rfl) ?_ ?_ rfl rfl; (focus exact vwV); exact hsV) | refine spC (fun hb => ?_) fun hb => ?_))
theorem xnumber {ws : List Wd} {a m : Int} (hi : InW ws a m) (hn : WsOK ws) (w : Bool) (lo h : Int) : Meets Tryz.prog Dc 54 [.ptr 0 0, iS lo, iS h] (rdX ws a w m) (iS (xNum ws lo h a w m).1) (rdX ws (xNum ws lo h a w m).2.1 (xNum ws lo h a w m).2.2.1 (xNum ws lo h a w m).2.2.2) := by
 have hv : a < ws.length → Meets Tryz.prog Dc 78 [wS (ws.getD a.toNat (Cd.dflt U.str))] [] (iS (valS (ws.getD a.toNat (Cd.dflt U.str)))) [] := fun ha => by
  have h0 := hi.a0
  have hidx : a.toNat < ws.length := by omega
  exact xvalue _ (hn.w _ (List.mem_of_getElem? (getD_some (d := Cd.dflt U.str) hidx)))
 have hlen := hn.n
 obtain ⟨h1, h2, h3, h4⟩ := hi
 cases w with
 | true =>
  have e : xNum ws lo h a true m = (0, a, true, m) := by unfold xNum; rw [if_pos (.inl rfl)]
  rw [e]
  refine meets_of_gx Ax tab_ok Tryz.func54 (c := _) rfl Tryz.call54 100 ?_
  (repeat' ((conv => whnf); first | (refine end_fn [some 0] (.inr rfl) ?_ ?_ rfl rfl; (focus exact vwV); exact hsV) | refine taC ?_ | refine drawX_of mixed ?_))
 | false =>
  by_cases ha : a < ws.length
  ·have hv := hv ha
   have e : xNum ws lo h a false m = if ¬ (lo ≤ valS (ws.getD a.toNat (Cd.dflt U.str)) ∧ valS (ws.getD a.toNat (Cd.dflt U.str)) ≤ h) then (0, a, true, m) else (valS (ws.getD a.toNat (Cd.dflt U.str)), a + 1, false, m) := by
    unfold xNum
    by_cases hc : ¬ (lo ≤ valS (ws.getD a.toNat []) ∧ valS (ws.getD a.toNat []) ≤ h)
    ·rw [if_pos (.inr (.inr hc))]; exact (if_pos hc).symm
    ·rw [if_neg (by simp only [not_or]; exact ⟨by decide, by omega, hc⟩)]; exact (if_neg hc).symm
   rw [e]
   have e1 : (a + 1 - 1).toNat = a.toNat := by omega
   have hin := in13 (valS (ws.getD a.toNat (Cd.dflt U.str))) lo h
   generalize valS (ws.getD a.toNat (Cd.dflt U.str)) = V at *
   by_cases hc : lo ≤ V ∧ V ≤ h
   ·rw [if_neg (fun hn => hn hc)]
    rw [(inB_iff _ _ _).2 hc] at hin
    have hv2 : Meets Tryz.prog Dc 78 [wS (ws.getD (a + 1 - 1).toNat (Cd.dflt U.str))] [] (iS V) [] := by rw [e1]; exact hv
    refine meets_of_gx Ax tab_ok Tryz.func54 (c := _) rfl Tryz.call54 200 ?_
    (repeat' ((conv => whnf); first | (exfalso; omega) | refine dpC (hv) ?_ | refine dpC (hv2) ?_ | refine dpC (hin) ?_ | (refine end_fn [some 0] (.inr rfl) ?_ ?_ rfl rfl; (focus exact vwV); exact hsV) | refine spC (fun hb => ?_) fun hb => ?_ | refine taC ?_ | refine saC ?_ | refine drawX_of mixed ?_))
   ·rw [if_pos hc]
    rw [(inB_not _ _ _).2 hc] at hin
    refine meets_of_gx Ax tab_ok Tryz.func54 (c := _) rfl Tryz.call54 200 ?_
    (repeat' ((conv => whnf); first | (exfalso; omega) | refine dpC (hv) ?_ | refine dpC (hin) ?_ | (refine end_fn [some 0] (.inr rfl) ?_ ?_ rfl rfl; (focus exact vwV); exact hsV) | refine spC (fun hb => ?_) fun hb => ?_ | refine taC ?_ | refine saC ?_ | refine drawX_of mixed ?_))
  ·have e : xNum ws lo h a false m = (0, a, true, m) := by unfold xNum; rw [if_pos (.inr (.inl (by omega)))]
   rw [e]
   refine meets_of_gx Ax tab_ok Tryz.func54 (c := _) rfl Tryz.call54 100 ?_
   (repeat' ((conv => whnf); first | (exfalso; omega) | (refine end_fn [some 0] (.inr rfl) ?_ ?_ rfl rfl; (focus exact vwV); exact hsV) | refine spC (fun hb => ?_) fun hb => ?_ | refine taC ?_ | refine drawX_of mixed ?_))
theorem xneed {ws : List Wd} {a m : Int} (hi : InW ws a m) (hn : WsOK ws) (w : Bool) (s : Wd) (g d : Int) (hg : 0 ≤ g ∧ g ≤ 2) : Meets Tryz.prog Dc 80 [.ptr 0 0, wS s, iS g, iS d] (rdX ws a w m) (bS (xNeed ws s g d a w m).1) (rdX ws (xNeed ws s g d a w m).2.1 (xNeed ws s g d a w m).2.2.1 (xNeed ws s g d a w m).2.2.2) := by
 have q := xnext hi hn w s
 have hlen := hn.n
 obtain ⟨h1, h2, h3, h4⟩ := hi
 unfold xNeed
 cases hx : xNext ws s a w with
 | false =>
  rw [hx] at q
  rw [if_neg (by decide)]
  refine meets_of_gx Ax tab_ok Tryz.func80 (c := _) rfl Tryz.call80 300 ?_
  (repeat' ((conv => whnf); first | (refine callh [some 0] q rfl rfl ⟨rfl, trivial⟩ ?_) | (refine end_fn [some 0] (.inr rfl) ?_ ?_ rfl rfl; (focus exact vwV); exact hsV)))
 | true =>
  have := (next_in hx).1
  rw [hx] at q
  rw [if_pos rfl]
  by_cases hc : m < g ∨ (0 < g ∧ 4 ≤ d)
  ·rw [if_pos hc]
   by_cases hc1 : m < g
   ·refine meets_of_gx Ax tab_ok Tryz.func80 (c := _) rfl Tryz.call80 300 ?_
    (repeat' ((conv => whnf); first | (exfalso; omega) | (refine callh [some 0] q rfl rfl ⟨rfl, trivial⟩ ?_) | (refine end_fn [some 0] (.inr rfl) ?_ ?_ rfl rfl; (focus exact vwV); exact hsV) | refine spC (fun hb => ?_) fun hb => ?_))
   ·refine meets_of_gx Ax tab_ok Tryz.func80 (c := _) rfl Tryz.call80 300 ?_
    (repeat' ((conv => whnf); first | (exfalso; omega) | (refine callh [some 0] q rfl rfl ⟨rfl, trivial⟩ ?_) | (refine end_fn [some 0] (.inr rfl) ?_ ?_ rfl rfl; (focus exact vwV); exact hsV) | refine spC (fun hb => ?_) fun hb => ?_))
  ·rw [if_neg hc]
   by_cases hc1 : 0 < g
   ·refine meets_of_gx Ax tab_ok Tryz.func80 (c := _) rfl Tryz.call80 300 ?_
    (repeat' ((conv => whnf); first | (exfalso; omega) | (refine callh [some 0] q rfl rfl ⟨rfl, trivial⟩ ?_) | (refine end_fn [some 0] (.inr rfl) ?_ ?_ rfl rfl; (focus exact vwV); exact hsV) | refine spC (fun hb => ?_) fun hb => ?_ | refine saC ?_))
   ·refine meets_of_gx Ax tab_ok Tryz.func80 (c := _) rfl Tryz.call80 300 ?_
    (repeat' ((conv => whnf); first | (exfalso; omega) | (refine callh [some 0] q rfl rfl ⟨rfl, trivial⟩ ?_) | (refine end_fn [some 0] (.inr rfl) ?_ ?_ rfl rfl; (focus exact vwV); exact hsV) | refine spC (fun hb => ?_) fun hb => ?_ | refine saC ?_))
end Go.SX

/-
 Plain: a run, bit by bit.
-/
namespace Go.SX
def orsR (rows : List Int) (y f : Nat) : Nat → List Int
 | 0 => rows
 | k + 1 => orAt (orsR rows y f k) y ((f : Int) + k)
theorem orsR_len (rows : List Int) (y f : Nat) : ∀ k, (orsR rows y f k).length = rows.length
 | 0 => rfl
 | k + 1 => by rw [orsR, orAt_len, orsR_len rows y f k]
theorem set_getD {l : List Int} {y : Nat} (h : y < l.length) : l.set y (l.getD y 0) = l := by
 refine List.ext_getElem (by simp) fun i h1 h2 => ?_
 rw [List.getElem_set]
 split
 ·rename_i e; subst e
  rw [List.getD_eq_getElem?_getD, List.getElem?_eq_getElem h]; rfl
 ·rfl
theorem getD_set {l : List Int} {y : Nat} {v : Int} (h : y < l.length) : (l.set y v).getD y 0 = v := by
 rw [List.getD_eq_getElem?_getD, List.getElem?_set_self h]; rfl
theorem mask_lt {f k : Nat} : 2 ^ f * (2 ^ k - 1) < 2 ^ (f + k) := by
 rw [Nat.pow_add]
 exact Nat.mul_lt_mul_of_pos_left (by have := Nat.two_pow_pos k; omega) (Nat.two_pow_pos f)
theorem ors_mask {rows : List Int} {y f : Nat} (hy : y < rows.length) (hv : 0 ≤ rows.getD y 0 ∧ rows.getD y 0 ≤ 281474976710655) : ∀ k : Nat, f + k ≤ 48 → orsR rows y f k = rows.set y (((rows.getD y 0).toNat ||| 2 ^ f * (2 ^ k - 1) : Nat) : Int)
 | 0, _ => by
  rw [orsR]
  simp only [Nat.pow_zero, Nat.sub_self, Nat.mul_zero, Nat.or_zero]
  rw [show (((rows.getD y 0).toNat : Nat) : Int) = rows.getD y 0 by omega, set_getD hy]
 | k + 1, hk => by
  have hn : (rows.getD y 0).toNat < 2 ^ 48 := by omega
  have hm : 2 ^ f * (2 ^ k - 1) < 2 ^ 48 := Nat.lt_of_lt_of_le mask_lt (Nat.pow_le_pow_right (by omega) (by omega))
  have h1 : 2 ^ (f + k) < 2 ^ 48 := Nat.pow_lt_pow_right (by omega) (by omega)
  rw [orsR, ors_mask hy hv k (by omega)]
  unfold orAt
  rw [getD_set hy, List.set_set, show (f : Int) + k = ((f + k : Nat) : Int) by omega, shl_one (by omega), or_nat (Nat.or_lt_two_pow hn hm) h1]
  congr 2
  rw [Nat.or_assoc]
  congr 1
  rw [Nat.or_comm, show 2 ^ (f + k) ||| 2 ^ f * (2 ^ k - 1) = 2 ^ (f + k) * 1 ||| 2 ^ f * (2 ^ k - 1) by rw [Nat.mul_one], ← Nat.two_pow_add_eq_or_of_lt mask_lt, Nat.mul_one, Nat.pow_succ]
  have hp := Nat.two_pow_pos k
  rw [show 2 ^ k * 2 - 1 = 2 ^ k + (2 ^ k - 1) by omega, Nat.mul_add, ← Nat.pow_add]
theorem ors_run {rows : List Int} {y f z : Int} (hy : 0 ≤ y ∧ y.toNat < rows.length) (hf : 0 ≤ f) (hz : f ≤ z ∧ z ≤ 47) (hv : 0 ≤ rows.getD y.toNat 0 ∧ rows.getD y.toNat 0 ≤ 281474976710655) : orsR rows y.toNat f.toNat (z - f + 1).toNat = rows.set y.toNat (bitop .or .i64 (rows.getD y.toNat 0) (maskW f z)) := by
 obtain ⟨f, rfl⟩ := Int.eq_ofNat_of_zero_le hf
 obtain ⟨z, rfl⟩ := Int.eq_ofNat_of_zero_le (show 0 ≤ z by omega)
 rw [ors_mask hy.2 hv _ (by omega)]
 congr 1
 have hm := mask_nat (p := (f, z)) (show f ≤ z by omega)
 have hl := mk_lt (p := (f, z)) (show f ≤ z by omega) (show z ≤ 47 by omega)
 rw [show maskW (f : Int) (z : Int) = ((mk (f, z) : Nat) : Int) from hm]
 have e : rows.getD y.toNat 0 = (((rows.getD y.toNat 0).toNat : Nat) : Int) := by omega
 rw [e, or_nat (by omega) hl]
 unfold mk
 rw [show ((z : Int) - f + 1).toNat = z - f + 1 by omega, Int.toNat_natCast, Int.toNat_natCast]
theorem ors_ok {rows : List Int} (h : RowsOK rows) {y f : Nat} (hy : y < 24) : ∀ k : Nat, f + k ≤ 48 → RowsOK (orsR rows y f k)
 | 0, _ => h
 | k + 1, hk => by
  rw [orsR]
  exact (orAt_ok (ors_ok h hy k (by omega)) hy (by omega)).1
end Go.SX

namespace Go.SX
open Go.Proofs
set_option maxHeartbeats 400000000
set_option maxRecDepth 100000
theorem num_lo {ws : List Wd} {lo h a m : Int} {w : Bool} (hl : 0 ≤ lo) (hh : 0 ≤ h) : 0 ≤ (xNum ws lo h a w m).1 ∧ (xNum ws lo h a w m).1 ≤ h ∧ ((xNum ws lo h a w m).2.2.1 = false → lo ≤ (xNum ws lo h a w m).1) ∧ (w = true → (xNum ws lo h a w m).2.2.1 = true) := by
 unfold xNum
 split
 ·exact ⟨Int.le_refl _, hh, (fun h => by cases h), fun _ => rfl⟩
 ·rename_i hc
  simp only [not_or, Decidable.not_not] at hc
  exact ⟨by show 0 ≤ valS _; omega, hc.2.2.2, fun _ => hc.2.2.1, fun h => absurd h hc.1⟩
theorem must_wrong {ws : List Wd} {l : List Wd} {a m : Int} : (xMust ws l a true m).2.2.1 = true := (stay_must ws l a m).2
structure RunI (ws : List Wd) (S : Xr (List Int)) (q : Nat × Int × Int × List Int × Int × Bool × Int) : Prop where
 eq : xRunsL ws q.1 q.2.1 q.2.2.1 q.2.2.2.1 q.2.2.2.2.1 q.2.2.2.2.2.1 q.2.2.2.2.2.2 = S
 inw : InW ws q.2.2.2.2.1 q.2.2.2.2.2.2
 pos : 1 ≤ q.1
 mu : q.2.2.2.2.2.1 = false → (23 - q.2.1) * 25 + (47 - q.2.2.1) / 2 + 1 ≤ q.1
 y0 : 0 ≤ q.2.1 ∧ q.2.1 ≤ 23
 l0 : -2 ≤ q.2.2.1 ∧ q.2.2.1 ≤ 47
 len : q.2.2.2.1.length = 24
 rng : ∀ r ∈ q.2.2.2.1, 0 ≤ r ∧ r ≤ 281474976710655
theorem xruns {ws : List Wd} {a m : Int} (hi : InW ws a m) (hn : WsOK ws) (w : Bool) : Meets Tryz.prog Dc 81 [.ptr 0 0] (rdX ws a w m) (areaA (xRuns ws a w m).1) (rdX ws (xRuns ws a w m).2.1 (xRuns ws a w m).2.2.1 (xRuns ws a w m).2.2.2) := by
 unfold xRuns
 generalize hS : xRunsL ws 1200 0 (-2) (List.replicate 24 0) a w m = S
 refine meets_of_gx Ax tab_ok Tryz.func81 (c := _) rfl Tryz.call81 600 ?_
 (repeat' ((conv => whnf); first | refine saC ?_))
 refine loop_up (fun q : Nat × Int × Int × List Int × Int × Bool × Int => [(4, iS q.2.1), (5, iS q.2.2.1)]) (fun q => [(0, .vart none [wsS ws, iS q.2.2.2.2.1, bS q.2.2.2.2.2.1, iS q.2.2.2.2.2.2]), (2, .rows U.int q.2.2.2.1)]) (RunI ws S) (fun q => q.1) (1200, 0, -2, List.replicate 24 0, a, w, m) ⟨hS, hi, by show 1 ≤ 1200; omega, fun _ => by dsimp only; omega, by dsimp only; omega, by dsimp only; omega, by simp, fun r hr => by rw [(List.mem_replicate.1 hr).2]; omega⟩ (by exact bkI) ?_
 clear hS hi
 rintro ⟨n, y, last, rows, a, w, m⟩ ⟨hS, hi, hn1, hmu, hy, hl, hlen, hrng⟩ K hK
 dsimp only at hS hi hn1 hmu hy hl hlen hrng hK ⊢
 obtain ⟨n, rfl⟩ : ∃ k, n = k + 1 := ⟨n - 1, by omega⟩
 rw [runs_succ] at hS
 have q0 := xnext hi hn w w_at
 cases w with
 | true =>
  rw [next_wrong] at hS q0
  rw [if_neg (by simp)] at hS
  have hT : S.1 = List.take (Int.toNat 24) (List.drop 0 rows) := by rw [← hS, List.drop_zero, List.take_of_length_le (by show rows.length ≤ 24; omega)]
  rw [hT, ← hS]
  clear hmu hT
  (repeat' ((conv => whnf); first | (refine callh [some 0] q0 rfl rfl ⟨rfl, trivial⟩ ?_) | (refine end_fn [some 0] (.inr rfl) ?_ ?_ rfl rfl; (focus exact vwV); exact hsV) | refine spC (fun hb => ?_) fun hb => ?_))
 | false =>
  have hmu := hmu rfl
  by_cases hgo : (xNext ws w_at a false || (decide (y = 0) && decide (last = -2) && !false)) = true
  ·rw [if_pos hgo] at hS
   unfold xBody at hS
   have hcond : xNext ws w_at a false = true ∨ xNext ws w_at a false = false ∧ y = 0 ∧ last = -2 := by
    simp only [Bool.or_eq_true, Bool.and_eq_true, decide_eq_true_eq, Bool.not_false, and_true] at hgo
    cases hx : xNext ws w_at a false with
    | true => exact .inl rfl
    | false => rw [hx] at hgo; rcases hgo with h | h; cases h; exact .inr ⟨rfl, h⟩
   by_cases hend : ¬ last + 2 < 48 ∧ y = 23
   ·rw [if_pos hend] at hS
    have hT : S.1 = List.take (Int.toNat 24) (List.drop 0 rows) := by rw [← hS, List.drop_zero, List.take_of_length_le (by show rows.length ≤ 24; omega)]
    rw [hT, ← hS]
    have hx : xNext ws w_at a false = true := by rcases hcond with h | h; exact h; omega
    rw [hx] at q0
    clear hmu hT
    (repeat' ((conv => whnf); first | (exfalso; omega) | (refine callh [some 0] q0 rfl rfl ⟨rfl, trivial⟩ ?_) | (refine end_fn [some 0] (.inr rfl) ?_ ?_ rfl rfl; (focus exact vwV); exact hsV) | refine spC (fun hb => ?_) fun hb => ?_ | refine saC ?_))
   ·rw [if_neg hend] at hS
    have qm := xmust hi hn false [w_at] (by simp)
    have im := kp_must ws [w_at] a false m hi
    generalize xMust ws [w_at] a false m = x1 at *
    obtain ⟨u, a1, w1, m1⟩ := x1
    have qn := xnumber im hn w1 (if last + 2 < 48 then y else y + 1) 23
    have jn := kp_num ws (if last + 2 < 48 then y else y + 1) 23 a1 w1 m1 im
    have bn := num_lo (ws := ws) (lo := if last + 2 < 48 then y else y + 1) (h := 23) (a := a1) (m := m1) (w := w1) (by split <;> omega) (by omega)
    replace hS : (xNum ws (if last + 2 < 48 then y else y + 1) 23 a1 w1 m1).bind (fun y' a w m => (xNum ws (if y' = y then last + 2 else 0) 47 a w m).bind fun first a w m => (xNum ws first 47 a w m).bind fun last' a w m => xRunsL ws n y' last' (if w then rows else rows.set y'.toNat (bitop .or .i64 (rows.getD y'.toNat 0) (maskW first last'))) a w m) = S := hS
    generalize xNum ws (if last + 2 < 48 then y else y + 1) 23 a1 w1 m1 = x2 at *
    obtain ⟨y', a2, w2, m2⟩ := x2
    have qf := xnumber jn hn w2 (if y' = y then last + 2 else 0) 47
    have jf := kp_num ws (if y' = y then last + 2 else 0) 47 a2 w2 m2 jn
    have bf := num_lo (ws := ws) (lo := if y' = y then last + 2 else 0) (h := 47) (a := a2) (m := m2) (w := w2) (by split <;> omega) (by omega)
    replace hS : (xNum ws (if y' = y then last + 2 else 0) 47 a2 w2 m2).bind (fun first a w m => (xNum ws first 47 a w m).bind fun last' a w m => xRunsL ws n y' last' (if w then rows else rows.set y'.toNat (bitop .or .i64 (rows.getD y'.toNat 0) (maskW first last'))) a w m) = S := hS
    generalize xNum ws (if y' = y then last + 2 else 0) 47 a2 w2 m2 = x3 at *
    obtain ⟨f, a3, w3, m3⟩ := x3
    have ql := xnumber jf hn w3 f 47
    have jl := kp_num ws f 47 a3 w3 m3 jf
    have bl := num_lo (ws := ws) (lo := f) (h := 47) (a := a3) (m := m3) (w := w3) (by have := bf.1; exact this) (by omega)
    replace hS : (xNum ws f 47 a3 w3 m3).bind (fun last' a w m => xRunsL ws n y' last' (if w then rows else rows.set y'.toNat (bitop .or .i64 (rows.getD y'.toNat 0) (maskW f last'))) a w m) = S := hS
    generalize xNum ws f 47 a3 w3 m3 = x4 at *
    obtain ⟨z, a4, w4, m4⟩ := x4
    replace hS : xRunsL ws n y' z (if w4 then rows else rows.set y'.toNat (bitop .or .i64 (rows.getD y'.toNat 0) (maskW f z))) a4 w4 m4 = S := hS
    dsimp only at qm im qn jn bn qf jf bf ql jl bl
    have hpos : 1 ≤ n := by omega
    have hgood : w4 = false → 0 ≤ f ∧ f ≤ z ∧ z ≤ 47 ∧ y'.toNat < 24 ∧ (23 - y') * 25 + (47 - z) / 2 + 1 ≤ n ∧ orsR rows y'.toNat f.toNat (z - f + 1).toNat = rows.set y'.toNat (bitop .or .i64 (rows.getD y'.toNat 0) (maskW f z)) ∧ RowsOK (orsR rows y'.toNat f.toNat (z - f + 1).toNat) := fun h4 => by
     have h3 : w3 = false := by cases w3 with | false => rfl | true => have := bl.2.2.2 rfl; rw [h4] at this; cases this
     have h2 : w2 = false := by cases w2 with | false => rfl | true => have := bf.2.2.2 rfl; rw [h3] at this; cases this
     have c1 := bl.2.2.1 h4
     have c2 := bf.2.2.1 h3
     have c3 := bn.2.2.1 h2
     have d1 := bn.2.1
     have d2 := bl.2.1
     have d3 := bf.1
     have d4 := bn.1
     have hy24 : y'.toNat < 24 := by omega
     have hm : (23 - y') * 25 + (47 - z) / 2 + 1 ≤ n := by
      by_cases hyy : y' = y
      ·rw [if_pos hyy] at c2; split at c3 <;> omega
      ·split at c3 <;> omega
     have hok : RowsOK rows := ⟨hlen, hrng⟩
     have hidx : y'.toNat < rows.length := by omega
     have hg : rows.getD y'.toNat 0 ∈ rows := List.mem_of_getElem? (getD_some (d := (0 : Int)) hidx)
     exact ⟨d3, c1, d2, hy24, hm, ors_run ⟨d4, hidx⟩ d3 ⟨c1, d2⟩ (hrng _ hg), ors_ok hok hy24 _ (by omega)⟩
    have hz0 : 0 ≤ z := bl.1
    have hy0' : 0 ≤ y' := bn.1
    have hy23' : y' ≤ 23 := bn.2.1
    have hf0' : 0 ≤ f := bf.1
    have hf47' : f ≤ 47 := bf.2.1
    have hz47' : z ≤ 47 := bl.2.1
    rcases hcond with hx | ⟨hx, hy0, hl0⟩
    all_goals rw [hx] at q0
    all_goals by_cases hmore : last + 2 < 48
    all_goals first
     | rw [if_pos hmore] at qn
     | rw [if_neg hmore] at qn
    all_goals by_cases hyy : y' = y
    all_goals first
     | rw [if_pos hyy] at qf
     | rw [if_neg hyy] at qf
    all_goals try (exfalso; omega)
    all_goals (repeat' ((conv => whnf); first | (exfalso; omega) | (refine callh [some 0] q0 rfl rfl ⟨rfl, trivial⟩ ?_) | (refine callh [some 0, some 4] qm rfl rfl ⟨rfl, rfl, trivial⟩ ?_) | (refine callh [some 0] qn rfl rfl ⟨rfl, trivial⟩ ?_) | (refine callh [some 0] qf rfl rfl ⟨rfl, trivial⟩ ?_) | (refine callh [some 0] ql rfl rfl ⟨rfl, trivial⟩ ?_) | refine spC (fun hb => ?_) fun hb => ?_ | refine saC ?_))
    all_goals (conv => whnf)
    all_goals (
     cases w4 with
     | true =>
      have hS : xRunsL ws n y' z rows a4 true m4 = S := hS
      refine loop_up (fun _ : Unit => [(9, iS f)]) (fun _ => []) (fun _ => True) (fun _ => 0) () trivial (by exact bkI) ?_
      intro _ _ K2 hK2
      (repeat' ((conv => whnf); first | refine hK (n, y', z, rows, a4, true, m4) [some 0, some 1, some 2, some 3] _ _ ⟨⟨hS, jl, hpos, (fun h => by cases h), ⟨bn.1, bn.2.1⟩, ⟨by dsimp only; omega, bl.2.1⟩, hlen, hrng⟩⟩ ⟨by dsimp only; omega⟩ (by exact bkI) | refine spC (fun hb => ?_) fun hb => ?_))
     | false =>
      obtain ⟨g1, g2, g3, g4, hmu2, hnew, hnok⟩ := hgood rfl
      have hS : xRunsL ws n y' z (rows.set y'.toNat (bitop .or .i64 (rows.getD y'.toNat 0) (maskW f z))) a4 false m4 = S := hS
      rw [← hnew] at hS
      refine loop_up (fun q : Nat × List Int => [(9, iS (f + q.1))]) (fun q => [(2, .rows U.int q.2)]) (fun q => q.1 ≤ (z - f + 1).toNat ∧ q.2 = orsR rows y'.toNat f.toNat q.1) (fun q => (z - f + 1).toNat - q.1) (0, rows) ⟨Nat.zero_le _, rfl⟩ (by exact bkI) ?_
      rintro ⟨k, R⟩ ⟨hk, hR⟩ K2 hK2
      dsimp only at hk hR hK2 ⊢
      have hRl : R.length = 24 := by rw [hR, orsR_len]; exact hlen
      rcases Nat.lt_or_ge k (z - f + 1).toNat with hkl | hkg
      ·have hR2 : R.set (0 + y'.toNat) (bitop .or .i64 (R.getD (0 + y'.toNat) (Cd.dflt U.int)) (shlop .i64 1 (f + k))) = orsR rows y'.toNat f.toNat (k + 1) := by
        rw [Nat.zero_add, orsR, ← hR, show ((f.toNat : Nat) : Int) = f by omega]; rfl
       clear hS hK hnew
       (repeat' ((conv => whnf); first | (exfalso; omega) | refine hK2 (k + 1, R.set (0 + y'.toNat) (bitop .or .i64 (R.getD (0 + y'.toNat) (Cd.dflt U.int)) (shlop .i64 1 (f + k)))) [some 0, some 1, some 2, some 3, some 4] _ _ ⟨⟨by dsimp only; omega, hR2⟩⟩ ⟨by dsimp only; omega⟩ (by exact bkI) | refine spC (fun hb => ?_) fun hb => ?_ | refine taC ?_ | refine saC ?_ | refine drawX_of mixed ?_))
      ·have hke : k = (z - f + 1).toNat := by omega
       rw [← hke, ← hR] at hS hnok
       (repeat' ((conv => whnf); first | (exfalso; omega) | refine hK (n, y', z, R, a4, false, m4) [some 0, some 1, some 2, some 3] _ _ ⟨⟨hS, jl, hpos, (fun _ => hmu2), ⟨bn.1, bn.2.1⟩, ⟨by dsimp only; omega, bl.2.1⟩, hRl, hnok.ok⟩⟩ ⟨by dsimp only; omega⟩ (by exact bkI) | refine spC (fun hb => ?_) fun hb => ?_)))
  ·rw [if_neg hgo] at hS
   simp only [Bool.or_eq_true, Bool.and_eq_true, decide_eq_true_eq, not_or, Bool.not_eq_true, Bool.not_false, and_true] at hgo
   rw [hgo.1] at q0
   have hT : S.1 = List.take (Int.toNat 24) (List.drop 0 rows) := by rw [← hS, List.drop_zero, List.take_of_length_le (by show rows.length ≤ 24; omega)]
   rw [hT, ← hS]
   have hg2 := hgo.2
   clear hmu hT
   (repeat' ((conv => whnf); first | (exfalso; omega) | (refine callh [some 0] q0 rfl rfl ⟨rfl, trivial⟩ ?_) | (refine end_fn [some 0] (.inr rfl) ?_ ?_ rfl rfl; (focus exact vwV); exact hsV) | refine spC (fun hb => ?_) fun hb => ?_))
end Go.SX
