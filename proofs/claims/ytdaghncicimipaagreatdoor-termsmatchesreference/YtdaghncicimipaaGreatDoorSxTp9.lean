/-
  Plain law: the goals that integers determine are valid.
-/
import Derived.Test.YtdaghncicimipaaGreatDoorSxTd2
namespace Go.SX
set_option linter.unusedSimpArgs false
set_option linter.unusedVariables false
theorem sizeL_app : ∀ (l : List Goal) (k : Goal) (d a b : Int), sizeL l d = some a → sizeG k d = some b → sizeL (l ++ [k]) d = some (a + b)
  | [], k, d, a, b, h1, h2 => by
    rw [sizeL] at h1; injection h1 with h1
    rw [List.nil_append, sizeL, h2]
    simp only [sizeL]
    congr 1; omega
  | x :: l, k, d, a, b, h1, h2 => by
    rw [sizeL] at h1
    rw [List.cons_append, sizeL]
    cases hx : sizeG x d with
    | none => rw [hx] at h1; cases h1
    | some m =>
      rw [hx] at h1
      dsimp only at h1 ⊢
      cases hl : sizeL l d with
      | none => rw [hl] at h1; cases h1
      | some c =>
        rw [hl] at h1
        injection h1 with h1
        rw [sizeL_app l k d c b hl h2]
        dsimp only
        congr 1; omega
/-- what a reckoning of goals gives -/
structure GoalOK (j : Nat) (most : Int) (r : Goal × Int × Int) : Prop where
  size : sizeG r.1 (4 - j) = some r.2.2
  used : r.2.1 = r.2.2
  pos : 1 ≤ r.2.2
  le : r.2.2 ≤ most
  kind : 1 ≤ r.1.kind ∧ r.1.kind ≤ 6
structure KidOK (j : Nat) (most : Int) (i : Nat) (s : KidSt) : Prop where
  kl : s.kids.length = i
  cl : s.cents.length = i
  size : sizeL s.kids (4 - j) = some (s.count - 1)
  used : s.used = s.count
  low : 1 ≤ s.count ∧ (i : Int) + 1 ≤ s.count
  high : s.count + (if i ≤ 1 then 1 else 0) ≤ most
  cents : ∀ c ∈ s.cents, 0 ≤ c ∧ c ≤ 1000000000
  kinds : ∀ k ∈ s.kids, 1 ≤ k.kind ∧ k.kind ≤ 6
theorem kid_start {rec : Int → Int → Goal × Int × Int} {y : A5} {at_ most : Int} {j : Nat} (hm : 3 ≤ most) : KidOK j most 0 (kidsN rec y at_ most 0) := by
  refine ⟨rfl, rfl, by simp [kidsN, sizeL], rfl, by simp [kidsN], ?_, fun c h => (by cases h), fun c h => (by cases h)⟩
  simp [kidsN]; omega
theorem kid_step {rec : Int → Int → Goal × Int × Int} {y : A5} {at_ most many : Int} {j : Nat} (hm : 3 ≤ most) (hr : ∀ (a m : Int), 1 ≤ m → a + m ≤ at_ + most → at_ < a → GoalOK j m (rec a m)) {i : Nat} (h : KidOK j most i (kidsN rec y at_ most i)) (hg : goB rec y at_ most many i = true) : KidOK j most (i + 1) (kidsN rec y at_ most (i + 1)) := by
  unfold goB at hg
  simp only [Bool.and_eq_true, Bool.or_eq_true, decide_eq_true_eq] at hg
  have hh := h.high
  have hu := h.used
  have hlo := h.low
  have hone : 1 ≤ most - (kidsN rec y at_ most i).count - max 0 (1 - (i : Int)) := by
    rcases Nat.lt_or_ge i 1 with h0 | h0
    · obtain rfl : i = 0 := by omega
      have : (kidsN rec y at_ most 0).count = 1 := rfl
      omega
    · rcases Nat.lt_or_ge i 2 with h1 | h1
      · rw [if_pos (by omega)] at hh; omega
      · rcases hg.2 with h2 | h2
        · omega
        · omega
  have hk := hr (at_ + (kidsN rec y at_ most i).used) (most - (kidsN rec y at_ most i).count - max 0 (1 - (i : Int))) hone (by omega) (by omega)
  have hp := hk.pos
  have hl := hk.le
  refine ⟨by simp [kidsN, h.kl], by simp [kidsN, h.cl], ?_, ?_, ?_, ?_, fun c hc => ?_, fun k hc => ?_⟩
  · simp only [kidsN]
    rw [sizeL_app _ _ _ _ _ h.size hk.size]
    congr 1; omega
  · have := hk.used
    simp only [kidsN]; omega
  · simp only [kidsN]; omega
  · have h0 : i = 0 → (kidsN rec y at_ most i).count = 1 := fun e => by subst e; rfl
    simp only [kidsN]
    split <;> omega
  · simp only [kidsN] at hc
    rcases List.mem_append.1 hc with hc | hc
    · exact h.cents c hc
    · rw [List.mem_singleton.1 hc]
      have := pickS_bd (c := IntKind.i64.wrap (y.c + IntKind.i64.wrap ((i : Int) * y.d))) (n := 1000) (by omega)
      omega
  · simp only [kidsN] at hc
    rcases List.mem_append.1 hc with hc | hc
    · exact h.kinds k hc
    · rw [List.mem_singleton.1 hc]; exact hk.kind
/-- so many parts there are in the end -/
theorem kid_end {rec : Int → Int → Goal × Int × Int} {y : A5} {at_ most many : Int} {j : Nat} (hm : 3 ≤ most) (hmany : 2 ≤ many ∧ many ≤ 4) (hr : ∀ (a m : Int), 1 ≤ m → a + m ≤ at_ + most → at_ < a → GoalOK j m (rec a m)) :
    ∃ e, endI rec y at_ most many 4 0 = e ∧ 2 ≤ e ∧ e ≤ 4 ∧ KidOK j most e (kidsN rec y at_ most e) := by
  have key : ∀ f i, KidOK j most i (kidsN rec y at_ most i) → i + f = 4 → ∃ e, endI rec y at_ most many f i = e ∧ i ≤ e ∧ e ≤ 4 ∧ KidOK j most e (kidsN rec y at_ most e) ∧ (e < 4 → goB rec y at_ most many e = false) := by
    intro f
    induction f with
    | zero => intro i h hi; exact ⟨i, rfl, Nat.le_refl _, by omega, h, fun h => by omega⟩
    | succ f ih =>
      intro i h hi
      rw [endI]
      cases hg : goB rec y at_ most many i with
      | false => exact ⟨i, rfl, Nat.le_refl _, by omega, h, fun _ => hg⟩
      | true =>
        obtain ⟨e, h1, h2, h3⟩ := ih (i + 1) (kid_step hm hr h hg) (by omega)
        exact ⟨e, by simpa using h1, by omega, h3⟩
  obtain ⟨e, h1, h2, h3, h4, h5⟩ := key 4 0 (kid_start hm) rfl
  refine ⟨e, h1, ?_, h3, h4⟩
  rcases Nat.lt_or_ge e 2 with hlt | hge
  · have := h5 (by omega)
    unfold goB at this
    rw [decide_eq_true (show (e : Int) < many by omega), decide_eq_true (show (e : Int) < 2 by omega)] at this
    cases this
  · exact hge
theorem kindS_bd (j : Nat) (x : List A5) (at_ most : Int) : 1 ≤ kindS j x at_ most ∧ kindS j x at_ most ≤ 6 ∧ (kindS j x at_ most ≠ 1 → j ≠ 0 ∧ 2 ≤ most ∧ at_ + 1 < x.length) ∧ (5 ≤ kindS j x at_ most → 3 ≤ most) := by
  have := pickS_bd (c := (y5 x at_).a.tdiv 144) (n := 6) (by omega)
  unfold kindS
  split
  · omega
  · rename_i h
    simp only [not_or, not_and] at h
    omega
theorem one_kid {k : Goal} {x : A5} (h : k.kids = [seeS x]) : (k.kids.length : Int) = 1 ∧ k.kids.any (fun z => decide ((1 : Int) < z.kind)) = false ∧ k.kids.any (fun z => decide ((3 : Int) < z.kind)) = false := by
  rw [h]; simp [seeS]
theorem goals_ok : ∀ (j : Nat) (x : List A5) (at_ most : Int), j ≤ 3 → 1 ≤ most → GoalOK j most (goalsS j x at_ most)
  | 0, x, at_, most, hj, hm => ⟨by rw [goalsS]; exact seeS_size _ (by omega), rfl, by simp [goalsS], by simp [goalsS]; omega, by simp [goalsS, seeS]⟩
  | j + 1, x, at_, most, hj, hm => by
    obtain ⟨hk1, hk6, hk, hk5⟩ := kindS_bd (j + 1) x at_ most
    have size_one : ∀ g : Goal, okB g = true → (∃ z, g.kids = [seeS z]) → sizeG g (4 - ((j + 1 : Nat) : Int)) = some 2 := fun g h ⟨z, hz⟩ => by
      rw [sizeG_eq, h, decide_eq_false (by omega), hz]
      simp only [Bool.false_or, Bool.not_true, Bool.false_eq_true, if_false]
      rw [sizeL, seeS_size z (by omega)]
      simp [sizeL]
    rw [goalsS]
    dsimp only
    split
    · rename_i e
      have h2 := (hk (by omega)).2.1
      have b1 := pickS_bd (c := (y5 x at_).b) (n := 8) (by omega)
      have b2 := pickS_bd (c := (y5 x at_).c) (n := 3000) (by omega)
      refine ⟨size_one _ ?_ ⟨_, rfl⟩, rfl, by show (1 : Int) ≤ 2; omega, h2, by simp⟩
      unfold okB plainB restG limB partsB manyB centsB lastK
      simp [inB_iff, seeS]
      omega
    · split
      · rename_i e
        have h2 := (hk (by omega)).2.1
        have b1 := pickS_bd (c := (y5 x at_).b) (n := 4) (by omega)
        have b2 := pickS_bd (c := (y5 x at_).c) (n := 4) (by omega)
        have b3 := pickS_bd (c := (y5 x at_).d) (n := 1440 * (1 + pickS (y5 x at_).b 4) + 1) (by omega)
        have b4 := pickS_bd (c := (y5 x at_).e) (n := 3000) (by omega)
        refine ⟨size_one _ ?_ ⟨_, rfl⟩, rfl, by show (1 : Int) ≤ 2; omega, h2, by simp⟩
        unfold okB plainB restG limB partsB manyB centsB lastK
        simp [inB_iff, seeS]
        omega
      · split
        · rename_i e
          have h2 := (hk (by omega)).2.1
          have b1 := pickS_bd (c := (y5 x at_).b) (n := 3000) (by omega)
          refine ⟨size_one _ ?_ ⟨_, rfl⟩, rfl, by show (1 : Int) ≤ 2; omega, h2, by simp⟩
          unfold okB plainB restG limB partsB manyB centsB lastK
          simp [inB_iff, seeS]
          omega
        · split
          · rename_i e
            have h3 := hk5 (by omega)
            have b1 := pickS_bd (c := (y5 x at_).b) (n := 3) (by omega)
            obtain ⟨e', h4, h5, h6, h7⟩ := kid_end (rec := goalsS j x) (y := y5 x at_) (at_ := at_) (most := most) (many := 2 + pickS (y5 x at_).b 3) (j := j) h3 (by omega) fun a m hm _ _ => goals_ok j x a m (by omega) hm
            rw [h4]
            generalize kidsN (goalsS j x) (y5 x at_) at_ most e' = s at h7 ⊢
            have hlow := h7.low
            have hhi := h7.high
            have hhi : s.count ≤ most := by split at hhi <;> omega
            have hany : s.kids.any (fun z => decide ((6 : Int) < z.kind)) = false := by
              rw [List.any_eq_false]
              intro z hz
              have := (h7.kinds z hz).2
              simp; omega
            have hcents : s.cents.any (fun n => !inB n 0 1000000000) = false := by
              rw [List.any_eq_false]
              intro z hz
              have := h7.cents z hz
              rw [(inB_iff z 0 1000000000).2 this]; simp
            refine ⟨?_, h7.used, by show 1 ≤ s.count; omega, by show s.count ≤ most; omega, by rcases e with e | e <;> rw [e] <;> simp⟩
            show sizeG _ _ = some s.count
            have hok : okB ⟨kindS (j + 1) x at_ most, [], 0, 0, 0, 0, false, 0, 0, 0, if kindS (j + 1) x at_ most = 6 then s.cents else [], s.kids⟩ = true := by
              have hkl := h7.kl
              have hcl := h7.cl
              rcases e with e | e
              · rw [e]
                unfold okB plainB restG limB partsB manyB centsB lastK
                simp [inB_iff, hany, hkl]
                (repeat' apply And.intro) <;> first | omega | exact fun z hz => (h7.kinds z hz).2
              · rw [e]
                unfold okB plainB restG limB partsB manyB centsB lastK
                simp [inB_iff, hany, hkl, hcl]
                (repeat' apply And.intro) <;> first | omega | exact fun z hz => h7.cents z hz | exact fun z hz => (h7.kinds z hz).2
            rw [sizeG_eq, hok, decide_eq_false (by omega)]
            simp only [Bool.false_or, Bool.not_true, Bool.false_eq_true, if_false]
            rw [show (4 - ((j + 1 : Nat) : Int) + 1) = 4 - (j : Int) by omega, h7.size]
            dsimp only
            congr 1; omega
          · exact ⟨seeS_size _ (by omega), rfl, by show (1 : Int) ≤ 1; omega, hm, by simp [seeS]⟩
theorem goal_valid (x : List A5) : validG (goalS x) = true := by
  have h := goals_ok 3 x 0 9 (by omega) (by omega)
  unfold goalS validG
  have hs := h.size
  rw [show (4 - ((3 : Nat) : Int)) = 1 by omega] at hs
  rw [hs]
  have := h.le
  exact decide_eq_true (by omega)
end Go.SX

/-
  Plain law: the events that integers determine; valid events, and a part of them.
-/
namespace Go.SX
set_option linter.unusedSimpArgs false
set_option linter.unusedVariables false
/-! the exposures of a goal -/
mutual
def seesG : Goal → List Goal
  | ⟨kind, rows, from_, to_, low, high, clear, days, times, within, cents, kids⟩ =>
    if kind = 1 then [⟨kind, rows, from_, to_, low, high, clear, days, times, within, cents, kids⟩] else seesL kids
def seesL : List Goal → List Goal
  | [] => []
  | k :: l => seesG k ++ seesL l
end
theorem seesG_eq (g : Goal) : seesG g = if g.kind = 1 then [g] else seesL g.kids := by cases g; rw [seesG]
theorem seesL_snoc : ∀ (l : List Goal) (k : Goal), seesL (l ++ [k]) = seesL l ++ seesG k
  | [], k => by simp [seesL]
  | x :: l, k => by rw [List.cons_append, seesL, seesL, seesL_snoc l k, List.append_assoc]
mutual
theorem seesG_ok : ∀ (g : Goal) (d n : Int), sizeG g d = some n → ((seesG g).length : Int) ≤ n ∧ ∀ s ∈ seesG g, okB s = true ∧ s.kind = 1
  | ⟨kind, rows, from_, to_, low, high, clear, days, times, within, cents, kids⟩, d, n, hs => by
    have hL := seesL_ok kids
    obtain ⟨hok, hd, m, hm, rfl⟩ := size_ok hs
    have h0 := sizeL_pos hm
    rw [seesG_eq]
    split
    · rename_i e
      refine ⟨by simp; omega, fun s hs => ?_⟩
      rw [List.mem_singleton.1 hs]
      exact ⟨hok, e⟩
    · obtain ⟨h1, h2⟩ := hL (d + 1) m hm
      refine ⟨?_, h2⟩
      show ((seesL kids).length : Int) ≤ 1 + m
      omega
theorem seesL_ok : ∀ (l : List Goal) (d n : Int), sizeL l d = some n → ((seesL l).length : Int) ≤ n ∧ ∀ s ∈ seesL l, okB s = true ∧ s.kind = 1
  | [], d, n, hs => by
    rw [sizeL] at hs; injection hs with hs
    exact ⟨by simp [seesL]; omega, fun s h => by simp [seesL] at h⟩
  | k :: l, d, n, hs => by
    rw [sizeL] at hs
    split at hs
    · cases hs
    · rename_i m hm
      split at hs
      · cases hs
      · rename_i q hq
        injection hs with hs
        obtain ⟨h1, h2⟩ := seesG_ok k d m hm
        obtain ⟨h3, h4⟩ := seesL_ok l d q hq
        rw [seesL]
        refine ⟨by rw [List.length_append]; omega, fun s hs' => ?_⟩
        rcases List.mem_append.1 hs' with h | h
        · exact h2 s h
        · exact h4 s h
end
def shotsS (g : Goal) : List Goal := if validG g then seesG g else []
/-- what is known of an exposure -/
structure SeeOK (s : Goal) : Prop where
  rl : s.rows.length = 24
  rows : ∀ r ∈ s.rows, 0 ≤ r ∧ r ≤ 281474976710655
  fr : 0 ≤ s.from_ ∧ s.from_ ≤ 1000000
  to : s.from_ + 1 ≤ s.to_ ∧ s.to_ ≤ 1000000
  low : 0 ≤ s.low ∧ s.low ≤ 90
  high : s.low ≤ s.high ∧ s.high ≤ 90
theorem see_ok {s : Goal} (h : okB s = true) (hk : s.kind = 1) : SeeOK s := by
  have := (okB_parts h).2.1
  unfold limB at this
  rw [if_pos hk] at this
  simp only [Bool.and_eq_true, inB_iff] at this
  have ha := this.1.1.1.1.1
  unfold areaB at ha
  simp only [Bool.and_eq_true, decide_eq_true_eq, List.all_eq_true] at ha
  exact ⟨by omega, fun r hr => by have := ha.2 r hr; unfold rowOK at this; exact (inB_iff _ _ _).1 this, by omega, by omega, by omega, by omega⟩
theorem shots_ok (g : Goal) : (shotsS g).length ≤ 12 ∧ ∀ s ∈ shotsS g, SeeOK s := by
  unfold shotsS
  split
  · rename_i h
    unfold validG at h
    split at h
    · cases h
    · rename_i n hn
      obtain ⟨h1, h2⟩ := seesG_ok g 1 n hn
      have : n ≤ 12 := by simpa using h
      exact ⟨by omega, fun s hs => see_ok (h2 s hs).1 (h2 s hs).2⟩
  · exact ⟨by simp, fun s hs => by cases hs⟩
/-! an event more -/
def downE (l : List Event) (e : Event) : Nat → Nat
  | 0 => 0
  | i + 1 => if befB e (l.getD i (U.dflt .event)) then downE l e i else i + 1
theorem downE_le (l : List Event) (e : Event) : ∀ i, downE l e i ≤ i
  | 0 => Nat.le_refl _
  | i + 1 => by
    rw [downE]
    split
    · have := downE_le l e i; omega
    · exact Nat.le_refl _
def insE (l : List Event) (e : Event) : List Event :=
  if 0 < downE l e l.length ∧ befB (l.getD (downE l e l.length - 1) (U.dflt .event)) e = false then l else l.take (downE l e l.length) ++ e :: l.drop (downE l e l.length)
theorem insE_len (l : List Event) (e : Event) : (insE l e).length ≤ l.length + 1 := by
  unfold insE
  have := downE_le l e l.length
  split
  · omega
  · simp; omega
theorem insE_mem {l : List Event} {e x : Event} (h : x ∈ insE l e) : x ∈ l ∨ x = e := by
  unfold insE at h
  split at h
  · exact .inl h
  · rcases List.mem_append.1 h with h | h
    · exact .inl (List.mem_of_mem_take h)
    · rcases List.mem_cons.1 h with h | h
      · exact .inr h
      · exact .inl (List.mem_of_mem_drop h)
def sortedS (a b : List Event) : List Event := b.foldl insE a
theorem sortedS_len : ∀ (b a : List Event), (sortedS a b).length ≤ a.length + b.length
  | [], a => by simp [sortedS]
  | e :: b, a => by
    have := sortedS_len b (insE a e)
    have := insE_len a e
    simp only [sortedS, List.foldl_cons, List.length_cons] at *
    omega
theorem sortedS_mem {x : Event} : ∀ {b a : List Event}, x ∈ sortedS a b → x ∈ a ∨ x ∈ b
  | [], a, h => .inl h
  | e :: b, a, h => by
    rcases sortedS_mem (b := b) (a := insE a e) h with h | h
    · rcases insE_mem h with h | rfl
      · exact .inl h
      · exact .inr (by simp)
    · exact .inr (by simp [h])
/-! the events -/
structure EvSt where
  out : List Event
  at_ : Int
def evMake (shots : List Goal) (x : A4) (i : Nat) (at_ : Int) : Event × Int :=
  if 0 < pickS x.a 3 ∧ 0 < shots.length then
    let s := shots.getD (pickS (x.a.tdiv 3) shots.length).toNat (U.dflt .goal)
    let at2 := if at_ + pickS x.b 400 < s.from_ ∧ pickS x.c 3 = 0 then s.from_ else at_ + pickS x.b 400
    (⟨1, at2, i, if pickS x.c 5 = 4 then s.rows.set (pickS x.d 24).toNat 0 else s.rows, min 90 (s.low + pickS x.c (s.high - s.low + 3)), pickS x.d 9 - 4, decide (0 < pickS x.c 4)⟩, at2)
  else (⟨2, at_ + pickS x.b 400, pickS x.a (i + 1), [], 0, 0, false⟩, at_ + pickS x.b 400)
def evNext (shots : List Goal) (x : A4) (i : Nat) (s : EvSt) : EvSt :=
  ⟨if validE (insE s.out (evMake shots x i s.at_).1) && decide (s.out.length < (insE s.out (evMake shots x i s.at_).1).length) then insE s.out (evMake shots x i s.at_).1 else s.out, (evMake shots x i s.at_).2⟩
def zero4 : A4 := ⟨0, 0, 0, 0⟩
def eventsN (shots : List Goal) (xs : List A4) : Nat → EvSt
  | 0 => ⟨[], 0⟩
  | i + 1 => evNext shots (xs.getD i zero4) i (eventsN shots xs i)
def eventsS (g : Goal) (xs : List A4) : List Event := (eventsN (shotsS g) xs (min xs.length 16)).out
theorem eventsN_ok (shots : List Goal) (xs : List A4) (h : ∀ s ∈ shots, SeeOK s) : ∀ i : Nat, validE (eventsN shots xs i).out = true ∧ (eventsN shots xs i).out.length ≤ i ∧ 0 ≤ (eventsN shots xs i).at_ ∧ (eventsN shots xs i).at_ ≤ 1000000 + 400 * i
  | 0 => ⟨by simp [eventsN, validE, ordB], by simp [eventsN], by simp [eventsN], by simp [eventsN]⟩
  | i + 1 => by
    obtain ⟨h1, h2, h3, h4⟩ := eventsN_ok shots xs h i
    have hb := pickS_bd (c := (xs.getD i zero4).b) (n := 400) (by omega)
    have hat : 0 ≤ (evMake shots (xs.getD i zero4) i (eventsN shots xs i).at_).2 ∧ (evMake shots (xs.getD i zero4) i (eventsN shots xs i).at_).2 ≤ 1000000 + 400 * ((i : Int) + 1) := by
      unfold evMake
      split
      · rename_i hc
        have hbd := pickS_bd (c := (xs.getD i zero4).a.tdiv 3) (n := shots.length) (by omega)
        have hm : shots.getD (pickS ((xs.getD i zero4).a.tdiv 3) shots.length).toNat (U.dflt .goal) ∈ shots := by
          rw [List.getD_eq_getElem?_getD, List.getElem?_eq_getElem (by omega)]
          exact List.getElem_mem _
        have := (h _ hm).fr
        dsimp only
        split <;> omega
      · dsimp only; omega
    have hl := insE_len (eventsN shots xs i).out (evMake shots (xs.getD i zero4) i (eventsN shots xs i).at_).1
    rw [eventsN]
    unfold evNext
    refine ⟨?_, ?_, hat.1, by dsimp only; omega⟩
    · dsimp only
      split
      · rename_i hc
        simp only [Bool.and_eq_true] at hc
        exact hc.1
      · exact h1
    · dsimp only
      split <;> omega
theorem events_valid (g : Goal) (xs : List A4) : validE (eventsS g xs) = true ∧ (eventsS g xs).length ≤ 16 := by
  obtain ⟨h1, h2, _⟩ := eventsN_ok (shotsS g) xs (shots_ok g).2 (min xs.length 16)
  exact ⟨h1, Nat.le_trans h2 (by omega)⟩
/-! a part of valid events -/
def noDup (a b : Event) : Prop := ¬ (a.kind = 1 ∧ b.kind = 1 ∧ a.image = b.image)
theorem bef_trans {a b c : Event} (h1 : befB a b = true) (h2 : befB b c = true) : befB a c = true := by
  unfold befB at *
  simp only [Bool.or_eq_true, Bool.and_eq_true, decide_eq_true_eq] at *
  omega
theorem ord_iff (l : List Event) : ordB l = true ↔ (∀ e ∈ l, formB e = true) ∧ l.Pairwise (fun a b => befB a b = true) ∧ l.Pairwise noDup := by
  unfold ordB
  rw [List.all_eq_true]
  have hget : ∀ i (h : i < l.length), evt l i = l[i] := fun i h => by unfold evt; rw [List.getD_eq_getElem?_getD, List.getElem?_eq_getElem h]; rfl
  have hdup : ∀ i (h : i < l.length), dupB (l.take i) (evt l i) = true ↔ ∃ j, ∃ hj : j < i, (l[j]'(by omega)).kind = 1 ∧ (l[j]'(by omega)).image = l[i].image := fun i h => by
    unfold dupB
    rw [hget i h, List.any_eq_true]
    constructor
    · rintro ⟨d, hd, hp⟩
      obtain ⟨j, hj, rfl⟩ := List.getElem_of_mem hd
      simp only [List.length_take] at hj
      simp only [Bool.and_eq_true, decide_eq_true_eq, List.getElem_take] at hp
      exact ⟨j, by omega, hp.1, hp.2⟩
    · rintro ⟨j, hj, h1, h2⟩
      refine ⟨l[j]'(by omega), ?_, by simp [h1, h2]⟩
      rw [List.mem_iff_getElem?]
      exact ⟨j, by rw [List.getElem?_take, if_pos hj, List.getElem?_eq_getElem (by omega)]⟩
  constructor
  · intro h
    have hok := fun i (hi : i < l.length) => h i (List.mem_range.2 hi)
    have hadj : ∀ i (hi : i + 1 < l.length), befB (l[i]'(by omega)) l[i + 1] = true := fun i hi => by
      have := hok (i + 1) hi
      unfold okAt at this
      simp only [Bool.and_eq_true, Bool.or_eq_true, decide_eq_true_eq] at this
      have h2 := this.1.2.resolve_left (by omega)
      rwa [hget (i + 1) hi, show i + 1 - 1 = i from rfl, hget i (by omega)] at h2
    have hlt : ∀ d i (hi : i + d + 1 < l.length), befB (l[i]'(by omega)) l[i + d + 1] = true := by
      intro d
      induction d with
      | zero => intro i hi; exact hadj i hi
      | succ d ih => intro i hi; exact bef_trans (ih i (by omega)) (hadj (i + d + 1) hi)
    refine ⟨fun e he => ?_, ?_, ?_⟩
    · obtain ⟨i, hi, rfl⟩ := List.getElem_of_mem he
      have := hok i hi
      unfold okAt at this
      simp only [Bool.and_eq_true] at this
      rw [← hget i hi]; exact this.1.1
    · rw [List.pairwise_iff_getElem]
      intro i j hi hj hij
      have := hlt (j - i - 1) i (by omega)
      simpa [show i + (j - i - 1) + 1 = j by omega] using this
    · rw [List.pairwise_iff_getElem]
      intro i j hi hj hij hc
      have := hok j hj
      unfold okAt at this
      simp only [Bool.and_eq_true, Bool.not_eq_true', Bool.and_eq_false_iff, decide_eq_false_iff_not] at this
      rcases this.2 with h2 | h2
      · exact h2 (by rw [hget j hj]; exact hc.2.1)
      · have := (hdup j hj).2 ⟨i, hij, hc.1, hc.2.2⟩
        rw [h2] at this; cases this
  · rintro ⟨h1, h2, h3⟩ i hi
    have hi := List.mem_range.1 hi
    unfold okAt
    simp only [Bool.and_eq_true, Bool.or_eq_true, decide_eq_true_eq, Bool.not_eq_true', Bool.and_eq_false_iff, decide_eq_false_iff_not]
    refine ⟨⟨by rw [hget i hi]; exact h1 _ (List.getElem_mem _), ?_⟩, ?_⟩
    · rcases Nat.eq_zero_or_pos i with h | h
      · exact .inl h
      · right
        rw [hget i hi, hget (i - 1) (by omega)]
        exact List.pairwise_iff_getElem.1 h2 (i - 1) i (by omega) hi (by omega)
    · by_cases hk : (evt l i).kind = 1
      · right
        cases hd : dupB (l.take i) (evt l i) with
        | false => rfl
        | true =>
          obtain ⟨j, hj, e1, e2⟩ := (hdup i hi).1 hd
          exact absurd ⟨e1, by rw [← hget i hi]; exact hk, e2⟩ (List.pairwise_iff_getElem.1 h3 j i (by omega) hi hj)
      · exact .inl hk
theorem valid_part {m l : List Event} (h : m.Sublist l) (hv : validE l = true) : validE m = true := by
  unfold validE at *
  simp only [Bool.and_eq_true, decide_eq_true_eq] at *
  obtain ⟨h1, h2⟩ := hv
  rw [ord_iff] at *
  exact ⟨by have := h.length_le; omega, fun e he => h2.1 e (h.subset he), h2.2.1.sublist h, h2.2.2.sublist h⟩
end Go.SX

namespace Go.SX
open Go.Proofs
set_option linter.unusedSimpArgs false
set_option linter.unusedVariables false
set_option maxHeartbeats 4000000
set_option maxRecDepth 100000
@[reducible] def a5S (x : List A5) : SV Cd := .p (.dsl U.arr5 x)
theorem y5_in {x : List A5} {i : Int} (h0 : 0 ≤ i) (h : i < x.length) : y5 x i = x.getD i.toNat (Cd.dflt U.arr5) := if_pos h
theorem y5_out {x : List A5} {i : Int} (h : ¬ i < x.length) : y5 x i = zero5 := if_neg h
theorem y5_ok {x : List A5} (hx : ∀ y ∈ x, A5OK y) {i : Int} (h0 : 0 ≤ i) : A5OK (y5 x i) := by
  by_cases h : i < x.length
  · rw [y5_in h0 h]
    refine hx _ ?_
    rw [List.getD_eq_getElem?_getD, List.getElem?_eq_getElem (by omega)]
    exact List.getElem_mem _
  · rw [y5_out h]
    have : I64 0 := by unfold I64; omega
    exact ⟨this, this, this, this, this⟩
theorem arr5_den {w : World} {E : Env} {a b c d e : Int} {vs : List Value} (h : DenA Dc w E [.agg [.arr U.int 5 [a, b, c, d, e]]] vs) : DenA Dc w E [.agg [iS a, iS b, iS c, iS d, iS e]] vs := by
  simp only [DenA, Den, DenC] at h ⊢
  obtain ⟨v, v2, rfl, ⟨cs, rfl, _, v1, v3, hv, hp, rfl⟩, rfl⟩ := h
  refine ⟨_, _, rfl, ⟨cs, rfl, ?_⟩, rfl⟩
  rw [List.append_nil] at hv
  rw [hv]
  obtain ⟨hl, hd⟩ := hp
  match v1, hl with
  | [x0, x1, x2, x3, x4], _ =>
    have g := fun (j : Nat) pv v h1 h2 => hd j pv v h1 h2
    have e0 := g 0 _ _ rfl rfl
    have e1 := g 1 _ _ rfl rfl
    have e2 := g 2 _ _ rfl rfl
    have e3 := g 3 _ _ rfl rfl
    have e4 := g 4 _ _ rfl rfl
    exact ⟨x0, _, rfl, e0.oneCell, e0, x1, _, rfl, e1.oneCell, e1, x2, _, rfl, e2.oneCell, e2, x3, _, rfl, e3.oneCell, e3, x4, _, rfl, e4.oneCell, e4, rfl⟩
theorem rsee0 : Meets Tryz.prog Dc 82 [.agg [.arr U.int 5 (List.replicate 5 (Cd.dflt U.int))]] [] (goalA (seeS zero5)) [] := by
  have h := rsee zero5 (by have : I64 0 := by (unfold I64; omega)
                           exact ⟨this, this, this, this, this⟩)
  exact ⟨h.enter, fun w E hm vs hs hd => h.calls w E hm vs hs (arr5_den (a := 0) (b := 0) (c := 0) (d := 0) (e := 0) hd)⟩
theorem rgoals1 (x : List A5) (hx : ∀ y ∈ x, A5OK y) (hxl : (x.length : Int) ≤ 9223372036854775807) (deep at_ most : Int) (h1 : 0 ≤ at_ ∧ at_ ≤ 1000) (h3 : 1 ≤ most ∧ most ≤ 9) (hdeep : 1 ≤ deep ∧ deep ≤ 4)
    (hk : deep = 4 ∨ most < 2 ∨ (x.length : Int) ≤ at_ + 1 ∨ (5 ≤ 1 + pickS ((y5 x at_).a.tdiv 144) 6 ∧ most < 3) ∨ pickS ((y5 x at_).a.tdiv 144) 6 = 0) :
    Meets Tryz.prog Dc 57 [a5S x, iS at_, iS deep, iS most] [] (.tuple [goalA (seeS (y5 x at_)), iS 1, iS 1]) [] := by
  have hy := y5_ok hx h1.1
  have hs := rsee (y5 x at_) hy
  have hp := pick13 ((y5 x at_).a.tdiv 144) 6 (tdiv_i64 hy.a (by omega)) (by omega)
  have hb2 := pickS_bd (c := (y5 x at_).a.tdiv 144) (n := 6) (by omega)
  have hya := hy.a
  have htd := tdiv_i64 (n := 144) hya (by omega)
  unfold I64 at hya
  by_cases hc : at_ < x.length
  · rw [y5_in h1.1 hc] at *
    refine meets_of_gx Ax tab_ok Tryz.func57 (c := _) rfl Tryz.call57 400 ?_
    (repeat' ((conv => whnf); first | (exfalso; omega) | refine cpC (hs) ?_ | refine dpC (hs) ?_ | refine cpC (hp) ?_ | refine dpC (hp) ?_ | refine x0C ?_ | refine spC (fun hb => ?_) fun hb => ?_ | refine nilC (fun hb => ?_) ?_ | refine taC ?_ | refine saC ?_ | exact sdV | refine side_and ?_ ?_ | refine drawX_of mixed ?_))
    all_goals exact vwV
  · rw [y5_out hc] at *
    have hp0 : Meets Tryz.prog Dc 81 [iS (Int.tdiv ((List.replicate 5 (Cd.dflt U.int)).getD (Int.toNat 0) (Cd.dflt U.int)) 144), iS 6] [] (iS (pickS (zero5.a.tdiv 144) 6)) [] := hp
    have hr0 : Side ((144 : Int) ≠ 0 ∧ InR IntKind.i64 (Int.tdiv ((List.replicate 5 (Cd.dflt U.int)).getD (Int.toNat 0) (Cd.dflt U.int)) 144)) := ⟨by decide, by rfl⟩
    refine meets_of_gx Ax tab_ok Tryz.func57 (c := _) rfl Tryz.call57 400 ?_
    (repeat' ((conv => whnf); first | (exfalso; omega) | exact hr0 | refine cpC (rsee0) ?_ | refine dpC (rsee0) ?_ | refine cpC (hp0) ?_ | refine dpC (hp0) ?_ | refine x0C ?_ | refine spC (fun hb => ?_) fun hb => ?_ | refine nilC (fun hb => ?_) ?_ | refine taC ?_ | refine saC ?_ | exact sdV | refine side_and ?_ ?_ | refine drawX_of mixed ?_))
    all_goals exact vwV
/-- there are parts: an integer, and one behind it -/
structure TwoOK (x : List A5) (at_ : Int) : Prop where
  y : A5OK (x.getD at_.toNat (Cd.dflt U.arr5))
  z : A5OK (x.getD (at_ + 1).toNat (Cd.dflt U.arr5))
theorem two_ok {x : List A5} (hx : ∀ y ∈ x, A5OK y) {at_ : Int} (h1 : 0 ≤ at_) (h2 : at_ + 1 < x.length) : TwoOK x at_ := by
  have e1 := y5_ok hx h1
  have e2 := y5_ok hx (i := at_ + 1) (by omega)
  rw [y5_in h1 (by omega)] at e1
  rw [y5_in (by omega) h2] at e2
  exact ⟨e1, e2⟩
theorem rgoals2 (x : List A5) (hx : ∀ y ∈ x, A5OK y) (hxl : (x.length : Int) ≤ 9223372036854775807) (deep at_ most : Int) (h1 : 0 ≤ at_ ∧ at_ ≤ 1000) (h3 : 1 ≤ most ∧ most ≤ 9) (hdeep : 1 ≤ deep ∧ deep ≤ 3)
    (h4 : 2 ≤ most) (h5 : at_ + 1 < x.length) (K : Int) (hK : 2 ≤ K ∧ K ≤ 4) (hk : 1 + pickS ((x.getD at_.toNat (Cd.dflt U.arr5)).a.tdiv 144) 6 = K) (g : Goal)
    (hg : g = if K = 2 then ⟨1 + pickS ((x.getD at_.toNat (Cd.dflt U.arr5)).a.tdiv 144) 6, [], 0, 0, 1 + pickS (x.getD at_.toNat (Cd.dflt U.arr5)).b 8, 0, false, 0, 0, 1 + pickS (x.getD at_.toNat (Cd.dflt U.arr5)).c 3000, [], [seeS (x.getD (at_ + 1).toNat (Cd.dflt U.arr5))]⟩
      else if K = 3 then ⟨1 + pickS ((x.getD at_.toNat (Cd.dflt U.arr5)).a.tdiv 144) 6, [], pickS (x.getD at_.toNat (Cd.dflt U.arr5)).e 3000, 0, 0, 0, false, 1 + pickS (x.getD at_.toNat (Cd.dflt U.arr5)).b 4, 1 + pickS (x.getD at_.toNat (Cd.dflt U.arr5)).c 4, pickS (x.getD at_.toNat (Cd.dflt U.arr5)).d (1440 * (1 + pickS (x.getD at_.toNat (Cd.dflt U.arr5)).b 4) + 1), [], [seeS (x.getD (at_ + 1).toNat (Cd.dflt U.arr5))]⟩
      else ⟨1 + pickS ((x.getD at_.toNat (Cd.dflt U.arr5)).a.tdiv 144) 6, [], 0, 0, 0, 0, false, 0, 0, pickS (x.getD at_.toNat (Cd.dflt U.arr5)).b 3000, [], [seeS (x.getD (at_ + 1).toNat (Cd.dflt U.arr5))]⟩) :
    Meets Tryz.prog Dc 57 [a5S x, iS at_, iS deep, iS most] [] (.tuple [goalA g, iS 2, iS 2]) [] := by
  obtain ⟨hy, hz⟩ := two_ok hx h1.1 h5
  have hs := rsee _ hz
  have htd := tdiv_i64 (n := 144) hy.a (by omega)
  have hp := pick13 ((x.getD at_.toNat (Cd.dflt U.arr5)).a.tdiv 144) 6 htd (by omega)
  have hb2 := pickS_bd (c := (x.getD at_.toNat (Cd.dflt U.arr5)).a.tdiv 144) (n := 6) (by omega)
  have hya := hy.a
  unfold I64 at hya
  have q1 := pick13 (x.getD at_.toNat (Cd.dflt U.arr5)).b 8 hy.b (by omega)
  have q2 := pick13 (x.getD at_.toNat (Cd.dflt U.arr5)).c 3000 hy.c (by omega)
  have q3 := pick13 (x.getD at_.toNat (Cd.dflt U.arr5)).b 4 hy.b (by omega)
  have q4 := pick13 (x.getD at_.toNat (Cd.dflt U.arr5)).c 4 hy.c (by omega)
  have r1 := pickS_bd (c := (x.getD at_.toNat (Cd.dflt U.arr5)).b) (n := 8) (by omega)
  have r2 := pickS_bd (c := (x.getD at_.toNat (Cd.dflt U.arr5)).c) (n := 3000) (by omega)
  have r3 := pickS_bd (c := (x.getD at_.toNat (Cd.dflt U.arr5)).b) (n := 4) (by omega)
  have r4 := pickS_bd (c := (x.getD at_.toNat (Cd.dflt U.arr5)).c) (n := 4) (by omega)
  have q5 := pick13 (x.getD at_.toNat (Cd.dflt U.arr5)).d (1440 * (1 + pickS (x.getD at_.toNat (Cd.dflt U.arr5)).b 4) + 1) hy.d (by omega)
  have q6 := pick13 (x.getD at_.toNat (Cd.dflt U.arr5)).e 3000 hy.e (by omega)
  have q7 := pick13 (x.getD at_.toNat (Cd.dflt U.arr5)).b 3000 hy.b (by omega)
  rcases (show K = 2 ∨ K = 3 ∨ K = 4 by omega) with rfl | rfl | rfl
  · rw [if_pos rfl] at hg
    subst hg
    refine meets_of_gx Ax tab_ok Tryz.func57 (c := _) rfl Tryz.call57 400 ?_
    (repeat' ((conv => whnf); first | (exfalso; omega) | refine cpC (hs) ?_ | refine dpC (hs) ?_ | refine cpC (hp) ?_ | refine dpC (hp) ?_ | refine cpC (q1) ?_ | refine dpC (q1) ?_ | refine cpC (q2) ?_ | refine dpC (q2) ?_ | refine x0C ?_ | refine spC (fun hb => ?_) fun hb => ?_ | refine nilC (fun hb => ?_) ?_ | refine taC ?_ | refine saC ?_ | exact sdV | refine side_and ?_ ?_ | refine drawX_of mixed ?_))
    all_goals exact vwV
  · rw [if_neg (by omega), if_pos rfl] at hg
    subst hg
    refine meets_of_gx Ax tab_ok Tryz.func57 (c := _) rfl Tryz.call57 400 ?_
    (repeat' ((conv => whnf); first | (exfalso; omega) | refine cpC (hs) ?_ | refine dpC (hs) ?_ | refine cpC (hp) ?_ | refine dpC (hp) ?_ | refine cpC (q3) ?_ | refine dpC (q3) ?_ | refine cpC (q4) ?_ | refine dpC (q4) ?_ | refine cpC (q5) ?_ | refine dpC (q5) ?_ | refine cpC (q6) ?_ | refine dpC (q6) ?_ | refine x0C ?_ | refine spC (fun hb => ?_) fun hb => ?_ | refine nilC (fun hb => ?_) ?_ | refine taC ?_ | refine saC ?_ | exact sdV | refine side_and ?_ ?_ | refine drawX_of mixed ?_))
    all_goals exact vwV
  · rw [if_neg (by omega), if_neg (by omega)] at hg
    subst hg
    refine meets_of_gx Ax tab_ok Tryz.func57 (c := _) rfl Tryz.call57 400 ?_
    (repeat' ((conv => whnf); first | (exfalso; omega) | refine cpC (hs) ?_ | refine dpC (hs) ?_ | refine cpC (hp) ?_ | refine dpC (hp) ?_ | refine cpC (q7) ?_ | refine dpC (q7) ?_ | refine x0C ?_ | refine spC (fun hb => ?_) fun hb => ?_ | refine nilC (fun hb => ?_) ?_ | refine taC ?_ | refine saC ?_ | exact sdV | refine side_and ?_ ?_ | refine drawX_of mixed ?_))
    all_goals exact vwV
end Go.SX
