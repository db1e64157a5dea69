/-
  Plain law: when is a goal valid? The program's reckoning and the reference's come to the same.
-/
import Derived.Test.YtdaghncicimipaaGreatDoorSxU
import Derived.Test.YtdaghncicimipaaGreatDoorSxTabE
namespace Go.SX
set_option linter.unusedSimpArgs false
set_option linter.unusedVariables false
/-- is a number within bounds? -/
def inB (n low high : Int) : Bool := decide (low ≤ n) && decide (n ≤ high)
theorem inB_iff (n low high : Int) : inB n low high = true ↔ low ≤ n ∧ n ≤ high := by simp [inB]
theorem inB_not (n low high : Int) : inB n low high = false ↔ ¬ (low ≤ n ∧ n ≤ high) := by rw [← inB_iff]; simp
def rowOK (r : Int) : Bool := inB r 0 281474976710655
def areaB (rows : List Int) : Bool := decide ((rows.length : Int) = 24) && rows.all rowOK
/-- the program's way -/
def restG (g : Goal) : Goal :=
  if g.kind = 1 then ⟨g.kind, [], g.from_, g.to_, g.low, g.high, g.clear, 0, 0, 0, [], []⟩
  else if g.kind = 2 then ⟨g.kind, [], 0, 0, g.low, 0, false, 0, 0, g.within, [], []⟩
  else if g.kind = 3 then ⟨g.kind, [], g.from_, 0, 0, 0, false, g.days, g.times, g.within, [], []⟩
  else if g.kind = 4 then ⟨g.kind, [], 0, 0, 0, 0, false, 0, 0, g.within, [], []⟩
  else ⟨g.kind, [], 0, 0, 0, 0, false, 0, 0, 0, [], []⟩
def plainB (a b : Goal) : Bool := decide (a.kind = b.kind) && decide (a.from_ = b.from_ ∧ a.to_ = b.to_) && decide (a.low = b.low) && decide (a.high = b.high) && (a.clear == b.clear) && decide (a.days = b.days) && decide (a.times = b.times) && decide (a.within = b.within)
def limB (g : Goal) : Bool :=
  if g.kind = 1 then areaB g.rows && g.rows.any (fun r => decide (r ≠ 0)) && inB g.from_ 0 1000000 && inB g.to_ (g.from_ + 1) 1000000 && inB g.low 0 90 && inB g.high g.low 90
  else if g.kind = 2 then inB g.low 1 8 && inB g.within 1 1000000
  else if g.kind = 3 then inB g.days 1 60 && inB g.times 1 6 && inB g.within 0 (1440 * g.days) && inB g.from_ 0 1000000
  else if g.kind = 4 then inB g.within 0 1000000
  else true
def lastK (k : Int) : Int := if k = 2 ∨ k = 3 then 1 else if k = 4 then 3 else 6
def manyB (g : Goal) : Bool := if g.kind = 1 then decide ((g.kids.length : Int) = 0) else if g.kind = 5 ∨ g.kind = 6 then inB g.kids.length 2 4 else decide ((g.kids.length : Int) = 1)
def centsB (g : Goal) : Bool := if g.kind = 6 then decide ((g.cents.length : Int) = g.kids.length) && !g.cents.any (fun n => !inB n 0 1000000000) else decide ((g.cents.length : Int) = 0)
def partsB (g : Goal) : Bool := manyB g && centsB g && (decide (g.kind = 1) || decide ((g.rows.length : Int) = 0)) && !g.kids.any (fun k => decide (lastK g.kind < k.kind))
def okB (g : Goal) : Bool := inB g.kind 1 6 && plainB g (restG g) && limB g && partsB g
mutual
def sizeG : Goal → Int → Option Int
  | ⟨kind, rows, from_, to_, low, high, clear, days, times, within, cents, kids⟩, d =>
    if decide (4 < d) || !okB ⟨kind, rows, from_, to_, low, high, clear, days, times, within, cents, kids⟩ then none else match sizeL kids (d + 1) with
      | none => none
      | some m => some (1 + m)
def sizeL : List Goal → Int → Option Int
  | [], _ => some 0
  | k :: l, d => match sizeG k d with
    | none => none
    | some m => match sizeL l d with
      | none => none
      | some n => some (m + n)
end
theorem sizeG_eq (g : Goal) (d : Int) : sizeG g d = if decide (4 < d) || !okB g then none else match sizeL g.kids (d + 1) with | none => none | some m => some (1 + m) := by
  cases g; rw [sizeG]
def validG (g : Goal) : Bool := match sizeG g 1 with
  | none => false
  | some n => decide (n ≤ 12)
/-- the reference's way -/
def spellB (f t : Int) : Bool := inB f 0 1000000 && inB t 0 1000000 && decide (f < t)
def oneB (g : Goal) (most : Int) : Bool := decide ((g.kids.length : Int) = 1) && inB (g.kids.getD 0 (U.dflt .goal)).kind 1 most
def bareB (g own : Goal) (a c : Bool) : Bool := decide (g.from_ = own.from_ ∧ g.to_ = own.to_) && decide (g.low = own.low) && decide (g.high = own.high) && (g.clear == own.clear) && decide (g.days = own.days) && decide (g.times = own.times) && decide (g.within = own.within) &&
  (a || decide ((g.rows.length : Int) = 0)) && (c || decide ((g.cents.length : Int) = 0))
def kindB' (g : Goal) : Bool :=
  if g.kind = 1 then bareB g ⟨0, [], g.from_, g.to_, g.low, g.high, g.clear, 0, 0, 0, [], []⟩ true false && decide ((g.kids.length : Int) = 0) && areaB g.rows && g.rows.any (fun r => decide (r ≠ 0)) && spellB g.from_ g.to_ && inB g.low 0 90 && inB g.high g.low 90
  else if g.kind = 2 then bareB g ⟨0, [], 0, 0, g.low, 0, false, 0, 0, g.within, [], []⟩ false false && oneB g 1 && inB g.low 1 8 && inB g.within 1 1000000
  else if g.kind = 3 then bareB g ⟨0, [], g.from_, 0, 0, 0, false, g.days, g.times, g.within, [], []⟩ false false && oneB g 1 && inB g.days 1 60 && inB g.times 1 6 && inB g.within 0 (1440 * g.days) && inB g.from_ 0 1000000
  else if g.kind = 4 then bareB g ⟨0, [], 0, 0, 0, 0, false, 0, 0, g.within, [], []⟩ false false && oneB g 3 && inB g.within 0 1000000
  else if g.kind = 5 then bareB g ⟨0, [], 0, 0, 0, 0, false, 0, 0, 0, [], []⟩ false false && inB g.kids.length 2 4
  else if g.kind = 6 then g.cents.all (fun n => inB n 0 1000000000) && bareB g ⟨0, [], 0, 0, 0, 0, false, 0, 0, 0, [], []⟩ false true && inB g.kids.length 2 4 && decide ((g.cents.length : Int) = g.kids.length)
  else false
mutual
def cntG : Goal → Int → Int
  | ⟨kind, rows, from_, to_, low, high, clear, days, times, within, cents, kids⟩, d =>
    if decide (4 < d) || !kindB' ⟨kind, rows, from_, to_, low, high, clear, days, times, within, cents, kids⟩ then 13 else cntL kids (d + 1) 1
def cntL : List Goal → Int → Int → Int
  | [], _, n => n
  | k :: l, d, n => if n ≤ 12 then cntL l d (n + cntG k d) else n
end
theorem cntG_eq (g : Goal) (d : Int) : cntG g d = if decide (4 < d) || !kindB' g then 13 else cntL g.kids (d + 1) 1 := by
  cases g; rw [cntG]
theorem ok_of_kind (g : Goal) (h : kindB' g = true) : okB g = true ∨ ∃ k ∈ g.kids, 6 < k.kind := by
  by_cases hk : g.kids.any (fun k => decide (6 < k.kind)) = true
  · right
    obtain ⟨k, h1, h2⟩ := List.any_eq_true.1 hk
    exact ⟨k, h1, of_decide_eq_true h2⟩
  · left
    have hw : ∀ q : Int, (∀ k ∈ g.kids, k.kind ≤ q) → g.kids.any (fun k => decide (q < k.kind)) = false := by
      intro q hq
      rw [List.any_eq_false]
      intro k hk
      simpa using hq k hk
    have h6 : ∀ k ∈ g.kids, k.kind ≤ 6 := by
      intro k hm
      by_cases h6 : 6 < k.kind
      · exact absurd (List.any_eq_true.2 ⟨k, hm, by simpa using h6⟩) hk
      · omega
    have hone : ∀ q : Int, oneB g q = true → (g.kids.length : Int) = 1 ∧ ∀ k ∈ g.kids, k.kind ≤ q := by
      intro q hq
      simp only [oneB, Bool.and_eq_true, decide_eq_true_eq, inB_iff] at hq
      obtain ⟨h1, h2⟩ := hq
      refine ⟨h1, fun k hk => ?_⟩
      match hkk : g.kids with
      | [] => rw [hkk] at hk; cases hk
      | [x] => rw [hkk] at hk h2; simp at hk; subst hk; exact h2.2
      | _ :: _ :: _ => rw [hkk] at h1; simp at h1; omega
    unfold kindB' at h
    unfold okB plainB restG limB partsB manyB centsB lastK
    split at h
    · rename_i e
      simp only [bareB, spellB, Bool.and_eq_true, Bool.or_eq_true, decide_eq_true_eq, inB_iff, beq_iff_eq, e] at h
      have := hw 6 h6
      simp [e, inB_iff, this]
      simp at h
      grind
    · split at h
      · rename_i e
        simp only [bareB, Bool.and_eq_true, Bool.or_eq_true, decide_eq_true_eq, inB_iff, beq_iff_eq] at h
        have h1 := hone 1 h.1.1.2
        have := hw 1 h1.2
        simp [e, inB_iff, this]
        simp at h
        grind
      · split at h
        · rename_i e
          simp only [bareB, Bool.and_eq_true, Bool.or_eq_true, decide_eq_true_eq, inB_iff, beq_iff_eq] at h
          have h1 := hone 1 h.1.1.1.1.2
          have := hw 1 h1.2
          simp [e, inB_iff, this]
          simp at h
          grind
        · split at h
          · rename_i e
            simp only [bareB, Bool.and_eq_true, Bool.or_eq_true, decide_eq_true_eq, inB_iff, beq_iff_eq] at h
            have h1 := hone 3 h.1.2
            have := hw 3 h1.2
            simp [e, inB_iff, this]
            simp at h
            grind
          · split at h
            · rename_i e
              simp only [bareB, Bool.and_eq_true, Bool.or_eq_true, decide_eq_true_eq, inB_iff, beq_iff_eq] at h
              have := hw 6 h6
              simp [e, inB_iff, this]
              simp at h
              grind
            · split at h
              · rename_i e
                simp only [bareB, Bool.and_eq_true, Bool.or_eq_true, decide_eq_true_eq, inB_iff, beq_iff_eq] at h
                have := hw 6 h6
                simp [e, inB_iff, this]
                simp [inB_iff] at h
                grind
              · cases h
theorem kind_of_ok (g : Goal) (h : okB g = true) : kindB' g = true ∨ ∃ k ∈ g.kids, k.kind < 1 := by
  by_cases hk : g.kids.any (fun k => decide (k.kind < 1)) = true
  · right
    obtain ⟨k, h1, h2⟩ := List.any_eq_true.1 hk
    exact ⟨k, h1, of_decide_eq_true h2⟩
  · left
    have h1 : ∀ k ∈ g.kids, 1 ≤ k.kind := by
      intro k hm
      by_cases h6 : k.kind < 1
      · exact absurd (List.any_eq_true.2 ⟨k, hm, by simpa using h6⟩) hk
      · omega
    have hone : ∀ q : Int, (g.kids.length : Int) = 1 → g.kids.any (fun k => decide (q < k.kind)) = false → oneB g q = true := by
      intro q hl hq
      rw [List.any_eq_false] at hq
      simp only [oneB, Bool.and_eq_true, decide_eq_true_eq, inB_iff]
      refine ⟨hl, ?_⟩
      match hkk : g.kids with
      | [] => rw [hkk] at hl; simp at hl
      | [x] =>
        rw [hkk] at hq h1
        have a := hq x (by simp)
        have b := h1 x (by simp)
        simp at a
        exact ⟨b, a⟩
      | _ :: _ :: _ => rw [hkk] at hl; simp at hl; omega
    unfold okB partsB manyB centsB at h
    simp only [Bool.and_eq_true, Bool.not_eq_true', inB_iff] at h
    obtain ⟨⟨⟨⟨ha, hb⟩, hp⟩, hl⟩, ⟨⟨hm, hc⟩, hr⟩, hw⟩ := h
    have hkk : g.kind = 1 ∨ g.kind = 2 ∨ g.kind = 3 ∨ g.kind = 4 ∨ g.kind = 5 ∨ g.kind = 6 := by omega
    have ho := fun q => hone q
    clear hone
    rcases hkk with e | e | e | e | e | e <;> simp only [plainB, restG, limB, lastK, e, Bool.and_eq_true, decide_eq_true_eq, beq_iff_eq, inB_iff] at hp hl hm hc hr hw <;> simp only [kindB', bareB, spellB, e, Bool.and_eq_true, decide_eq_true_eq, beq_iff_eq, inB_iff]
    · simp [inB_iff] at hp hl hm hc hr hw ⊢
      grind
    · have := ho 1 (by simpa using hm) (by simpa using hw)
      simp at hp hl hm hc hr hw ⊢
      grind
    · have := ho 1 (by simpa using hm) (by simpa using hw)
      simp at hp hl hm hc hr hw ⊢
      grind
    · have := ho 3 (by simpa using hm) (by simpa using hw)
      simp at hp hl hm hc hr hw ⊢
      grind
    · simp at hp hl hm hc hr hw ⊢
      grind
    · simp [inB_iff] at hp hl hm hc hr hw ⊢
      grind
theorem cntL_big : ∀ (l : List Goal) (d n : Int), 12 < n → cntL l d n = n
  | [], d, n, h => by rw [cntL]
  | k :: l, d, n, h => by rw [cntL, if_neg (by omega)]
mutual
theorem cntG_pos : ∀ (g : Goal) (d : Int), 1 ≤ cntG g d
  | ⟨kind, rows, from_, to_, low, high, clear, days, times, within, cents, kids⟩, d => by
    rw [cntG]
    split
    · omega
    · exact cntL_pos kids (d + 1) 1 (by omega)
theorem cntL_pos : ∀ (l : List Goal) (d n : Int), 1 ≤ n → n ≤ cntL l d n
  | [], d, n, h => by rw [cntL]; omega
  | k :: l, d, n, h => by
    rw [cntL]
    split
    · have h1 := cntG_pos k d
      have h2 := cntL_pos l d (n + cntG k d) (by omega)
      omega
    · omega
end
theorem cntL_bad : ∀ (l : List Goal) (d n : Int), 1 ≤ n → (∃ k ∈ l, 12 < cntG k d) → 12 < cntL l d n
  | [], d, n, h, ⟨k, hk, _⟩ => by cases hk
  | k :: l, d, n, h, ⟨x, hx, hb⟩ => by
    rw [cntL]
    split
    · have h1 := cntG_pos k d
      rcases List.mem_cons.1 hx with rfl | hx
      · have := cntL_pos l d (n + cntG x d) (by omega)
        omega
      · exact cntL_bad l d _ (by omega) ⟨x, hx, hb⟩
    · omega
theorem sizeL_bad : ∀ (l : List Goal) (d : Int), (∃ k ∈ l, sizeG k d = none) → sizeL l d = none
  | [], d, ⟨k, hk, _⟩ => by cases hk
  | k :: l, d, ⟨x, hx, hb⟩ => by
    rw [sizeL]
    rcases List.mem_cons.1 hx with rfl | hx
    · rw [hb]
    · cases sizeG k d with
      | none => rfl
      | some m => simp only; rw [sizeL_bad l d ⟨x, hx, hb⟩]
mutual
theorem size_cnt : ∀ (g : Goal) (d : Int), match sizeG g d with
    | some n => 1 ≤ n ∧ (n ≤ 12 → cntG g d = n) ∧ (12 < n → 12 < cntG g d)
    | none => 12 < cntG g d
  | ⟨kind, rows, from_, to_, low, high, clear, days, times, within, cents, kids⟩, d => by
    have hL := size_cntL kids (d + 1) 1 (by omega)
    generalize hg : (⟨kind, rows, from_, to_, low, high, clear, days, times, within, cents, kids⟩ : Goal) = g
    have hkids : g.kids = kids := by rw [← hg]
    rw [sizeG_eq, cntG_eq, hkids]
    by_cases hd : 4 < d
    · simp [hd]
    · simp only [hd, decide_false, Bool.false_or]
      cases hok : okB g with
      | false =>
        simp only [Bool.not_false, if_true]
        cases hkd : kindB' g with
        | false => simp
        | true =>
          simp only [Bool.not_true]
          rcases ok_of_kind g hkd with h | ⟨k, hk, hb⟩
          · rw [h] at hok; cases hok
          · refine cntL_bad kids _ _ (by omega) ⟨k, hkids ▸ hk, ?_⟩
            rw [cntG_eq]
            have : kindB' k = false := by unfold kindB'; rw [if_neg (by omega), if_neg (by omega), if_neg (by omega), if_neg (by omega), if_neg (by omega), if_neg (by omega)]
            simp [this]
      | true =>
        simp only [Bool.not_true]
        cases hkd : kindB' g with
        | false =>
          rcases kind_of_ok g hok with h | ⟨k, hk, hb⟩
          · rw [h] at hkd; cases hkd
          · have : sizeL kids (d + 1) = none := by
              refine sizeL_bad kids _ ⟨k, hkids ▸ hk, ?_⟩
              rw [sizeG_eq]
              have : okB k = false := by simp [okB, inB]; intro h; omega
              simp [this]
            rw [this]
            simp
        | true =>
          simp only [Bool.not_true]
          cases hs : sizeL kids (d + 1) with
          | none => rw [hs] at hL; simpa using hL
          | some m => rw [hs] at hL; simp only at hL ⊢; exact ⟨by omega, hL.2.1, hL.2.2⟩
theorem size_cntL : ∀ (l : List Goal) (d n : Int), 1 ≤ n → match sizeL l d with
    | some m => 0 ≤ m ∧ (n + m ≤ 12 → cntL l d n = n + m) ∧ (12 < n + m → 12 < cntL l d n)
    | none => 12 < cntL l d n
  | [], d, n, h => by rw [sizeL, cntL]; simp
  | k :: l, d, n, h => by
    have h1 := size_cnt k d
    have h2 := size_cntL l d (n + cntG k d) (by have := cntG_pos k d; omega)
    rw [sizeL, cntL]
    have h3 := cntL_pos l d (n + cntG k d) (by have := cntG_pos k d; omega)
    cases hk : sizeG k d with
    | none =>
      rw [hk] at h1
      simp only at h1 ⊢
      split <;> omega
    | some m =>
      rw [hk] at h1
      simp only at h1 ⊢
      cases hl : sizeL l d with
      | none =>
        rw [hl] at h2
        simp only at h2 ⊢
        split <;> omega
      | some q =>
        rw [hl] at h2
        simp only at h2 ⊢
        by_cases hn : n ≤ 12
        · rw [if_pos hn]
          by_cases hm : m ≤ 12
          · rw [h1.2.1 hm] at h2 h3 ⊢
            refine ⟨by omega, fun h => by rw [h2.2.1 (by omega)]; omega, fun h => h2.2.2 (by omega)⟩
          · have := h1.2.2 (by omega)
            refine ⟨by omega, fun h => by omega, fun h => by omega⟩
        · rw [if_neg hn]
          exact ⟨by omega, fun h => by omega, fun h => by omega⟩
end
theorem valid_cnt (g : Goal) : validG g = decide (cntG g 1 ≤ 12) := by
  have h := size_cnt g 1
  unfold validG
  cases hs : sizeG g 1 with
  | none => rw [hs] at h; simp only at h ⊢; symm; simpa using h
  | some n =>
    rw [hs] at h
    simp only at h ⊢
    by_cases hn : n ≤ 12
    · rw [h.2.1 hn]
    · have := h.2.2 (by omega)
      rw [decide_eq_false hn, decide_eq_false (by omega)]
end Go.SX

namespace Go.SX
open Go.Proofs
set_option linter.unusedSimpArgs false
set_option linter.unusedVariables false
set_option maxHeartbeats 4000000
set_option maxRecDepth 100000
@[reducible] def iS (n : Int) : SV Cd := .p (.int .i64 n)
@[reducible] def bS (b : Bool) : SV Cd := .p (.bool b)
@[reducible] def lS (l : List Int) : SV Cd := .p (.dsl U.int l)
@[reducible] def areaA (rows : List Int) : SV Cd := .agg [.p (.dsl U.int rows)]
@[reducible] def goalA (g : Goal) : SV Cd := .agg [.p (.int .i64 g.kind), .p (.dsl U.int g.rows), .p (.int .i64 g.from_), .p (.int .i64 g.to_), .p (.int .i64 g.low), .p (.int .i64 g.high), .p (.bool g.clear), .p (.int .i64 g.days), .p (.int .i64 g.times), .p (.int .i64 g.within), .p (.dsl U.int g.cents), .p (.dsl U.goal g.kids)]
@[reducible] def evA (e : Event) : SV Cd := .agg [.p (.int .i64 e.kind), .p (.int .i64 e.at_), .p (.int .i64 e.image), .p (.dsl U.int e.rows), .p (.int .i64 e.sun), .p (.int .i64 e.look), .p (.bool e.clear)]
theorem oin (n low high : Int) : Meets Tryz.prog Dc 91 [.p (.int .i64 n), .p (.int .i64 low), .p (.int .i64 high)] [] (.p (.bool (inB n low high))) [] := by
  refine meets_of_gx Ax tab_ok Tryz.func91 (c := _) rfl Tryz.call91 60 ?_
  (repeat' ((conv => whnf); first | (exfalso; omega) | refine x0C (eB ?_ rfl) | refine x0C ?_ | refine spC (fun hb => ?_) fun hb => ?_ | refine nilC (fun hb => ?_) ?_ | refine taC ?_ | refine saC ?_ | exact sdV | refine side_and ?_ ?_ | refine drawX_of mixed ?_))
  all_goals (first | (simp_all [inB]; done) | (simp_all [inB]; omega) | (simp_all [inB]; grind))
theorem tin (n low high : Int) : Meets Tryz.prog Dc 49 [.p (.int .i64 n), .p (.int .i64 low), .p (.int .i64 high)] [] (.p (.bool (inB n low high))) [] := by
  refine meets_of_gx Ax tab_ok Tryz.func49 (c := _) rfl Tryz.call49 60 ?_
  (repeat' ((conv => whnf); first | (exfalso; omega) | refine x0C (eB ?_ rfl) | refine x0C ?_ | refine spC (fun hb => ?_) fun hb => ?_ | refine nilC (fun hb => ?_) ?_ | refine taC ?_ | refine saC ?_ | exact sdV | refine side_and ?_ ?_ | refine drawX_of mixed ?_))
  all_goals (first | (simp_all [inB]; done) | (simp_all [inB]; omega) | (simp_all [inB]; grind))
theorem gin (n low high : Int) : Meets Tryz.prog Dc 89 [.p (.int .i64 n), .p (.int .i64 low), .p (.int .i64 high)] [] (.p (.bool (inB n low high))) [] := by
  refine meets_of_gx Ax tab_ok Tryz.func89 (c := _) rfl Tryz.call89 60 ?_
  (repeat' ((conv => whnf); first | (exfalso; omega) | refine x0C (eB ?_ rfl) | refine x0C ?_ | refine spC (fun hb => ?_) fun hb => ?_ | refine nilC (fun hb => ?_) ?_ | refine taC ?_ | refine saC ?_ | exact sdV | refine side_and ?_ ?_ | refine drawX_of mixed ?_))
  all_goals (first | (simp_all [inB]; done) | (simp_all [inB]; omega) | (simp_all [inB]; grind))
theorem in13 (n low high : Int) : Meets Tryz.prog Dc 121 [.p (.int .i64 n), .p (.int .i64 low), .p (.int .i64 high)] [] (.p (.bool (inB n low high))) [] := by
  refine meets_of_gx Ax tab_ok Tryz.func121 (c := _) rfl Tryz.call121 60 ?_
  (repeat' ((conv => whnf); first | (exfalso; omega) | refine x0C (eB ?_ rfl) | refine x0C ?_ | refine spC (fun hb => ?_) fun hb => ?_ | refine nilC (fun hb => ?_) ?_ | refine taC ?_ | refine saC ?_ | exact sdV | refine side_and ?_ ?_ | refine drawX_of mixed ?_))
  all_goals (first | (simp_all [inB]; done) | (simp_all [inB]; omega) | (simp_all [inB]; grind))
theorem in15 (n low high : Int) : Meets Tryz.prog Dc 51 [.p (.int .i64 n), .p (.int .i64 low), .p (.int .i64 high)] [] (.p (.bool (inB n low high))) [] := by
  refine meets_of_gx Ax tab_ok Tryz.func51 (c := _) rfl Tryz.call51 60 ?_
  (repeat' ((conv => whnf); first | (exfalso; omega) | refine x0C (eB ?_ rfl) | refine x0C ?_ | refine spC (fun hb => ?_) fun hb => ?_ | refine nilC (fun hb => ?_) ?_ | refine taC ?_ | refine saC ?_ | exact sdV | refine side_and ?_ ?_ | refine drawX_of mixed ?_))
  all_goals (first | (simp_all [inB]; done) | (simp_all [inB]; omega) | (simp_all [inB]; grind))
theorem last_meets (k : Int) : Meets Tryz.prog Dc 127 [.p (.int .i64 k)] [] (.p (.int .i64 (lastK k))) [] := by
  refine meets_of_gx Ax tab_ok Tryz.func127 (c := _) rfl Tryz.call127 60 ?_
  (repeat' ((conv => whnf); first | (exfalso; omega) | refine x0C (eI ?_ rfl) | refine x0C ?_ | refine spC (fun hb => ?_) fun hb => ?_ | refine nilC (fun hb => ?_) ?_ | refine taC ?_ | refine saC ?_ | exact sdV | refine side_and ?_ ?_ | refine drawX_of mixed ?_))
  all_goals (simp_all [lastK]; done)
theorem plain_meets (a b : Goal) : Meets Tryz.prog Dc 92 [goalA a, goalA b] [] (.p (.bool (plainB a b))) [] := by
  refine meets_of_gx Ax tab_ok Tryz.func92 (c := _) rfl Tryz.call92 200 ?_
  (repeat' ((conv => whnf); first | (exfalso; omega) | refine x0C (eB ?_ rfl) | refine x0C ?_ | refine spC (fun hb => ?_) fun hb => ?_ | refine nilC (fun hb => ?_) ?_ | refine taC ?_ | refine saC ?_ | exact sdV | refine side_and ?_ ?_ | refine drawX_of mixed ?_))
  all_goals (simp_all [plainB]; done)
theorem rest_meets (g : Goal) : Meets Tryz.prog Dc 93 [goalA g] [] (goalA (restG g)) [] := by
  unfold restG
  refine meets_of_gx Ax tab_ok Tryz.func93 (c := _) rfl Tryz.call93 300 ?_
  (repeat' ((conv => whnf); first | (exfalso; omega) | refine x0C ?_ | refine spC (fun hb => ?_) fun hb => ?_ | refine nilC (fun hb => ?_) ?_ | refine taC ?_ | refine saC ?_ | exact sdV | refine side_and ?_ ?_ | refine drawX_of mixed ?_))
  all_goals (simp only [*, if_true, if_false]; exact vwV)
end Go.SX

/-
  Plain law: what goals mean.
-/
namespace Go.SX
set_option linter.unusedSimpArgs false
set_option linter.unusedVariables false
/-- the first index that fits, or -1 -/
def idxF {α : Type} (p : α → Bool) (xs : List α) : Int := match xs.findIdx? p with
  | some i => i
  | none => -1
theorem idxF_hit {α : Type} {p : α → Bool} {xs : List α} {i : Nat} {x : α} (h1 : xs[i]? = some x) (h2 : p x = true) (h3 : (xs.take i).any p = false) : idxF p xs = i := by
  have : xs.findIdx? p = some i := by
    rw [List.findIdx?_eq_some_iff_getElem]
    obtain ⟨hi, hx⟩ := List.getElem?_eq_some_iff.1 h1
    refine ⟨hi, by rw [hx]; exact h2, fun j hj => ?_⟩
    rw [List.any_eq_false] at h3
    exact h3 _ (List.mem_iff_getElem.2 ⟨j, by simp; omega, by simp⟩)
  unfold idxF; rw [this]
theorem idxF_miss {α : Type} {p : α → Bool} {xs : List α} (h : xs.any p = false) : idxF p xs = -1 := by
  have : xs.findIdx? p = none := by
    rw [List.findIdx?_eq_none_iff]
    rw [List.any_eq_false] at h
    intro x hx; simpa using h x hx
  unfold idxF; rw [this]
theorem idxF_nonneg {α : Type} (p : α → Bool) (xs : List α) : decide (0 ≤ idxF p xs) = xs.any p := by
  cases h : xs.any p with
  | false => rw [idxF_miss h]; rfl
  | true =>
    have : ∃ i, xs.findIdx? p = some i := by
      cases hf : xs.findIdx? p with
      | some i => exact ⟨i, rfl⟩
      | none =>
        rw [List.findIdx?_eq_none_iff] at hf
        obtain ⟨x, hx, hp⟩ := List.any_eq_true.1 h
        rw [hf x hx] at hp; cases hp
    obtain ⟨i, hi⟩ := this
    unfold idxF; rw [hi]; simp
theorem idxF_bound {α : Type} (p : α → Bool) (xs : List α) : -1 ≤ idxF p xs ∧ idxF p xs < xs.length + (if xs.length = 0 then 1 else 0) := by
  unfold idxF
  split
  · rename_i i hi
    obtain ⟨h, _⟩ := List.findIdx?_eq_some_iff_getElem.1 hi
    split <;> omega
  · split <;> omega
theorem any_take_succ {α : Type} {p : α → Bool} {xs : List α} {i : Nat} {x : α} (h1 : xs[i]? = some x) (h2 : p x = false) (h3 : (xs.take i).any p = false) : (xs.take (i + 1)).any p = false := by
  rw [List.take_add_one, h1]
  simp [List.any_append, h3, h2]
theorem any_take_end {α : Type} {p : α → Bool} {xs : List α} {i : Nat} (hi : xs.length ≤ i) (h : (xs.take i).any p = false) : xs.any p = false := by
  rwa [List.take_of_length_le hi] at h
/-- numbers, ascending, each once, with a further one -/
def putS : List Int → Int → List Int
  | [], n => [n]
  | a :: l, n => if a < n then a :: putS l n else if a = n then a :: l else n :: a :: l
def setS (l : List Int) : List Int := l.foldl putS []
/-- does an EShot see? -/
def contB (a b : List Int) : Bool := areaB a && areaB b && (List.range 24).all fun y => decide ((b.getD y 0).toNat &&& (2 ^ 48 - ((a.getD y 0).toNat + 1)) = 0)
def seesB (g : Goal) (e : Event) : Bool := decide (e.kind = 1) && decide (g.from_ ≤ e.at_) && decide (e.at_ < g.to_) && inB e.sun g.low g.high && (e.clear || !g.clear) && contB e.rows g.rows
def seenS (g : Goal) (l : List Event) : List Event := l.filter (seesB g)
def formB (e : Event) : Bool := inB e.at_ 0 1000000 && inB e.image 0 999 && (if e.kind = 1 then inB e.sun (-90) 90 && inB e.look (-4) 4 && areaB e.rows else if e.kind = 2 then decide ((e.rows.length : Int) = 0) && decide (e.sun = 0) && decide (e.look = 0) && !e.clear else false)
def befB (a b : Event) : Bool := decide (a.at_ < b.at_) || decide (a.at_ = b.at_) && (decide (a.kind < b.kind) || decide (a.kind = b.kind) && decide (a.image < b.image))
def gapS (a b : Int) : Int := max (a - b) (b - a)
def doFollowB (g : Goal) (a b : Event) : Bool := inB (b.at_ - a.at_) g.within (1440 * g.days)
def doBeginB (g : Goal) (a : Event) : Bool := decide (a.at_ ≤ g.from_ + 1440 * g.days)
/-- how many EShots can be taken from each one on -/
def longS (g : Goal) : List Event → List Int
  | [] => []
  | a :: l => ((l.zip (longS g l)).foldl (fun m p => if doFollowB g a p.1 then max m (1 + p.2) else m) 1) :: longS g l
def takeS (g : Goal) : List Event → Int → Option Event → Option (List Int)
  | l, need, last => if need = 0 then some [] else match l with
    | [] => none
    | a :: l' => if decide (need ≤ (longS g (a :: l')).headD 0) && (match last with | none => doBeginB g a | some b => doFollowB g b a) then (match takeS g l' (need - 1) (some a) with | some r => some (a.image :: r) | none => none) else takeS g l' need last
termination_by l => l.length
def delB (l : List Event) (e : Event) (within : Int) : Bool := l.any fun d => decide (d.kind = 2) && decide (d.image = e.image) && inB (d.at_ - e.at_) 0 within
def restE (l : List Event) (within : Int) : List Event := l.filter fun e => !(decide (e.kind = 1) && !delB l e within)
def pairS (g : Goal) : List Event → Option (Event × Event)
  | [] => none
  | a :: l => match l.find? (fun b => decide (g.low ≤ gapS a.look b.look) && decide (gapS a.at_ b.at_ ≤ g.within)) with
    | some b => some (a, b)
    | none => pairS g l
end Go.SX

namespace Go.SX
open Go.Proofs
set_option linter.unusedSimpArgs false
set_option linter.unusedVariables false
set_option maxHeartbeats 4000000
set_option maxRecDepth 100000
/-- what a function value holds: nothing, or the address of a variable -/
inductive Cap1 : List (SV Cd) → Prop
  | c0 : Cap1 []
  | c1 (c : List (PV Cd)) : Cap1 [.dptr c 0]
  | c2 (n : Int) : Cap1 [iS n]
  | c3 (c d : List (PV Cd)) : Cap1 [.dptr c 0, .dptr d 0]
  | c5 (l : List Int) : Cap1 [lS l]
theorem getD_some {α : Type} {xs : List α} {i : Nat} {d : α} (h : i < xs.length) : xs[i]? = some (xs.getD (i : Int).toNat d) := by simp [List.getD_eq_getElem?_getD, List.getElem?_eq_getElem h]
theorem idxInt {f : FuncId} {caps : List (SV Cd)} (hc : Cap1 caps) {p : Int → Bool} (xs : List Int) (hl : (xs.length : Int) ≤ 9223372036854775807) (hf : ∀ x ∈ xs, Meets Tryz.prog Dc f (iS x :: caps) [] (bS (p x)) []) :
    Meets Tryz.prog Dc 123 [(.p (.dsl U.int xs)), .fn (.func f) [] caps] [] (iS (idxF p xs)) [] := by
  cases hc <;>
  · refine meets_of_gx Ax tab_ok Tryz.func123 (c := _) rfl Tryz.call123 200 ?_
    (repeat' ((conv => whnf); first | (exfalso; omega) | refine x0C ?_ | refine spC (fun hb => ?_) fun hb => ?_ | refine nilC (fun hb => ?_) ?_ | refine taC ?_ | refine saC ?_ | exact sdV | refine side_and ?_ ?_ | refine drawX_of mixed ?_))
    refine loop_up (fun i : Nat => [(8, iS i)]) (fun _ => []) (fun i => i ≤ xs.length ∧ (xs.take i).any p = false) (fun i => xs.length - i) 0 ⟨Nat.zero_le _, by simp⟩ (by exact bkV) ?_
    intro i hi K hK
    rcases Nat.lt_or_ge i xs.length with hlt | hge
    · have hg := getD_some (d := Cd.dflt U.int) hlt
      have hx := hf _ (List.mem_of_getElem? hg)
      cases hp : p (xs.getD (i : Int).toNat (Cd.dflt U.int)) with
      | false =>
        rw [hp] at hx
        (repeat' ((conv => whnf); first | (exfalso; omega) | refine cpC (hx) ?_ | refine dpC (hx) ?_ | refine hK (i + 1) [] _ _ ⟨by omega, any_take_succ hg hp hi.2⟩ ⟨by omega⟩ (by exact bkV) | refine x0C ?_ | refine spC (fun hb => ?_) fun hb => ?_ | refine nilC (fun hb => ?_) ?_ | refine taC ?_ | refine saC ?_ | exact sdV | refine side_and ?_ ?_ | refine drawX_of mixed ?_))
      | true =>
        rw [hp] at hx
        (repeat' ((conv => whnf); first | (exfalso; omega) | refine cpC (hx) ?_ | refine dpC (hx) ?_ | refine x0C (eI (idxF_hit hg hp hi.2).symm rfl) | refine x0C ?_ | refine spC (fun hb => ?_) fun hb => ?_ | refine nilC (fun hb => ?_) ?_ | refine taC ?_ | refine saC ?_ | exact sdV | refine side_and ?_ ?_ | refine drawX_of mixed ?_))
    · have := idxF_miss (any_take_end hge hi.2)
      (repeat' ((conv => whnf); first | (exfalso; omega) | refine x0C (eI this.symm rfl) | refine x0C ?_ | refine spC (fun hb => ?_) fun hb => ?_ | refine nilC (fun hb => ?_) ?_ | refine taC ?_ | refine saC ?_ | exact sdV | refine side_and ?_ ?_ | refine drawX_of mixed ?_))
theorem hasInt {f : FuncId} {caps : List (SV Cd)} (hc : Cap1 caps) {p : Int → Bool} (xs : List Int) (hl : (xs.length : Int) ≤ 9223372036854775807) (hf : ∀ x ∈ xs, Meets Tryz.prog Dc f (iS x :: caps) [] (bS (p x)) []) :
    Meets Tryz.prog Dc 87 [(.p (.dsl U.int xs)), .fn (.func f) [] caps] [] (bS (xs.any p)) [] := by
  have h := idxInt hc xs hl hf
  rw [← idxF_nonneg]
  cases hc <;>
  · refine meets_of_gx Ax tab_ok Tryz.func87 (c := _) rfl Tryz.call87 200 ?_
    (repeat' ((conv => whnf); first | (exfalso; omega) | refine cpC (h) ?_ | refine dpC (h) ?_ | refine x0C (eB rfl rfl) | refine x0C ?_ | refine spC (fun hb => ?_) fun hb => ?_ | refine nilC (fun hb => ?_) ?_ | refine taC ?_ | refine saC ?_ | exact sdV | refine side_and ?_ ?_ | refine drawX_of mixed ?_))
theorem idxGoal {f : FuncId} {caps : List (SV Cd)} (hc : Cap1 caps) {p : Goal → Bool} (xs : List Goal) (hl : (xs.length : Int) ≤ 9223372036854775807) (hf : ∀ x ∈ xs, Meets Tryz.prog Dc f (goalA x :: caps) [] (bS (p x)) []) :
    Meets Tryz.prog Dc 146 [(.p (.dsl U.goal xs)), .fn (.func f) [] caps] [] (iS (idxF p xs)) [] := by
  cases hc <;>
  · refine meets_of_gx Ax tab_ok Tryz.func146 (c := _) rfl Tryz.call146 200 ?_
    (repeat' ((conv => whnf); first | (exfalso; omega) | refine x0C ?_ | refine spC (fun hb => ?_) fun hb => ?_ | refine nilC (fun hb => ?_) ?_ | refine taC ?_ | refine saC ?_ | exact sdV | refine side_and ?_ ?_ | refine drawX_of mixed ?_))
    refine loop_up (fun i : Nat => [(8, iS i)]) (fun _ => []) (fun i => i ≤ xs.length ∧ (xs.take i).any p = false) (fun i => xs.length - i) 0 ⟨Nat.zero_le _, by simp⟩ (by exact bkV) ?_
    intro i hi K hK
    rcases Nat.lt_or_ge i xs.length with hlt | hge
    · have hg := getD_some (d := Cd.dflt U.goal) hlt
      have hx := hf _ (List.mem_of_getElem? hg)
      cases hp : p (xs.getD (i : Int).toNat (Cd.dflt U.goal)) with
      | false =>
        rw [hp] at hx
        (repeat' ((conv => whnf); first | (exfalso; omega) | refine cpC (hx) ?_ | refine dpC (hx) ?_ | refine hK (i + 1) [] _ _ ⟨by omega, any_take_succ hg hp hi.2⟩ ⟨by omega⟩ (by exact bkV) | refine x0C ?_ | refine spC (fun hb => ?_) fun hb => ?_ | refine nilC (fun hb => ?_) ?_ | refine taC ?_ | refine saC ?_ | exact sdV | refine side_and ?_ ?_ | refine drawX_of mixed ?_))
      | true =>
        rw [hp] at hx
        (repeat' ((conv => whnf); first | (exfalso; omega) | refine cpC (hx) ?_ | refine dpC (hx) ?_ | refine x0C (eI (idxF_hit hg hp hi.2).symm rfl) | refine x0C ?_ | refine spC (fun hb => ?_) fun hb => ?_ | refine nilC (fun hb => ?_) ?_ | refine taC ?_ | refine saC ?_ | exact sdV | refine side_and ?_ ?_ | refine drawX_of mixed ?_))
    · have := idxF_miss (any_take_end hge hi.2)
      (repeat' ((conv => whnf); first | (exfalso; omega) | refine x0C (eI this.symm rfl) | refine x0C ?_ | refine spC (fun hb => ?_) fun hb => ?_ | refine nilC (fun hb => ?_) ?_ | refine taC ?_ | refine saC ?_ | exact sdV | refine side_and ?_ ?_ | refine drawX_of mixed ?_))
theorem hasGoal {f : FuncId} {caps : List (SV Cd)} (hc : Cap1 caps) {p : Goal → Bool} (xs : List Goal) (hl : (xs.length : Int) ≤ 9223372036854775807) (hf : ∀ x ∈ xs, Meets Tryz.prog Dc f (goalA x :: caps) [] (bS (p x)) []) :
    Meets Tryz.prog Dc 128 [(.p (.dsl U.goal xs)), .fn (.func f) [] caps] [] (bS (xs.any p)) [] := by
  have h := idxGoal hc xs hl hf
  rw [← idxF_nonneg]
  cases hc <;>
  · refine meets_of_gx Ax tab_ok Tryz.func128 (c := _) rfl Tryz.call128 200 ?_
    (repeat' ((conv => whnf); first | (exfalso; omega) | refine cpC (h) ?_ | refine dpC (h) ?_ | refine x0C (eB rfl rfl) | refine x0C ?_ | refine spC (fun hb => ?_) fun hb => ?_ | refine nilC (fun hb => ?_) ?_ | refine taC ?_ | refine saC ?_ | exact sdV | refine side_and ?_ ?_ | refine drawX_of mixed ?_))
theorem idxEv {f : FuncId} {caps : List (SV Cd)} (hc : Cap1 caps) {p : Event → Bool} (xs : List Event) (hl : (xs.length : Int) ≤ 9223372036854775807) (hf : ∀ x ∈ xs, Meets Tryz.prog Dc f (evA x :: caps) [] (bS (p x)) []) :
    Meets Tryz.prog Dc 72 [(.p (.dsl U.event xs)), .fn (.func f) [] caps] [] (iS (idxF p xs)) [] := by
  cases hc <;>
  · refine meets_of_gx Ax tab_ok Tryz.func72 (c := _) rfl Tryz.call72 200 ?_
    (repeat' ((conv => whnf); first | (exfalso; omega) | refine x0C ?_ | refine spC (fun hb => ?_) fun hb => ?_ | refine nilC (fun hb => ?_) ?_ | refine taC ?_ | refine saC ?_ | exact sdV | refine side_and ?_ ?_ | refine drawX_of mixed ?_))
    refine loop_up (fun i : Nat => [(8, iS i)]) (fun _ => []) (fun i => i ≤ xs.length ∧ (xs.take i).any p = false) (fun i => xs.length - i) 0 ⟨Nat.zero_le _, by simp⟩ (by exact bkV) ?_
    intro i hi K hK
    rcases Nat.lt_or_ge i xs.length with hlt | hge
    · have hg := getD_some (d := Cd.dflt U.event) hlt
      have hx := hf _ (List.mem_of_getElem? hg)
      cases hp : p (xs.getD (i : Int).toNat (Cd.dflt U.event)) with
      | false =>
        rw [hp] at hx
        (repeat' ((conv => whnf); first | (exfalso; omega) | refine cpC (hx) ?_ | refine dpC (hx) ?_ | refine hK (i + 1) [] _ _ ⟨by omega, any_take_succ hg hp hi.2⟩ ⟨by omega⟩ (by exact bkV) | refine x0C ?_ | refine spC (fun hb => ?_) fun hb => ?_ | refine nilC (fun hb => ?_) ?_ | refine taC ?_ | refine saC ?_ | exact sdV | refine side_and ?_ ?_ | refine drawX_of mixed ?_))
      | true =>
        rw [hp] at hx
        (repeat' ((conv => whnf); first | (exfalso; omega) | refine cpC (hx) ?_ | refine dpC (hx) ?_ | refine x0C (eI (idxF_hit hg hp hi.2).symm rfl) | refine x0C ?_ | refine spC (fun hb => ?_) fun hb => ?_ | refine nilC (fun hb => ?_) ?_ | refine taC ?_ | refine saC ?_ | exact sdV | refine side_and ?_ ?_ | refine drawX_of mixed ?_))
    · have := idxF_miss (any_take_end hge hi.2)
      (repeat' ((conv => whnf); first | (exfalso; omega) | refine x0C (eI this.symm rfl) | refine x0C ?_ | refine spC (fun hb => ?_) fun hb => ?_ | refine nilC (fun hb => ?_) ?_ | refine taC ?_ | refine saC ?_ | exact sdV | refine side_and ?_ ?_ | refine drawX_of mixed ?_))
theorem hasEv {f : FuncId} {caps : List (SV Cd)} (hc : Cap1 caps) {p : Event → Bool} (xs : List Event) (hl : (xs.length : Int) ≤ 9223372036854775807) (hf : ∀ x ∈ xs, Meets Tryz.prog Dc f (evA x :: caps) [] (bS (p x)) []) :
    Meets Tryz.prog Dc 47 [(.p (.dsl U.event xs)), .fn (.func f) [] caps] [] (bS (xs.any p)) [] := by
  have h := idxEv hc xs hl hf
  rw [← idxF_nonneg]
  cases hc <;>
  · refine meets_of_gx Ax tab_ok Tryz.func47 (c := _) rfl Tryz.call47 200 ?_
    (repeat' ((conv => whnf); first | (exfalso; omega) | refine cpC (h) ?_ | refine dpC (h) ?_ | refine x0C (eB rfl rfl) | refine x0C ?_ | refine spC (fun hb => ?_) fun hb => ?_ | refine nilC (fun hb => ?_) ?_ | refine taC ?_ | refine saC ?_ | exact sdV | refine side_and ?_ ?_ | refine drawX_of mixed ?_))
end Go.SX

namespace Go.SX
open Go.Proofs
set_option linter.unusedSimpArgs false
set_option linter.unusedVariables false
set_option maxHeartbeats 4000000
set_option maxRecDepth 100000
theorem any_not {α : Type} (p : α → Bool) (l : List α) : (l.any fun x => !p x) = !l.all p := by
  induction l with
  | nil => rfl
  | cons a l ih => simp [ih]
theorem gvalid1 (r : Int) : Meets Tryz.prog Dc 88 [iS r] [] (bS (!rowOK r)) [] := by
  have h := gin r 0 281474976710655
  refine meets_of_gx Ax tab_ok Tryz.func88 (c := _) rfl Tryz.call88 60 ?_
  (repeat' ((conv => whnf); first | refine cpC (h) ?_ | refine dpC (h) ?_ | refine x0C (eB rfl rfl) | refine x0C ?_ | refine spC (fun hb => ?_) fun hb => ?_ | refine nilC (fun hb => ?_) ?_ | refine taC ?_ | refine saC ?_ | exact sdV | refine side_and ?_ ?_ | refine drawX_of mixed ?_))
theorem gvalid (rows : List Int) (hl : (rows.length : Int) ≤ 9223372036854775807) : Meets Tryz.prog Dc 65 [areaA rows] [] (bS (areaB rows)) [] := by
  have h := hasInt (f := 88) (.c0) rows hl fun x _ => gvalid1 x
  rw [any_not] at h
  refine meets_of_gx Ax tab_ok Tryz.func65 (c := _) rfl Tryz.call65 100 ?_
  (repeat' ((conv => whnf); first | (exfalso; omega) | refine cpC (h) ?_ | refine dpC (h) ?_ | refine x0C (eB ?_ rfl) | refine x0C ?_ | refine spC (fun hb => ?_) fun hb => ?_ | refine nilC (fun hb => ?_) ?_ | refine taC ?_ | refine saC ?_ | exact sdV | refine side_and ?_ ?_ | refine drawX_of mixed ?_))
  all_goals (first | (simp_all [areaB]; done) | (simp_all [areaB]; omega) | (simp_all [areaB]; grind))
theorem parts1 (n : Int) : Meets Tryz.prog Dc 125 [iS n] [] (bS (!inB n 0 1000000000)) [] := by
  have h := oin n 0 1000000000
  refine meets_of_gx Ax tab_ok Tryz.func125 (c := _) rfl Tryz.call125 60 ?_
  (repeat' ((conv => whnf); first | refine cpC (h) ?_ | refine dpC (h) ?_ | refine x0C (eB rfl rfl) | refine x0C ?_ | refine spC (fun hb => ?_) fun hb => ?_ | refine nilC (fun hb => ?_) ?_ | refine taC ?_ | refine saC ?_ | exact sdV | refine side_and ?_ ?_ | refine drawX_of mixed ?_))
@[reducible] def goalC (g : Goal) : List (PV Cd) := [.int .i64 g.kind, .dsl U.int g.rows, .int .i64 g.from_, .int .i64 g.to_, .int .i64 g.low, .int .i64 g.high, .bool g.clear, .int .i64 g.days, .int .i64 g.times, .int .i64 g.within, .dsl U.int g.cents, .dsl U.goal g.kids]
theorem parts2 (g k : Goal) : Meets Tryz.prog Dc 126 [goalA k, .dptr (goalC g) 0] [] (bS (decide (lastK g.kind < k.kind))) [] := by
  have h := last_meets g.kind
  refine meets_of_gx Ax tab_ok Tryz.func126 (c := _) rfl Tryz.call126 60 ?_
  (repeat' ((conv => whnf); first | refine cpC (h) ?_ | refine dpC (h) ?_ | refine x0C (eB rfl rfl) | refine x0C ?_ | refine spC (fun hb => ?_) fun hb => ?_ | refine nilC (fun hb => ?_) ?_ | refine taC ?_ | refine saC ?_ | exact sdV | refine side_and ?_ ?_ | refine drawX_of mixed ?_))
/-- what a value that came in says of its lists' lengths -/
structure GLen (g : Goal) : Prop where
  rows : (g.rows.length : Int) ≤ 9223372036854775807
  cents : (g.cents.length : Int) ≤ 9223372036854775807
  kids : (g.kids.length : Int) ≤ 9223372036854775807
theorem parts_meets (g : Goal) (hg : GLen g) : Meets Tryz.prog Dc 95 [goalA g] [] (bS (partsB g)) [] := by
  obtain ⟨hl1, hl2, hl3⟩ := hg
  have h1 := hasInt (f := 125) (.c0) g.cents hl2 fun x _ => parts1 x
  have h2 := hasGoal (f := 126) (.c1 _) g.kids hl3 fun x _ => parts2 g x
  have h3 := oin g.kids.length 2 4
  refine meets_of_gx Ax tab_ok Tryz.func95 (c := _) rfl Tryz.call95 400 ?_
  (repeat' ((conv => whnf); first | (exfalso; omega) | refine cpC (h1) ?_ | refine dpC (h1) ?_ | refine cpC (h3) ?_ | refine dpC (h3) ?_ | refine rdC (h2) ?_ | refine x0C (eB ?_ rfl) | refine x0C ?_ | refine spC (fun hb => ?_) fun hb => ?_ | refine nilC (fun hb => ?_) ?_ | refine taC ?_ | refine saC ?_ | exact sdV | refine side_and ?_ ?_ | refine drawX_of mixed ?_))
  all_goals clear h1 h2 h3
  all_goals (first | (simp_all [partsB, manyB, centsB]; done) | (simp_all [partsB, manyB, centsB]; omega) | (simp_all [partsB, manyB, centsB]; grind))
theorem area_len {rows : List Int} (h : areaB rows = true) : rows.length = 24 := by
  simp only [areaB, Bool.and_eq_true, decide_eq_true_eq] at h
  omega
theorem shr58 (n : Int) : 0 ≤ shrop .u64 (IntKind.u64.wrap n) 58 ∧ shrop .u64 (IntKind.u64.wrap n) 58 < 64 := by
  have h : 0 ≤ IntKind.u64.wrap n ∧ IntKind.u64.wrap n < 18446744073709551616 := by
    simp only [IntKind.wrap, IntKind.signed, IntKind.bits]
    simp
    omega
  generalize IntKind.u64.wrap n = m at *
  unfold shrop
  have e : (2 : Int) ^ (min (58 : Int).toNat IntKind.u64.bits) = 288230376151711744 := by decide
  rw [e, Int.fdiv_eq_ediv_of_nonneg _ (by omega)]
  omega
def tzL : List (PV Cd) := (U.glob 1).map pvOf
def tzI (n : Int) : Int := shrop .u64 (IntKind.u64.wrap (bitop .and .u64 n (IntKind.u64.wrap (0 - n)) * 285870213051353865)) 58
def tzN (n : Int) : Int := if n = 0 then 64 else intAt tzL (0 + (tzI n).toNat)
theorem tzN_range (n : Int) : 0 ≤ tzN n ∧ tzN n ≤ 64 := by
  unfold tzN
  split
  · omega
  · have h : ∀ i : Fin 64, 0 ≤ intAt tzL i ∧ intAt tzL i ≤ 63 := by decide
    have h1 := shr58 (bitop .and .u64 n (IntKind.u64.wrap (0 - n)) * 285870213051353865)
    have := h ⟨0 + (tzI n).toNat, by unfold tzI; omega⟩
    simp only at this
    omega
theorem tz64 (n : Int) : Meets Tryz.prog Dc 161 [.p (.int .u64 n)] [] (iS (tzN n)) [] := by
  have h1 := shr58 (bitop .and .u64 n (IntKind.u64.wrap (0 - n)) * 285870213051353865)
  have h2 := tzN_range n
  have h3 : n ≠ 0 → tzN n = intAt tzL (0 + (tzI n).toNat) := fun h => by unfold tzN; rw [if_neg h]
  have hr : ¬ n = 0 → InR .i64 (intAt tzL (0 + (tzI n).toNat)) := fun h => by rw [← h3 h]; exact inR_i64 (by omega) (by omega)
  have h4 : n = 0 → tzN n = 64 := fun h => by unfold tzN; rw [if_pos h]
  refine meets_of_gx Ax tab_ok Tryz.func161 (c := _) rfl Tryz.call161 60 ?_
  (repeat' ((conv => whnf); first | (exfalso; omega) | refine side_and ⟨hr (by assumption)⟩ ?_ | refine x0C (eI ?_ rfl) | refine x0C ?_ | refine spC (fun hb => ?_) fun hb => ?_ | refine nilC (fun hb => ?_) ?_ | refine taC ?_ | refine saC ?_ | exact sdV | refine side_and ?_ ?_ | refine drawX_of mixed ?_))
  · exact (h4 (by assumption)).symm
  · exact (h3 (by assumption)).symm
end Go.SX

namespace Go.SX
open Go.Proofs
set_option linter.unusedSimpArgs false
set_option linter.unusedVariables false
set_option maxHeartbeats 4000000
set_option maxRecDepth 100000
theorem tz (n : Int) : Meets Tryz.prog Dc 156 [.p (.int .u64 n)] [] (iS (tzN n)) [] := by
  have h := tz64 n
  have h2 := tzN_range n
  refine meets_of_gx Ax tab_ok Tryz.func156 (c := _) rfl Tryz.call156 60 ?_
  (repeat' ((conv => whnf); first | (exfalso; omega) | refine cpC (h) ?_ | refine dpC (h) ?_ | refine x0C (eI rfl rfl) | refine x0C ?_ | refine spC (fun hb => ?_) fun hb => ?_ | refine nilC (fun hb => ?_) ?_ | refine taC ?_ | refine saC ?_ | exact sdV | refine side_and ?_ ?_ | refine drawX_of mixed ?_))
def cntR : Nat → Int → Int
  | 0, _ => 0
  | f + 1, r => if r = 0 then 0 else 1 + cntR f (bitop .and .i64 r (r - 1))
def cntRow (r : Int) : Int := cntR r.toNat r
theorem low_bit {r : Int} (h0 : 0 < r) (h1 : r ≤ 281474976710655) : 0 ≤ bitop .and .i64 r (r - 1) ∧ bitop .and .i64 r (r - 1) < r := by
  obtain ⟨m, rfl⟩ : ∃ m : Nat, r = m := ⟨r.toNat, by omega⟩
  have e : (BitVec.ofInt 64 (m : Int) &&& BitVec.ofInt 64 ((m : Int) - 1)).toNat = m &&& (m - 1) := by
    rw [BitVec.toNat_and]
    have a : (BitVec.ofInt 64 (m : Int)).toNat = m := by simp; omega
    have b : (BitVec.ofInt 64 ((m : Int) - 1)).toNat = m - 1 := by
      rw [show (m : Int) - 1 = ((m - 1 : Nat) : Int) by omega]
      simp; omega
    rw [a, b]
  have hle : m &&& (m - 1) ≤ m - 1 := Nat.and_le_right
  have hw : bitop .and .i64 (m : Int) ((m : Int) - 1) = ((m &&& (m - 1) : Nat) : Int) := by
    show IntKind.i64.wrap (((BitVec.ofInt 64 (m : Int) &&& BitVec.ofInt 64 ((m : Int) - 1)).toNat : Nat) : Int) = _
    rw [e]
    exact inR_i64 (by omega) (by omega)
  rw [hw]
  omega
theorem cntR_stable : ∀ (f f' : Nat) (r : Int), 0 ≤ r → r ≤ 281474976710655 → r.toNat ≤ f → r.toNat ≤ f' → cntR f r = cntR f' r
  | 0, 0, r, _, _, _, _ => rfl
  | 0, f' + 1, r, h0, h1, h2, h3 => by
    have : r = 0 := by omega
    subst this; simp [cntR]
  | f + 1, 0, r, h0, h1, h2, h3 => by
    have : r = 0 := by omega
    subst this; simp [cntR]
  | f + 1, f' + 1, r, h0, h1, h2, h3 => by
    simp only [cntR]
    split
    · rfl
    · have := low_bit (r := r) (by omega) h1
      rw [cntR_stable f f' _ (by omega) (by omega) (by omega) (by omega)]
theorem cntRow_zero : cntRow 0 = 0 := rfl
theorem cntRow_step {r : Int} (h0 : 0 < r) (h1 : r ≤ 281474976710655) : cntRow r = 1 + cntRow (bitop .and .i64 r (r - 1)) := by
  have := low_bit h0 h1
  unfold cntRow
  rw [show r.toNat = (r.toNat - 1) + 1 by omega]
  simp only [cntR]
  rw [if_neg (by omega), cntR_stable _ (bitop .and .i64 r (r - 1)).toNat _ (by omega) (by omega) (by omega) (by omega)]
theorem cntR_range : ∀ (f : Nat) (r : Int), 0 ≤ cntR f r ∧ cntR f r ≤ f
  | 0, r => by simp [cntR]
  | f + 1, r => by
    simp only [cntR]
    have := cntR_range f (bitop .and .i64 r (r - 1))
    split <;> omega
def cntA (rows : List Int) : Int := rows.foldl (fun n r => n + cntRow r) 0
theorem cntA_snoc (l : List Int) (r : Int) : cntA (l ++ [r]) = cntA l + cntRow r := by simp [cntA]
theorem cntA_take {rows : List Int} {i : Nat} {r : Int} (h : rows[i]? = some r) : cntA (rows.take (i + 1)) = cntA (rows.take i) + cntRow r := by
  rw [List.take_add_one, h]; exact cntA_snoc _ _
theorem cntA_range {rows : List Int} (h : areaB rows = true) : ∀ i : Nat, i ≤ 24 → 0 ≤ cntA (rows.take i) ∧ cntA (rows.take i) ≤ i * 281474976710655
  | 0, _ => by simp [cntA]
  | i + 1, hi => by
    have ih := cntA_range h i (by omega)
    have hlen := area_len h
    have hg := getD_some (d := (0 : Int)) (show i < rows.length by omega)
    simp only [areaB, Bool.and_eq_true] at h
    have hr := List.all_eq_true.1 h.2 _ (List.mem_of_getElem? hg)
    rw [cntA_take hg]
    generalize rows.getD (i : Int).toNat (0 : Int) = r at *
    have h2 := (inB_iff _ _ _).1 hr
    have h3 := cntR_range r.toNat r
    unfold cntRow
    omega
theorem count_meets (rows : List Int) (hl : (rows.length : Int) ≤ 9223372036854775807) : Meets Tryz.prog Dc 124 [areaA rows] [] (iS (if areaB rows then cntA rows else 0)) [] := by
  have h := gvalid rows hl
  cases ha : areaB rows with
  | false =>
    rw [ha] at h
    refine meets_of_gx Ax tab_ok Tryz.func124 (c := _) rfl Tryz.call124 200 ?_
    (repeat' ((conv => whnf); first | (exfalso; omega) | refine cpC (h) ?_ | refine dpC (h) ?_ | refine x0C (eI rfl rfl) | refine x0C ?_ | refine spC (fun hb => ?_) fun hb => ?_ | refine nilC (fun hb => ?_) ?_ | refine taC ?_ | refine saC ?_ | exact sdV | refine side_and ?_ ?_ | refine drawX_of mixed ?_))
  | true =>
    rw [ha] at h
    have hlen := area_len ha
    refine meets_of_gx Ax tab_ok Tryz.func124 (c := _) rfl Tryz.call124 200 ?_
    (repeat' ((conv => whnf); first | (exfalso; omega) | refine cpC (h) ?_ | refine dpC (h) ?_ | (refine call_in Ax tab_ok Tryz.func145 (c := _) rfl Tryz.call145 60 ?_) | (refine range_in Ax tab_ok rfl Tryz.func155 (c := _) rfl Tryz.call155 rfl rfl 300 ?_) | refine x0C ?_ | refine spC (fun hb => ?_) fun hb => ?_ | refine nilC (fun hb => ?_) ?_ | refine taC ?_ | refine saC ?_ | exact sdV | refine side_and ?_ ?_ | refine drawX_of mixed ?_))
    intro gn tmps bd
    (repeat' ((conv => whnf); first | (exfalso; omega) | refine x0C ?_ | refine spC (fun hb => ?_) fun hb => ?_ | refine nilC (fun hb => ?_) ?_ | refine taC ?_ | refine saC ?_ | exact sdV | refine side_and ?_ ?_ | refine drawX_of mixed ?_))
    refine loop_up (fun i : Nat => [(9, iS i)]) (fun i => [(1, .var [iS (cntA (rows.take i))])]) (fun i => i ≤ 24) (fun i => 24 - i) 0 (Nat.zero_le _) (by exact bkV) ?_
    intro i hi K hK
    rcases Nat.lt_or_ge i 24 with hlt | hge
    · have hg := getD_some (d := Cd.dflt U.int) (show i < rows.length by omega)
      have h1 := cntA_take hg
      have h2 := cntA_range ha (i + 1) (by omega)
      have h5 := cntA_range ha i (by omega)
      have hr : rowOK (rows.getD (i : Int).toNat (Cd.dflt U.int)) = true := by
        have h' := ha
        simp only [areaB, Bool.and_eq_true] at h'
        exact List.all_eq_true.1 h'.2 _ (List.mem_of_getElem? hg)
      have h3 := (inB_iff _ _ _).1 hr
      (repeat' ((conv => whnf); first | (exfalso; omega) | refine x0C ?_ | refine spC (fun hb => ?_) fun hb => ?_ | refine nilC (fun hb => ?_) ?_ | refine taC ?_ | refine saC ?_ | exact sdV | refine side_and ?_ ?_ | refine drawX_of mixed ?_))
      refine loop_up (fun r : Int => [(4, iS r)]) (fun r => [(1, .var [iS (cntA (rows.take (i + 1)) - cntRow r)])]) (fun r => 0 ≤ r ∧ r ≤ 281474976710655 ∧ 0 ≤ cntA (rows.take (i + 1)) - cntRow r) (fun r => r.toNat) (rows.getD (i : Int).toNat (Cd.dflt U.int)) ⟨h3.1, h3.2, by rw [h1]; omega⟩ (by (rw [h1, Int.add_sub_cancel]; exact bkV)) ?_
      intro r hr K' hK'
      obtain ⟨hr1, hr2, hr4⟩ := hr
      have hz := tz (IntKind.u64.wrap r)
      have hz2 := tzN_range (IntKind.u64.wrap r)
      by_cases hr0 : r = 0
      · subst hr0
        rw [show cntA (rows.take (i + 1)) - cntRow 0 = cntA (rows.take (i + 1)) by rw [cntRow_zero]; omega]
        (repeat' ((conv => whnf); first | (exfalso; omega) | refine hK (i + 1) [some 0, some 1, some 2, some 3] _ _ ⟨by omega⟩ ⟨by omega⟩ (by exact bkV) | refine x0C ?_ | refine spC (fun hb => ?_) fun hb => ?_ | refine nilC (fun hb => ?_) ?_ | refine taC ?_ | refine saC ?_ | exact sdV | refine side_and ?_ ?_ | refine drawX_of mixed ?_))
      · have hs := cntRow_step (r := r) (by omega) hr2
        have hl := low_bit (r := r) (by omega) hr2
        have h4 := (cntR_range (bitop .and .i64 r (r - 1)).toNat (bitop .and .i64 r (r - 1))).1
        change 0 ≤ cntRow _ at h4
        rw [hs] at hr4 ⊢
        (repeat' ((conv => whnf); first | (exfalso; omega) | refine cpC (hz) ?_ | refine dpC (hz) ?_ | (refine yield_in Ax tab_ok rfl rfl rfl 200 200 ?_) | refine x0C ?_ | refine spC (fun hb => ?_) fun hb => ?_ | refine nilC (fun hb => ?_) ?_ | refine taC ?_ | refine saC ?_ | exact sdV | refine side_and ?_ ?_ | refine drawX_of mixed ?_))
        conv => whnf
        refine hK' (bitop .and .i64 r (r - 1)) [some 0, some 1, some 2, some 3] _ _ ⟨by omega⟩ ⟨by omega⟩ (by (dsimp only; rw [show cntA (rows.take (i + 1)) - cntRow (bitop .and .i64 r (r - 1)) = cntA (rows.take (i + 1)) - (1 + cntRow (bitop .and .i64 r (r - 1))) + 1 by omega]; exact bkV))
    · rw [show rows.take i = rows by exact List.take_of_length_le (by omega)]
      (repeat' ((conv => whnf); first | (exfalso; omega) | refine x0C (eI rfl rfl) | refine x0C ?_ | refine spC (fun hb => ?_) fun hb => ?_ | refine nilC (fun hb => ?_) ?_ | refine taC ?_ | refine saC ?_ | exact sdV | refine side_and ?_ ?_ | refine drawX_of mixed ?_))
end Go.SX

namespace Go.SX
open Go.Proofs
set_option linter.unusedSimpArgs false
set_option linter.unusedVariables false
set_option maxHeartbeats 4000000
set_option maxRecDepth 100000
theorem cntRow_pos {r : Int} (h : rowOK r = true) : 0 ≤ cntRow r ∧ (0 < cntRow r ↔ r ≠ 0) := by
  have h1 := (inB_iff _ _ _).1 h
  have h2 := (cntR_range r.toNat r).1
  change 0 ≤ cntRow r at h2
  refine ⟨h2, ?_⟩
  by_cases h0 : r = 0
  · subst h0; simp [cntRow_zero]
  · have h3 := cntRow_step (r := r) (by omega) h1.2
    have h4 := (cntR_range (bitop .and .i64 r (r - 1)).toNat (bitop .and .i64 r (r - 1))).1
    change 0 ≤ cntRow _ at h4
    omega
theorem cntA_cons (l : List Int) (r : Int) : cntA (r :: l) = cntRow r + cntA l := by
  have key : ∀ (l : List Int) (a : Int), l.foldl (fun n r => n + cntRow r) a = a + l.foldl (fun n r => n + cntRow r) 0 := by
    intro l
    induction l with
    | nil => intro a; simp
    | cons x l ih => intro a; simp only [List.foldl_cons]; rw [ih, ih (0 + cntRow x)]; omega
  unfold cntA
  rw [List.foldl_cons, key]; omega
theorem cntA_pos : ∀ (l : List Int), l.all rowOK = true → 0 ≤ cntA l ∧ decide (0 < cntA l) = l.any (fun r => decide (r ≠ 0))
  | [], _ => by simp [cntA]
  | r :: l, h => by
    simp only [List.all_cons, Bool.and_eq_true] at h
    obtain ⟨h1, h2⟩ := cntA_pos l h.2
    obtain ⟨h3, h4⟩ := cntRow_pos h.1
    rw [cntA_cons, List.any_cons, ← h2]
    refine ⟨by omega, ?_⟩
    rw [Bool.eq_iff_iff]
    simp only [Bool.or_eq_true, decide_eq_true_eq]
    omega
theorem area_pos (rows : List Int) : (areaB rows && decide (0 < (if areaB rows then cntA rows else 0))) = (areaB rows && rows.any (fun r => decide (r ≠ 0))) := by
  cases h : areaB rows with
  | false => rfl
  | true =>
    have h' := h
    simp only [areaB, Bool.and_eq_true] at h'
    simp [(cntA_pos rows h'.2).2]
theorem limits_meets (g : Goal) (hg : GLen g) : Meets Tryz.prog Dc 94 [goalA g] [] (bS (limB g)) [] := by
  have ha := area_pos g.rows
  have h0 := gvalid g.rows hg.rows
  have h1 := count_meets g.rows hg.rows
  have h2 := oin g.from_ 0 1000000
  have h3 := oin g.to_ (g.from_ + 1) 1000000
  have h4 := oin g.low 0 90
  have h5 := oin g.high g.low 90
  have h6 := oin g.low 1 8
  have h7 := oin g.within 1 1000000
  have h8 := oin g.days 1 60
  have h9 := oin g.times 1 6
  have ha1 := oin g.within 0 (1440 * g.days)
  have ha2 := oin g.within 0 1000000
  have i1 := fun h => (inB_iff g.from_ 0 1000000).1 h
  have i2 := fun h => (inB_iff g.days 1 60).1 h
  unfold limB
  generalize (if areaB g.rows then cntA g.rows else 0) = n at *
  generalize areaB g.rows = ar at *
  generalize (g.rows.any fun r => decide (r ≠ 0)) = nz at *
  refine meets_of_gx Ax tab_ok Tryz.func94 (c := _) rfl Tryz.call94 300 ?_
  (repeat' ((conv => whnf); first | refine x0C (eB ?_ rfl) | (exfalso; omega) | (have := i1 (by assumption); refine saC ?_) | (have := i2 (by assumption); refine saC ?_) | refine cpC (h0) ?_ | refine dpC (h0) ?_ | refine cpC (h1) ?_ | refine dpC (h1) ?_ | refine cpC (h2) ?_ | refine dpC (h2) ?_ | refine cpC (h3) ?_ | refine dpC (h3) ?_ | refine cpC (h4) ?_ | refine dpC (h4) ?_ | refine cpC (h5) ?_ | refine dpC (h5) ?_ | refine cpC (h6) ?_ | refine dpC (h6) ?_ | refine cpC (h7) ?_ | refine dpC (h7) ?_ | refine cpC (h8) ?_ | refine dpC (h8) ?_ | refine cpC (h9) ?_ | refine dpC (h9) ?_ | refine cpC (ha1) ?_ | refine dpC (ha1) ?_ | refine cpC (ha2) ?_ | refine dpC (ha2) ?_ | refine x0C ?_ | refine spC (fun hb => ?_) fun hb => ?_ | refine nilC (fun hb => ?_) ?_ | refine taC ?_ | refine saC ?_ | exact sdV | refine side_and ?_ ?_ | refine drawX_of mixed ?_))
  all_goals clear h0 h1 h2 h3 h4 h5 h6 h7 h8 h9 ha1 ha2
  all_goals (first | (simp_all []; done) | (simp_all []; omega) | (simp_all []; grind))
theorem okB_kind {g : Goal} (h : okB g = true) : g.kids.length ≤ 4 := by
  simp only [okB, Bool.and_eq_true, partsB, manyB] at h
  obtain ⟨_, ⟨⟨hm, _⟩, _⟩, _⟩ := h
  split at hm
  · simp at hm; simp [hm]
  · split at hm
    · have := (inB_iff _ _ _).1 hm; omega
    · simp at hm; omega
mutual
/-- every goal's lists are short enough -/
def GAll : Goal → Prop
  | ⟨kind, rows, from_, to_, low, high, clear, days, times, within, cents, kids⟩ => GLen ⟨kind, rows, from_, to_, low, high, clear, days, times, within, cents, kids⟩ ∧ GAllL kids
def GAllL : List Goal → Prop
  | [] => True
  | k :: l => GAll k ∧ GAllL l
end
theorem GAll_iff (g : Goal) : GAll g ↔ GLen g ∧ GAllL g.kids := by cases g; rw [GAll]
theorem GAllL_mem : ∀ {l : List Goal} {k : Goal}, GAllL l → k ∈ l → GAll k
  | x :: l, k, h, hk => by
    rw [GAllL] at h
    rcases List.mem_cons.1 hk with rfl | hk
    · exact h.1
    · exact GAllL_mem h.2 hk
end Go.SX

namespace Go.SX
open Go.Proofs
set_option linter.unusedSimpArgs false
set_option linter.unusedVariables false
set_option maxHeartbeats 4000000
set_option maxRecDepth 100000
theorem sizeL_snoc : ∀ (l : List Goal) (k : Goal) (d : Int), sizeL (l ++ [k]) d = match sizeL l d with | none => none | some m => match sizeG k d with | none => none | some n => some (m + n)
  | [], k, d => by
    simp only [List.nil_append, sizeL]
    cases sizeG k d <;> simp
  | x :: l, k, d => by
    simp only [List.cons_append, sizeL, sizeL_snoc l k d]
    cases sizeG x d with
    | none => rfl
    | some a =>
      simp only
      cases sizeL l d with
      | none => rfl
      | some b =>
        simp only
        cases sizeG k d with
        | none => rfl
        | some c => simp only [Option.some.injEq]; omega
theorem sizeL_bound {B : Int} (hB : 0 ≤ B) : ∀ (l : List Goal) (d : Int) (m : Int), (∀ k ∈ l, ∀ n, sizeG k d = some n → 0 ≤ n ∧ n ≤ B) → sizeL l d = some m → 0 ≤ m ∧ m ≤ l.length * B
  | [], d, m, h, e => by simp [sizeL] at e; subst e; simp
  | k :: l, d, m, h, e => by
    rw [sizeL] at e
    cases hk : sizeG k d with
    | none => simp [hk] at e
    | some a =>
      cases hl : sizeL l d with
      | none => simp [hk, hl] at e
      | some b =>
        simp [hk, hl] at e
        have h1 := h k (List.mem_cons_self ..) a hk
        have h2 := sizeL_bound hB l d b (fun x hx => h x (List.mem_cons_of_mem _ hx)) hl
        have : (((k :: l).length : Nat) : Int) * B = l.length * B + B := by
          simp only [List.length_cons, Int.natCast_add, Int.add_mul]; simp
        omega
theorem sizeG_bound : ∀ (j : Nat) (g : Goal) (d n : Int), 4 ≤ d + j → sizeG g d = some n → 1 ≤ n ∧ n ≤ 5 ^ j
  | j, g, d, n, hj, e => by
    rw [sizeG_eq] at e
    split at e
    · cases e
    · rename_i hc
      simp only [Bool.or_eq_true, decide_eq_true_eq, Bool.not_eq_true', not_or, Bool.not_eq_false] at hc
      cases hs : sizeL g.kids (d + 1) with
      | none => simp [hs] at e
      | some m =>
        simp [hs] at e
        have hk := okB_kind hc.2
        cases j with
        | zero =>
          have h0 : g.kids = [] := by
            cases hk : g.kids with
            | nil => rfl
            | cons k l =>
              have : sizeL g.kids (d + 1) = none := sizeL_bad _ _ ⟨k, by simp [hk], by rw [sizeG_eq]; simp; omega⟩
              rw [this] at hs; cases hs
          rw [h0, sizeL] at hs
          injection hs with hs
          simp
          omega
        | succ j =>
          have hp : (0 : Int) ≤ 5 ^ j := Int.le_of_lt (Int.pow_pos (by omega))
          have := sizeL_bound hp g.kids (d + 1) m (fun k _ n hn => by have := sizeG_bound j k (d + 1) n (by omega) hn; omega) hs
          have h4 : (g.kids.length : Int) * 5 ^ j ≤ 4 * 5 ^ j := Int.mul_le_mul_of_nonneg_right (by omega) hp
          rw [Int.pow_succ]
          have h1 : (1 : Int) ≤ 5 ^ j := Int.pow_pos (by omega)
          omega
theorem sizeL_range {g : Goal} {d : Int} {i : Nat} {m : Int} (hd : 1 ≤ d) (hok : okB g = true) (h : sizeL (g.kids.take i) (d + 1) = some m) : 0 ≤ m ∧ m ≤ 1000 := by
  have hp := sizeL_bound (B := 25) (by omega) (g.kids.take i) (d + 1) m (fun k _ n hn => by have := sizeG_bound 2 k (d + 1) n (by omega) hn; omega) h
  have hk := okB_kind hok
  have : (g.kids.take i).length ≤ 4 := by simp; omega
  omega
def sizeR (o : Option Int) : SV Cd := .tuple [iS (match o with | none => 0 | some n => n), bS (match o with | none => false | some _ => true)]
theorem size_meets : ∀ (j : Nat) (g : Goal) (d : Int), d + j = 5 → 1 ≤ d → GAll g → Meets Tryz.prog Dc 68 [goalA g, iS d] [] (sizeR (sizeG g d)) [] := by
  intro j
  induction j with
  | zero =>
    intro g d hj hd hG
    rw [show sizeG g d = none by rw [sizeG_eq]; simp; omega]
    refine meets_of_gx Ax tab_ok Tryz.func68 (c := _) rfl Tryz.call68 400 ?_
    (repeat' ((conv => whnf); first | (exfalso; omega) | refine x0C ?_ | refine spC (fun hb => ?_) fun hb => ?_ | refine nilC (fun hb => ?_) ?_ | refine taC ?_ | refine saC ?_ | exact sdV | refine side_and ?_ ?_ | refine drawX_of mixed ?_))
    all_goals exact vwV
  | succ j ih =>
    intro g d hj hd hG
    have hgl := ((GAll_iff g).1 hG).1
    have hkl := hgl.kids
    have hkk := ((GAll_iff g).1 hG).2
    have h1 := oin g.kind 1 6
    have h2 := rest_meets g
    have h3 := plain_meets g (restG g)
    have h4 := limits_meets g hgl
    have h5 := parts_meets g hgl
    rw [sizeG_eq, show decide (4 < d) = false by simp; omega, Bool.false_or]
    cases hok : okB g with
    | false =>
      simp only [Bool.not_false, if_true]
      unfold okB at hok
      generalize inB g.kind 1 6 = b1 at *
      generalize plainB g (restG g) = b2 at *
      generalize limB g = b3 at *
      generalize partsB g = b4 at *
      refine meets_of_gx Ax tab_ok Tryz.func68 (c := _) rfl Tryz.call68 400 ?_
      (repeat' ((conv => whnf); first | (exfalso; omega) | (exfalso; simp_all; done) | refine cpC (h1) ?_ | refine dpC (h1) ?_ | refine cpC (h2) ?_ | refine dpC (h2) ?_ | refine cpC (h3) ?_ | refine dpC (h3) ?_ | refine cpC (h4) ?_ | refine dpC (h4) ?_ | refine cpC (h5) ?_ | refine dpC (h5) ?_ | refine x0C ?_ | refine spC (fun hb => ?_) fun hb => ?_ | refine nilC (fun hb => ?_) ?_ | refine taC ?_ | refine saC ?_ | exact sdV | refine side_and ?_ ?_ | refine drawX_of mixed ?_))
      all_goals exact vwV
    | true =>
      simp only [Bool.not_true]
      have hok' := hok
      unfold okB at hok'
      simp only [Bool.and_eq_true] at hok'
      rw [hok'.1.1.1] at h1
      rw [hok'.1.1.2] at h3
      rw [hok'.1.2] at h4
      rw [hok'.2] at h5
      refine meets_of_gx Ax tab_ok Tryz.func68 (c := _) rfl Tryz.call68 400 ?_
      (repeat' ((conv => whnf); first | (exfalso; omega) | (exfalso; simp_all; done) | refine cpC (h1) ?_ | refine dpC (h1) ?_ | refine cpC (h2) ?_ | refine dpC (h2) ?_ | refine cpC (h3) ?_ | refine dpC (h3) ?_ | refine cpC (h4) ?_ | refine dpC (h4) ?_ | refine cpC (h5) ?_ | refine dpC (h5) ?_ | refine x0C ?_ | refine spC (fun hb => ?_) fun hb => ?_ | refine nilC (fun hb => ?_) ?_ | refine taC ?_ | refine saC ?_ | exact sdV | refine side_and ?_ ?_ | refine drawX_of mixed ?_))
      clear h1 h2 h3 h4 h5 hok'
      refine loop_up (fun q : Nat × Int => [(6, iS (1 + q.2)), (39, iS q.1)]) (fun _ => []) (fun q => q.1 ≤ g.kids.length ∧ sizeL (g.kids.take q.1) (d + 1) = some q.2) (fun q => g.kids.length - q.1) (0, 0) ⟨Nat.zero_le _, by simp [sizeL]⟩ (by exact bkV) ?_
      rintro ⟨i, m⟩ hi K hK
      obtain ⟨hi, hm⟩ := hi
      dsimp only at hi hm hK ⊢
      have hr := sizeL_range hd hok hm
      rcases Nat.lt_or_ge i g.kids.length with hlt | hge
      · have hg := getD_some (d := Cd.dflt U.goal) hlt
        have hx := ih _ (d + 1) (by omega) (by omega) (GAllL_mem hkk (List.mem_of_getElem? hg))
        have hsn := sizeL_snoc (g.kids.take i) (g.kids.getD (i : Int).toNat (Cd.dflt U.goal)) (d + 1)
        cases hs : sizeG (g.kids.getD (i : Int).toNat (Cd.dflt U.goal)) (d + 1) with
        | none =>
          rw [sizeL_bad g.kids (d + 1) ⟨_, List.mem_of_getElem? hg, hs⟩]
          rw [hs] at hx
          (repeat' ((conv => whnf); first | (exfalso; omega) | refine cpC (hx) ?_ | refine dpC (hx) ?_ | refine x0C ?_ | refine spC (fun hb => ?_) fun hb => ?_ | refine nilC (fun hb => ?_) ?_ | refine taC ?_ | refine saC ?_ | exact sdV | refine side_and ?_ ?_ | refine drawX_of mixed ?_))
          all_goals exact vwV
        | some n =>
          rw [hs] at hx hsn
          rw [hm] at hsn
          dsimp only [sizeR] at hx
          have hb := sizeG_bound 4 _ (d + 1) n (by omega) hs
          rw [show (5 : Int) ^ 4 = 625 by decide] at hb
          have ht : g.kids.take (i + 1) = g.kids.take i ++ [g.kids.getD (i : Int).toNat (Cd.dflt U.goal)] := by rw [List.take_add_one, hg]; rfl
          rw [← ht] at hsn
          (repeat' ((conv => whnf); first | (exfalso; omega) | refine cpC (hx) ?_ | refine dpC (hx) ?_ | refine hK (i + 1, m + n) [some 0] _ _ ⟨by dsimp only; omega, hsn⟩ ⟨by dsimp only; omega⟩ (by (dsimp only; rw [← Int.add_assoc]; exact bkV)) | refine x0C ?_ | refine spC (fun hb => ?_) fun hb => ?_ | refine nilC (fun hb => ?_) ?_ | refine taC ?_ | refine saC ?_ | exact sdV | refine side_and ?_ ?_ | refine drawX_of mixed ?_))
      · rw [List.take_of_length_le hge] at hm
        rw [hm]
        (repeat' ((conv => whnf); first | (exfalso; omega) | refine x0C ?_ | refine spC (fun hb => ?_) fun hb => ?_ | refine nilC (fun hb => ?_) ?_ | refine taC ?_ | refine saC ?_ | exact sdV | refine side_and ?_ ?_ | refine drawX_of mixed ?_))
        all_goals exact vwV
theorem valid_meets (g : Goal) (hG : GAll g) : Meets Tryz.prog Dc 43 [goalA g] [] (bS (validG g)) [] := by
  have h := size_meets 4 g 1 (by omega) (by omega) hG
  unfold validG
  cases hs : sizeG g 1 with
  | none =>
    rw [hs] at h
    refine meets_of_gx Ax tab_ok Tryz.func43 (c := _) rfl Tryz.call43 100 ?_
    (repeat' ((conv => whnf); first | refine x0C (eB ?_ rfl) | (exfalso; omega) | refine cpC (h) ?_ | refine dpC (h) ?_ | refine x0C ?_ | refine spC (fun hb => ?_) fun hb => ?_ | refine nilC (fun hb => ?_) ?_ | refine taC ?_ | refine saC ?_ | exact sdV | refine side_and ?_ ?_ | refine drawX_of mixed ?_))
    all_goals rfl
  | some n =>
    rw [hs] at h
    refine meets_of_gx Ax tab_ok Tryz.func43 (c := _) rfl Tryz.call43 100 ?_
    (repeat' ((conv => whnf); first | refine x0C (eB ?_ rfl) | (exfalso; omega) | refine cpC (h) ?_ | refine dpC (h) ?_ | refine x0C ?_ | refine spC (fun hb => ?_) fun hb => ?_ | refine nilC (fun hb => ?_) ?_ | refine taC ?_ | refine saC ?_ | exact sdV | refine side_and ?_ ?_ | refine drawX_of mixed ?_))
    all_goals rfl
end Go.SX

/-
  Plain law: bits of rows.
-/
namespace Go.SX
set_option linter.unusedSimpArgs false
set_option linter.unusedVariables false
theorem pow_min {x : Nat} (hx : x < 48) : (2 : Int) ^ (min (x : Int).toNat IntKind.i64.bits) = ((2 ^ x : Nat) : Int) := by
  rw [show min (x : Int).toNat IntKind.i64.bits = x by simp [IntKind.bits]; omega]
  simp
theorem shr_bit {r : Int} {x : Nat} (h0 : 0 ≤ r) (hx : x < 48) : decide (((shrop .i64 r x).tmod 2) = 1) = r.toNat.testBit x := by
  obtain ⟨m, rfl⟩ : ∃ m : Nat, r = m := ⟨r.toNat, by omega⟩
  unfold shrop
  have hp : (0 : Int) ≤ ((2 ^ x : Nat) : Int) := Int.natCast_nonneg _
  rw [pow_min hx, Int.fdiv_eq_ediv_of_nonneg _ hp]
  rw [show ((m : Int) / ((2 ^ x : Nat) : Int)) = ((m / 2 ^ x : Nat) : Int) from (Int.natCast_ediv _ _).symm]
  rw [show (((m / 2 ^ x : Nat) : Int).tmod 2) = (((m / 2 ^ x) % 2 : Nat) : Int) from rfl]
  simp only [Int.toNat_natCast, Nat.testBit, Nat.shiftRight_eq_div_pow, Nat.and_comm 1, Nat.and_one_is_mod]
  generalize m / 2 ^ x = q
  rcases Nat.mod_two_eq_zero_or_one q with h | h <;> simp [h]
theorem shl_one {x : Nat} (hx : x < 48) : shlop .i64 1 x = ((2 ^ x : Nat) : Int) := by
  unfold shlop
  rw [pow_min hx, Int.one_mul]
  have : 2 ^ x ≤ 2 ^ 47 := Nat.pow_le_pow_right (by omega) (by omega)
  generalize 2 ^ x = q at *
  exact inR_i64 (by omega) (by omega)
theorem or_nat {a b : Nat} (ha : a < 2 ^ 48) (hb : b < 2 ^ 48) : bitop .or .i64 (a : Int) (b : Int) = ((a ||| b : Nat) : Int) := by
  have e : (BitVec.ofInt 64 (a : Int) ||| BitVec.ofInt 64 (b : Int)).toNat = a ||| b := by
    rw [BitVec.toNat_or]
    have h1 : (BitVec.ofInt 64 (a : Int)).toNat = a := by simp; omega
    have h2 : (BitVec.ofInt 64 (b : Int)).toNat = b := by simp; omega
    rw [h1, h2]
  show IntKind.i64.wrap (((BitVec.ofInt 64 (a : Int) ||| BitVec.ofInt 64 (b : Int)).toNat : Nat) : Int) = _
  rw [e]
  have : a ||| b < 2 ^ 48 := Nat.or_lt_two_pow ha hb
  exact inR_i64 (by omega) (by omega)
theorem mod_step_t {m x : Nat} (hx : x < 48) (h : m.testBit x = true) : bitop .or .i64 ((m % 2 ^ x : Nat) : Int) (shlop .i64 1 x) = ((m % 2 ^ (x + 1) : Nat) : Int) := by
  have h1 : 2 ^ x ≤ 2 ^ 47 := Nat.pow_le_pow_right (by omega) (by omega)
  have h2 : m % 2 ^ x < 2 ^ x := Nat.mod_lt _ (Nat.two_pow_pos x)
  rw [shl_one hx, or_nat (by omega) (by omega)]
  congr 1
  apply Nat.eq_of_testBit_eq
  intro i
  simp only [Nat.testBit_or, Nat.testBit_mod_two_pow, Nat.testBit_two_pow]
  by_cases hi : i = x
  · subst hi; simp [h]
  · by_cases hl : i < x
    · simp [hl, show i < x + 1 by omega, Ne.symm hi]
    · simp [hl, show ¬ i < x + 1 by omega, Ne.symm hi]
theorem mod_step_f {m x : Nat} (h : m.testBit x = false) : m % 2 ^ (x + 1) = m % 2 ^ x := by
  apply Nat.eq_of_testBit_eq
  intro i
  simp only [Nat.testBit_mod_two_pow]
  by_cases hi : i = x
  · subst hi; simp [h]
  · by_cases hl : i < x
    · simp [hl, show i < x + 1 by omega]
    · simp [hl, show ¬ i < x + 1 by omega]
/-- the bits of a that b has not -/
def lessN (a b : Int) : Nat := a.toNat &&& (2 ^ 48 - (b.toNat + 1))
theorem lessN_bit {a b : Int} (ha : rowOK a = true) (hb : rowOK b = true) (x : Nat) : (lessN a b).testBit x = (a.toNat.testBit x && !b.toNat.testBit x) := by
  have h1 := (inB_iff _ _ _).1 ha
  have h2 := (inB_iff _ _ _).1 hb
  unfold lessN
  rw [Nat.testBit_and, Nat.testBit_two_pow_sub_succ (by omega)]
  by_cases hx : x < 48
  · simp [hx]
  · have : a.toNat.testBit x = false := Nat.testBit_lt_two_pow (Nat.lt_of_lt_of_le (show a.toNat < 2 ^ 48 by omega) (Nat.pow_le_pow_right (by omega) (by omega)))
    simp [this]
theorem lessN_lt {a b : Int} (ha : rowOK a = true) : lessN a b < 2 ^ 48 := by
  have h1 := (inB_iff _ _ _).1 ha
  unfold lessN
  exact Nat.lt_of_le_of_lt Nat.and_le_left (by omega)
/-- the program's way: a &^ b -/
theorem andNot_row {a b : Int} (ha : rowOK a = true) (hb : rowOK b = true) : bitop .andNot .i64 a b = (lessN a b : Int) := by
  have h1 := (inB_iff _ _ _).1 ha
  have h2 := (inB_iff _ _ _).1 hb
  obtain ⟨m, rfl⟩ : ∃ m : Nat, a = m := ⟨a.toNat, by omega⟩
  obtain ⟨n, rfl⟩ : ∃ m : Nat, b = m := ⟨b.toNat, by omega⟩
  have e : (BitVec.ofInt 64 (m : Int) &&& ~~~BitVec.ofInt 64 (n : Int)).toNat = lessN m n := by
    apply Nat.eq_of_testBit_eq
    intro i
    rw [lessN_bit ha hb, BitVec.toNat_and, Nat.testBit_and, BitVec.toNat_not]
    have h3 : (BitVec.ofInt 64 (m : Int)).toNat = m := by simp; omega
    have h4 : (BitVec.ofInt 64 (n : Int)).toNat = n := by simp; omega
    rw [h3, h4, show 2 ^ 64 - 1 - n = 2 ^ 64 - (n + 1) by omega, Nat.testBit_two_pow_sub_succ (by omega)]
    by_cases hi : i < 64
    · simp [hi]
    · have : m.testBit i = false := Nat.testBit_lt_two_pow (Nat.lt_of_lt_of_le (show m < 2 ^ 48 by omega) (Nat.pow_le_pow_right (by omega) (by omega)))
      simp [this]
  show IntKind.i64.wrap (((BitVec.ofInt 64 (m : Int) &&& ~~~BitVec.ofInt 64 (n : Int)).toNat : Nat) : Int) = _
  rw [e]
  have := lessN_lt (b := n) ha
  exact inR_i64 (by omega) (by omega)
end Go.SX
