/-
  Walks: Ua5, Oq3, Ua6, Oq4, Ua7, Oq5, Ua8, Dx, Rd: what single functions of the program compute.
-/
import Derived.Test.YtijedffphgckmaaGreatDoorSxUa1
import Derived.Lib.Bytealg
set_option linter.unusedVariables false
set_option linter.unusedSimpArgs false
namespace Go.SX
open Go.Proofs
set_option maxHeartbeats 4000000
set_option maxRecDepth 100000
def rowsK1 (ws : List Wd) (rows : List Int) (i : Nat) : List Wd := ws ++ [w_see] ++ rowsW 0 (rows.take i)
theorem wsee (g : Goal) (hk : g.kind = 1) (hG : GLen g) (hr : areaB g.rows = true) (ws : List Wd) (hn : ws.length + (seeW g).length ≤ 100000)
  (hbd : ∀ n ∈ [g.from_, g.to_, g.low, g.high], -9223372036854775808 ≤ n ∧ n ≤ 9223372036854775807) :
  Meets Tryz.prog Dc 39 [.ptr 0 0, goalA g] (writH ws) (.tuple []) (writD (ws.length + (seeW g).length) (ws ++ seeW g)) := by
 have hl := area_len hr
 have p1 := putN [.s w_see] (.s w_see) [] rfl ws (fun a ha => by simp at ha; subst ha; trivial) (by simp; omega)
 refine meets_of_gx Ax tab_ok Tryz.func39 (c := _) rfl Tryz.call39 600 ?_
 (repeat' ((conv => whnf); first | (exfalso; omega) | (refine callh [some 0, some 1, some 4] p1 rfl rfl ⟨rfl, rfl, rfl, trivial⟩ ?_) | refine x0C ?_ | refine spC (fun hb => ?_) fun hb => ?_ | refine nilC (fun hb => ?_) ?_ | refine taC ?_ | refine saC ?_ | exact sdV | refine side_and ?_ ?_ | refine drawX_of mixed ?_))
 have w0 : ws ++ List.map anyW [AnyV.s w_see] = rowsK1 ws g.rows 0 := by simp [rowsK1, anyW, rowsW]
 have w0l : (rowsK1 ws g.rows 0).length = ws.length + 1 := by rw [← w0]; simp
 refine loop_up (fun i : Nat => [(65, iS i)]) (fun i => [(0, .vart none [.slice 5 0 1 0 (rowsK1 ws g.rows i).length]), (5, .rows U.str (rowsK1 ws g.rows i))]) (fun i => i ≤ 24) (fun i => 24 - i) 0 (Nat.zero_le _) (by exact bkW) ?_
 intro i hi K hK
 rcases Nat.lt_or_ge i 24 with hlt | hge
 ·have hg := getD_some (d := Cd.dflt U.int) (show i < g.rows.length by omega)
  have hrow : rowOK (g.rows.getD (i : Int).toNat (Cd.dflt U.int)) = true := by
   simp only [areaB, Bool.and_eq_true] at hr
   exact List.all_eq_true.1 hr.2 _ (List.mem_of_getElem? hg)
  have h3 := (inB_iff _ _ _).1 hrow
  obtain ⟨r, hrr⟩ : ∃ r : Nat, g.rows.getD (i : Int).toNat (Cd.dflt U.int) = (r : Int) := ⟨(g.rows.getD (i : Int).toNat (Cd.dflt U.int)).toNat, by omega⟩
  rw [hrr] at h3
  have hr48 : r < 2 ^ 48 := by omega
  have hwr : IntKind.u64.wrap (g.rows.getD (i : Int).toNat (Cd.dflt U.int)) = ((leftJ r 0 : Nat) : Int) := by rw [hrr, u64_lt (by omega)]; rfl
  (repeat' ((conv => whnf); first | (exfalso; omega) | (refine call_in Ax tab_ok Tryz.func62 (c := _) rfl Tryz.call62 60 ?_) | (refine range_in Ax tab_ok rfl Tryz.func87 (c := _) rfl Tryz.call87 rfl rfl 300 ?_) | refine x0C ?_ | refine spC (fun hb => ?_) fun hb => ?_ | refine nilC (fun hb => ?_) ?_ | refine taC ?_ | refine saC ?_ | exact sdV | refine side_and ?_ ?_ | refine drawX_of mixed ?_))
  intro gn tmps bd
  (repeat' ((conv => whnf); first | (exfalso; omega) | refine x0C ?_ | refine spC (fun hb => ?_) fun hb => ?_ | refine nilC (fun hb => ?_) ?_ | refine taC ?_ | refine saC ?_ | exact sdV | refine side_and ?_ ?_ | refine drawX_of mixed ?_))
  refine loop_up (fun j : Nat => [(3, .p (.int .u64 (leftJ r j : Nat)))]) (fun j => match j with
   | 0 => []
   | j + 1 => [(0, .vart none [.slice 9 0 1 0 (rowsK1 ws g.rows i ++ ((runsN r).take (j + 1)).flatMap (runW i)).length]), (5, .dead), (9, .rows U.str (rowsK1 ws g.rows i ++ ((runsN r).take (j + 1)).flatMap (runW i)))]) (fun j => j ≤ (runsN r).length) (fun j => leftJ r j) 0 (Nat.zero_le _) (by (rw [hwr]; exact bkW)) ?_
  intro j hj K' hK'
  have hnext : rowsK1 ws g.rows (i + 1) = rowsK1 ws g.rows i ++ (runsN r).flatMap (runW i) := by
   unfold rowsK1
   rw [take_getD (d := Cd.dflt U.int) (show i < g.rows.length by omega), show g.rows.getD i (Cd.dflt U.int) = (r : Int) from hrr, rowsW_snoc, List.length_take, Nat.zero_add, Nat.min_eq_left (by omega), Int.toNat_natCast]
   simp [List.append_assoc]
  have hsz : (rowsK1 ws g.rows i).length + ((runsN r).flatMap (runW i)).length ≤ 100000 := by
   have h1 := rowsW_take_len g.rows (i + 1)
   have h2 : (rowsK1 ws g.rows (i + 1)).length = (rowsK1 ws g.rows i).length + ((runsN r).flatMap (runW i)).length := by rw [hnext]; simp
   rw [← h2]
   unfold rowsK1 seeW at *
   simp only [List.length_append, List.length_cons, List.length_nil] at *
   omega
  by_cases h0 : leftJ r j = 0
  ·have he := runsN_end (by omega) h0
   have hall : (runsN r).take j = runsN r := List.take_of_length_le he
   cases j with
   | zero =>
    have hnil : rowsK1 ws g.rows i = rowsK1 ws g.rows (i + 1) := by
     rw [hnext, List.eq_nil_of_length_eq_zero (by omega : (runsN r).length = 0)]; simp
    have hz : ((leftJ r 0 : Nat) : Int) = 0 := by rw [h0]; rfl
    rw [hnil] at *
    (repeat' ((conv => whnf); first | (exfalso; omega) | refine hK (i + 1) [some 0, some 1, some 2, some 3, some 4, some 5] _ _ ⟨by omega⟩ ⟨by omega⟩ (by exact bkW) | refine x0C ?_ | refine spC (fun hb => ?_) fun hb => ?_ | refine nilC (fun hb => ?_) ?_ | refine taC ?_ | refine saC ?_ | exact sdV | refine side_and ?_ ?_ | refine drawX_of mixed ?_))
   | succ j =>
    have hV : rowsK1 ws g.rows i ++ ((runsN r).take (j + 1)).flatMap (runW i) = rowsK1 ws g.rows (i + 1) := by rw [hall, ← hnext]
    have hVl := congrArg List.length hV
    have hz : ((leftJ r (j + 1) : Nat) : Int) = 0 := by rw [h0]; rfl
    (repeat' ((conv => whnf); first | (exfalso; omega) | refine hK (i + 1) [some 0, some 1, some 2, some 3, some 4, some 9] _ _ ⟨by omega⟩ ⟨by omega⟩ (by exact bkW) | refine x0C ?_ | refine spC (fun hb => ?_) fun hb => ?_ | refine nilC (fun hb => ?_) ?_ | refine taC ?_ | refine saC ?_ | exact sdV | refine side_and ?_ ?_ | refine drawX_of mixed ?_))
  ·have hjle := leftJ_le (n := r) (by omega) j
   have hk1 := ktz (leftJ r j) h0 (by omega)
   have hk2 := ktz2 (leftJ r j) h0 (by omega)
   have hst := step_bits (n := leftJ r j) h0 (by omega)
   obtain ⟨hl1, hl2⟩ := runLen_le (n := leftJ r j) h0 (by omega)
   have hdec := stepR_lt (n := leftJ r j) h0 (by omega)
   have hlenj := runsN_len (n := r) (j := j) (by omega) h0
   have htk := runsN_take (n := r) (j := j) (by omega) h0
   have hst' : bitop .andNot .u64 ((leftJ r j : Nat) : Int) (shlop .u64 (IntKind.u64.wrap (shlop .u64 1 ((runLen (leftJ r j) - tzF 64 (leftJ r j) : Nat) : Int) - 1)) ((tzF 64 (leftJ r j) : Nat) : Int)) = ((leftJ r (j + 1) : Nat) : Int) := hst
   have hne : ¬ ((leftJ r j : Nat) : Int) = 0 := by omega
   have hdec2 : leftJ r (j + 1) < leftJ r j := hdec
   generalize hM : (runLen (leftJ r j) - tzF 64 (leftJ r j) : Nat) = M at *
   have hW : List.map anyW [.s w_at, .n (i : Int), .n ((tzF 64 (leftJ r j) : Nat) : Int), .n (((tzF 64 (leftJ r j) : Nat) : Int) + (M : Int) - 1)] = runW i (runAt (leftJ r j)) := by
    simp only [List.map, anyW, runW, runAt]
    rw [show ((tzF 64 (leftJ r j) : Nat) : Int) + (M : Int) - 1 = ((runLen (leftJ r j) - 1 : Nat) : Int) by omega]
   have hO : ∀ x ∈ [AnyV.s w_at, .n (i : Int), .n ((tzF 64 (leftJ r j) : Nat) : Int), .n (((tzF 64 (leftJ r j) : Nat) : Int) + (M : Int) - 1)], AnyOK x := fun x hx => by
    simp at hx; rcases hx with rfl | rfl | rfl | rfl <;> simp only [AnyOK] <;> omega
   have hsj := flat_take_len (runW i) (runsN r) j
   cases j with
   | zero =>
    have p2 := putN _ _ _ rfl (rowsK1 ws g.rows i) hO (by simp; omega)
    have hV : rowsK1 ws g.rows i ++ List.map anyW [.s w_at, .n (i : Int), .n ((tzF 64 (leftJ r 0) : Nat) : Int), .n (((tzF 64 (leftJ r 0) : Nat) : Int) + (M : Int) - 1)] = rowsK1 ws g.rows i ++ ((runsN r).take (0 + 1)).flatMap (runW i) := by
     rw [hW, htk]; simp
    have hVl := congrArg List.length hV
    rw [List.length_append, List.length_map] at hVl
    have hst0 : bitop .andNot .u64 ((leftJ r 0 : Nat) : Int) (shlop .u64 (IntKind.u64.wrap (shlop .u64 1 (M : Int) - 1)) ((tzF 64 (leftJ r 0) : Nat) : Int)) = ((leftJ r 1 : Nat) : Int) := hst'
    have hdec1 : leftJ r 1 < leftJ r 0 := hdec2
    (repeat' ((conv => whnf); first | (exfalso; omega) | refine cpC (hk1) ?_ | refine dpC (hk1) ?_ | refine cpC (hk2) ?_ | refine dpC (hk2) ?_ | (refine yield_in Ax tab_ok rfl rfl rfl 200 200 ?_) | (refine callh [some 0, some 5, some 9] p2 rfl rfl ⟨rfl, rfl, rfl, trivial⟩ ?_) | refine hK' 1 [some 0, some 1, some 2, some 3, some 4, some 5, some 6, some 7, some 8, some 10] _ _ ⟨by omega⟩ ⟨by omega⟩ (by exact bkW) | refine x0C ?_ | refine spC (fun hb => ?_) fun hb => ?_ | refine nilC (fun hb => ?_) ?_ | refine taC ?_ | refine saC ?_ | exact sdV | refine side_and ?_ ?_ | refine drawX_of mixed ?_))
   | succ j =>
    have p2 := putN _ _ _ rfl (rowsK1 ws g.rows i ++ ((runsN r).take (j + 1)).flatMap (runW i)) hO (by rw [List.length_append]; simp only [List.length_cons, List.length_nil]; omega)
    have hV : (rowsK1 ws g.rows i ++ ((runsN r).take (j + 1)).flatMap (runW i)) ++ List.map anyW [.s w_at, .n (i : Int), .n ((tzF 64 (leftJ r (j + 1)) : Nat) : Int), .n (((tzF 64 (leftJ r (j + 1)) : Nat) : Int) + (M : Int) - 1)] = rowsK1 ws g.rows i ++ ((runsN r).take (j + 1 + 1)).flatMap (runW i) := by
     rw [hW, htk]; simp [List.append_assoc]
    have hVl := congrArg List.length hV
    rw [List.length_append, List.length_map] at hVl
    (repeat' ((conv => whnf); first | (exfalso; omega) | refine cpC (hk1) ?_ | refine dpC (hk1) ?_ | refine cpC (hk2) ?_ | refine dpC (hk2) ?_ | (refine yield_in Ax tab_ok rfl rfl rfl 200 200 ?_) | (refine callh [some 0, some 9, some 10] p2 rfl rfl ⟨rfl, rfl, rfl, trivial⟩ ?_) | refine hK' (j + 2) [some 0, some 1, some 2, some 3, some 4, some 5, some 6, some 7, some 8, some 11] _ _ ⟨by omega⟩ ⟨by omega⟩ (by exact bkW) | refine x0C ?_ | refine spC (fun hb => ?_) fun hb => ?_ | refine nilC (fun hb => ?_) ?_ | refine taC ?_ | refine saC ?_ | exact sdV | refine side_and ?_ ?_ | refine drawX_of mixed ?_))
 ·have hV : rowsK1 ws g.rows i = ws ++ [w_see] ++ rowsW 0 g.rows := by unfold rowsK1; rw [List.take_of_length_le (by omega)]
  have hsz := rowsW_take_len g.rows i
  have hO : ∀ x ∈ [AnyV.s w_from, .n g.from_, .s w_to, .n g.to_, .s w_sun, .n g.low, .s w_to, .n g.high], AnyOK x := fun x hx => by
   have b1 := hbd g.from_ (by simp)
   have b2 := hbd g.to_ (by simp)
   have b3 := hbd g.low (by simp)
   have b4 := hbd g.high (by simp)
   simp at hx; rcases hx with rfl | rfl | rfl | rfl | rfl | rfl | rfl | rfl <;> simp only [AnyOK] <;> omega
  have p3 := putN _ _ _ rfl (rowsK1 ws g.rows i) hO (by rw [hV]; simp [seeW] at *; omega)
  have p4 := chooseM ((rowsK1 ws g.rows i).length + [AnyV.s w_from, .n g.from_, .s w_to, .n g.to_, .s w_sun, .n g.low, .s w_to, .n g.high].length) g.clear w_clear w_any (rowsK1 ws g.rows i ++ List.map anyW [AnyV.s w_from, .n g.from_, .s w_to, .n g.to_, .s w_sun, .n g.low, .s w_to, .n g.high]) (by rw [List.length_append, List.length_map]) (by rw [hV]; simp [seeW] at *; omega)
  have hF : (rowsK1 ws g.rows i ++ List.map anyW [AnyV.s w_from, .n g.from_, .s w_to, .n g.to_, .s w_sun, .n g.low, .s w_to, .n g.high]) ++ [if g.clear then w_clear else w_any] = ws ++ seeW g := by
   rw [hV]; simp [seeW, anyW, List.append_assoc]
  have hFl := congrArg List.length hF
  simp only [List.length_append, List.length_map] at hFl
  (repeat' ((conv => whnf); first | (exfalso; omega) | (refine callh [some 0, some 5, some 6] p3 rfl rfl ⟨rfl, rfl, rfl, trivial⟩ ?_) | (refine callh [some 0, some 7] p4 rfl rfl ⟨rfl, rfl, trivial⟩ ?_) | (refine end_fn [some 0, some 1, some 8] (.inr rfl) ?_ ?_ rfl rfl; (focus exact vwV); exact hsW) | refine x0C ?_ | refine spC (fun hb => ?_) fun hb => ?_ | refine nilC (fun hb => ?_) ?_ | refine taC ?_ | refine saC ?_ | exact sdV | refine side_and ?_ ?_ | refine drawX_of mixed ?_))
end Go.SX

/-
 Plain: the words of the parts of a goal.
-/
namespace Go.SX
theorem goalW_eq (g : Goal) : goalW g = if g.kind = 1 then seeW g else if g.kind = 2 ∨ g.kind = 3 ∨ g.kind = 4 then headW g ++ firstW g.kids else [if g.kind = 5 then w_all else w_any, w_open] ++ kidsW (decide (g.kind = 6)) true g.cents g.kids ++ [w_close] := by
 cases g; rw [goalW]
theorem kidsW_append (any : Bool) : ∀ (a b : List Goal) (f : Bool) (c : List Int), kidsW any f c (a ++ b) = kidsW any f c a ++ kidsW any (f && a.isEmpty) (c.drop a.length) b
 | [], b, f, c => by simp [kidsW]
 | k :: a, b, f, c => by
  rw [List.cons_append, kidsW, kidsW, kidsW_append any a b false c.tail]
  simp [List.append_assoc]
theorem kidsW_snoc (any : Bool) (a : List Goal) (k : Goal) (c : List Int) : kidsW any true c (a ++ [k]) = kidsW any true c a ++ ((if a.isEmpty then [] else [w_comma]) ++ (if any then [itoaW (c.getD a.length 0)] else []) ++ goalW k) := by
 rw [kidsW_append, kidsW, kidsW]
 have : (c.drop a.length).headD 0 = c.getD a.length 0 := by
  rw [List.getD_eq_getElem?_getD, List.headD_eq_head?_getD, List.head?_drop]
 rw [this]
 simp
theorem kidsW_take_len (any : Bool) (c : List Int) (l : List Goal) (i : Nat) : (kidsW any true c (l.take i)).length ≤ (kidsW any true c l).length := by
 have : kidsW any true c l = kidsW any true c (l.take i) ++ kidsW any (true && (l.take i).isEmpty) (c.drop (l.take i).length) (l.drop i) := by rw [← kidsW_append, List.take_append_drop]
 rw [this]; simp
/-! what a valid goal holds -/
theorem sizeG_parts {g : Goal} {d n : Int} (h : sizeG g d = some n) : d ≤ 4 ∧ okB g = true ∧ ∃ m, sizeL g.kids (d + 1) = some m ∧ n = 1 + m := by
 rw [sizeG_eq] at h
 split at h
 ·cases h
 ·rename_i hc
  simp only [Bool.or_eq_true, decide_eq_true_eq, Bool.not_eq_true', not_or, Bool.not_eq_false] at hc
  refine ⟨by omega, hc.2, ?_⟩
  cases hs : sizeL g.kids (d + 1) with
  | none => rw [hs] at h; cases h
  | some m => rw [hs] at h; injection h with h; exact ⟨m, rfl, h.symm⟩
theorem sizeL_mem : ∀ {l : List Goal} {d m : Int} {k : Goal}, sizeL l d = some m → k ∈ l → ∃ n, sizeG k d = some n
 | [], d, m, k, h, hk => by cases hk
 | a :: l, d, m, k, h, hk => by
  rw [sizeL] at h
  cases ha : sizeG a d with
  | none => rw [ha] at h; cases h
  | some x =>
   rw [ha] at h
   cases hl : sizeL l d with
   | none => rw [hl] at h; cases h
   | some y =>
    rcases List.mem_cons.1 hk with rfl | hk
    ·exact ⟨x, ha⟩
    ·exact sizeL_mem hl hk
structure OkG (g : Goal) : Prop where
 kind : 1 ≤ g.kind ∧ g.kind ≤ 6
 lim : limB g = true
 plain : plainB g (restG g) = true
 parts : partsB g = true
theorem okG {g : Goal} (h : okB g = true) : OkG g := by
 simp only [okB, Bool.and_eq_true] at h
 exact ⟨(inB_iff _ _ _).1 h.1.1.1, h.1.2, h.1.1.2, h.2⟩
theorem OkG.see {g : Goal} (h : OkG g) (hk : g.kind = 1) : areaB g.rows = true ∧ (0 ≤ g.from_ ∧ g.from_ ≤ 1000000) ∧ (g.from_ + 1 ≤ g.to_ ∧ g.to_ ≤ 1000000) ∧ (0 ≤ g.low ∧ g.low ≤ 90) ∧ (g.low ≤ g.high ∧ g.high ≤ 90) ∧ g.kids = [] ∧ g.cents = [] := by
 have h1 := h.lim
 have h2 := h.parts
 unfold limB at h1
 rw [if_pos hk] at h1
 simp only [Bool.and_eq_true, inB_iff] at h1
 simp only [partsB, manyB, centsB, hk, if_pos, Bool.and_eq_true] at h2
 simp only [show ¬ ((1 : Int) = 6) by decide, if_neg, decide_eq_true_eq, not_false_iff] at h2
 obtain ⟨⟨⟨h3, h4⟩, _⟩, _⟩ := h2
 exact ⟨h1.1.1.1.1.1, h1.1.1.1.2, h1.1.1.2, h1.1.2, h1.2, List.eq_nil_of_length_eq_zero (by simpa using h3), List.eq_nil_of_length_eq_zero (by simpa using h4)⟩
theorem OkG.one {g : Goal} (h : OkG g) (hk : g.kind = 2 ∨ g.kind = 3 ∨ g.kind = 4) : g.kids.length = 1 ∧ g.cents = [] := by
 have h2 := h.parts
 have n1 : ¬ g.kind = 1 := by omega
 have n2 : ¬ (g.kind = 5 ∨ g.kind = 6) := by omega
 have n3 : ¬ g.kind = 6 := by omega
 simp only [partsB, manyB, centsB, if_neg n1, if_neg n2, if_neg n3, Bool.and_eq_true, decide_eq_true_eq] at h2
 obtain ⟨⟨⟨h3, h4⟩, _⟩, _⟩ := h2
 exact ⟨by omega, List.eq_nil_of_length_eq_zero (by omega)⟩
theorem OkG.many {g : Goal} (h : OkG g) (hk : g.kind = 5 ∨ g.kind = 6) : 2 ≤ g.kids.length ∧ g.kids.length ≤ 4 ∧ (g.kind = 6 → g.cents.length = g.kids.length ∧ ∀ c ∈ g.cents, 0 ≤ c ∧ c ≤ 1000000000) ∧ (g.kind = 5 → g.cents = []) := by
 have h2 := h.parts
 have n1 : ¬ g.kind = 1 := by omega
 simp only [partsB, manyB, centsB, if_neg n1, if_pos hk, Bool.and_eq_true, inB_iff] at h2
 obtain ⟨⟨⟨h3, h4⟩, _⟩, _⟩ := h2
 refine ⟨by omega, by omega, fun h6 => ?_, fun h5 => ?_⟩
 ·rw [if_pos h6] at h4
  simp only [Bool.and_eq_true, decide_eq_true_eq, Bool.not_eq_true', List.any_eq_false] at h4
  refine ⟨by omega, fun c hc => ?_⟩
  have := h4.2 c hc
  exact (inB_iff _ _ _).1 (by simpa using this)
 ·rw [if_neg (by omega)] at h4
  simp only [decide_eq_true_eq] at h4
  exact List.eq_nil_of_length_eq_zero (by omega)
theorem OkG.lim2 {g : Goal} (h : OkG g) (hk : g.kind = 2) : (1 ≤ g.low ∧ g.low ≤ 8) ∧ (1 ≤ g.within ∧ g.within ≤ 1000000) := by
 have h1 := h.lim
 unfold limB at h1
 rw [if_neg (by omega), if_pos hk] at h1
 simpa only [Bool.and_eq_true, inB_iff] using h1
theorem OkG.lim3 {g : Goal} (h : OkG g) (hk : g.kind = 3) : (1 ≤ g.days ∧ g.days ≤ 60) ∧ (1 ≤ g.times ∧ g.times ≤ 6) ∧ (0 ≤ g.within ∧ g.within ≤ 1440 * g.days) ∧ (0 ≤ g.from_ ∧ g.from_ ≤ 1000000) := by
 have h1 := h.lim
 unfold limB at h1
 rw [if_neg (by omega), if_neg (by omega), if_pos hk] at h1
 simp only [Bool.and_eq_true, inB_iff] at h1
 exact ⟨h1.1.1.1, h1.1.1.2, h1.1.2, h1.2⟩
theorem OkG.lim4 {g : Goal} (h : OkG g) (hk : g.kind = 4) : 0 ≤ g.within ∧ g.within ≤ 1000000 := by
 have h1 := h.lim
 unfold limB at h1
 rw [if_neg (by omega), if_neg (by omega), if_neg (by omega), if_pos hk] at h1
 simpa only [inB_iff] using h1
end Go.SX

namespace Go.SX
open Go.Proofs
set_option maxHeartbeats 4000000
set_option maxRecDepth 100000
theorem wseeM (m : Nat) (g : Goal) (hk : g.kind = 1) (hG : GLen g) (hr : areaB g.rows = true) (ws : List Wd) (hm : m = ws.length) (hn : m + (seeW g).length ≤ 100000)
  (hbd : ∀ n ∈ [g.from_, g.to_, g.low, g.high], -9223372036854775808 ≤ n ∧ n ≤ 9223372036854775807) :
  Meets Tryz.prog Dc 39 [.ptr 0 0, goalA g] (writHn m ws) (.tuple []) (writD (m + (seeW g).length) (ws ++ seeW g)) := by
 subst hm; exact wsee g hk hG hr ws hn hbd
/-- a goal with one part -/
theorem wone (g : Goal) (m : Nat) (ws : List Wd) (hm : m = ws.length) (hok : OkG g) (hkl : (g.kids.length : Int) = 1) (hn : m + (headW g).length + (goalW (g.kids.getD (Int.toNat 0) (Cd.dflt U.goal))).length ≤ 100000) (hk : g.kind = 2 ∨ g.kind = 3 ∨ g.kind = 4)
  (ih : ∀ (m : Nat) (ws : List Wd), m = ws.length → m + (goalW (g.kids.getD (Int.toNat 0) (Cd.dflt U.goal))).length ≤ 100000 → Meets Tryz.prog Dc 39 [.ptr 0 0, goalA (g.kids.getD (Int.toNat 0) (Cd.dflt U.goal))] (writHn m ws) (.tuple []) (writD (m + (goalW (g.kids.getD (Int.toNat 0) (Cd.dflt U.goal))).length) (ws ++ goalW (g.kids.getD (Int.toNat 0) (Cd.dflt U.goal))))) :
  Meets Tryz.prog Dc 39 [.ptr 0 0, goalA g] (writHn m ws) (.tuple []) (writD (m + (headW g).length + (goalW (g.kids.getD (Int.toNat 0) (Cd.dflt U.goal))).length) (ws ++ headW g ++ goalW (g.kids.getD (Int.toNat 0) (Cd.dflt U.goal)))) := by
 rcases hk with hk | hk | hk
 ·obtain ⟨b1, b2⟩ := hok.lim2 hk
  have hL : List.map anyW [AnyV.s w_pair, .s w_looks, .n g.low, .s w_within, .n g.within, .s w_of] = headW g := by unfold headW; rw [if_pos hk]; rfl
  have hlen : (headW g).length = 6 := by rw [← hL]; rfl
  have p1 := putM m [AnyV.s w_pair, .s w_looks, .n g.low, .s w_within, .n g.within, .s w_of] _ _ rfl ws (fun x hx => by
   simp at hx; rcases hx with rfl | rfl | rfl | rfl | rfl | rfl <;> simp only [AnyOK] <;> omega) hm (by simp; omega)
  have p2 := ih (m + [AnyV.s w_pair, .s w_looks, .n g.low, .s w_within, .n g.within, .s w_of].length) (ws ++ List.map anyW [AnyV.s w_pair, .s w_looks, .n g.low, .s w_within, .n g.within, .s w_of]) (by rw [List.length_append, List.length_map, hm]) (by have h := hn; rw [hlen] at h; exact h)
  have hfin : ws ++ List.map anyW [AnyV.s w_pair, .s w_looks, .n g.low, .s w_within, .n g.within, .s w_of] ++ goalW (g.kids.getD (Int.toNat 0) (Cd.dflt U.goal)) = ws ++ headW g ++ goalW (g.kids.getD (Int.toNat 0) (Cd.dflt U.goal)) := by rw [hL]
  clear ih hok
  refine meets_of_gx Ax tab_ok Tryz.func39 (c := _) rfl Tryz.call39 600 ?_
  (repeat' ((conv => whnf); first | (exfalso; omega) | (refine callh [some 0, some 1, some 4] p1 rfl rfl ⟨rfl, rfl, rfl, trivial⟩ ?_) | (refine dcallh [some 0, some 5] p2 rfl rfl ⟨rfl, rfl, trivial⟩ ?_) | (refine end_fn [some 0, some 1, some 6] (.inl rfl) ?_ ?_ rfl rfl; (focus exact vwV); exact hsW) | refine spC (fun hb => ?_) fun hb => ?_ | refine taC ?_ | refine saC ?_ | refine drawX_of mixed ?_))
 ·obtain ⟨b1, b2, b3, b4⟩ := hok.lim3 hk
  have hL : List.map anyW [AnyV.s w_every, .n g.days, .s w_days, .n g.times, .s w_times, .s w_apart, .n g.within, .s w_from, .n g.from_, .s w_of] = headW g := by unfold headW; rw [if_neg (by omega), if_pos hk]; rfl
  have hlen : (headW g).length = 10 := by rw [← hL]; rfl
  have p1 := putM m [AnyV.s w_every, .n g.days, .s w_days, .n g.times, .s w_times, .s w_apart, .n g.within, .s w_from, .n g.from_, .s w_of] _ _ rfl ws (fun x hx => by
   simp at hx; rcases hx with rfl | rfl | rfl | rfl | rfl | rfl | rfl | rfl | rfl | rfl <;> simp only [AnyOK] <;> omega) hm (by simp; omega)
  have p2 := ih (m + [AnyV.s w_every, .n g.days, .s w_days, .n g.times, .s w_times, .s w_apart, .n g.within, .s w_from, .n g.from_, .s w_of].length) (ws ++ List.map anyW [AnyV.s w_every, .n g.days, .s w_days, .n g.times, .s w_times, .s w_apart, .n g.within, .s w_from, .n g.from_, .s w_of]) (by rw [List.length_append, List.length_map, hm]) (by have h := hn; rw [hlen] at h; exact h)
  have hfin : ws ++ List.map anyW [AnyV.s w_every, .n g.days, .s w_days, .n g.times, .s w_times, .s w_apart, .n g.within, .s w_from, .n g.from_, .s w_of] ++ goalW (g.kids.getD (Int.toNat 0) (Cd.dflt U.goal)) = ws ++ headW g ++ goalW (g.kids.getD (Int.toNat 0) (Cd.dflt U.goal)) := by rw [hL]
  clear ih hok
  refine meets_of_gx Ax tab_ok Tryz.func39 (c := _) rfl Tryz.call39 600 ?_
  (repeat' ((conv => whnf); first | (exfalso; omega) | (refine callh [some 0, some 1, some 4] p1 rfl rfl ⟨rfl, rfl, rfl, trivial⟩ ?_) | (refine dcallh [some 0, some 5] p2 rfl rfl ⟨rfl, rfl, trivial⟩ ?_) | (refine end_fn [some 0, some 1, some 6] (.inl rfl) ?_ ?_ rfl rfl; (focus exact vwV); exact hsW) | refine spC (fun hb => ?_) fun hb => ?_ | refine taC ?_ | refine saC ?_ | refine drawX_of mixed ?_))
 ·obtain ⟨b1, b2⟩ := hok.lim4 hk
  have hL : List.map anyW [AnyV.s w_deliver, .s w_within, .n g.within, .s w_of] = headW g := by unfold headW; rw [if_neg (by omega), if_neg (by omega)]; rfl
  have hlen : (headW g).length = 4 := by rw [← hL]; rfl
  have p1 := putM m [AnyV.s w_deliver, .s w_within, .n g.within, .s w_of] _ _ rfl ws (fun x hx => by
   simp at hx; rcases hx with rfl | rfl | rfl | rfl <;> simp only [AnyOK] <;> omega) hm (by simp; omega)
  have p2 := ih (m + [AnyV.s w_deliver, .s w_within, .n g.within, .s w_of].length) (ws ++ List.map anyW [AnyV.s w_deliver, .s w_within, .n g.within, .s w_of]) (by rw [List.length_append, List.length_map, hm]) (by have h := hn; rw [hlen] at h; exact h)
  have hfin : ws ++ List.map anyW [AnyV.s w_deliver, .s w_within, .n g.within, .s w_of] ++ goalW (g.kids.getD (Int.toNat 0) (Cd.dflt U.goal)) = ws ++ headW g ++ goalW (g.kids.getD (Int.toNat 0) (Cd.dflt U.goal)) := by rw [hL]
  clear ih hok
  refine meets_of_gx Ax tab_ok Tryz.func39 (c := _) rfl Tryz.call39 600 ?_
  (repeat' ((conv => whnf); first | (exfalso; omega) | (refine callh [some 0, some 1, some 4] p1 rfl rfl ⟨rfl, rfl, rfl, trivial⟩ ?_) | (refine dcallh [some 0, some 5] p2 rfl rfl ⟨rfl, rfl, trivial⟩ ?_) | (refine end_fn [some 0, some 1, some 6] (.inl rfl) ?_ ?_ rfl rfl; (focus exact vwV); exact hsW) | refine spC (fun hb => ?_) fun hb => ?_ | refine taC ?_ | refine saC ?_ | refine drawX_of mixed ?_))
def kidsP (g : Goal) (ws : List Wd) (i : Nat) : List Wd := ws ++ [if (decide (g.kind = 5)) = true then w_all else w_any] ++ [w_open] ++ kidsW (decide (g.kind = 6)) true g.cents (g.kids.take i)
theorem kidsP_succ (g : Goal) (ws : List Wd) {i : Nat} (h : i < g.kids.length) : kidsP g ws (i + 1) = kidsP g ws i ++ ((if i = 0 then [] else [w_comma]) ++ (if g.kind = 6 then [itoaW (g.cents.getD i 0)] else []) ++ goalW (g.kids.getD (i : Int).toNat (Cd.dflt U.goal))) := by
 unfold kidsP
 rw [take_getD (d := Cd.dflt U.goal) h, kidsW_snoc, List.length_take, Nat.min_eq_left (by omega)]
 have e1 : (g.kids.take i).isEmpty = decide (i = 0) := by
  cases i with
  | zero => simp
  | succ i => cases hk : g.kids with
   | nil => rw [hk] at h; simp at h
   | cons a l => simp
 rw [e1]
 have e2 : g.kids.getD (i : Int).toNat (Cd.dflt U.goal) = g.kids.getD i (Cd.dflt U.goal) := rfl
 rw [e2]
 by_cases h0 : i = 0 <;> by_cases h6 : g.kind = 6 <;> simp [h0, h6, List.append_assoc]
theorem wmany (g : Goal) (m : Nat) (ws : List Wd) (hm : m = ws.length) (hok : OkG g) (hn : m + (goalW g).length ≤ 100000) (hk : g.kind = 5 ∨ g.kind = 6)
  (ih : ∀ k ∈ g.kids, ∀ (m : Nat) (ws : List Wd), m = ws.length → m + (goalW k).length ≤ 100000 → Meets Tryz.prog Dc 39 [.ptr 0 0, goalA k] (writHn m ws) (.tuple []) (writD (m + (goalW k).length) (ws ++ goalW k))) :
  Meets Tryz.prog Dc 39 [.ptr 0 0, goalA g] (writHn m ws) (.tuple []) (writD (m + (goalW g).length) (ws ++ goalW g)) := by
 obtain ⟨k2, k4, hc6, hc5⟩ := hok.many hk
 have hend : kidsP g ws g.kids.length ++ [w_close] = ws ++ goalW g := by
  rw [goalW_eq, if_neg (by omega), if_neg (by omega)]
  unfold kidsP
  rw [List.take_length]
  rcases hk with hk | hk <;> simp [hk, List.append_assoc]
 have hendl := congrArg List.length hend
 rw [List.length_append, List.length_append] at hendl
 have hpre : ∀ i, i ≤ g.kids.length → (kidsP g ws i).length ≤ (kidsP g ws g.kids.length).length := fun i _ => by
  unfold kidsP
  have := kidsW_take_len (decide (g.kind = 6)) g.cents g.kids i
  rw [List.take_length]
  simp only [List.length_append]
  omega
 have p1 := chooseM m (decide (g.kind = 5)) w_all w_any ws hm (by omega)
 have p2 := putM (m + 1) [.s w_open] _ _ rfl (ws ++ [if (decide (g.kind = 5)) = true then w_all else w_any]) (fun x hx => by simp at hx; subst hx; trivial) (by rw [List.length_append, hm]; rfl) (by simp; omega)
 have w0 : ws ++ [if (decide (g.kind = 5)) = true then w_all else w_any] ++ List.map anyW [AnyV.s w_open] = kidsP g ws 0 := by simp [kidsP, kidsW, anyW]
 have w0l : (kidsP g ws 0).length = m + 2 := by rw [← w0, hm]; simp
 have p9 : ∀ i, i = g.kids.length → Meets Tryz.prog Dc 37 [.ptr 0 0, .slice 2 0 1 0 [AnyV.s w_close].length] (putHn (kidsP g ws i).length (kidsP g ws i) [.s w_close]) (.tuple []) (putD ((kidsP g ws i).length + [AnyV.s w_close].length) (kidsP g ws i ++ List.map anyW [AnyV.s w_close]) [.s w_close]) := fun i hi =>
  putM (kidsP g ws i).length [.s w_close] _ _ rfl (kidsP g ws i) (fun x hx => by simp at hx; subst hx; trivial) rfl (by have := hpre i (by omega); simp at *; omega)
 refine meets_of_gx Ax tab_ok Tryz.func39 (c := _) rfl Tryz.call39 600 ?_
 (repeat' ((conv => whnf); first | (exfalso; omega) | (refine callh [some 0, some 1] p1 rfl rfl ⟨rfl, rfl, trivial⟩ ?_) | (refine callh [some 0, some 4, some 5] p2 rfl rfl ⟨rfl, rfl, rfl, trivial⟩ ?_) | refine spC (fun hb => ?_) fun hb => ?_ | refine saC ?_))
 refine loop_up (fun i : Nat => [(24, iS i)]) (fun i => [(0, .vart none [.slice 6 0 1 0 (kidsP g ws i).length]), (6, .rows U.str (kidsP g ws i))]) (fun i => i ≤ g.kids.length) (fun i => g.kids.length - i) 0 (Nat.zero_le _) (by exact bkW) ?_
 intro i hi K hK
 rcases Nat.lt_or_ge i g.kids.length with hlt | hge
 ·have hmem : g.kids.getD (i : Int).toNat (Cd.dflt U.goal) ∈ g.kids := List.mem_of_getElem? (getD_some (d := Cd.dflt U.goal) hlt)
  have hs := kidsP_succ g ws hlt
  have hsl := congrArg List.length hs
  have hp1 := hpre (i + 1) hlt
  have ihk := ih _ hmem
  clear ih p1 p2 p9
  have hcb : ∀ hk6 : g.kind = 6, AnyOK (.n (g.cents.getD (i : Int).toNat (Cd.dflt U.int))) := fun hk6 => by
   have := (hc6 hk6).2 _ (List.mem_of_getElem? (getD_some (d := Cd.dflt U.int) (show i < g.cents.length by have := (hc6 hk6).1; omega)))
   exact ⟨Int.le_trans (by decide) this.1, Int.le_trans this.2 (by decide)⟩
  have hcl : g.kind = 6 → g.cents.length = g.kids.length := fun h => (hc6 h).1
  clear hsl
  have hl1 : [w_close].length = 1 := rfl
  cases i with
  | zero =>
   rcases hk with hk | hk
   ·have hsl : (kidsP g ws (0 + 1)).length = (kidsP g ws (0)).length + 0 + (goalW (g.kids.getD ((0 : Nat) : Int).toNat (Cd.dflt U.goal))).length := by rw [hs]; simp [hk]; try omega
    have hq : ((kidsP g ws 0).length) + (goalW (g.kids.getD ((0 : Nat) : Int).toNat (Cd.dflt U.goal))).length ≤ 100000 := by (show ((kidsP g ws 0).length) + (goalW (g.kids.getD ((0 : Nat) : Int).toNat (Cd.dflt U.goal))).length ≤ 100000; omega)
    have qg := ihk ((kidsP g ws 0).length) ((kidsP g ws 0)) (by simp) hq
    have hfin : (kidsP g ws 0) ++ goalW (g.kids.getD ((0 : Nat) : Int).toNat (Cd.dflt U.goal)) = kidsP g ws (0 + 1) := by rw [hs]; simp [hk, List.append_assoc]
    have hfl := congrArg List.length hfin
    simp only [List.length_append, List.length_map] at hfl
    clear ihk
    (repeat' ((conv => whnf); first | (exfalso; omega) | (refine callh [some 0, some 6] qg rfl rfl ⟨rfl, rfl, trivial⟩ ?_) | refine hK (0 + 1) [some 0, some 1, some 2, some 3, some 4, some 5, some 8] _ _ ⟨by omega⟩ ⟨by omega⟩ (by exact bkW) | refine spC (fun hb => ?_) fun hb => ?_ | refine saC ?_))
   ·have hcb := hcb hk
    have hcl := hcl hk
    have hsl : (kidsP g ws (0 + 1)).length = (kidsP g ws (0)).length + 1 + (goalW (g.kids.getD ((0 : Nat) : Int).toNat (Cd.dflt U.goal))).length := by rw [hs]; simp [hk]; try omega
    have q0 := putM ((kidsP g ws 0).length) [AnyV.n (g.cents.getD ((0 : Nat) : Int).toNat (Cd.dflt U.int))] _ _ rfl ((kidsP g ws 0)) (fun x hx => by simp at hx; subst hx; exact hcb) (by simp) (by simp only [List.length_cons, List.length_nil]; omega)
    have hq : ((kidsP g ws 0).length + [AnyV.n (g.cents.getD ((0 : Nat) : Int).toNat (Cd.dflt U.int))].length) + (goalW (g.kids.getD ((0 : Nat) : Int).toNat (Cd.dflt U.goal))).length ≤ 100000 := by (show ((kidsP g ws 0).length + 1) + (goalW (g.kids.getD ((0 : Nat) : Int).toNat (Cd.dflt U.goal))).length ≤ 100000; omega)
    have qg := ihk ((kidsP g ws 0).length + [AnyV.n (g.cents.getD ((0 : Nat) : Int).toNat (Cd.dflt U.int))].length) ((kidsP g ws 0) ++ List.map anyW [AnyV.n (g.cents.getD ((0 : Nat) : Int).toNat (Cd.dflt U.int))]) (by simp) hq
    have hfin : (kidsP g ws 0) ++ List.map anyW [AnyV.n (g.cents.getD ((0 : Nat) : Int).toNat (Cd.dflt U.int))] ++ goalW (g.kids.getD ((0 : Nat) : Int).toNat (Cd.dflt U.goal)) = kidsP g ws (0 + 1) := by rw [hs]; simp [hk, anyW, List.append_assoc]; try rfl
    have hfl := congrArg List.length hfin
    simp only [List.length_append, List.length_map] at hfl
    clear ihk
    (repeat' ((conv => whnf); first | (exfalso; omega) | (refine dcallh [some 0, some 6, some 8] q0 rfl rfl ⟨rfl, rfl, rfl, trivial⟩ ?_) | (refine callh [some 0, some 9] qg rfl rfl ⟨rfl, rfl, trivial⟩ ?_) | refine hK (0 + 1) [some 0, some 1, some 2, some 3, some 4, some 5, some 10] _ _ ⟨by omega⟩ ⟨by omega⟩ (by exact bkW) | refine spC (fun hb => ?_) fun hb => ?_ | refine taC ?_ | refine saC ?_ | refine drawX_of mixed ?_))
  | succ i =>
   rcases hk with hk | hk
   ·have hsl : (kidsP g ws (i + 1 + 1)).length = (kidsP g ws (i + 1)).length + 1 + (goalW (g.kids.getD ((i + 1 : Nat) : Int).toNat (Cd.dflt U.goal))).length := by rw [hs]; simp [hk]; try omega
    have q0 := putM ((kidsP g ws (i + 1)).length) [AnyV.s w_comma] _ _ rfl ((kidsP g ws (i + 1))) (fun x hx => by simp at hx; subst hx; trivial) (by simp) (by simp only [List.length_cons, List.length_nil]; omega)
    have hq : ((kidsP g ws (i + 1)).length + [AnyV.s w_comma].length) + (goalW (g.kids.getD ((i + 1 : Nat) : Int).toNat (Cd.dflt U.goal))).length ≤ 100000 := by (show ((kidsP g ws (i + 1)).length + 1) + (goalW (g.kids.getD ((i + 1 : Nat) : Int).toNat (Cd.dflt U.goal))).length ≤ 100000; omega)
    have qg := ihk ((kidsP g ws (i + 1)).length + [AnyV.s w_comma].length) ((kidsP g ws (i + 1)) ++ List.map anyW [AnyV.s w_comma]) (by simp) hq
    have hfin : (kidsP g ws (i + 1)) ++ List.map anyW [AnyV.s w_comma] ++ goalW (g.kids.getD ((i + 1 : Nat) : Int).toNat (Cd.dflt U.goal)) = kidsP g ws (i + 1 + 1) := by rw [hs]; simp [hk, anyW, List.append_assoc]; try rfl
    have hfl := congrArg List.length hfin
    simp only [List.length_append, List.length_map] at hfl
    clear ihk
    (repeat' ((conv => whnf); first | (exfalso; omega) | (refine callh [some 0, some 6, some 8] q0 rfl rfl ⟨rfl, rfl, rfl, trivial⟩ ?_) | (refine callh [some 0, some 9] qg rfl rfl ⟨rfl, rfl, trivial⟩ ?_) | refine hK (i + 1 + 1) [some 0, some 1, some 2, some 3, some 4, some 5, some 10] _ _ ⟨by omega⟩ ⟨by omega⟩ (by exact bkW) | refine spC (fun hb => ?_) fun hb => ?_ | refine saC ?_))
   ·have hcb := hcb hk
    have hcl := hcl hk
    have hsl : (kidsP g ws (i + 1 + 1)).length = (kidsP g ws (i + 1)).length + 2 + (goalW (g.kids.getD ((i + 1 : Nat) : Int).toNat (Cd.dflt U.goal))).length := by rw [hs]; simp [hk]; try omega
    have q0 := putM ((kidsP g ws (i + 1)).length) [AnyV.s w_comma] _ _ rfl ((kidsP g ws (i + 1))) (fun x hx => by simp at hx; subst hx; trivial) (by simp) (by simp only [List.length_cons, List.length_nil]; omega)
    have q1 := putM ((kidsP g ws (i + 1)).length + [AnyV.s w_comma].length) [AnyV.n (g.cents.getD ((i + 1 : Nat) : Int).toNat (Cd.dflt U.int))] _ _ rfl ((kidsP g ws (i + 1)) ++ List.map anyW [AnyV.s w_comma]) (fun x hx => by simp at hx; subst hx; exact hcb) (by simp) (by simp only [List.length_cons, List.length_nil]; omega)
    have hq : ((kidsP g ws (i + 1)).length + [AnyV.s w_comma].length + [AnyV.n (g.cents.getD ((i + 1 : Nat) : Int).toNat (Cd.dflt U.int))].length) + (goalW (g.kids.getD ((i + 1 : Nat) : Int).toNat (Cd.dflt U.goal))).length ≤ 100000 := by (show ((kidsP g ws (i + 1)).length + 1 + 1) + (goalW (g.kids.getD ((i + 1 : Nat) : Int).toNat (Cd.dflt U.goal))).length ≤ 100000; omega)
    have qg := ihk ((kidsP g ws (i + 1)).length + [AnyV.s w_comma].length + [AnyV.n (g.cents.getD ((i + 1 : Nat) : Int).toNat (Cd.dflt U.int))].length) ((kidsP g ws (i + 1)) ++ List.map anyW [AnyV.s w_comma] ++ List.map anyW [AnyV.n (g.cents.getD ((i + 1 : Nat) : Int).toNat (Cd.dflt U.int))]) (by simp) hq
    have hfin : (kidsP g ws (i + 1)) ++ List.map anyW [AnyV.s w_comma] ++ List.map anyW [AnyV.n (g.cents.getD ((i + 1 : Nat) : Int).toNat (Cd.dflt U.int))] ++ goalW (g.kids.getD ((i + 1 : Nat) : Int).toNat (Cd.dflt U.goal)) = kidsP g ws (i + 1 + 1) := by rw [hs]; simp [hk, anyW, List.append_assoc]; try rfl
    have hfl := congrArg List.length hfin
    simp only [List.length_append, List.length_map] at hfl
    clear ihk
    (repeat' ((conv => whnf); first | (exfalso; omega) | (refine callh [some 0, some 6, some 8] q0 rfl rfl ⟨rfl, rfl, rfl, trivial⟩ ?_) | (refine dcallh [some 0, some 9, some 10] q1 rfl rfl ⟨rfl, rfl, rfl, trivial⟩ ?_) | (refine callh [some 0, some 11] qg rfl rfl ⟨rfl, rfl, trivial⟩ ?_) | refine hK (i + 1 + 1) [some 0, some 1, some 2, some 3, some 4, some 5, some 12] _ _ ⟨by omega⟩ ⟨by omega⟩ (by exact bkW) | refine spC (fun hb => ?_) fun hb => ?_ | refine taC ?_ | refine saC ?_ | refine drawX_of mixed ?_))
 ·obtain rfl : i = g.kids.length := by omega
  have q := p9 _ rfl
  clear p1 p2 p9 ih
  have hfin : kidsP g ws g.kids.length ++ List.map anyW [AnyV.s w_close] = ws ++ goalW g := hend
  have hl1 : [w_close].length = 1 := rfl
  (repeat' ((conv => whnf); first | (exfalso; omega) | (refine callh [some 0, some 6, some 7] q rfl rfl ⟨rfl, rfl, rfl, trivial⟩ ?_) | (refine end_fn [some 0, some 1, some 8] (.inr rfl) ?_ ?_ rfl rfl; (focus exact vwV); exact hsW) | refine spC (fun hb => ?_) fun hb => ?_ | refine saC ?_))
theorem wgoal : ∀ (j : Nat) (g : Goal) (d n : Int), d + j = 5 → sizeG g d = some n → GAll g → ∀ (m : Nat) (ws : List Wd), m = ws.length → m + (goalW g).length ≤ 100000 →
  Meets Tryz.prog Dc 39 [.ptr 0 0, goalA g] (writHn m ws) (.tuple []) (writD (m + (goalW g).length) (ws ++ goalW g))
 | 0, g, d, n, hd, hs, hG, m, ws, hm, hn => by
  have := (sizeG_parts hs).1
  omega
 | j + 1, g, d, n, hd, hs, hG, m, ws, hm, hn => by
  obtain ⟨h4, hok, q, hq, _⟩ := sizeG_parts hs
  have hO := okG hok
  have hG' := (GAll_iff g).1 hG
  have ih : ∀ k ∈ g.kids, ∀ (m : Nat) (ws : List Wd), m = ws.length → m + (goalW k).length ≤ 100000 → Meets Tryz.prog Dc 39 [.ptr 0 0, goalA k] (writHn m ws) (.tuple []) (writD (m + (goalW k).length) (ws ++ goalW k)) := fun k hk m ws hm hn => by
   obtain ⟨z, hz⟩ := sizeL_mem hq hk
   exact wgoal j k (d + 1) z (by omega) hz (GAllL_mem hG'.2 hk) m ws hm hn
  have hkind := hO.kind
  by_cases k1 : g.kind = 1
  ·obtain ⟨s1, s2, s3, s4, s5, _, _⟩ := hO.see k1
   have e : goalW g = seeW g := by rw [goalW_eq, if_pos k1]
   rw [e] at hn ⊢
   refine wseeM m g k1 hG'.1 s1 ws hm hn fun n hn => ?_
   simp at hn
   rcases hn with rfl | rfl | rfl | rfl <;> omega
  ·by_cases k2 : g.kind = 2 ∨ g.kind = 3 ∨ g.kind = 4
   ·obtain ⟨o1, _⟩ := hO.one k2
    have e : goalW g = headW g ++ goalW (g.kids.getD (Int.toNat 0) (Cd.dflt U.goal)) := by
     rw [goalW_eq, if_neg k1, if_pos k2]
     cases hk : g.kids with
     | nil => rw [hk] at o1; simp at o1
     | cons a l => rw [firstW]; rfl
    rw [e] at hn ⊢
    rw [List.length_append] at hn ⊢
    have hmem : g.kids.getD (Int.toNat 0) (Cd.dflt U.goal) ∈ g.kids := by
     cases hk : g.kids with
     | nil => rw [hk] at o1; simp at o1
     | cons a l => exact List.mem_cons_self ..
    rw [← Nat.add_assoc] at hn ⊢
    rw [← List.append_assoc]
    exact wone g m ws hm hO (by omega) hn k2 (ih _ hmem)
   ·exact wmany g m ws hm hO hn (by omega) ih
end Go.SX

/-
 Plain: how many words there are, and how long they are.
-/
namespace Go.SX
theorem itoaF_len : ∀ f n : Nat, (itoaF f n).length ≤ f
 | 0, n => Nat.le_refl _
 | f + 1, n => by
  unfold itoaF
  split
  ·simp
  ·have := itoaF_len f (n / 10); simp; exact this
theorem itoaW_len (n : Int) : (itoaW n).length ≤ 21 := by
 unfold itoaW
 split
 ·have := itoaF_len 20 n.natAbs; simp only [List.length_cons]; omega
 ·have := itoaF_len 20 n.toNat; omega
def Sh (l : List Wd) : Prop := ∀ w ∈ l, w.length ≤ 21
theorem Sh.nil : Sh [] := fun w h => by cases h
theorem Sh.cons {w : Wd} {l : List Wd} (h : w.length ≤ 21) (hl : Sh l) : Sh (w :: l) := fun x hx => by
 rcases List.mem_cons.1 hx with rfl | hx
 ·exact h
 ·exact hl x hx
theorem Sh.app {a b : List Wd} (h : Sh a) (h' : Sh b) : Sh (a ++ b) := fun x hx => by
 rcases List.mem_append.1 hx with hx | hx
 ·exact h x hx
 ·exact h' x hx
theorem runW_sh (y : Nat) (p : Nat × Nat) : Sh (runW y p) := .cons (by decide) (.cons (itoaW_len _) (.cons (itoaW_len _) (.cons (itoaW_len _) .nil)))
theorem flat_sh {α : Type} (f : α → List Wd) (h : ∀ a, Sh (f a)) : ∀ l : List α, Sh (l.flatMap f)
 | [] => .nil
 | a :: l => by rw [List.flatMap_cons]; exact (h a).app (flat_sh f h l)
theorem rowsW_sh : ∀ (y : Nat) (l : List Int), Sh (rowsW y l)
 | _, [] => .nil
 | y, r :: l => (flat_sh _ (runW_sh y) _).app (rowsW_sh (y + 1) l)
theorem seeW_sh (g : Goal) : Sh (seeW g) := by
 unfold seeW
 refine .app (.cons (by decide) (rowsW_sh _ _)) (.cons (by decide) (.cons (itoaW_len _) (.cons (by decide) (.cons (itoaW_len _) (.cons (by decide) (.cons (itoaW_len _) (.cons (by decide) (.cons (itoaW_len _) (.cons ?_ .nil)))))))))
 split <;> decide
theorem headW_sh (g : Goal) : Sh (headW g) := by
 unfold headW
 split
 ·exact .cons (by decide) (.cons (by decide) (.cons (itoaW_len _) (.cons (by decide) (.cons (itoaW_len _) (.cons (by decide) .nil)))))
 ·split
  ·exact .cons (by decide) (.cons (itoaW_len _) (.cons (by decide) (.cons (itoaW_len _) (.cons (by decide) (.cons (by decide) (.cons (itoaW_len _) (.cons (by decide) (.cons (itoaW_len _) (.cons (by decide) .nil)))))))))
  ·exact .cons (by decide) (.cons (by decide) (.cons (itoaW_len _) (.cons (by decide) .nil)))
mutual
theorem goalW_sh : ∀ g : Goal, Sh (goalW g)
 | ⟨kind, rows, from_, to_, low, high, clear, days, times, within, cents, kids⟩ => by
  rw [goalW]
  split
  ·exact seeW_sh _
  ·split
   ·exact (headW_sh _).app (firstW_sh kids)
   ·refine .app (.app (.cons ?_ (.cons (by decide) .nil)) (kidsW_sh _ _ _ kids)) (.cons (by decide) .nil)
    split <;> decide
theorem firstW_sh : ∀ l : List Goal, Sh (firstW l)
 | [] => .nil
 | k :: _ => by rw [firstW]; exact goalW_sh k
theorem kidsW_sh : ∀ (any first : Bool) (cents : List Int) (l : List Goal), Sh (kidsW any first cents l)
 | _, _, _, [] => by rw [kidsW]; exact .nil
 | any, first, cents, k :: l => by
  rw [kidsW]
  refine .app (.app (.app ?_ ?_) (goalW_sh k)) (kidsW_sh any false cents.tail l)
  ·split
   ·exact .nil
   ·exact .cons (by decide) .nil
  ·split
   ·exact .cons (itoaW_len _) .nil
   ·exact .nil
end
theorem joinTail_len {l : List Wd} (h : Sh l) : (Go.Lib.joinTail [32] l).length ≤ 22 * l.length := by
 unfold Go.Lib.joinTail
 induction l with
 | nil => simp
 | cons w l ih =>
  have h1 := h w (List.mem_cons_self ..)
  have h2 := ih fun x hx => h x (List.mem_cons_of_mem _ hx)
  simp only [List.map_cons, List.flatten_cons, List.length_append, List.length_cons, List.length_nil] at *
  omega
theorem joinW_len {l : List Wd} (h : Sh l) : (joinW l).length ≤ 22 * l.length := by
 unfold joinW
 cases l with
 | nil => simp [Go.Lib.join_nil]
 | cons w l =>
  rw [Go.Lib.join_cons]
  have h1 := h w (List.mem_cons_self ..)
  have h2 := joinTail_len (l := l) fun x hx => h x (List.mem_cons_of_mem _ hx)
  simp only [List.length_append, List.length_cons]
  omega
/-! how many words -/
theorem leftJ_dvd {n : Nat} (h : n < 2 ^ 48) : ∀ j : Nat, 2 ^ j ∣ leftJ n j
 | 0 => by simp
 | j + 1 => by
  show 2 ^ (j + 1) ∣ stepR (leftJ n j)
  by_cases h0 : leftJ n j = 0
  ·rw [h0, stepR_zero]; exact Nat.dvd_zero _
  ·have hle := leftJ_le (n := n) (by omega) j
   obtain ⟨a, b, c⟩ := tzF_spec 64 (leftJ n j) h0 (by omega)
   have h1 := (runLen_le h0 (by omega)).1
   have h2 := leftJ_dvd h j
   have h3 : j ≤ tzF 64 (leftJ n j) := by
    rcases Nat.lt_or_ge (tzF 64 (leftJ n j)) j with h4 | h4
    ·exfalso
     obtain ⟨q, hq⟩ := Nat.dvd_trans (Nat.pow_dvd_pow 2 (show tzF 64 (leftJ n j) + 1 ≤ j by omega)) h2
     have h5 : leftJ n j / 2 ^ tzF 64 (leftJ n j) = 2 * q := Nat.div_eq_of_eq_mul_right (Nat.two_pow_pos _) (by rw [← Nat.mul_assoc, ← Nat.pow_succ]; exact hq)
     omega
    ·exact h4
   exact Nat.dvd_trans (Nat.pow_dvd_pow 2 (show j + 1 ≤ runLen (leftJ n j) by omega)) ⟨_, Nat.mul_comm _ _⟩
theorem runsN_le {n : Nat} (h : n < 2 ^ 48) : (runsN n).length ≤ 48 := by
 rcases Nat.lt_or_ge 48 (runsN n).length with h1 | h1
 ·exfalso
  have h2 : leftJ n 48 ≠ 0 := fun e => by have := runsN_end (n := n) (j := 48) (by omega) e; omega
  have h3 := Nat.le_of_dvd (by omega) (leftJ_dvd h 48)
  have h4 := leftJ_le (n := n) (by omega) 48
  omega
 ·exact h1
theorem flat_run_len (y : Nat) : ∀ l : List (Nat × Nat), (l.flatMap (runW y)).length = 4 * l.length
 | [] => rfl
 | p :: l => by rw [List.flatMap_cons, List.length_append, flat_run_len y l]; simp only [runW, List.length_cons, List.length_nil]; omega
theorem rowsW_len : ∀ (y : Nat) (l : List Int), l.all rowOK = true → (rowsW y l).length ≤ 192 * l.length
 | _, [], _ => by simp [rowsW]
 | y, r :: l, h => by
  rw [List.all_cons, Bool.and_eq_true] at h
  have h1 := (inB_iff _ _ _).1 h.1
  have h2 := rowsW_len (y + 1) l h.2
  have h3 := runsN_le (n := r.toNat) (by omega)
  rw [rowsW, List.length_append, show runsF r.toNat r.toNat = runsN r.toNat from rfl, flat_run_len, List.length_cons]
  omega
theorem seeW_len {g : Goal} (h : areaB g.rows = true) : (seeW g).length ≤ 4700 := by
 simp only [areaB, Bool.and_eq_true, decide_eq_true_eq] at h
 have := rowsW_len 0 g.rows h.2
 simp only [seeW, List.length_append, List.length_cons, List.length_nil]
 omega
theorem headW_len (g : Goal) : (headW g).length ≤ 10 := by
 unfold headW
 split
 ·simp
 ·split <;> simp
mutual
theorem goalW_len : ∀ (g : Goal) (d n : Int), sizeG g d = some n → ((goalW g).length : Int) ≤ 5000 * n ∧ 1 ≤ n
 | ⟨kind, rows, from_, to_, low, high, clear, days, times, within, cents, kids⟩, d, n, h => by
  obtain ⟨_, hok, m, hm, rfl⟩ := sizeG_parts h
  have hO := okG hok
  have ih := kidsW_len kids (d + 1) m hm
  have hkind := hO.kind
  rw [goalW]
  by_cases h1 : kind = 1
  ·rw [if_pos h1]
   have := seeW_len (hO.see h1).1
   omega
  ·rw [if_neg h1]
   by_cases h2 : kind = 2 ∨ kind = 3 ∨ kind = 4
   ·rw [if_pos h2, List.length_append]
    have := headW_len ⟨kind, rows, from_, to_, low, high, clear, days, times, within, cents, kids⟩
    have := ih.2.1
    omega
   ·rw [if_neg h2]
    have := ih.1 (decide (kind = 6)) true cents
    have := (hO.many (show kind = 5 ∨ kind = 6 by have : (⟨kind, rows, from_, to_, low, high, clear, days, times, within, cents, kids⟩ : Goal).kind = kind := rfl; omega)).2.1
    have : kids.length ≤ 4 := this
    simp only [List.length_append, List.length_cons, List.length_nil]
    omega
theorem kidsW_len : ∀ (l : List Goal) (d m : Int), sizeL l d = some m → (∀ (any first : Bool) (c : List Int), ((kidsW any first c l).length : Int) ≤ 5000 * m + 2 * l.length) ∧ ((firstW l).length : Int) ≤ 5000 * m ∧ 0 ≤ m
 | [], d, m, h => by
  simp [sizeL] at h
  subst h
  refine ⟨fun a f c => by rw [kidsW]; simp, by rw [firstW]; simp, by omega⟩
 | k :: l, d, m, h => by
  rw [sizeL] at h
  cases ha : sizeG k d with
  | none => rw [ha] at h; cases h
  | some x =>
   rw [ha] at h
   cases hl : sizeL l d with
   | none => rw [hl] at h; cases h
   | some y =>
    rw [hl] at h
    injection h with h
    subst h
    have h1 := goalW_len k d x ha
    have h2 := kidsW_len l d y hl
    refine ⟨fun a f c => ?_, by rw [firstW]; omega, by omega⟩
    rw [kidsW]
    have := h2.1 a false c.tail
    have e1 : (if f = true then ([] : List Wd) else [w_comma]).length ≤ 1 := by split <;> simp
    have e2 : (if a = true then [itoaW (c.headD 0)] else []).length ≤ 1 := by split <;> simp
    simp only [List.length_append, List.length_cons]
    omega
end
theorem goalW_valid {g : Goal} (h : validG g = true) : (goalW g).length ≤ 60000 := by
 unfold validG at h
 split at h
 ·cases h
 ·rename_i n hs
  have := goalW_len g 1 n hs
  simp only [decide_eq_true_eq] at h
  omega
theorem orderW_sh (o : Order) : Sh (orderW o) := by
 unfold orderW
 refine .app (.app (.cons (by decide) (.cons (itoaW_len _) (.cons (by decide) (.cons (itoaW_len _) (.cons (by decide) (.cons (itoaW_len _) (.cons (by decide) (.cons ?_ (.cons ?_ (.cons (by decide) (.cons (itoaW_len _) (.cons (by decide) (.cons (itoaW_len _) (.cons (by decide) .nil)))))))))))))) (goalW_sh _)) (.cons (by decide) .nil)
 ·split
  ·decide
  ·exact itoaW_len _
 ·split <;> decide
theorem orderW_len (o : Order) : (orderW o).length = 15 + (goalW o.goal).length := by
 unfold orderW; simp only [List.length_append, List.length_cons, List.length_nil]; omega
end Go.SX

namespace Go.SX
open Go.Proofs
set_option maxHeartbeats 4000000
set_option maxRecDepth 100000
structure OrdB (o : Order) : Prop where
 id : 0 ≤ o.id ∧ o.id ≤ 63
 owner : 0 ≤ o.owner ∧ o.owner ≤ 15
 price : 0 ≤ o.price ∧ o.price ≤ 1000000000
 group : -1 ≤ o.group ∧ o.group ≤ 15
 known : 0 ≤ o.known ∧ o.known ≤ 1000000
 due : o.known + 1 ≤ o.due ∧ o.due ≤ 1000000
 goal : validG o.goal = true
theorem ordB_iff (o : Order) : ordB o = true ↔ OrdB o := by
 simp only [ordB, Bool.and_eq_true, inB_iff]
 constructor
 ·rintro ⟨⟨⟨⟨⟨⟨h1, h2⟩, h3⟩, h4⟩, h5⟩, h6⟩, h7⟩; exact ⟨h1, h2, h3, h4, h5, h6, h7⟩
 ·rintro ⟨h1, h2, h3, h4, h5, h6, h7⟩; exact ⟨⟨⟨⟨⟨⟨h1, h2⟩, h3⟩, h4⟩, h5⟩, h6⟩, h7⟩
theorem validG_size {g : Goal} (h : validG g = true) : ∃ n, sizeG g 1 = some n := by
 unfold validG at h
 split at h
 ·cases h
 ·exact ⟨_, by assumption⟩
theorem kjoinO (n : Nat) (ws : List Wd) (hw : n = ws.length) (hn : ws.length ≤ 140737488355328) (hl : (joinW ws).length ≤ 140737488355328) : Meets Tryz.prog Dc 40 [.slice 0 0 1 0 n, wS [32]] [.rows U.str ws] (wS (joinW ws)) [.rows U.str ws] := by
 subst hw
 exact mownC (kjoin ws hn hl) ⟨⟨fzV rfl rfl rfl (by simp) (by simp) rfl, rfl, trivial⟩⟩ rfl
theorem oprint (o : Order) (hG : GAll o.goal) : Meets Tryz.prog Dc 14 [ordA o] [] (.tuple [wS (printS o).1, iS (printS o).2]) [] := by
 have hv := ovalid o hG
 cases hb : ordB o with
 | false =>
  rw [hb] at hv
  have e : printS o = ([], 130) := by unfold printS; rw [hb]; rfl
  rw [e]
  refine meets_of_gx Ax tab_ok Tryz.func14 (c := _) rfl Tryz.call14 300 ?_
  (repeat' ((conv => whnf); first | (exfalso; omega) | refine cpC (hv) ?_ | refine dpC (hv) ?_ | (refine end_fn [] (.inr rfl) ?_ ?_ rfl rfl; (focus exact vwV); exact hsV) | refine x0C ?_ | refine spC (fun hb => ?_) fun hb => ?_ | refine nilC (fun hb => ?_) ?_ | refine taC ?_ | refine saC ?_ | exact sdV | refine side_and ?_ ?_ | refine drawX_of mixed ?_))
 | true =>
  rw [hb] at hv
  obtain ⟨b1, b2, b3, b4, b5, b6, b7⟩ := (ordB_iff o).1 hb
  have e : printS o = (joinW (orderW o), 0) := by unfold printS; rw [hb]; rfl
  rw [e]
  have hgl := goalW_valid b7
  obtain ⟨n, hn⟩ := validG_size b7
  by_cases hg : o.group < 0
  ·have p0 := put0 [AnyV.s w_order, .n o.id, .s w_by, .n o.owner, .s w_for, .n o.price, .s w_group] _ _ rfl (fun x hx => by
    simp at hx; rcases hx with rfl | rfl | rfl | rfl | rfl | rfl | rfl <;> simp only [AnyOK] <;> omega) (by simp)
   have p1 := putM ([AnyV.s w_order, .n o.id, .s w_by, .n o.owner, .s w_for, .n o.price, .s w_group].length) [AnyV.s w_none] _ _ rfl (List.map anyW [AnyV.s w_order, .n o.id, .s w_by, .n o.owner, .s w_for, .n o.price, .s w_group]) (fun x hx => by simp at hx; subst hx; trivial) rfl (by simp)
   have p2 := chooseM ([AnyV.s w_order, .n o.id, .s w_by, .n o.owner, .s w_for, .n o.price, .s w_group].length + [AnyV.s w_none].length) o.urgent w_urgent w_plain (List.map anyW [AnyV.s w_order, .n o.id, .s w_by, .n o.owner, .s w_for, .n o.price, .s w_group] ++ List.map anyW [AnyV.s w_none]) rfl (by simp)
   have p3 := putM ([AnyV.s w_order, .n o.id, .s w_by, .n o.owner, .s w_for, .n o.price, .s w_group].length + [AnyV.s w_none].length + 1) [AnyV.s w_known, .n o.known, .s w_due, .n o.due, .s w_colon] _ _ rfl (List.map anyW [AnyV.s w_order, .n o.id, .s w_by, .n o.owner, .s w_for, .n o.price, .s w_group] ++ List.map anyW [AnyV.s w_none] ++ [if o.urgent then w_urgent else w_plain]) (fun x hx => by
    simp at hx; rcases hx with rfl | rfl | rfl | rfl | rfl <;> simp only [AnyOK] <;> omega) rfl (by simp)
   have p4 := wgoal 4 o.goal 1 n (by omega) hn hG ([AnyV.s w_order, .n o.id, .s w_by, .n o.owner, .s w_for, .n o.price, .s w_group].length + [AnyV.s w_none].length + 1 + [AnyV.s w_known, .n o.known, .s w_due, .n o.due, .s w_colon].length) (List.map anyW [AnyV.s w_order, .n o.id, .s w_by, .n o.owner, .s w_for, .n o.price, .s w_group] ++ List.map anyW [AnyV.s w_none] ++ [if o.urgent then w_urgent else w_plain] ++ List.map anyW [AnyV.s w_known, .n o.known, .s w_due, .n o.due, .s w_colon]) rfl (by simp; omega)
   have p5 := putM ([AnyV.s w_order, .n o.id, .s w_by, .n o.owner, .s w_for, .n o.price, .s w_group].length + [AnyV.s w_none].length + 1 + [AnyV.s w_known, .n o.known, .s w_due, .n o.due, .s w_colon].length + (goalW o.goal).length) [AnyV.s w_dot] _ _ rfl (List.map anyW [AnyV.s w_order, .n o.id, .s w_by, .n o.owner, .s w_for, .n o.price, .s w_group] ++ List.map anyW [AnyV.s w_none] ++ [if o.urgent then w_urgent else w_plain] ++ List.map anyW [AnyV.s w_known, .n o.known, .s w_due, .n o.due, .s w_colon] ++ goalW o.goal) (fun x hx => by simp at hx; subst hx; trivial) (by simp; omega) (by simp; omega)
   have hF : List.map anyW [AnyV.s w_order, .n o.id, .s w_by, .n o.owner, .s w_for, .n o.price, .s w_group] ++ List.map anyW [AnyV.s w_none] ++ [if o.urgent then w_urgent else w_plain] ++ List.map anyW [AnyV.s w_known, .n o.known, .s w_due, .n o.due, .s w_colon] ++ goalW o.goal ++ List.map anyW [AnyV.s w_dot] = orderW o := by unfold orderW; rw [if_pos hg]; simp [anyW]
   have kj := kjoinO ([AnyV.s w_order, .n o.id, .s w_by, .n o.owner, .s w_for, .n o.price, .s w_group].length + [AnyV.s w_none].length + 1 + [AnyV.s w_known, .n o.known, .s w_due, .n o.due, .s w_colon].length + (goalW o.goal).length + [AnyV.s w_dot].length) (orderW o) (by rw [← hF]; simp; omega) (by rw [orderW_len]; omega) (by have := joinW_len (orderW_sh o); rw [orderW_len] at this; omega)
   rw [← hF] at kj ⊢
   clear hF
   refine meets_of_gx Ax tab_ok Tryz.func14 (c := _) rfl Tryz.call14 400 ?_
   (repeat' ((conv => whnf); first | (exfalso; omega) | refine cpC (hv) ?_ | refine dpC (hv) ?_ | (refine callh [some 1, some 2] p0 rfl rfl ⟨rfl, rfl, trivial⟩ ?_) | (refine callh [some 1, some 3, some 4] p1 rfl rfl ⟨rfl, rfl, rfl, trivial⟩ ?_) | (refine callh [some 1, some 5] p2 rfl rfl ⟨rfl, rfl, trivial⟩ ?_) | (refine callh [some 1, some 6, some 7] p3 rfl rfl ⟨rfl, rfl, rfl, trivial⟩ ?_) | (refine callh [some 1, some 8] p4 rfl rfl ⟨rfl, rfl, trivial⟩ ?_) | (refine callh [some 1, some 9, some 10] p5 rfl rfl ⟨rfl, rfl, rfl, trivial⟩ ?_) | (refine callh [some 11] kj rfl rfl ⟨rfl, trivial⟩ ?_) | (refine end_fn [] (.inr rfl) ?_ ?_ rfl rfl; (focus exact vwV); exact hsV) | refine x0C ?_ | refine spC (fun hb => ?_) fun hb => ?_ | refine nilC (fun hb => ?_) ?_ | refine taC ?_ | refine saC ?_ | exact sdV | refine side_and ?_ ?_ | refine drawX_of mixed ?_))
  ·have p0 := put0 [AnyV.s w_order, .n o.id, .s w_by, .n o.owner, .s w_for, .n o.price, .s w_group] _ _ rfl (fun x hx => by
    simp at hx; rcases hx with rfl | rfl | rfl | rfl | rfl | rfl | rfl <;> simp only [AnyOK] <;> omega) (by simp)
   have p1 := putM ([AnyV.s w_order, .n o.id, .s w_by, .n o.owner, .s w_for, .n o.price, .s w_group].length) [AnyV.n o.group] _ _ rfl (List.map anyW [AnyV.s w_order, .n o.id, .s w_by, .n o.owner, .s w_for, .n o.price, .s w_group]) (fun x hx => by simp at hx; subst hx; simp only [AnyOK]; omega) rfl (by simp)
   have p2 := chooseM ([AnyV.s w_order, .n o.id, .s w_by, .n o.owner, .s w_for, .n o.price, .s w_group].length + [AnyV.n o.group].length) o.urgent w_urgent w_plain (List.map anyW [AnyV.s w_order, .n o.id, .s w_by, .n o.owner, .s w_for, .n o.price, .s w_group] ++ List.map anyW [AnyV.n o.group]) rfl (by simp)
   have p3 := putM ([AnyV.s w_order, .n o.id, .s w_by, .n o.owner, .s w_for, .n o.price, .s w_group].length + [AnyV.n o.group].length + 1) [AnyV.s w_known, .n o.known, .s w_due, .n o.due, .s w_colon] _ _ rfl (List.map anyW [AnyV.s w_order, .n o.id, .s w_by, .n o.owner, .s w_for, .n o.price, .s w_group] ++ List.map anyW [AnyV.n o.group] ++ [if o.urgent then w_urgent else w_plain]) (fun x hx => by
    simp at hx; rcases hx with rfl | rfl | rfl | rfl | rfl <;> simp only [AnyOK] <;> omega) rfl (by simp)
   have p4 := wgoal 4 o.goal 1 n (by omega) hn hG ([AnyV.s w_order, .n o.id, .s w_by, .n o.owner, .s w_for, .n o.price, .s w_group].length + [AnyV.n o.group].length + 1 + [AnyV.s w_known, .n o.known, .s w_due, .n o.due, .s w_colon].length) (List.map anyW [AnyV.s w_order, .n o.id, .s w_by, .n o.owner, .s w_for, .n o.price, .s w_group] ++ List.map anyW [AnyV.n o.group] ++ [if o.urgent then w_urgent else w_plain] ++ List.map anyW [AnyV.s w_known, .n o.known, .s w_due, .n o.due, .s w_colon]) rfl (by simp; omega)
   have p5 := putM ([AnyV.s w_order, .n o.id, .s w_by, .n o.owner, .s w_for, .n o.price, .s w_group].length + [AnyV.n o.group].length + 1 + [AnyV.s w_known, .n o.known, .s w_due, .n o.due, .s w_colon].length + (goalW o.goal).length) [AnyV.s w_dot] _ _ rfl (List.map anyW [AnyV.s w_order, .n o.id, .s w_by, .n o.owner, .s w_for, .n o.price, .s w_group] ++ List.map anyW [AnyV.n o.group] ++ [if o.urgent then w_urgent else w_plain] ++ List.map anyW [AnyV.s w_known, .n o.known, .s w_due, .n o.due, .s w_colon] ++ goalW o.goal) (fun x hx => by simp at hx; subst hx; trivial) (by simp; omega) (by simp; omega)
   have hF : List.map anyW [AnyV.s w_order, .n o.id, .s w_by, .n o.owner, .s w_for, .n o.price, .s w_group] ++ List.map anyW [AnyV.n o.group] ++ [if o.urgent then w_urgent else w_plain] ++ List.map anyW [AnyV.s w_known, .n o.known, .s w_due, .n o.due, .s w_colon] ++ goalW o.goal ++ List.map anyW [AnyV.s w_dot] = orderW o := by unfold orderW; rw [if_neg hg]; simp [anyW]
   have kj := kjoinO ([AnyV.s w_order, .n o.id, .s w_by, .n o.owner, .s w_for, .n o.price, .s w_group].length + [AnyV.n o.group].length + 1 + [AnyV.s w_known, .n o.known, .s w_due, .n o.due, .s w_colon].length + (goalW o.goal).length + [AnyV.s w_dot].length) (orderW o) (by rw [← hF]; simp; omega) (by rw [orderW_len]; omega) (by have := joinW_len (orderW_sh o); rw [orderW_len] at this; omega)
   rw [← hF] at kj ⊢
   clear hF
   refine meets_of_gx Ax tab_ok Tryz.func14 (c := _) rfl Tryz.call14 400 ?_
   (repeat' ((conv => whnf); first | (exfalso; omega) | refine cpC (hv) ?_ | refine dpC (hv) ?_ | (refine callh [some 1, some 2] p0 rfl rfl ⟨rfl, rfl, trivial⟩ ?_) | (refine callh [some 1, some 3, some 4] p1 rfl rfl ⟨rfl, rfl, rfl, trivial⟩ ?_) | (refine callh [some 1, some 5] p2 rfl rfl ⟨rfl, rfl, trivial⟩ ?_) | (refine callh [some 1, some 6, some 7] p3 rfl rfl ⟨rfl, rfl, rfl, trivial⟩ ?_) | (refine callh [some 1, some 8] p4 rfl rfl ⟨rfl, rfl, trivial⟩ ?_) | (refine callh [some 1, some 9, some 10] p5 rfl rfl ⟨rfl, rfl, rfl, trivial⟩ ?_) | (refine callh [some 11] kj rfl rfl ⟨rfl, trivial⟩ ?_) | (refine end_fn [] (.inr rfl) ?_ ?_ rfl rfl; (focus exact vwV); exact hsV) | refine x0C ?_ | refine spC (fun hb => ?_) fun hb => ?_ | refine nilC (fun hb => ?_) ?_ | refine taC ?_ | refine saC ?_ | exact sdV | refine side_and ?_ ?_ | refine drawX_of mixed ?_))
end Go.SX

/-
 Plain: texts parted at blanks.
-/
namespace Go.SX
theorem splitW_ne : ∀ s : Wd, splitW s ≠ []
 | [] => by simp [splitW]
 | c :: s => by
  unfold splitW
  split
  ·simp
  ·split <;> simp
theorem splitW_count : ∀ s : Wd, (splitW s).length = s.count 32 + 1
 | [] => rfl
 | c :: s => by
  have ih := splitW_count s
  unfold splitW
  by_cases h : c = 32
  ·rw [if_pos h, h, List.count_cons_self, List.length_cons, ih]
  ·rw [if_neg h, List.count_cons_of_ne (fun e => h e)]
   cases hs : splitW s with
   | nil => exact absurd hs (splitW_ne s)
   | cons t l => rw [hs] at ih; simpa using ih
theorem splitW_none : ∀ s : Wd, s.count 32 = 0 → splitW s = [s]
 | [], _ => rfl
 | c :: s, h => by
  have hc : c ≠ 32 := fun e => by rw [e, List.count_cons_self] at h; omega
  rw [List.count_cons_of_ne (fun e => hc e)] at h
  unfold splitW
  rw [if_neg hc, splitW_none s h]
/-- where the first blank stands -/
theorem splitW_some : ∀ s : Wd, 0 < s.count 32 → ∃ m : Nat, Go.Lib.indexByte s 32 = m ∧ m < s.length ∧ splitW s = s.take m :: splitW (s.drop (m + 1))
 | [], h => by simp at h
 | c :: s, h => by
  by_cases hc : c = 32
  ·subst hc
   exact ⟨0, rfl, by simp, by rw [splitW, if_pos rfl]; rfl⟩
  ·rw [List.count_cons_of_ne (fun e => hc e)] at h
   obtain ⟨m, h1, h2, h3⟩ := splitW_some s h
   refine ⟨m + 1, ?_, by simp; omega, ?_⟩
   ·unfold Go.Lib.indexByte
    rw [if_neg (by simpa using hc), h1, if_neg (by simp)]
    rfl
   ·rw [splitW, if_neg hc, h3]
    simp
theorem splitW_len (s : Wd) : (splitW s).length ≤ s.length + 1 := by
 rw [splitW_count]
 have := List.count_le_length (a := (32 : UInt8)) (l := s)
 omega
end Go.SX

namespace Go.SX
open Go.Proofs
set_option maxHeartbeats 4000000
set_option maxRecDepth 100000
/-- what is filled in -/
def fillW' (N : Nat) (pre : List Wd) : List Wd := pre ++ List.replicate (N - pre.length) []
theorem ksplit (s : Wd) (hs : s.length ≤ 1000000) : Meets Tryz.prog Dc 83 [wS s, wS [32], iS 0, iS (-1)] [] (wsS (splitW s)) [] := by
 have hc := kcount s 32
 rw [show (Go.Lib.countByte s 32 : Nat) = (splitW s).length - 1 by rw [splitW_count]; rfl] at hc
 have hN := splitW_len s
 have hp : 0 < (splitW s).length := by rw [splitW_count]; omega
 have h0 : List.replicate (min (((splitW s).length - 1 : Nat) + 1 : Int) ((s.length : Int) + 1)).toNat (Cd.dflt U.str) = fillW' (splitW s).length [] := by
  unfold fillW'
  rw [show (min (((splitW s).length - 1 : Nat) + 1 : Int) ((s.length : Int) + 1)).toNat = (splitW s).length by omega]
  simp
  exact .inr rfl
 refine meets_of_gx Ax tab_ok Tryz.func83 (c := _) rfl Tryz.call83 400 ?_
 (repeat' ((conv => whnf); first | (exfalso; omega) | refine cpC (hc) ?_ | refine dpC (hc) ?_ | refine x0C ?_ | refine spC (fun hb => ?_) fun hb => ?_ | refine nilC (fun hb => ?_) ?_ | refine taC ?_ | refine saC ?_ | exact sdV | refine side_and ?_ ?_ | refine drawX_of mixed ?_))
 refine loop_up (fun p : List Wd × Wd => [(0, wS p.2), (3, iS (((splitW s).length : Int) - 1)), (9, .slice 0 0 1 0 (splitW s).length), (10, iS p.1.length)]) (fun p => [(0, .rows U.str (fillW' (splitW s).length p.1))]) (fun p => splitW s = p.1 ++ splitW p.2 ∧ p.2.length ≤ s.length) (fun p => p.2.length) ([], s) ⟨rfl, Nat.le_refl _⟩ (by exact bkW) ?_
 rintro ⟨pre, t⟩ ⟨hsp, htl⟩ K hK
 dsimp only at hsp htl ⊢
 have hlen := congrArg List.length hsp
 rw [List.length_append] at hlen
 have htc := splitW_count t
 have hfl : (fillW' (splitW s).length pre).length = (splitW s).length := by unfold fillW'; simp; omega
 have hsd : ∀ i : Nat, i = pre.length → i < (splitW s).length → Side (0 + ((i : Int)).toNat < (fillW' (splitW s).length pre).length ∧ 0 + 1 = Cd.n U.str) := fun i e1 e2 => ⟨⟨by omega, rfl⟩⟩
 rcases Nat.eq_zero_or_pos (t.count 32) with hz | hz
 ·have ht := splitW_none t hz
  have hV : splitW s = (((fillW' (splitW s).length pre).set (0 + (pre.length : Int).toNat) t).drop (0 + Int.toNat 0)).take (((pre.length : Int) + 1).toNat - Int.toNat 0) := by
   rw [ht] at hsp
   have hl : (splitW s).length = pre.length + 1 := by rw [hsp]; simp
   have e1 : 0 + (pre.length : Int).toNat = pre.length := by omega
   have e2 : ((pre.length : Int) + 1).toNat - Int.toNat 0 = pre.length + 1 := by omega
   rw [e1, e2, hl]
   unfold fillW'
   rw [List.set_append_right _ _ (Nat.le_refl _), show pre.length + 1 - pre.length = 1 by omega, Nat.sub_self, hsp]
   simp [List.take_of_length_le]
  (repeat' ((conv => whnf); first | (exfalso; omega) | (refine hsd _ rfl (by omega)) | (refine end_fn [] (.inr rfl) ?_ ?_ rfl rfl) | refine x0C ?_ | refine spC (fun hb => ?_) fun hb => ?_ | refine nilC (fun hb => ?_) ?_ | refine taC ?_ | refine saC ?_ | exact sdV | refine side_and ?_ ?_ | refine drawX_of mixed ?_))
  ·refine ⟨?_⟩
   (conv => whnf)
   exact fzV rfl rfl rfl (by rw [List.length_set, hfl]; omega) hV rfl
  ·exact trivial
 ·obtain ⟨m, hm1, hm2, hm3⟩ := splitW_some t hz
  have hi := kindex t 32
  rw [hm1] at hi
  have hsm : Side (InR .i64 ((m : Int) + (([32] : Wd).length : Nat))) := ⟨inR_i64 (by simp; omega) (by simp; omega)⟩
  have htm : List.drop (Int.toNat 0) (List.take ((m : Int) + 0).toNat t) = t.take m := by rw [show ((m : Int) + 0).toNat = m by omega]; rfl
  have ht1 : List.drop ((m : Int) + (([32] : Wd).length : Nat)).toNat (List.take (t.length : Int).toNat t) = t.drop (m + 1) := by
   rw [show ((m : Int) + (([32] : Wd).length : Nat)).toNat = m + 1 by simp, Int.toNat_natCast, List.take_length]
  have hV : (fillW' (splitW s).length pre).set (0 + (pre.length : Int).toNat) (List.drop (Int.toNat 0) (List.take ((m : Int) + 0).toNat t)) = fillW' (splitW s).length (pre ++ [List.drop (Int.toNat 0) (List.take ((m : Int) + 0).toNat t)]) := by
   have e1 : 0 + (pre.length : Int).toNat = pre.length := by omega
   rw [e1]
   unfold fillW'
   obtain ⟨q, hq⟩ : ∃ q, (splitW s).length - pre.length = q + 1 := ⟨(splitW s).length - pre.length - 1, by omega⟩
   rw [List.set_append_right _ _ (Nat.le_refl _), Nat.sub_self, hq, List.length_append, show (splitW s).length - (pre.length + [List.drop (Int.toNat 0) (List.take ((m : Int) + 0).toNat t)].length) = q by simp; omega, List.replicate_succ]
   simp
  have hpl : (((pre ++ [List.drop (Int.toNat 0) (List.take ((m : Int) + 0).toNat t)]).length : Nat) : Int) = (pre.length : Int) + 1 := by simp
  (repeat' ((conv => whnf); first | (exfalso; omega) | refine cpC (hi) ?_ | refine dpC (hi) ?_ | (refine hsd _ rfl (by omega)) | (refine hsm) | refine hK (pre ++ [List.drop (Int.toNat 0) (List.take ((m : Int) + 0).toNat t)], List.drop ((m : Int) + (([32] : Wd).length : Nat)).toNat (List.take (t.length : Int).toNat t)) [some 0] _ _ ⟨⟨by (rw [htm, ht1, hsp, hm3]; simp), by (show (List.drop _ _).length ≤ _; rw [ht1, List.length_drop]; omega)⟩⟩ ⟨by (show (List.drop _ _).length < t.length; rw [ht1, List.length_drop]; omega)⟩ (by dsimp only; exact bkW) | refine x0C ?_ | refine spC (fun hb => ?_) fun hb => ?_ | refine nilC (fun hb => ?_) ?_ | refine taC ?_ | refine saC ?_ | exact sdV | refine side_and ?_ ?_ | refine drawX_of mixed ?_))
theorem osplit (s : Wd) (hs : s.length ≤ 1000000) : Meets Tryz.prog Dc 57 [wS s, wS [32]] [] (wsS (splitW s)) [] := by
 have h := ksplit s hs
 refine meets_of_gx Ax tab_ok Tryz.func57 (c := _) rfl Tryz.call57 100 ?_
 (repeat' ((conv => whnf); first | (exfalso; omega) | refine cpC (h) ?_ | refine dpC (h) ?_ | (refine end_fn [] (.inr rfl) ?_ ?_ rfl rfl; (focus exact vwV); exact hsV) | refine x0C ?_ | refine spC (fun hb => ?_) fun hb => ?_ | refine nilC (fun hb => ?_) ?_ | refine taC ?_ | refine saC ?_ | exact sdV | refine side_and ?_ ?_ | refine drawX_of mixed ?_))
theorem otokens (s : Wd) (hs : s.length ≤ 1000000) : Meets Tryz.prog Dc 28 [wS s] [] (wsS (tokensW s)) [] := by
 have h := osplit s hs
 unfold tokensW
 by_cases h0 : s = []
 ·rw [if_pos h0]
  refine meets_of_gx Ax tab_ok Tryz.func28 (c := _) rfl Tryz.call28 100 ?_
  (repeat' ((conv => whnf); first | (exfalso; omega) | refine cpC (h) ?_ | refine dpC (h) ?_ | (refine end_fn [] (.inr rfl) ?_ ?_ rfl rfl; (focus exact vwV); exact hsV) | refine x0C ?_ | refine spC (fun hb => ?_) fun hb => ?_ | refine nilC (fun hb => ?_) ?_ | refine taC ?_ | refine saC ?_ | exact sdV | refine side_and ?_ ?_ | refine drawX_of mixed ?_))
  all_goals exact absurd h0 (by assumption)
 ·rw [if_neg h0]
  refine meets_of_gx Ax tab_ok Tryz.func28 (c := _) rfl Tryz.call28 100 ?_
  (repeat' ((conv => whnf); first | (exfalso; omega) | refine cpC (h) ?_ | refine dpC (h) ?_ | (refine end_fn [] (.inr rfl) ?_ ?_ rfl rfl; (focus exact vwV); exact hsV) | refine x0C ?_ | refine spC (fun hb => ?_) fun hb => ?_ | refine nilC (fun hb => ?_) ?_ | refine taC ?_ | refine saC ?_ | exact sdV | refine side_and ?_ ?_ | refine drawX_of mixed ?_))
  all_goals exact absurd (by assumption) h0
end Go.SX

/-
 SX, part Dx: a region that draws its order, in which a call ends with a panic, strictly.
-/
namespace Go.SX
open Go.RowKit
variable {C : Cod}
/-- a call that dies, in a region that draws its order -/
structure DDieX (P : Program) (D : Codec C) (f : FuncId) (args : List (SV C)) (Hp : List (HS C)) (K : List PanicEntry → List (HS C) → Prop) (Y : Prop) : Prop where
 h : ∃ ch Hp', DieN P D f args Hp ch Hp' ∧ K ch Hp' ∧ Y
def noGuard (g : Option (Nat × Bool)) (X : Prop) : Prop := match g with
 | none => X
 | some _ => False
def poisK (x : Option Nat) (K : Nat → Prop) (Y : Prop) : Prop := match x with
 | some t => K t
 | none => Y
def postGoX (P : Program) {D : Codec C} (A : Aux C D) (tab : Tab C) (K : DK C) (big : Nat) : List Oper → DK C
 | [] => K
 | ⟨dst, op, _, _, _, guard⟩ :: rest => fun tr T Hp => poisK (poisT T (tmpsOf (opnds op))) (fun t => setOK T dst pois fun T' => postGoX P A tab K big rest (⟨dst, [t], [], []⟩ :: tr) T' Hp)
   (noGuard guard (drawOpX P A tab big (postGoX P A tab K big rest) dst op [] tr T Hp))
def dieEndX (all : List Oper) (dd : Nat) : DK C := fun tr T _ => TraceOK all tr ∧ condX (noW tr && isPois (getT T dd)) True False
def dieOutX (P : Program) (D : Codec C) (K : List PanicEntry → List (HS C) → Prop) (Y : Prop) (Hp : List (HS C)) : Out C → Prop
 | .call f args => forceV args fun args => DDieX P D f args Hp K Y
 | _ => False
def dieOpX (P : Program) {D : Codec C} (A : Aux C D) (tab : Tab C) (R : Kont C) (all : List Oper) (k : List (It C)) (big : Nat) : List Oper → DK C
 | ⟨some dd, op, _, _, _, none⟩ :: post => fun tr T Hp => forceV (valsOf T (opnds op)) fun vals => hlenK Hp 0 fun m =>
  dieOutX P D (fun ch Hp' => R (.die ch :: k) (anys T.length) Hp') (forceL (tmpsOf (opnds op)) fun fs => setTK T dd pois fun T' => postGoX P A tab (dieEndX all dd) big post (⟨some dd, fs, [], []⟩ :: tr) T' Hp) Hp (exec A tab op vals (hsOf Hp vals) m)
 | _ => fun _ _ _ => False
section
variable {P : Program} {D : Codec C} {A : Aux C D} {tab : Tab C} {R : Kont C} {k : List (It C)} {T : List (SV C)} {Hp : List (HS C)}
theorem postGoX_imp {big : Nat} {K K' : DK C} (hK : ∀ tr T Hp, K' tr T Hp → K tr T Hp) : ∀ (rest : List Oper) (tr : List Ent) (T : List (SV C)) (Hp : List (HS C)),
  postGoX P A tab K' big rest tr T Hp → postGo P A tab K big rest tr T Hp
 | [], tr, T, Hp, h => hK _ _ _ h
 | ⟨dst, op, ty, pos, after, guard⟩ :: rest, tr, T, Hp, h => by
  have ih := postGoX_imp (big := big) hK rest
  simp only [postGoX] at h
  simp only [postGo]
  cases hp : poisT T (tmpsOf (opnds op)) with
  | some t =>
   rw [hp] at h
   simp only [poisK, setOK_eq] at h
   exact ih _ _ _ h
  | none =>
   rw [hp] at h
   simp only [poisK] at h
   cases guard with
   | some g => exact h.elim
   | none => exact ⟨rfl, drawOpX_imp ih h⟩
theorem dieEndX_imp {all : List Oper} {dd : Nat} (tr : List Ent) (T : List (SV C)) (Hp : List (HS C)) (h : dieEndX all dd tr T Hp) : dieEnd all dd tr T Hp := by
 obtain ⟨h1, h2⟩ := h
 unfold condX at h2
 split at h2
 ·rename_i hb
  rw [Bool.and_eq_true] at hb
  exact ⟨h1.h, hb.1, hb.2⟩
 ·exact h2.elim
theorem dieOpX_imp {all : List Oper} {big : Nat} {tr : List Ent} : ∀ (l : List Oper), dieOpX P A tab R all k big l tr T Hp → dieOp P A tab R all k big l tr T Hp
 | [], h => h.elim
 | ⟨none, _, _, _, _, _⟩ :: _, h => h.elim
 | ⟨some _, _, _, _, _, some _⟩ :: _, h => h.elim
 | ⟨some dd, op, ty, pos, after, none⟩ :: post, h => by
  simp only [dieOpX] at h
  rw [forceV_eq, hlenK_eq, Nat.add_zero] at h
  unfold dieOutX at h
  split at h
  ·rename_i f args hex
   rw [forceV_eq] at h
   obtain ⟨ch, Hp', h1, h2, h3⟩ := h.h
   rw [forceL_eq, setTK_eq] at h3
   exact ⟨f, args, ch, Hp', hex, h1, h2, postGoX_imp dieEndX_imp post _ _ _ h3⟩
  ·exact h.elim
theorem drawX_die {m0 : Nat} {ops : List Oper} (i : Nat) (hmix : P.follows .mixedOrders = true) (h : hlenK Hp 1000 fun big => postGoX P A tab (dieOpX P A tab R ops k big (ops.drop i)) big (ops.take i) [] T Hp) : DrawX P A tab m0 R ops k T Hp := by
 rw [hlenK_eq] at h
 exact ⟨⟨_, _, fun _ _ _ _ _ h => h, .inr ⟨hmix, i, postGoX_imp (fun tr T Hp hk => dieOpX_imp _ hk) _ [] T Hp h⟩⟩⟩
/-- a call that dies in a region that draws its order, of a contract about some chunks -/
theorem ddieh {f : FuncId} {args : List (SV C)} {ch : List PanicEntry} {args0 : List (SV C)} {H0 H0' H1 : List (HS C)} {K : List PanicEntry → List (HS C) → Prop} {Y : Prop} (ρ : List (Option Nat)) (hM : Dies P D f args0 H0 ch H1) (hargs : renL ρ args0 = some args) (hH0 : renHs ρ H0 = some H0') (hat : heapAt (getC Hp) ρ H0')
  (h : callK Hp ρ H0.length H1 (.tuple []) fun _ _ ws => setCsK Hp ws fun Hp' => K ch Hp') (hy : Y) : DDieX P D f args Hp K Y := by
 unfold callK at h
 rw [hlenK_eq, Nat.add_zero, forceIds_eq] at h
 unfold condT at h
 split at h
 ·rename_i hc
  simp only [Bool.and_eq_true] at hc
  unfold someK at h
  split at h
  ·rename_i H1' hH1
   split at h
   ·dsimp only at h
    rw [setCsK_eq] at h
    refine ⟨ch, _, ⟨hM.enter, fun B σ df a w E hR vs hd => ?_⟩, h, hy⟩
    refine (call_core (Ω := fun e _ _ => e = .panicked ch) (fun w E hm vs hs hd => (hM.calls w E hm vs hs hd).mono fun e w' ⟨E', h1, h2, h3⟩ => ⟨E', h1, h2, h3⟩) ρ hargs hH0 hat _ rfl (fun k _ => getC_ge Hp _ (by rw [← hlen_eq]; omega)) hc.1 (Nat.le_of_ble_eq_true hc.2) hH1 B σ df a w E hR vs hd).mono ?_
    rintro e w' ⟨e1, E1, h1, _, _, h2⟩
    exact ⟨E1, h1, by rw [getC_setCs]; exact h2⟩
   ·exact h.elim
  ·exact h.elim
 ·exact h.elim
end
end Go.SX

/-
 SX, part Rd: contracts of a reader's functions: they hand something back, or end with a panic.
-/
namespace Go.SX
open Go.RowKit
variable {C : Cod}
section
variable {P : Program} {D : Codec C} {tab : Tab C} {B : Base} {E : Env} {σ : Nat → SV C} {H : Nat → HS C} {df : List Deferred} {a : Act} {w : World} {o : Oper} {r : Option Nat}
theorem meets_of_gxP (A : Aux C D) (hT : TabOK P D tab) {f : FuncId} {fn : Func} {c : Code} (hf : P.funcs[f]? = some fn) (hb : fn.body = some c) (henter : ∀ args w, (callFunc f args).run P w = .ok (.enter f args) w)
  {args : List (SV C)} {H0 : List (HS C)} {ret : SV C} {H1 : List (HS C)} {Φ : Post C} (hΦ : ∀ e T Hp, Φ e T Hp → EndPost D tab fn.results.toList H0.length ret H1 e T Hp) (n : Nat)
  (h : forceV (args ++ anys (fn.ntmps - args.length)) fun T0 => forceL H0 fun Hp0 => gx P A tab ⟨none, [], H0.length, false⟩ Φ n [.code c] T0 Hp0) : Meets P D f args H0 ret H1 := by
 rw [forceV_eq, forceL_eq] at h
 refine ⟨henter, fun w E hm vs hs hd => ?_⟩
 refine callsIn_of_wp_marks hf hb trivial ?_ rfl
 have hR := enter_rel (n := fn.ntmps) (m := H0.length) (hm := hm) hs hd
 have hX : CtxOK D (⟨none, [], H0.length, false⟩ : Ctx C) (Base.here w E H0.length hm) none := ⟨rfl, fun c ri hc => by simp [lkR] at hc, trivial, rfl⟩
 have := gx_sound (r := none) (Q := bodyPostM (Fc none) 0 P fn fun e w' => ∃ v E', e = .returned v ∧ Den D w' E' ret v ∧ Sat D w' E' (getC H1) ∧ Fr (Base.here w E H0.length hm) E' w') A hT hX
  (fun e a w' T Hp hΦ' hRL => ?_) n _ _ _ h _ _ hR
 ·exact this
 ·obtain ⟨he, θ, l, h1, h2, h3⟩ := hΦ _ _ _ hΦ'
  obtain ⟨df, E1, hR1, _⟩ := hRL
  have key : LeavesInM (Fc none) 0 P fn a.tmps (fun e w' => ∃ v E', e = .returned v ∧ Den D w' E' ret v ∧ Sat D w' E' (getC H1) ∧ Fr (Base.here w E H0.length hm) E' w') a.defers .returning w' := by
   refine leaves_rel hR1 fun w2 E2 hR2 => ?_
   obtain ⟨v, h4, h5⟩ := results_run (P := P) (fn := fn) hT hR2 h1
   obtain ⟨g1, g2, g3⟩ := view_env hR2.sat hR2.fr h3
   exact ⟨v, h4, v, _, rfl, view_den hR2.sat g1 _ _ _ h2 h5, g2, g3⟩
  rcases he with rfl | rfl
  ·exact key
  ·exact key
theorem dies_of_gxP (A : Aux C D) (hT : TabOK P D tab) {f : FuncId} {fn : Func} {c : Code} (hf : P.funcs[f]? = some fn) (hb : fn.body = some c) (henter : ∀ args w, (callFunc f args).run P w = .ok (.enter f args) w)
  {args : List (SV C)} {H0 : List (HS C)} {H1 : List (HS C)} {ch : List PanicEntry} {Φ : Post C} (hΦ : ∀ e T Hp, Φ e T Hp → DiePost ch H0.length H1 e T Hp) (n : Nat)
  (h : forceV (args ++ anys (fn.ntmps - args.length)) fun T0 => forceL H0 fun Hp0 => gx P A tab ⟨none, [], H0.length, false⟩ Φ n [.code c] T0 Hp0) : Dies P D f args H0 ch H1 := by
 rw [forceV_eq, forceL_eq] at h
 refine ⟨henter, fun w E hm vs hs hd => ?_⟩
 refine callsIn_of_wp_marks hf hb trivial ?_ rfl
 have hR := enter_rel (n := fn.ntmps) (m := H0.length) (hm := hm) hs hd
 have hX : CtxOK D (⟨none, [], H0.length, false⟩ : Ctx C) (Base.here w E H0.length hm) none := ⟨rfl, fun c ri hc => by simp [lkR] at hc, trivial, rfl⟩
 have := gx_sound (r := none) (Q := bodyPostM (Fc none) 0 P fn fun e w' => ∃ E', e = .panicked ch ∧ Sat D w' E' (getC H1) ∧ Fr (Base.here w E H0.length hm) E' w') A hT hX
  (fun e a w' T Hp hΦ' hRL => ?_) n _ _ _ h _ _ hR
 ·exact this
 ·obtain ⟨rfl, θ, h3⟩ := hΦ _ _ _ hΦ'
  obtain ⟨df, E1, hR1, _⟩ := hRL
  refine leaves_relP hR1 fun w2 E2 hR2 => ?_
  obtain ⟨g1, g2, g3⟩ := view_env hR2.sat hR2.fr h3
  exact ⟨_, rfl, g2, g3⟩
end
end Go.SX
