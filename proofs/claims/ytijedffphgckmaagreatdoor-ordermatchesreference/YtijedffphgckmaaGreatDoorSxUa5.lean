/-
  Walks: Ua5, Oq3, Ua6, Oq4, Ua7, Oq5, Ua8, Dx, Rd: what single functions of the program compute.
-/
import Derived.Test.YtijedffphgckmaaGreatDoorSxUa1
import Derived.Lib.Bytealg
set_option linter.unusedVariables false
set_option linter.unusedSimpArgs false
namespace Go.SX
open Go.Proofs
set_option maxHeartbeats 400000000
set_option maxRecDepth 100000
def q2t (ws : List Wd) (rows : List Int) (i : Nat) : List Wd := ws ++ [q3e] ++ q44 0 (rows.take i)
theorem yf6 (g : q06) (hk : g.kind = 1) (hG : y5x g) (hr : q29 g.rows = true) (ws : List Wd) (hn : ws.length + (qw5 g).length ≤ 100000)
  (hbd : ∀ n ∈ [g.from_, g.to_, g.low, g.high], -9223372036854775808 ≤ n ∧ n ≤ 9223372036854775807) :
  q07 Tryz.prog Dc 39 [.ptr 0 0, q0m g] (y8o ws) (.tuple []) (z0m (ws.length + (qw5 g).length) (ws ++ qw5 g)) := by
 have hl := qa6 hr
 have p1 := y5z [.s q3e] (.s q3e) [] rfl ws (fun a ha => by simp at ha; subst ha; trivial) (by simp; omega)
 refine q00 Ax q03 Tryz.func39 (c := _) rfl Tryz.call39 600 ?_
 (repeat' ((conv => whnf); first | (exfalso; omega) | (refine q01 [some 0, some 1, some 4] p1 rfl rfl ⟨rfl, rfl, rfl, trivial⟩ ?_) | refine spC (fun hb => ?_) fun hb => ?_ | refine saC ?_))
 have w0 : ws ++ List.map q2q [q1o.s q3e] = q2t ws g.rows 0 := by simp [q2t, q2q, q44]
 have w0l : (q2t ws g.rows 0).length = ws.length + 1 := by rw [← w0]; simp
 refine q0u (fun i : Nat => [(65, iS i)]) (fun i => [(0, .vart none [.slice 5 0 1 0 (q2t ws g.rows i).length]), (5, .rows U.str (q2t ws g.rows i))]) (fun i => i ≤ 24) (fun i => 24 - i) 0 (Nat.zero_le _) (by exact bkW) ?_
 intro i hi K hK
 rcases Nat.lt_or_ge i 24 with hlt | hge
 ·have hg := getD_some (d := Cd.dflt U.int) (show i < g.rows.length by omega)
  have hrow : qp9 (g.rows.getD (i : Int).toNat (Cd.dflt U.int)) = true := by
   simp only [q29, Bool.and_eq_true] at hr
   exact List.all_eq_true.1 hr.2 _ (List.mem_of_getElem? hg)
  have h3 := (q0f _ _ _).1 hrow
  obtain ⟨r, hrr⟩ : ∃ r : Nat, g.rows.getD (i : Int).toNat (Cd.dflt U.int) = (r : Int) := ⟨(g.rows.getD (i : Int).toNat (Cd.dflt U.int)).toNat, by omega⟩
  rw [hrr] at h3
  have hr48 : r < 2 ^ 48 := by omega
  have hwr : IntKind.u64.wrap (g.rows.getD (i : Int).toNat (Cd.dflt U.int)) = ((q1r r 0 : Nat) : Int) := by rw [hrr, z1c (by omega)]; rfl
  (repeat' ((conv => whnf); first | (exfalso; omega) | (refine zm2 Ax q03 Tryz.func62 (c := _) rfl Tryz.call62 60 ?_) | (refine zb3 Ax q03 rfl Tryz.func87 (c := _) rfl Tryz.call87 rfl rfl 300 ?_) | refine spC (fun hb => ?_) fun hb => ?_ | refine saC ?_))
  intro gn tmps bd
  (repeat' ((conv => whnf); first | fail))
  refine q0u (fun j : Nat => [(3, .p (.int .u64 (q1r r j : Nat)))]) (fun j => match j with
   | 0 => []
   | j + 1 => [(0, .vart none [.slice 9 0 1 0 (q2t ws g.rows i ++ ((q32 r).take (j + 1)).flatMap (qj8 i)).length]), (5, .dead), (9, .rows U.str (q2t ws g.rows i ++ ((q32 r).take (j + 1)).flatMap (qj8 i)))]) (fun j => j ≤ (q32 r).length) (fun j => q1r r j) 0 (Nat.zero_le _) (by (rw [hwr]; exact bkW)) ?_
  intro j hj K' hK'
  have hnext : q2t ws g.rows (i + 1) = q2t ws g.rows i ++ (q32 r).flatMap (qj8 i) := by
   unfold q2t
   rw [q2g (d := Cd.dflt U.int) (show i < g.rows.length by omega), show g.rows.getD i (Cd.dflt U.int) = (r : Int) from hrr, qk5, List.length_take, Nat.zero_add, Nat.min_eq_left (by omega), Int.toNat_natCast]
   simp [List.append_assoc]
  have hsz : (q2t ws g.rows i).length + ((q32 r).flatMap (qj8 i)).length ≤ 100000 := by
   have h1 := qc4 g.rows (i + 1)
   have h2 : (q2t ws g.rows (i + 1)).length = (q2t ws g.rows i).length + ((q32 r).flatMap (qj8 i)).length := by rw [hnext]; simp
   rw [← h2]
   unfold q2t qw5 at *
   simp only [List.length_append, List.length_cons, List.length_nil] at *
   omega
  by_cases h0 : q1r r j = 0
  ·have he := z5y (by omega) h0
   have hall : (q32 r).take j = q32 r := List.take_of_length_le he
   cases j with
   | zero =>
    have hnil : q2t ws g.rows i = q2t ws g.rows (i + 1) := by
     rw [hnext, List.eq_nil_of_length_eq_zero (by omega : (q32 r).length = 0)]; simp
    have hz : ((q1r r 0 : Nat) : Int) = 0 := by rw [h0]; rfl
    rw [hnil] at *
    (repeat' ((conv => whnf); first | (exfalso; omega) | refine hK (i + 1) [some 0, some 1, some 2, some 3, some 4, some 5] _ _ ⟨by omega⟩ ⟨by omega⟩ (by exact bkW) | refine spC (fun hb => ?_) fun hb => ?_ | refine saC ?_))
   | succ j =>
    have hV : q2t ws g.rows i ++ ((q32 r).take (j + 1)).flatMap (qj8 i) = q2t ws g.rows (i + 1) := by rw [hall, ← hnext]
    have hVl := congrArg List.length hV
    have hz : ((q1r r (j + 1) : Nat) : Int) = 0 := by rw [h0]; rfl
    (repeat' ((conv => whnf); first | (exfalso; omega) | refine hK (i + 1) [some 0, some 1, some 2, some 3, some 4, some 9] _ _ ⟨by omega⟩ ⟨by omega⟩ (by exact bkW) | refine spC (fun hb => ?_) fun hb => ?_ | refine saC ?_))
  ·have hjle := q9z (n := r) (by omega) j
   have hk1 := ktz (q1r r j) h0 (by omega)
   have hk2 := yf5 (q1r r j) h0 (by omega)
   have hst := zo3 (n := q1r r j) h0 (by omega)
   obtain ⟨hl1, hl2⟩ := qg2 (n := q1r r j) h0 (by omega)
   have hdec := qh6 (n := q1r r j) h0 (by omega)
   have hlenj := zr6 (n := r) (j := j) (by omega) h0
   have htk := zh5 (n := r) (j := j) (by omega) h0
   have hst' : q1l .andNot .u64 ((q1r r j : Nat) : Int) (q4p .u64 (IntKind.u64.wrap (q4p .u64 1 ((q1e (q1r r j) - tzF 64 (q1r r j) : Nat) : Int) - 1)) ((tzF 64 (q1r r j) : Nat) : Int)) = ((q1r r (j + 1) : Nat) : Int) := hst
   have hne : ¬ ((q1r r j : Nat) : Int) = 0 := by omega
   have hdec2 : q1r r (j + 1) < q1r r j := hdec
   generalize hM : (q1e (q1r r j) - tzF 64 (q1r r j) : Nat) = M at *
   have hW : List.map q2q [.s q7o, .n (i : Int), .n ((tzF 64 (q1r r j) : Nat) : Int), .n (((tzF 64 (q1r r j) : Nat) : Int) + (M : Int) - 1)] = qj8 i (z6h (q1r r j)) := by
    simp only [List.map, q2q, qj8, z6h]
    rw [show ((tzF 64 (q1r r j) : Nat) : Int) + (M : Int) - 1 = ((q1e (q1r r j) - 1 : Nat) : Int) by omega]
   have hO : ∀ x ∈ [q1o.s q7o, .n (i : Int), .n ((tzF 64 (q1r r j) : Nat) : Int), .n (((tzF 64 (q1r r j) : Nat) : Int) + (M : Int) - 1)], qb6 x := fun x hx => by
    simp at hx; rcases hx with rfl | rfl | rfl | rfl <;> simp only [qb6] <;> omega
   have hsj := z3j (qj8 i) (q32 r) j
   cases j with
   | zero =>
    have p2 := y5z _ _ _ rfl (q2t ws g.rows i) hO (by simp; omega)
    have hV : q2t ws g.rows i ++ List.map q2q [.s q7o, .n (i : Int), .n ((tzF 64 (q1r r 0) : Nat) : Int), .n (((tzF 64 (q1r r 0) : Nat) : Int) + (M : Int) - 1)] = q2t ws g.rows i ++ ((q32 r).take (0 + 1)).flatMap (qj8 i) := by
     rw [hW, htk]; simp
    have hVl := congrArg List.length hV
    rw [List.length_append, List.length_map] at hVl
    have hst0 : q1l .andNot .u64 ((q1r r 0 : Nat) : Int) (q4p .u64 (IntKind.u64.wrap (q4p .u64 1 (M : Int) - 1)) ((tzF 64 (q1r r 0) : Nat) : Int)) = ((q1r r 1 : Nat) : Int) := hst'
    have hdec1 : q1r r 1 < q1r r 0 := hdec2
    (repeat' ((conv => whnf); first | (exfalso; omega) | refine cpC (hk1) ?_ | refine cpC (hk2) ?_ | (refine z2o Ax q03 rfl rfl rfl 200 200 ?_) | (refine q01 [some 0, some 5, some 9] p2 rfl rfl ⟨rfl, rfl, rfl, trivial⟩ ?_) | refine hK' 1 [some 0, some 1, some 2, some 3, some 4, some 5, some 6, some 7, some 8, some 10] _ _ ⟨by omega⟩ ⟨by omega⟩ (by exact bkW) | refine spC (fun hb => ?_) fun hb => ?_ | refine saC ?_))
   | succ j =>
    have p2 := y5z _ _ _ rfl (q2t ws g.rows i ++ ((q32 r).take (j + 1)).flatMap (qj8 i)) hO (by rw [List.length_append]; simp only [List.length_cons, List.length_nil]; omega)
    have hV : (q2t ws g.rows i ++ ((q32 r).take (j + 1)).flatMap (qj8 i)) ++ List.map q2q [.s q7o, .n (i : Int), .n ((tzF 64 (q1r r (j + 1)) : Nat) : Int), .n (((tzF 64 (q1r r (j + 1)) : Nat) : Int) + (M : Int) - 1)] = q2t ws g.rows i ++ ((q32 r).take (j + 1 + 1)).flatMap (qj8 i) := by
     rw [hW, htk]; simp [List.append_assoc]
    have hVl := congrArg List.length hV
    rw [List.length_append, List.length_map] at hVl
    (repeat' ((conv => whnf); first | (exfalso; omega) | refine cpC (hk1) ?_ | refine cpC (hk2) ?_ | (refine z2o Ax q03 rfl rfl rfl 200 200 ?_) | (refine q01 [some 0, some 9, some 10] p2 rfl rfl ⟨rfl, rfl, rfl, trivial⟩ ?_) | refine hK' (j + 2) [some 0, some 1, some 2, some 3, some 4, some 5, some 6, some 7, some 8, some 11] _ _ ⟨by omega⟩ ⟨by omega⟩ (by exact bkW) | refine spC (fun hb => ?_) fun hb => ?_ | refine saC ?_))
 ·have hV : q2t ws g.rows i = ws ++ [q3e] ++ q44 0 g.rows := by unfold q2t; rw [List.take_of_length_le (by omega)]
  have hsz := qc4 g.rows i
  have hO : ∀ x ∈ [q1o.s q1q, .n g.from_, .s qh5, .n g.to_, .s qf4, .n g.low, .s qh5, .n g.high], qb6 x := fun x hx => by
   have b1 := hbd g.from_ (by simp)
   have b2 := hbd g.to_ (by simp)
   have b3 := hbd g.low (by simp)
   have b4 := hbd g.high (by simp)
   simp at hx; rcases hx with rfl | rfl | rfl | rfl | rfl | rfl | rfl | rfl <;> simp only [qb6] <;> omega
  have p3 := y5z _ _ _ rfl (q2t ws g.rows i) hO (by rw [hV]; simp [qw5] at *; omega)
  have p4 := z35 ((q2t ws g.rows i).length + [q1o.s q1q, .n g.from_, .s qh5, .n g.to_, .s qf4, .n g.low, .s qh5, .n g.high].length) g.clear q64 q2p (q2t ws g.rows i ++ List.map q2q [q1o.s q1q, .n g.from_, .s qh5, .n g.to_, .s qf4, .n g.low, .s qh5, .n g.high]) (by rw [List.length_append, List.length_map]) (by rw [hV]; simp [qw5] at *; omega)
  have hF : (q2t ws g.rows i ++ List.map q2q [q1o.s q1q, .n g.from_, .s qh5, .n g.to_, .s qf4, .n g.low, .s qh5, .n g.high]) ++ [if g.clear then q64 else q2p] = ws ++ qw5 g := by
   rw [hV]; simp [qw5, q2q, List.append_assoc]
  have hFl := congrArg List.length hF
  simp only [List.length_append, List.length_map] at hFl
  (repeat' ((conv => whnf); first | (exfalso; omega) | (refine q01 [some 0, some 5, some 6] p3 rfl rfl ⟨rfl, rfl, rfl, trivial⟩ ?_) | (refine q01 [some 0, some 7] p4 rfl rfl ⟨rfl, rfl, trivial⟩ ?_) | (refine q08 [some 0, some 1, some 8] (.inr rfl) ?_ ?_ rfl rfl; (focus exact vwV); exact hsW) | refine spC (fun hb => ?_) fun hb => ?_ | refine saC ?_))
end Go.SX
namespace Go.SX
theorem q3n (g : q06) : q0o g = if g.kind = 1 then qw5 g else if g.kind = 2 ∨ g.kind = 3 ∨ g.kind = 4 then q5b g ++ firstW g.kids else [if g.kind = 5 then q46 else q2p, q2m] ++ kidsW (decide (g.kind = 6)) true g.cents g.kids ++ [q1d] := by
 cases g; rw [q0o]
theorem q9d (any : Bool) : ∀ (a b : List q06) (f : Bool) (c : List Int), kidsW any f c (a ++ b) = kidsW any f c a ++ kidsW any (f && a.isEmpty) (c.drop a.length) b
 | [], b, f, c => by simp [kidsW]
 | k :: a, b, f, c => by
  rw [List.cons_append, kidsW, kidsW, q9d any a b false c.tail]
  simp [List.append_assoc]
theorem z1s (any : Bool) (a : List q06) (k : q06) (c : List Int) : kidsW any true c (a ++ [k]) = kidsW any true c a ++ ((if a.isEmpty then [] else [q0d]) ++ (if any then [q0a (c.getD a.length 0)] else []) ++ q0o k) := by
 rw [q9d, kidsW, kidsW]
 have : (c.drop a.length).headD 0 = c.getD a.length 0 := by
  rw [List.getD_eq_getElem?_getD, List.headD_eq_head?_getD, List.head?_drop]
 rw [this]
 simp
theorem qc8 (any : Bool) (c : List Int) (l : List q06) (i : Nat) : (kidsW any true c (l.take i)).length ≤ (kidsW any true c l).length := by
 have : kidsW any true c l = kidsW any true c (l.take i) ++ kidsW any (true && (l.take i).isEmpty) (c.drop (l.take i).length) (l.drop i) := by rw [← q9d, List.take_append_drop]
 rw [this]; simp
theorem qd6 {g : q06} {d n : Int} (h : q2j g d = some n) : d ≤ 4 ∧ okB g = true ∧ ∃ m, sizeL g.kids (d + 1) = some m ∧ n = 1 + m := by
 rw [q3g] at h
 split at h
 ·cases h
 ·rename_i hc
  simp only [Bool.or_eq_true, decide_eq_true_eq, Bool.not_eq_true', not_or, Bool.not_eq_false] at hc
  refine ⟨by omega, hc.2, ?_⟩
  cases hs : sizeL g.kids (d + 1) with
  | none => rw [hs] at h; cases h
  | some m => rw [hs] at h; injection h with h; exact ⟨m, rfl, h.symm⟩
theorem z4q : ∀ {l : List q06} {d m : Int} {k : q06}, sizeL l d = some m → k ∈ l → ∃ n, q2j k d = some n
 | [], d, m, k, h, hk => by cases hk
 | a :: l, d, m, k, h, hk => by
  rw [sizeL] at h
  cases ha : q2j a d with
  | none => rw [ha] at h; cases h
  | some x =>
   rw [ha] at h
   cases hl : sizeL l d with
   | none => rw [hl] at h; cases h
   | some y =>
    rcases List.mem_cons.1 hk with rfl | hk
    ·exact ⟨x, ha⟩
    ·exact z4q hl hk
structure OkG (g : q06) : Prop where
 kind : 1 ≤ g.kind ∧ g.kind ≤ 6
 lim : qp5 g = true
 plain : q3s g (q77 g) = true
 parts : q35 g = true
theorem okG {g : q06} (h : okB g = true) : OkG g := by
 simp only [okB, Bool.and_eq_true] at h
 exact ⟨(q0f _ _ _).1 h.1.1.1, h.1.2, h.1.1.2, h.2⟩
theorem OkG.see {g : q06} (h : OkG g) (hk : g.kind = 1) : q29 g.rows = true ∧ (0 ≤ g.from_ ∧ g.from_ ≤ 1000000) ∧ (g.from_ + 1 ≤ g.to_ ∧ g.to_ ≤ 1000000) ∧ (0 ≤ g.low ∧ g.low ≤ 90) ∧ (g.low ≤ g.high ∧ g.high ≤ 90) ∧ g.kids = [] ∧ g.cents = [] := by
 have h1 := h.lim
 have h2 := h.parts
 unfold qp5 at h1
 rw [if_pos hk] at h1
 simp only [Bool.and_eq_true, q0f] at h1
 simp only [q35, q6u, q48, hk, if_pos, Bool.and_eq_true] at h2
 simp only [show ¬ ((1 : Int) = 6) by decide, if_neg, decide_eq_true_eq, not_false_iff] at h2
 obtain ⟨⟨⟨h3, h4⟩, _⟩, _⟩ := h2
 exact ⟨h1.1.1.1.1.1, h1.1.1.1.2, h1.1.1.2, h1.1.2, h1.2, List.eq_nil_of_length_eq_zero (by simpa using h3), List.eq_nil_of_length_eq_zero (by simpa using h4)⟩
theorem OkG.one {g : q06} (h : OkG g) (hk : g.kind = 2 ∨ g.kind = 3 ∨ g.kind = 4) : g.kids.length = 1 ∧ g.cents = [] := by
 have h2 := h.parts
 have n1 : ¬ g.kind = 1 := by omega
 have n2 : ¬ (g.kind = 5 ∨ g.kind = 6) := by omega
 have n3 : ¬ g.kind = 6 := by omega
 simp only [q35, q6u, q48, if_neg n1, if_neg n2, if_neg n3, Bool.and_eq_true, decide_eq_true_eq] at h2
 obtain ⟨⟨⟨h3, h4⟩, _⟩, _⟩ := h2
 exact ⟨by omega, List.eq_nil_of_length_eq_zero (by omega)⟩
theorem OkG.many {g : q06} (h : OkG g) (hk : g.kind = 5 ∨ g.kind = 6) : 2 ≤ g.kids.length ∧ g.kids.length ≤ 4 ∧ (g.kind = 6 → g.cents.length = g.kids.length ∧ ∀ c ∈ g.cents, 0 ≤ c ∧ c ≤ 1000000000) ∧ (g.kind = 5 → g.cents = []) := by
 have h2 := h.parts
 have n1 : ¬ g.kind = 1 := by omega
 simp only [q35, q6u, q48, if_neg n1, if_pos hk, Bool.and_eq_true, q0f] at h2
 obtain ⟨⟨⟨h3, h4⟩, _⟩, _⟩ := h2
 refine ⟨by omega, by omega, fun h6 => ?_, fun h5 => ?_⟩
 ·rw [if_pos h6] at h4
  simp only [Bool.and_eq_true, decide_eq_true_eq, Bool.not_eq_true', List.any_eq_false] at h4
  refine ⟨by omega, fun c hc => ?_⟩
  have := h4.2 c hc
  exact (q0f _ _ _).1 (by simpa using this)
 ·rw [if_neg (by omega)] at h4
  simp only [decide_eq_true_eq] at h4
  exact List.eq_nil_of_length_eq_zero (by omega)
theorem OkG.lim2 {g : q06} (h : OkG g) (hk : g.kind = 2) : (1 ≤ g.low ∧ g.low ≤ 8) ∧ (1 ≤ g.within ∧ g.within ≤ 1000000) := by
 have h1 := h.lim
 unfold qp5 at h1
 rw [if_neg (by omega), if_pos hk] at h1
 simpa only [Bool.and_eq_true, q0f] using h1
theorem OkG.lim3 {g : q06} (h : OkG g) (hk : g.kind = 3) : (1 ≤ g.days ∧ g.days ≤ 60) ∧ (1 ≤ g.times ∧ g.times ≤ 6) ∧ (0 ≤ g.within ∧ g.within ≤ 1440 * g.days) ∧ (0 ≤ g.from_ ∧ g.from_ ≤ 1000000) := by
 have h1 := h.lim
 unfold qp5 at h1
 rw [if_neg (by omega), if_neg (by omega), if_pos hk] at h1
 simp only [Bool.and_eq_true, q0f] at h1
 exact ⟨h1.1.1.1, h1.1.1.2, h1.1.2, h1.2⟩
theorem OkG.lim4 {g : q06} (h : OkG g) (hk : g.kind = 4) : 0 ≤ g.within ∧ g.within ≤ 1000000 := by
 have h1 := h.lim
 unfold qp5 at h1
 rw [if_neg (by omega), if_neg (by omega), if_neg (by omega), if_pos hk] at h1
 simpa only [q0f] using h1
end Go.SX
namespace Go.SX
open Go.Proofs
set_option maxHeartbeats 400000000
set_option maxRecDepth 100000
theorem ya4 (m : Nat) (g : q06) (hk : g.kind = 1) (hG : y5x g) (hr : q29 g.rows = true) (ws : List Wd) (hm : m = ws.length) (hn : m + (qw5 g).length ≤ 100000)
  (hbd : ∀ n ∈ [g.from_, g.to_, g.low, g.high], -9223372036854775808 ≤ n ∧ n ≤ 9223372036854775807) :
  q07 Tryz.prog Dc 39 [.ptr 0 0, q0m g] (qo4 m ws) (.tuple []) (z0m (m + (qw5 g).length) (ws ++ qw5 g)) := by
 subst hm; exact yf6 g hk hG hr ws hn hbd
theorem ye1 (g : q06) (m : Nat) (ws : List Wd) (hm : m = ws.length) (hok : OkG g) (hkl : (g.kids.length : Int) = 1) (hn : m + (q5b g).length + (q0o (g.kids.getD (Int.toNat 0) (Cd.dflt U.goal))).length ≤ 100000) (hk : g.kind = 2 ∨ g.kind = 3 ∨ g.kind = 4)
  (ih : ∀ (m : Nat) (ws : List Wd), m = ws.length → m + (q0o (g.kids.getD (Int.toNat 0) (Cd.dflt U.goal))).length ≤ 100000 → q07 Tryz.prog Dc 39 [.ptr 0 0, q0m (g.kids.getD (Int.toNat 0) (Cd.dflt U.goal))] (qo4 m ws) (.tuple []) (z0m (m + (q0o (g.kids.getD (Int.toNat 0) (Cd.dflt U.goal))).length) (ws ++ q0o (g.kids.getD (Int.toNat 0) (Cd.dflt U.goal))))) :
  q07 Tryz.prog Dc 39 [.ptr 0 0, q0m g] (qo4 m ws) (.tuple []) (z0m (m + (q5b g).length + (q0o (g.kids.getD (Int.toNat 0) (Cd.dflt U.goal))).length) (ws ++ q5b g ++ q0o (g.kids.getD (Int.toNat 0) (Cd.dflt U.goal)))) := by
 rcases hk with hk | hk | hk
 ·obtain ⟨b1, b2⟩ := hok.lim2 hk
  have hL : List.map q2q [q1o.s q28, .s q3w, .n g.low, .s q0z, .n g.within, .s q5t] = q5b g := by unfold q5b; rw [if_pos hk]; rfl
  have hlen : (q5b g).length = 6 := by rw [← hL]; rfl
  have p1 := z7f m [q1o.s q28, .s q3w, .n g.low, .s q0z, .n g.within, .s q5t] _ _ rfl ws (fun x hx => by
   simp at hx; rcases hx with rfl | rfl | rfl | rfl | rfl | rfl <;> simp only [qb6] <;> omega) hm (by simp; omega)
  have p2 := ih (m + [q1o.s q28, .s q3w, .n g.low, .s q0z, .n g.within, .s q5t].length) (ws ++ List.map q2q [q1o.s q28, .s q3w, .n g.low, .s q0z, .n g.within, .s q5t]) (by rw [List.length_append, List.length_map, hm]) (by have h := hn; rw [hlen] at h; exact h)
  have hfin : ws ++ List.map q2q [q1o.s q28, .s q3w, .n g.low, .s q0z, .n g.within, .s q5t] ++ q0o (g.kids.getD (Int.toNat 0) (Cd.dflt U.goal)) = ws ++ q5b g ++ q0o (g.kids.getD (Int.toNat 0) (Cd.dflt U.goal)) := by rw [hL]
  clear ih hok
  refine q00 Ax q03 Tryz.func39 (c := _) rfl Tryz.call39 600 ?_
  (repeat' ((conv => whnf); first | (exfalso; omega) | (refine q01 [some 0, some 1, some 4] p1 rfl rfl ⟨rfl, rfl, rfl, trivial⟩ ?_) | (refine q37 [some 0, some 5] p2 rfl rfl ⟨rfl, rfl, trivial⟩ ?_) | (refine q08 [some 0, some 1, some 6] (.inl rfl) ?_ ?_ rfl rfl; (focus exact vwV); exact hsW) | refine spC (fun hb => ?_) fun hb => ?_ | refine taC ?_ | refine saC ?_ | refine q02 mixed ?_))
 ·obtain ⟨b1, b2, b3, b4⟩ := hok.lim3 hk
  have hL : List.map q2q [q1o.s q1k, .n g.days, .s q5d, .n g.times, .s q3u, .s q3v, .n g.within, .s q1q, .n g.from_, .s q5t] = q5b g := by unfold q5b; rw [if_neg (by omega), if_pos hk]; rfl
  have hlen : (q5b g).length = 10 := by rw [← hL]; rfl
  have p1 := z7f m [q1o.s q1k, .n g.days, .s q5d, .n g.times, .s q3u, .s q3v, .n g.within, .s q1q, .n g.from_, .s q5t] _ _ rfl ws (fun x hx => by
   simp at hx; rcases hx with rfl | rfl | rfl | rfl | rfl | rfl | rfl | rfl | rfl | rfl <;> simp only [qb6] <;> omega) hm (by simp; omega)
  have p2 := ih (m + [q1o.s q1k, .n g.days, .s q5d, .n g.times, .s q3u, .s q3v, .n g.within, .s q1q, .n g.from_, .s q5t].length) (ws ++ List.map q2q [q1o.s q1k, .n g.days, .s q5d, .n g.times, .s q3u, .s q3v, .n g.within, .s q1q, .n g.from_, .s q5t]) (by rw [List.length_append, List.length_map, hm]) (by have h := hn; rw [hlen] at h; exact h)
  have hfin : ws ++ List.map q2q [q1o.s q1k, .n g.days, .s q5d, .n g.times, .s q3u, .s q3v, .n g.within, .s q1q, .n g.from_, .s q5t] ++ q0o (g.kids.getD (Int.toNat 0) (Cd.dflt U.goal)) = ws ++ q5b g ++ q0o (g.kids.getD (Int.toNat 0) (Cd.dflt U.goal)) := by rw [hL]
  clear ih hok
  refine q00 Ax q03 Tryz.func39 (c := _) rfl Tryz.call39 600 ?_
  (repeat' ((conv => whnf); first | (exfalso; omega) | (refine q01 [some 0, some 1, some 4] p1 rfl rfl ⟨rfl, rfl, rfl, trivial⟩ ?_) | (refine q37 [some 0, some 5] p2 rfl rfl ⟨rfl, rfl, trivial⟩ ?_) | (refine q08 [some 0, some 1, some 6] (.inl rfl) ?_ ?_ rfl rfl; (focus exact vwV); exact hsW) | refine spC (fun hb => ?_) fun hb => ?_ | refine taC ?_ | refine saC ?_ | refine q02 mixed ?_))
 ·obtain ⟨b1, b2⟩ := hok.lim4 hk
  have hL : List.map q2q [q1o.s q0q, .s q0z, .n g.within, .s q5t] = q5b g := by unfold q5b; rw [if_neg (by omega), if_neg (by omega)]; rfl
  have hlen : (q5b g).length = 4 := by rw [← hL]; rfl
  have p1 := z7f m [q1o.s q0q, .s q0z, .n g.within, .s q5t] _ _ rfl ws (fun x hx => by
   simp at hx; rcases hx with rfl | rfl | rfl | rfl <;> simp only [qb6] <;> omega) hm (by simp; omega)
  have p2 := ih (m + [q1o.s q0q, .s q0z, .n g.within, .s q5t].length) (ws ++ List.map q2q [q1o.s q0q, .s q0z, .n g.within, .s q5t]) (by rw [List.length_append, List.length_map, hm]) (by have h := hn; rw [hlen] at h; exact h)
  have hfin : ws ++ List.map q2q [q1o.s q0q, .s q0z, .n g.within, .s q5t] ++ q0o (g.kids.getD (Int.toNat 0) (Cd.dflt U.goal)) = ws ++ q5b g ++ q0o (g.kids.getD (Int.toNat 0) (Cd.dflt U.goal)) := by rw [hL]
  clear ih hok
  refine q00 Ax q03 Tryz.func39 (c := _) rfl Tryz.call39 600 ?_
  (repeat' ((conv => whnf); first | (exfalso; omega) | (refine q01 [some 0, some 1, some 4] p1 rfl rfl ⟨rfl, rfl, rfl, trivial⟩ ?_) | (refine q37 [some 0, some 5] p2 rfl rfl ⟨rfl, rfl, trivial⟩ ?_) | (refine q08 [some 0, some 1, some 6] (.inl rfl) ?_ ?_ rfl rfl; (focus exact vwV); exact hsW) | refine spC (fun hb => ?_) fun hb => ?_ | refine taC ?_ | refine saC ?_ | refine q02 mixed ?_))
def q21 (g : q06) (ws : List Wd) (i : Nat) : List Wd := ws ++ [if (decide (g.kind = 5)) = true then q46 else q2p] ++ [q2m] ++ kidsW (decide (g.kind = 6)) true g.cents (g.kids.take i)
theorem zi1 (g : q06) (ws : List Wd) {i : Nat} (h : i < g.kids.length) : q21 g ws (i + 1) = q21 g ws i ++ ((if i = 0 then [] else [q0d]) ++ (if g.kind = 6 then [q0a (g.cents.getD i 0)] else []) ++ q0o (g.kids.getD (i : Int).toNat (Cd.dflt U.goal))) := by
 unfold q21
 rw [q2g (d := Cd.dflt U.goal) h, z1s, List.length_take, Nat.min_eq_left (by omega)]
 have e1 : (g.kids.take i).isEmpty = decide (i = 0) := by
  cases i with
  | zero => simp
  | succ i => cases hk : g.kids with
   | nil => rw [hk] at h; simp at h
   | cons a l => simp
 rw [e1]
 have e2 : g.kids.getD (i : Int).toNat (Cd.dflt U.goal) = g.kids.getD i (Cd.dflt U.goal) := rfl
 rw [e2]
 by_cases h0 : i = 0 <;> by_cases h6 : g.kind = 6 <;> simp [h0, h6, List.append_assoc]
theorem yb6 (g : q06) (m : Nat) (ws : List Wd) (hm : m = ws.length) (hok : OkG g) (hn : m + (q0o g).length ≤ 100000) (hk : g.kind = 5 ∨ g.kind = 6)
  (ih : ∀ k ∈ g.kids, ∀ (m : Nat) (ws : List Wd), m = ws.length → m + (q0o k).length ≤ 100000 → q07 Tryz.prog Dc 39 [.ptr 0 0, q0m k] (qo4 m ws) (.tuple []) (z0m (m + (q0o k).length) (ws ++ q0o k))) :
  q07 Tryz.prog Dc 39 [.ptr 0 0, q0m g] (qo4 m ws) (.tuple []) (z0m (m + (q0o g).length) (ws ++ q0o g)) := by
 obtain ⟨k2, k4, hc6, hc5⟩ := hok.many hk
 have hend : q21 g ws g.kids.length ++ [q1d] = ws ++ q0o g := by
  rw [q3n, if_neg (by omega), if_neg (by omega)]
  unfold q21
  rw [List.take_length]
  rcases hk with hk | hk <;> simp [hk, List.append_assoc]
 have hendl := congrArg List.length hend
 rw [List.length_append, List.length_append] at hendl
 have hpre : ∀ i, i ≤ g.kids.length → (q21 g ws i).length ≤ (q21 g ws g.kids.length).length := fun i _ => by
  unfold q21
  have := qc8 (decide (g.kind = 6)) g.cents g.kids i
  rw [List.take_length]
  simp only [List.length_append]
  omega
 have p1 := z35 m (decide (g.kind = 5)) q46 q2p ws hm (by omega)
 have p2 := z7f (m + 1) [.s q2m] _ _ rfl (ws ++ [if (decide (g.kind = 5)) = true then q46 else q2p]) (fun x hx => by simp at hx; subst hx; trivial) (by rw [List.length_append, hm]; rfl) (by simp; omega)
 have w0 : ws ++ [if (decide (g.kind = 5)) = true then q46 else q2p] ++ List.map q2q [q1o.s q2m] = q21 g ws 0 := by simp [q21, kidsW, q2q]
 have w0l : (q21 g ws 0).length = m + 2 := by rw [← w0, hm]; simp
 have p9 : ∀ i, i = g.kids.length → q07 Tryz.prog Dc 37 [.ptr 0 0, .slice 2 0 1 0 [q1o.s q1d].length] (y7f (q21 g ws i).length (q21 g ws i) [.s q1d]) (.tuple []) (yc8 ((q21 g ws i).length + [q1o.s q1d].length) (q21 g ws i ++ List.map q2q [q1o.s q1d]) [.s q1d]) := fun i hi =>
  z7f (q21 g ws i).length [.s q1d] _ _ rfl (q21 g ws i) (fun x hx => by simp at hx; subst hx; trivial) rfl (by have := hpre i (by omega); simp at *; omega)
 refine q00 Ax q03 Tryz.func39 (c := _) rfl Tryz.call39 600 ?_
 (repeat' ((conv => whnf); first | (exfalso; omega) | (refine q01 [some 0, some 1] p1 rfl rfl ⟨rfl, rfl, trivial⟩ ?_) | (refine q01 [some 0, some 4, some 5] p2 rfl rfl ⟨rfl, rfl, rfl, trivial⟩ ?_) | refine spC (fun hb => ?_) fun hb => ?_ | refine saC ?_))
 refine q0u (fun i : Nat => [(24, iS i)]) (fun i => [(0, .vart none [.slice 6 0 1 0 (q21 g ws i).length]), (6, .rows U.str (q21 g ws i))]) (fun i => i ≤ g.kids.length) (fun i => g.kids.length - i) 0 (Nat.zero_le _) (by exact bkW) ?_
 intro i hi K hK
 rcases Nat.lt_or_ge i g.kids.length with hlt | hge
 ·have hmem : g.kids.getD (i : Int).toNat (Cd.dflt U.goal) ∈ g.kids := List.mem_of_getElem? (getD_some (d := Cd.dflt U.goal) hlt)
  have hs := zi1 g ws hlt
  have hsl := congrArg List.length hs
  have hp1 := hpre (i + 1) hlt
  have ihk := ih _ hmem
  clear ih p1 p2 p9
  have hcb : ∀ hk6 : g.kind = 6, qb6 (.n (g.cents.getD (i : Int).toNat (Cd.dflt U.int))) := fun hk6 => by
   have := (hc6 hk6).2 _ (List.mem_of_getElem? (getD_some (d := Cd.dflt U.int) (show i < g.cents.length by have := (hc6 hk6).1; omega)))
   exact ⟨Int.le_trans (by decide) this.1, Int.le_trans this.2 (by decide)⟩
  have hcl : g.kind = 6 → g.cents.length = g.kids.length := fun h => (hc6 h).1
  clear hsl
  have hl1 : [q1d].length = 1 := rfl
  cases i with
  | zero =>
   rcases hk with hk | hk
   ·have hsl : (q21 g ws (0 + 1)).length = (q21 g ws (0)).length + 0 + (q0o (g.kids.getD ((0 : Nat) : Int).toNat (Cd.dflt U.goal))).length := by rw [hs]; simp [hk]; try omega
    have hq : ((q21 g ws 0).length) + (q0o (g.kids.getD ((0 : Nat) : Int).toNat (Cd.dflt U.goal))).length ≤ 100000 := by (show ((q21 g ws 0).length) + (q0o (g.kids.getD ((0 : Nat) : Int).toNat (Cd.dflt U.goal))).length ≤ 100000; omega)
    have qg := ihk ((q21 g ws 0).length) ((q21 g ws 0)) (by simp) hq
    have hfin : (q21 g ws 0) ++ q0o (g.kids.getD ((0 : Nat) : Int).toNat (Cd.dflt U.goal)) = q21 g ws (0 + 1) := by rw [hs]; simp [hk, List.append_assoc]
    have hfl := congrArg List.length hfin
    simp only [List.length_append, List.length_map] at hfl
    clear ihk
    (repeat' ((conv => whnf); first | (exfalso; omega) | (refine q01 [some 0, some 6] qg rfl rfl ⟨rfl, rfl, trivial⟩ ?_) | refine hK (0 + 1) [some 0, some 1, some 2, some 3, some 4, some 5, some 8] _ _ ⟨by omega⟩ ⟨by omega⟩ (by exact bkW) | refine spC (fun hb => ?_) fun hb => ?_ | refine saC ?_))
   ·have hcb := hcb hk
    have hcl := hcl hk
    have hsl : (q21 g ws (0 + 1)).length = (q21 g ws (0)).length + 1 + (q0o (g.kids.getD ((0 : Nat) : Int).toNat (Cd.dflt U.goal))).length := by rw [hs]; simp [hk]; try omega
    have q0 := z7f ((q21 g ws 0).length) [q1o.n (g.cents.getD ((0 : Nat) : Int).toNat (Cd.dflt U.int))] _ _ rfl ((q21 g ws 0)) (fun x hx => by simp at hx; subst hx; exact hcb) (by simp) (by simp only [List.length_cons, List.length_nil]; omega)
    have hq : ((q21 g ws 0).length + [q1o.n (g.cents.getD ((0 : Nat) : Int).toNat (Cd.dflt U.int))].length) + (q0o (g.kids.getD ((0 : Nat) : Int).toNat (Cd.dflt U.goal))).length ≤ 100000 := by (show ((q21 g ws 0).length + 1) + (q0o (g.kids.getD ((0 : Nat) : Int).toNat (Cd.dflt U.goal))).length ≤ 100000; omega)
    have qg := ihk ((q21 g ws 0).length + [q1o.n (g.cents.getD ((0 : Nat) : Int).toNat (Cd.dflt U.int))].length) ((q21 g ws 0) ++ List.map q2q [q1o.n (g.cents.getD ((0 : Nat) : Int).toNat (Cd.dflt U.int))]) (by simp) hq
    have hfin : (q21 g ws 0) ++ List.map q2q [q1o.n (g.cents.getD ((0 : Nat) : Int).toNat (Cd.dflt U.int))] ++ q0o (g.kids.getD ((0 : Nat) : Int).toNat (Cd.dflt U.goal)) = q21 g ws (0 + 1) := by rw [hs]; simp [hk, q2q, List.append_assoc]; try rfl
    have hfl := congrArg List.length hfin
    simp only [List.length_append, List.length_map] at hfl
    clear ihk
    (repeat' ((conv => whnf); first | (exfalso; omega) | (refine q37 [some 0, some 6, some 8] q0 rfl rfl ⟨rfl, rfl, rfl, trivial⟩ ?_) | (refine q01 [some 0, some 9] qg rfl rfl ⟨rfl, rfl, trivial⟩ ?_) | refine hK (0 + 1) [some 0, some 1, some 2, some 3, some 4, some 5, some 10] _ _ ⟨by omega⟩ ⟨by omega⟩ (by exact bkW) | refine spC (fun hb => ?_) fun hb => ?_ | refine taC ?_ | refine saC ?_ | refine q02 mixed ?_))
  | succ i =>
   rcases hk with hk | hk
   ·have hsl : (q21 g ws (i + 1 + 1)).length = (q21 g ws (i + 1)).length + 1 + (q0o (g.kids.getD ((i + 1 : Nat) : Int).toNat (Cd.dflt U.goal))).length := by rw [hs]; simp [hk]; try omega
    have q0 := z7f ((q21 g ws (i + 1)).length) [q1o.s q0d] _ _ rfl ((q21 g ws (i + 1))) (fun x hx => by simp at hx; subst hx; trivial) (by simp) (by simp only [List.length_cons, List.length_nil]; omega)
    have hq : ((q21 g ws (i + 1)).length + [q1o.s q0d].length) + (q0o (g.kids.getD ((i + 1 : Nat) : Int).toNat (Cd.dflt U.goal))).length ≤ 100000 := by (show ((q21 g ws (i + 1)).length + 1) + (q0o (g.kids.getD ((i + 1 : Nat) : Int).toNat (Cd.dflt U.goal))).length ≤ 100000; omega)
    have qg := ihk ((q21 g ws (i + 1)).length + [q1o.s q0d].length) ((q21 g ws (i + 1)) ++ List.map q2q [q1o.s q0d]) (by simp) hq
    have hfin : (q21 g ws (i + 1)) ++ List.map q2q [q1o.s q0d] ++ q0o (g.kids.getD ((i + 1 : Nat) : Int).toNat (Cd.dflt U.goal)) = q21 g ws (i + 1 + 1) := by rw [hs]; simp [hk, q2q, List.append_assoc]; try rfl
    have hfl := congrArg List.length hfin
    simp only [List.length_append, List.length_map] at hfl
    clear ihk
    (repeat' ((conv => whnf); first | (exfalso; omega) | (refine q01 [some 0, some 6, some 8] q0 rfl rfl ⟨rfl, rfl, rfl, trivial⟩ ?_) | (refine q01 [some 0, some 9] qg rfl rfl ⟨rfl, rfl, trivial⟩ ?_) | refine hK (i + 1 + 1) [some 0, some 1, some 2, some 3, some 4, some 5, some 10] _ _ ⟨by omega⟩ ⟨by omega⟩ (by exact bkW) | refine spC (fun hb => ?_) fun hb => ?_ | refine saC ?_))
   ·have hcb := hcb hk
    have hcl := hcl hk
    have hsl : (q21 g ws (i + 1 + 1)).length = (q21 g ws (i + 1)).length + 2 + (q0o (g.kids.getD ((i + 1 : Nat) : Int).toNat (Cd.dflt U.goal))).length := by rw [hs]; simp [hk]; try omega
    have q0 := z7f ((q21 g ws (i + 1)).length) [q1o.s q0d] _ _ rfl ((q21 g ws (i + 1))) (fun x hx => by simp at hx; subst hx; trivial) (by simp) (by simp only [List.length_cons, List.length_nil]; omega)
    have q1 := z7f ((q21 g ws (i + 1)).length + [q1o.s q0d].length) [q1o.n (g.cents.getD ((i + 1 : Nat) : Int).toNat (Cd.dflt U.int))] _ _ rfl ((q21 g ws (i + 1)) ++ List.map q2q [q1o.s q0d]) (fun x hx => by simp at hx; subst hx; exact hcb) (by simp) (by simp only [List.length_cons, List.length_nil]; omega)
    have hq : ((q21 g ws (i + 1)).length + [q1o.s q0d].length + [q1o.n (g.cents.getD ((i + 1 : Nat) : Int).toNat (Cd.dflt U.int))].length) + (q0o (g.kids.getD ((i + 1 : Nat) : Int).toNat (Cd.dflt U.goal))).length ≤ 100000 := by (show ((q21 g ws (i + 1)).length + 1 + 1) + (q0o (g.kids.getD ((i + 1 : Nat) : Int).toNat (Cd.dflt U.goal))).length ≤ 100000; omega)
    have qg := ihk ((q21 g ws (i + 1)).length + [q1o.s q0d].length + [q1o.n (g.cents.getD ((i + 1 : Nat) : Int).toNat (Cd.dflt U.int))].length) ((q21 g ws (i + 1)) ++ List.map q2q [q1o.s q0d] ++ List.map q2q [q1o.n (g.cents.getD ((i + 1 : Nat) : Int).toNat (Cd.dflt U.int))]) (by simp) hq
    have hfin : (q21 g ws (i + 1)) ++ List.map q2q [q1o.s q0d] ++ List.map q2q [q1o.n (g.cents.getD ((i + 1 : Nat) : Int).toNat (Cd.dflt U.int))] ++ q0o (g.kids.getD ((i + 1 : Nat) : Int).toNat (Cd.dflt U.goal)) = q21 g ws (i + 1 + 1) := by rw [hs]; simp [hk, q2q, List.append_assoc]; try rfl
    have hfl := congrArg List.length hfin
    simp only [List.length_append, List.length_map] at hfl
    clear ihk
    (repeat' ((conv => whnf); first | (exfalso; omega) | (refine q01 [some 0, some 6, some 8] q0 rfl rfl ⟨rfl, rfl, rfl, trivial⟩ ?_) | (refine q37 [some 0, some 9, some 10] q1 rfl rfl ⟨rfl, rfl, rfl, trivial⟩ ?_) | (refine q01 [some 0, some 11] qg rfl rfl ⟨rfl, rfl, trivial⟩ ?_) | refine hK (i + 1 + 1) [some 0, some 1, some 2, some 3, some 4, some 5, some 12] _ _ ⟨by omega⟩ ⟨by omega⟩ (by exact bkW) | refine spC (fun hb => ?_) fun hb => ?_ | refine taC ?_ | refine saC ?_ | refine q02 mixed ?_))
 ·obtain rfl : i = g.kids.length := by omega
  have q := p9 _ rfl
  clear p1 p2 p9 ih
  have hfin : q21 g ws g.kids.length ++ List.map q2q [q1o.s q1d] = ws ++ q0o g := hend
  have hl1 : [q1d].length = 1 := rfl
  (repeat' ((conv => whnf); first | (exfalso; omega) | (refine q01 [some 0, some 6, some 7] q rfl rfl ⟨rfl, rfl, rfl, trivial⟩ ?_) | (refine q08 [some 0, some 1, some 8] (.inr rfl) ?_ ?_ rfl rfl; (focus exact vwV); exact hsW) | refine spC (fun hb => ?_) fun hb => ?_ | refine saC ?_))
theorem y4p : ∀ (j : Nat) (g : q06) (d n : Int), d + j = 5 → q2j g d = some n → q4d g → ∀ (m : Nat) (ws : List Wd), m = ws.length → m + (q0o g).length ≤ 100000 →
  q07 Tryz.prog Dc 39 [.ptr 0 0, q0m g] (qo4 m ws) (.tuple []) (z0m (m + (q0o g).length) (ws ++ q0o g))
 | 0, g, d, n, hd, hs, hG, m, ws, hm, hn => by
  have := (qd6 hs).1
  omega
 | j + 1, g, d, n, hd, hs, hG, m, ws, hm, hn => by
  obtain ⟨h4, hok, q, hq, _⟩ := qd6 hs
  have hO := okG hok
  have hG' := (q1y g).1 hG
  have ih : ∀ k ∈ g.kids, ∀ (m : Nat) (ws : List Wd), m = ws.length → m + (q0o k).length ≤ 100000 → q07 Tryz.prog Dc 39 [.ptr 0 0, q0m k] (qo4 m ws) (.tuple []) (z0m (m + (q0o k).length) (ws ++ q0o k)) := fun k hk m ws hm hn => by
   obtain ⟨z, hz⟩ := z4q hq hk
   exact y4p j k (d + 1) z (by omega) hz (q3p hG'.2 hk) m ws hm hn
  have hkind := hO.kind
  by_cases k1 : g.kind = 1
  ·obtain ⟨s1, s2, s3, s4, s5, _, _⟩ := hO.see k1
   have e : q0o g = qw5 g := by rw [q3n, if_pos k1]
   rw [e] at hn ⊢
   refine ya4 m g k1 hG'.1 s1 ws hm hn fun n hn => ?_
   simp at hn
   rcases hn with rfl | rfl | rfl | rfl <;> omega
  ·by_cases k2 : g.kind = 2 ∨ g.kind = 3 ∨ g.kind = 4
   ·obtain ⟨o1, _⟩ := hO.one k2
    have e : q0o g = q5b g ++ q0o (g.kids.getD (Int.toNat 0) (Cd.dflt U.goal)) := by
     rw [q3n, if_neg k1, if_pos k2]
     cases hk : g.kids with
     | nil => rw [hk] at o1; simp at o1
     | cons a l => rw [firstW]; rfl
    rw [e] at hn ⊢
    rw [List.length_append] at hn ⊢
    have hmem : g.kids.getD (Int.toNat 0) (Cd.dflt U.goal) ∈ g.kids := by
     cases hk : g.kids with
     | nil => rw [hk] at o1; simp at o1
     | cons a l => exact List.mem_cons_self ..
    rw [← Nat.add_assoc] at hn ⊢
    rw [← List.append_assoc]
    exact ye1 g m ws hm hO (by omega) hn k2 (ih _ hmem)
   ·exact yb6 g m ws hm hO hn (by omega) ih
end Go.SX
namespace Go.SX
theorem qs9 : ∀ f n : Nat, (q5c f n).length ≤ f
 | 0, n => Nat.le_refl _
 | f + 1, n => by
  unfold q5c
  split
  ·simp
  ·have := qs9 f (n / 10); simp; exact this
theorem q1i (n : Int) : (q0a n).length ≤ 21 := by
 unfold q0a
 split
 ·have := qs9 20 n.natAbs; simp only [List.length_cons]; omega
 ·have := qs9 20 n.toNat; omega
def Sh (l : List Wd) : Prop := ∀ w ∈ l, w.length ≤ 21
theorem Sh.nil : Sh [] := fun w h => by cases h
theorem Sh.cons {w : Wd} {l : List Wd} (h : w.length ≤ 21) (hl : Sh l) : Sh (w :: l) := fun x hx => by
 rcases List.mem_cons.1 hx with rfl | hx
 ·exact h
 ·exact hl x hx
theorem Sh.app {a b : List Wd} (h : Sh a) (h' : Sh b) : Sh (a ++ b) := fun x hx => by
 rcases List.mem_append.1 hx with hx | hx
 ·exact h x hx
 ·exact h' x hx
theorem y4s (y : Nat) (p : Nat × Nat) : Sh (qj8 y p) := .cons (by decide) (.cons (q1i _) (.cons (q1i _) (.cons (q1i _) .nil)))
theorem zn7 {α : Type} (f : α → List Wd) (h : ∀ a, Sh (f a)) : ∀ l : List α, Sh (l.flatMap f)
 | [] => .nil
 | a :: l => by rw [List.flatMap_cons]; exact (h a).app (zn7 f h l)
theorem z9i : ∀ (y : Nat) (l : List Int), Sh (q44 y l)
 | _, [] => .nil
 | y, r :: l => (zn7 _ (y4s y) _).app (z9i (y + 1) l)
theorem y5j (g : q06) : Sh (qw5 g) := by
 unfold qw5
 refine .app (.cons (by decide) (z9i _ _)) (.cons (by decide) (.cons (q1i _) (.cons (by decide) (.cons (q1i _) (.cons (by decide) (.cons (q1i _) (.cons (by decide) (.cons (q1i _) (.cons ?_ .nil)))))))))
 split <;> decide
theorem y15 (g : q06) : Sh (q5b g) := by
 unfold q5b
 split
 ·exact .cons (by decide) (.cons (by decide) (.cons (q1i _) (.cons (by decide) (.cons (q1i _) (.cons (by decide) .nil)))))
 ·split
  ·exact .cons (by decide) (.cons (q1i _) (.cons (by decide) (.cons (q1i _) (.cons (by decide) (.cons (by decide) (.cons (q1i _) (.cons (by decide) (.cons (q1i _) (.cons (by decide) .nil)))))))))
  ·exact .cons (by decide) (.cons (by decide) (.cons (q1i _) (.cons (by decide) .nil)))
mutual
theorem z2g : ∀ g : q06, Sh (q0o g)
 | ⟨kind, rows, from_, to_, low, high, clear, days, times, within, cents, kids⟩ => by
  rw [q0o]
  split
  ·exact y5j _
  ·split
   ·exact (y15 _).app (firstW_sh kids)
   ·refine .app (.app (.cons ?_ (.cons (by decide) .nil)) (kidsW_sh _ _ _ kids)) (.cons (by decide) .nil)
    split <;> decide
theorem firstW_sh : ∀ l : List q06, Sh (firstW l)
 | [] => .nil
 | k :: _ => by rw [firstW]; exact z2g k
theorem kidsW_sh : ∀ (any first : Bool) (cents : List Int) (l : List q06), Sh (kidsW any first cents l)
 | _, _, _, [] => by rw [kidsW]; exact .nil
 | any, first, cents, k :: l => by
  rw [kidsW]
  refine .app (.app (.app ?_ ?_) (z2g k)) (kidsW_sh any false cents.tail l)
  ·split
   ·exact .nil
   ·exact .cons (by decide) .nil
  ·split
   ·exact .cons (q1i _) .nil
   ·exact .nil
end
theorem z5e {l : List Wd} (h : Sh l) : (Go.Lib.joinTail [32] l).length ≤ 22 * l.length := by
 unfold Go.Lib.joinTail
 induction l with
 | nil => simp
 | cons w l ih =>
  have h1 := h w (List.mem_cons_self ..)
  have h2 := ih fun x hx => h x (List.mem_cons_of_mem _ hx)
  simp only [List.map_cons, List.flatten_cons, List.length_append, List.length_cons, List.length_nil] at *
  omega
theorem qj2 {l : List Wd} (h : Sh l) : (q6c l).length ≤ 22 * l.length := by
 unfold q6c
 cases l with
 | nil => simp [Go.Lib.join_nil]
 | cons w l =>
  rw [Go.Lib.join_cons]
  have h1 := h w (List.mem_cons_self ..)
  have h2 := z5e (l := l) fun x hx => h x (List.mem_cons_of_mem _ hx)
  simp only [List.length_append, List.length_cons]
  omega
theorem z5j {n : Nat} (h : n < 2 ^ 48) : ∀ j : Nat, 2 ^ j ∣ q1r n j
 | 0 => by simp
 | j + 1 => by
  show 2 ^ (j + 1) ∣ q67 (q1r n j)
  by_cases h0 : q1r n j = 0
  ·rw [h0, z27]; exact Nat.dvd_zero _
  ·have hle := q9z (n := n) (by omega) j
   obtain ⟨a, b, c⟩ := q5r 64 (q1r n j) h0 (by omega)
   have h1 := (qg2 h0 (by omega)).1
   have h2 := z5j h j
   have h3 : j ≤ tzF 64 (q1r n j) := by
    rcases Nat.lt_or_ge (tzF 64 (q1r n j)) j with h4 | h4
    ·exfalso
     obtain ⟨q, hq⟩ := Nat.dvd_trans (Nat.pow_dvd_pow 2 (show tzF 64 (q1r n j) + 1 ≤ j by omega)) h2
     have h5 : q1r n j / 2 ^ tzF 64 (q1r n j) = 2 * q := Nat.div_eq_of_eq_mul_right (Nat.two_pow_pos _) (by rw [← Nat.mul_assoc, ← Nat.pow_succ]; exact hq)
     omega
    ·exact h4
   exact Nat.dvd_trans (Nat.pow_dvd_pow 2 (show j + 1 ≤ q1e (q1r n j) by omega)) ⟨_, Nat.mul_comm _ _⟩
theorem zb2 {n : Nat} (h : n < 2 ^ 48) : (q32 n).length ≤ 48 := by
 rcases Nat.lt_or_ge 48 (q32 n).length with h1 | h1
 ·exfalso
  have h2 : q1r n 48 ≠ 0 := fun e => by have := z5y (n := n) (j := 48) (by omega) e; omega
  have h3 := Nat.le_of_dvd (by omega) (z5j h 48)
  have h4 := q9z (n := n) (by omega) 48
  omega
 ·exact h1
theorem q9s (y : Nat) : ∀ l : List (Nat × Nat), (l.flatMap (qj8 y)).length = 4 * l.length
 | [] => rfl
 | p :: l => by rw [List.flatMap_cons, List.length_append, q9s y l]; simp only [qj8, List.length_cons, List.length_nil]; omega
theorem z5d : ∀ (y : Nat) (l : List Int), l.all qp9 = true → (q44 y l).length ≤ 192 * l.length
 | _, [], _ => by simp [q44]
 | y, r :: l, h => by
  rw [List.all_cons, Bool.and_eq_true] at h
  have h1 := (q0f _ _ _).1 h.1
  have h2 := z5d (y + 1) l h.2
  have h3 := zb2 (n := r.toNat) (by omega)
  rw [q44, List.length_append, show z66 r.toNat r.toNat = q32 r.toNat from rfl, q9s, List.length_cons]
  omega
theorem z9b {g : q06} (h : q29 g.rows = true) : (qw5 g).length ≤ 4700 := by
 simp only [q29, Bool.and_eq_true, decide_eq_true_eq] at h
 have := z5d 0 g.rows h.2
 simp only [qw5, List.length_append, List.length_cons, List.length_nil]
 omega
theorem zo4 (g : q06) : (q5b g).length ≤ 10 := by
 unfold q5b
 split
 ·simp
 ·split <;> simp
mutual
theorem qy9 : ∀ (g : q06) (d n : Int), q2j g d = some n → ((q0o g).length : Int) ≤ 5000 * n ∧ 1 ≤ n
 | ⟨kind, rows, from_, to_, low, high, clear, days, times, within, cents, kids⟩, d, n, h => by
  obtain ⟨_, hok, m, hm, rfl⟩ := qd6 h
  have hO := okG hok
  have ih := kidsW_len kids (d + 1) m hm
  have hkind := hO.kind
  rw [q0o]
  by_cases h1 : kind = 1
  ·rw [if_pos h1]
   have := z9b (hO.see h1).1
   omega
  ·rw [if_neg h1]
   by_cases h2 : kind = 2 ∨ kind = 3 ∨ kind = 4
   ·rw [if_pos h2, List.length_append]
    have := zo4 ⟨kind, rows, from_, to_, low, high, clear, days, times, within, cents, kids⟩
    have := ih.2.1
    omega
   ·rw [if_neg h2]
    have := ih.1 (decide (kind = 6)) true cents
    have := (hO.many (show kind = 5 ∨ kind = 6 by have : (⟨kind, rows, from_, to_, low, high, clear, days, times, within, cents, kids⟩ : q06).kind = kind := rfl; omega)).2.1
    have : kids.length ≤ 4 := this
    simp only [List.length_append, List.length_cons, List.length_nil]
    omega
theorem kidsW_len : ∀ (l : List q06) (d m : Int), sizeL l d = some m → (∀ (any first : Bool) (c : List Int), ((kidsW any first c l).length : Int) ≤ 5000 * m + 2 * l.length) ∧ ((firstW l).length : Int) ≤ 5000 * m ∧ 0 ≤ m
 | [], d, m, h => by
  simp [sizeL] at h
  subst h
  refine ⟨fun a f c => by rw [kidsW]; simp, by rw [firstW]; simp, by omega⟩
 | k :: l, d, m, h => by
  rw [sizeL] at h
  cases ha : q2j k d with
  | none => rw [ha] at h; cases h
  | some x =>
   rw [ha] at h
   cases hl : sizeL l d with
   | none => rw [hl] at h; cases h
   | some y =>
    rw [hl] at h
    injection h with h
    subst h
    have h1 := qy9 k d x ha
    have h2 := kidsW_len l d y hl
    refine ⟨fun a f c => ?_, by rw [firstW]; omega, by omega⟩
    rw [kidsW]
    have := h2.1 a false c.tail
    have e1 : (if f = true then ([] : List Wd) else [q0d]).length ≤ 1 := by split <;> simp
    have e2 : (if a = true then [q0a (c.headD 0)] else []).length ≤ 1 := by split <;> simp
    simp only [List.length_append, List.length_cons]
    omega
end
theorem q5p {g : q06} (h : q2r g = true) : (q0o g).length ≤ 60000 := by
 unfold q2r at h
 split at h
 ·cases h
 ·rename_i n hs
  have := qy9 g 1 n hs
  simp only [decide_eq_true_eq] at h
  omega
theorem qh0 (o : q2c) : Sh (q4k o) := by
 unfold q4k
 refine .app (.app (.cons (by decide) (.cons (q1i _) (.cons (by decide) (.cons (q1i _) (.cons (by decide) (.cons (q1i _) (.cons (by decide) (.cons ?_ (.cons ?_ (.cons (by decide) (.cons (q1i _) (.cons (by decide) (.cons (q1i _) (.cons (by decide) .nil)))))))))))))) (z2g _)) (.cons (by decide) .nil)
 ·split
  ·decide
  ·exact q1i _
 ·split <;> decide
theorem q6l (o : q2c) : (q4k o).length = 15 + (q0o o.goal).length := by
 unfold q4k; simp only [List.length_append, List.length_cons, List.length_nil]; omega
end Go.SX
namespace Go.SX
open Go.Proofs
set_option maxHeartbeats 400000000
set_option maxRecDepth 100000
structure yf7 (o : q2c) : Prop where
 id : 0 ≤ o.id ∧ o.id ≤ 63
 owner : 0 ≤ o.owner ∧ o.owner ≤ 15
 price : 0 ≤ o.price ∧ o.price ≤ 1000000000
 group : -1 ≤ o.group ∧ o.group ≤ 15
 known : 0 ≤ o.known ∧ o.known ≤ 1000000
 due : o.known + 1 ≤ o.due ∧ o.due ≤ 1000000
 goal : q2r o.goal = true
theorem q6j (o : q2c) : z73 o = true ↔ yf7 o := by
 simp only [z73, Bool.and_eq_true, q0f]
 constructor
 ·rintro ⟨⟨⟨⟨⟨⟨h1, h2⟩, h3⟩, h4⟩, h5⟩, h6⟩, h7⟩; exact ⟨h1, h2, h3, h4, h5, h6, h7⟩
 ·rintro ⟨h1, h2, h3, h4, h5, h6, h7⟩; exact ⟨⟨⟨⟨⟨⟨h1, h2⟩, h3⟩, h4⟩, h5⟩, h6⟩, h7⟩
theorem qu6 {g : q06} (h : q2r g = true) : ∃ n, q2j g 1 = some n := by
 unfold q2r at h
 split at h
 ·cases h
 ·exact ⟨_, by assumption⟩
theorem y2k (n : Nat) (ws : List Wd) (hw : n = ws.length) (hn : ws.length ≤ 140737488355328) (hl : (q6c ws).length ≤ 140737488355328) : q07 Tryz.prog Dc 40 [.slice 0 0 1 0 n, wS [32]] [.rows U.str ws] (wS (q6c ws)) [.rows U.str ws] := by
 subst hw
 exact yb9 (yb4 ws hn hl) ⟨⟨fzV rfl rfl rfl (by simp) (by simp) rfl, rfl, trivial⟩⟩ rfl
theorem zc8 (o : q2c) (hG : q4d o.goal) : q07 Tryz.prog Dc 14 [qb4 o] [] (.tuple [wS (q4y o).1, iS (q4y o).2]) [] := by
 have hv := z1f o hG
 cases hb : z73 o with
 | false =>
  rw [hb] at hv
  have e : q4y o = ([], 130) := by unfold q4y; rw [hb]; rfl
  rw [e]
  refine q00 Ax q03 Tryz.func14 (c := _) rfl Tryz.call14 300 ?_
  (repeat' ((conv => whnf); first | refine cpC (hv) ?_ | (refine q08 [] (.inr rfl) ?_ ?_ rfl rfl; (focus exact vwV); exact hsV)))
 | true =>
  rw [hb] at hv
  obtain ⟨b1, b2, b3, b4, b5, b6, b7⟩ := (q6j o).1 hb
  have e : q4y o = (q6c (q4k o), 0) := by unfold q4y; rw [hb]; rfl
  rw [e]
  have hgl := q5p b7
  obtain ⟨n, hn⟩ := qu6 b7
  by_cases hg : o.group < 0
  ·have p0 := yd6 [q1o.s q0w, .n o.id, .s q6s, .n o.owner, .s q2n, .n o.price, .s q0x] _ _ rfl (fun x hx => by
    simp at hx; rcases hx with rfl | rfl | rfl | rfl | rfl | rfl | rfl <;> simp only [qb6] <;> omega) (by simp)
   have p1 := z7f ([q1o.s q0w, .n o.id, .s q6s, .n o.owner, .s q2n, .n o.price, .s q0x].length) [q1o.s q36] _ _ rfl (List.map q2q [q1o.s q0w, .n o.id, .s q6s, .n o.owner, .s q2n, .n o.price, .s q0x]) (fun x hx => by simp at hx; subst hx; trivial) rfl (by simp)
   have p2 := z35 ([q1o.s q0w, .n o.id, .s q6s, .n o.owner, .s q2n, .n o.price, .s q0x].length + [q1o.s q36].length) o.urgent q1j q23 (List.map q2q [q1o.s q0w, .n o.id, .s q6s, .n o.owner, .s q2n, .n o.price, .s q0x] ++ List.map q2q [q1o.s q36]) rfl (by simp)
   have p3 := z7f ([q1o.s q0w, .n o.id, .s q6s, .n o.owner, .s q2n, .n o.price, .s q0x].length + [q1o.s q36].length + 1) [q1o.s q19, .n o.known, .s q2w, .n o.due, .s q1a] _ _ rfl (List.map q2q [q1o.s q0w, .n o.id, .s q6s, .n o.owner, .s q2n, .n o.price, .s q0x] ++ List.map q2q [q1o.s q36] ++ [if o.urgent then q1j else q23]) (fun x hx => by
    simp at hx; rcases hx with rfl | rfl | rfl | rfl | rfl <;> simp only [qb6] <;> omega) rfl (by simp)
   have p4 := y4p 4 o.goal 1 n (by omega) hn hG ([q1o.s q0w, .n o.id, .s q6s, .n o.owner, .s q2n, .n o.price, .s q0x].length + [q1o.s q36].length + 1 + [q1o.s q19, .n o.known, .s q2w, .n o.due, .s q1a].length) (List.map q2q [q1o.s q0w, .n o.id, .s q6s, .n o.owner, .s q2n, .n o.price, .s q0x] ++ List.map q2q [q1o.s q36] ++ [if o.urgent then q1j else q23] ++ List.map q2q [q1o.s q19, .n o.known, .s q2w, .n o.due, .s q1a]) rfl (by simp; omega)
   have p5 := z7f ([q1o.s q0w, .n o.id, .s q6s, .n o.owner, .s q2n, .n o.price, .s q0x].length + [q1o.s q36].length + 1 + [q1o.s q19, .n o.known, .s q2w, .n o.due, .s q1a].length + (q0o o.goal).length) [q1o.s q3z] _ _ rfl (List.map q2q [q1o.s q0w, .n o.id, .s q6s, .n o.owner, .s q2n, .n o.price, .s q0x] ++ List.map q2q [q1o.s q36] ++ [if o.urgent then q1j else q23] ++ List.map q2q [q1o.s q19, .n o.known, .s q2w, .n o.due, .s q1a] ++ q0o o.goal) (fun x hx => by simp at hx; subst hx; trivial) (by simp; omega) (by simp; omega)
   have hF : List.map q2q [q1o.s q0w, .n o.id, .s q6s, .n o.owner, .s q2n, .n o.price, .s q0x] ++ List.map q2q [q1o.s q36] ++ [if o.urgent then q1j else q23] ++ List.map q2q [q1o.s q19, .n o.known, .s q2w, .n o.due, .s q1a] ++ q0o o.goal ++ List.map q2q [q1o.s q3z] = q4k o := by unfold q4k; rw [if_pos hg]; simp [q2q]
   have kj := y2k ([q1o.s q0w, .n o.id, .s q6s, .n o.owner, .s q2n, .n o.price, .s q0x].length + [q1o.s q36].length + 1 + [q1o.s q19, .n o.known, .s q2w, .n o.due, .s q1a].length + (q0o o.goal).length + [q1o.s q3z].length) (q4k o) (by rw [← hF]; simp; omega) (by rw [q6l]; omega) (by have := qj2 (qh0 o); rw [q6l] at this; omega)
   rw [← hF] at kj ⊢
   clear hF
   refine q00 Ax q03 Tryz.func14 (c := _) rfl Tryz.call14 400 ?_
   (repeat' ((conv => whnf); first | (exfalso; omega) | refine cpC (hv) ?_ | (refine q01 [some 1, some 2] p0 rfl rfl ⟨rfl, rfl, trivial⟩ ?_) | (refine q01 [some 1, some 3, some 4] p1 rfl rfl ⟨rfl, rfl, rfl, trivial⟩ ?_) | (refine q01 [some 1, some 5] p2 rfl rfl ⟨rfl, rfl, trivial⟩ ?_) | (refine q01 [some 1, some 6, some 7] p3 rfl rfl ⟨rfl, rfl, rfl, trivial⟩ ?_) | (refine q01 [some 1, some 8] p4 rfl rfl ⟨rfl, rfl, trivial⟩ ?_) | (refine q01 [some 1, some 9, some 10] p5 rfl rfl ⟨rfl, rfl, rfl, trivial⟩ ?_) | (refine q01 [some 11] kj rfl rfl ⟨rfl, trivial⟩ ?_) | (refine q08 [] (.inr rfl) ?_ ?_ rfl rfl; (focus exact vwV); exact hsV) | refine spC (fun hb => ?_) fun hb => ?_ | refine saC ?_))
  ·have p0 := yd6 [q1o.s q0w, .n o.id, .s q6s, .n o.owner, .s q2n, .n o.price, .s q0x] _ _ rfl (fun x hx => by
    simp at hx; rcases hx with rfl | rfl | rfl | rfl | rfl | rfl | rfl <;> simp only [qb6] <;> omega) (by simp)
   have p1 := z7f ([q1o.s q0w, .n o.id, .s q6s, .n o.owner, .s q2n, .n o.price, .s q0x].length) [q1o.n o.group] _ _ rfl (List.map q2q [q1o.s q0w, .n o.id, .s q6s, .n o.owner, .s q2n, .n o.price, .s q0x]) (fun x hx => by simp at hx; subst hx; simp only [qb6]; omega) rfl (by simp)
   have p2 := z35 ([q1o.s q0w, .n o.id, .s q6s, .n o.owner, .s q2n, .n o.price, .s q0x].length + [q1o.n o.group].length) o.urgent q1j q23 (List.map q2q [q1o.s q0w, .n o.id, .s q6s, .n o.owner, .s q2n, .n o.price, .s q0x] ++ List.map q2q [q1o.n o.group]) rfl (by simp)
   have p3 := z7f ([q1o.s q0w, .n o.id, .s q6s, .n o.owner, .s q2n, .n o.price, .s q0x].length + [q1o.n o.group].length + 1) [q1o.s q19, .n o.known, .s q2w, .n o.due, .s q1a] _ _ rfl (List.map q2q [q1o.s q0w, .n o.id, .s q6s, .n o.owner, .s q2n, .n o.price, .s q0x] ++ List.map q2q [q1o.n o.group] ++ [if o.urgent then q1j else q23]) (fun x hx => by
    simp at hx; rcases hx with rfl | rfl | rfl | rfl | rfl <;> simp only [qb6] <;> omega) rfl (by simp)
   have p4 := y4p 4 o.goal 1 n (by omega) hn hG ([q1o.s q0w, .n o.id, .s q6s, .n o.owner, .s q2n, .n o.price, .s q0x].length + [q1o.n o.group].length + 1 + [q1o.s q19, .n o.known, .s q2w, .n o.due, .s q1a].length) (List.map q2q [q1o.s q0w, .n o.id, .s q6s, .n o.owner, .s q2n, .n o.price, .s q0x] ++ List.map q2q [q1o.n o.group] ++ [if o.urgent then q1j else q23] ++ List.map q2q [q1o.s q19, .n o.known, .s q2w, .n o.due, .s q1a]) rfl (by simp; omega)
   have p5 := z7f ([q1o.s q0w, .n o.id, .s q6s, .n o.owner, .s q2n, .n o.price, .s q0x].length + [q1o.n o.group].length + 1 + [q1o.s q19, .n o.known, .s q2w, .n o.due, .s q1a].length + (q0o o.goal).length) [q1o.s q3z] _ _ rfl (List.map q2q [q1o.s q0w, .n o.id, .s q6s, .n o.owner, .s q2n, .n o.price, .s q0x] ++ List.map q2q [q1o.n o.group] ++ [if o.urgent then q1j else q23] ++ List.map q2q [q1o.s q19, .n o.known, .s q2w, .n o.due, .s q1a] ++ q0o o.goal) (fun x hx => by simp at hx; subst hx; trivial) (by simp; omega) (by simp; omega)
   have hF : List.map q2q [q1o.s q0w, .n o.id, .s q6s, .n o.owner, .s q2n, .n o.price, .s q0x] ++ List.map q2q [q1o.n o.group] ++ [if o.urgent then q1j else q23] ++ List.map q2q [q1o.s q19, .n o.known, .s q2w, .n o.due, .s q1a] ++ q0o o.goal ++ List.map q2q [q1o.s q3z] = q4k o := by unfold q4k; rw [if_neg hg]; simp [q2q]
   have kj := y2k ([q1o.s q0w, .n o.id, .s q6s, .n o.owner, .s q2n, .n o.price, .s q0x].length + [q1o.n o.group].length + 1 + [q1o.s q19, .n o.known, .s q2w, .n o.due, .s q1a].length + (q0o o.goal).length + [q1o.s q3z].length) (q4k o) (by rw [← hF]; simp; omega) (by rw [q6l]; omega) (by have := qj2 (qh0 o); rw [q6l] at this; omega)
   rw [← hF] at kj ⊢
   clear hF
   refine q00 Ax q03 Tryz.func14 (c := _) rfl Tryz.call14 400 ?_
   (repeat' ((conv => whnf); first | (exfalso; omega) | refine cpC (hv) ?_ | (refine q01 [some 1, some 2] p0 rfl rfl ⟨rfl, rfl, trivial⟩ ?_) | (refine q01 [some 1, some 3, some 4] p1 rfl rfl ⟨rfl, rfl, rfl, trivial⟩ ?_) | (refine q01 [some 1, some 5] p2 rfl rfl ⟨rfl, rfl, trivial⟩ ?_) | (refine q01 [some 1, some 6, some 7] p3 rfl rfl ⟨rfl, rfl, rfl, trivial⟩ ?_) | (refine q01 [some 1, some 8] p4 rfl rfl ⟨rfl, rfl, trivial⟩ ?_) | (refine q01 [some 1, some 9, some 10] p5 rfl rfl ⟨rfl, rfl, rfl, trivial⟩ ?_) | (refine q01 [some 11] kj rfl rfl ⟨rfl, trivial⟩ ?_) | (refine q08 [] (.inr rfl) ?_ ?_ rfl rfl; (focus exact vwV); exact hsV) | refine spC (fun hb => ?_) fun hb => ?_ | refine saC ?_))
end Go.SX
namespace Go.SX
theorem zy6 : ∀ s : Wd, q1b s ≠ []
 | [] => by simp [q1b]
 | c :: s => by
  unfold q1b
  split
  ·simp
  ·split <;> simp
theorem q5y : ∀ s : Wd, (q1b s).length = s.count 32 + 1
 | [] => rfl
 | c :: s => by
  have ih := q5y s
  unfold q1b
  by_cases h : c = 32
  ·rw [if_pos h, h, List.count_cons_self, List.length_cons, ih]
  ·rw [if_neg h, List.count_cons_of_ne (fun e => h e)]
   cases hs : q1b s with
   | nil => exact absurd hs (zy6 s)
   | cons t l => rw [hs] at ih; simpa using ih
theorem qx1 : ∀ s : Wd, s.count 32 = 0 → q1b s = [s]
 | [], _ => rfl
 | c :: s, h => by
  have hc : c ≠ 32 := fun e => by rw [e, List.count_cons_self] at h; omega
  rw [List.count_cons_of_ne (fun e => hc e)] at h
  unfold q1b
  rw [if_neg hc, qx1 s h]
theorem qs6 : ∀ s : Wd, 0 < s.count 32 → ∃ m : Nat, Go.Lib.indexByte s 32 = m ∧ m < s.length ∧ q1b s = s.take m :: q1b (s.drop (m + 1))
 | [], h => by simp at h
 | c :: s, h => by
  by_cases hc : c = 32
  ·subst hc
   exact ⟨0, rfl, by simp, by rw [q1b, if_pos rfl]; rfl⟩
  ·rw [List.count_cons_of_ne (fun e => hc e)] at h
   obtain ⟨m, h1, h2, h3⟩ := qs6 s h
   refine ⟨m + 1, ?_, by simp; omega, ?_⟩
   ·unfold Go.Lib.indexByte
    rw [if_neg (by simpa using hc), h1, if_neg (by simp)]
    rfl
   ·rw [q1b, if_neg hc, h3]
    simp
theorem ql9 (s : Wd) : (q1b s).length ≤ s.length + 1 := by
 rw [q5y]
 have := List.count_le_length (a := (32 : UInt8)) (l := s)
 omega
end Go.SX
namespace Go.SX
open Go.Proofs
set_option maxHeartbeats 400000000
set_option maxRecDepth 100000
def q9t (N : Nat) (pre : List Wd) : List Wd := pre ++ List.replicate (N - pre.length) []
theorem y77 (s : Wd) (hs : s.length ≤ 2000000) : q07 Tryz.prog Dc 83 [wS s, wS [32], iS 0, iS (-1)] [] (wsS (q1b s)) [] := by
 have hc := y8d s 32
 rw [show (Go.Lib.countByte s 32 : Nat) = (q1b s).length - 1 by rw [q5y]; rfl] at hc
 have hN := ql9 s
 have hp : 0 < (q1b s).length := by rw [q5y]; omega
 have h0 : List.replicate (min (((q1b s).length - 1 : Nat) + 1 : Int) ((s.length : Int) + 1)).toNat (Cd.dflt U.str) = q9t (q1b s).length [] := by
  unfold q9t
  rw [show (min (((q1b s).length - 1 : Nat) + 1 : Int) ((s.length : Int) + 1)).toNat = (q1b s).length by omega]
  simp
  exact .inr rfl
 refine q00 Ax q03 Tryz.func83 (c := _) rfl Tryz.call83 400 ?_
 (repeat' ((conv => whnf); first | refine cpC (hc) ?_ | refine saC ?_))
 refine q0u (fun p : List Wd × Wd => [(0, wS p.2), (3, iS (((q1b s).length : Int) - 1)), (9, .slice 0 0 1 0 (q1b s).length), (10, iS p.1.length)]) (fun p => [(0, .rows U.str (q9t (q1b s).length p.1))]) (fun p => q1b s = p.1 ++ q1b p.2 ∧ p.2.length ≤ s.length) (fun p => p.2.length) ([], s) ⟨rfl, Nat.le_refl _⟩ (by exact bkW) ?_
 rintro ⟨pre, t⟩ ⟨hsp, htl⟩ K hK
 dsimp only at hsp htl ⊢
 have hlen := congrArg List.length hsp
 rw [List.length_append] at hlen
 have htc := q5y t
 have hfl : (q9t (q1b s).length pre).length = (q1b s).length := by unfold q9t; simp; omega
 have hsd : ∀ i : Nat, i = pre.length → i < (q1b s).length → zk7 (0 + ((i : Int)).toNat < (q9t (q1b s).length pre).length ∧ 0 + 1 = Cd.n U.str) := fun i e1 e2 => ⟨⟨by omega, rfl⟩⟩
 rcases Nat.eq_zero_or_pos (t.count 32) with hz | hz
 ·have ht := qx1 t hz
  have hV : q1b s = (((q9t (q1b s).length pre).set (0 + (pre.length : Int).toNat) t).drop (0 + Int.toNat 0)).take (((pre.length : Int) + 1).toNat - Int.toNat 0) := by
   rw [ht] at hsp
   have hl : (q1b s).length = pre.length + 1 := by rw [hsp]; simp
   have e1 : 0 + (pre.length : Int).toNat = pre.length := by omega
   have e2 : ((pre.length : Int) + 1).toNat - Int.toNat 0 = pre.length + 1 := by omega
   rw [e1, e2, hl]
   unfold q9t
   rw [List.set_append_right _ _ (Nat.le_refl _), show pre.length + 1 - pre.length = 1 by omega, Nat.sub_self, hsp]
   simp [List.take_of_length_le]
  (repeat' ((conv => whnf); first | (exfalso; omega) | (refine q08 [] (.inr rfl) ?_ ?_ rfl rfl) | refine spC (fun hb => ?_) fun hb => ?_ | refine saC ?_))
  ·refine ⟨?_⟩
   (conv => whnf)
   exact fzV rfl rfl rfl (by rw [List.length_set, hfl]; omega) hV rfl
  ·exact trivial
 ·obtain ⟨m, hm1, hm2, hm3⟩ := qs6 t hz
  have hi := y84 t 32
  rw [hm1] at hi
  have hsm : zk7 (InR .i64 ((m : Int) + (([32] : Wd).length : Nat))) := ⟨inR_i64 (by simp; omega) (by simp; omega)⟩
  have htm : List.drop (Int.toNat 0) (List.take ((m : Int) + 0).toNat t) = t.take m := by rw [show ((m : Int) + 0).toNat = m by omega]; rfl
  have ht1 : List.drop ((m : Int) + (([32] : Wd).length : Nat)).toNat (List.take (t.length : Int).toNat t) = t.drop (m + 1) := by
   rw [show ((m : Int) + (([32] : Wd).length : Nat)).toNat = m + 1 by simp, Int.toNat_natCast, List.take_length]
  have hV : (q9t (q1b s).length pre).set (0 + (pre.length : Int).toNat) (List.drop (Int.toNat 0) (List.take ((m : Int) + 0).toNat t)) = q9t (q1b s).length (pre ++ [List.drop (Int.toNat 0) (List.take ((m : Int) + 0).toNat t)]) := by
   have e1 : 0 + (pre.length : Int).toNat = pre.length := by omega
   rw [e1]
   unfold q9t
   obtain ⟨q, hq⟩ : ∃ q, (q1b s).length - pre.length = q + 1 := ⟨(q1b s).length - pre.length - 1, by omega⟩
   rw [List.set_append_right _ _ (Nat.le_refl _), Nat.sub_self, hq, List.length_append, show (q1b s).length - (pre.length + [List.drop (Int.toNat 0) (List.take ((m : Int) + 0).toNat t)].length) = q by simp; omega, List.replicate_succ]
   simp
  have hpl : (((pre ++ [List.drop (Int.toNat 0) (List.take ((m : Int) + 0).toNat t)]).length : Nat) : Int) = (pre.length : Int) + 1 := by simp
  (repeat' ((conv => whnf); first | (exfalso; omega) | refine cpC (hi) ?_ | (refine hsm) | refine hK (pre ++ [List.drop (Int.toNat 0) (List.take ((m : Int) + 0).toNat t)], List.drop ((m : Int) + (([32] : Wd).length : Nat)).toNat (List.take (t.length : Int).toNat t)) [some 0] _ _ ⟨⟨by (rw [htm, ht1, hsp, hm3]; simp), by (show (List.drop _ _).length ≤ _; rw [ht1, List.length_drop]; omega)⟩⟩ ⟨by (show (List.drop _ _).length < t.length; rw [ht1, List.length_drop]; omega)⟩ (by dsimp only; exact bkW) | refine spC (fun hb => ?_) fun hb => ?_ | refine saC ?_ | refine q0b ?_ ?_))
theorem y6v (s : Wd) (hs : s.length ≤ 2000000) : q07 Tryz.prog Dc 57 [wS s, wS [32]] [] (wsS (q1b s)) [] := by
 have h := y77 s hs
 refine q00 Ax q03 Tryz.func57 (c := _) rfl Tryz.call57 100 ?_
 (repeat' ((conv => whnf); first | refine cpC (h) ?_ | (refine q08 [] (.inr rfl) ?_ ?_ rfl rfl; (focus exact vwV); exact hsV)))
theorem z47 (s : Wd) (hs : s.length ≤ 2000000) : q07 Tryz.prog Dc 28 [wS s] [] (wsS (q0j s)) [] := by
 have h := y6v s hs
 unfold q0j
 by_cases h0 : s = []
 ·rw [if_pos h0]
  refine q00 Ax q03 Tryz.func28 (c := _) rfl Tryz.call28 100 ?_
  (repeat' ((conv => whnf); first | refine cpC (h) ?_ | (refine q08 [] (.inr rfl) ?_ ?_ rfl rfl; (focus exact vwV); exact hsV) | refine x0C ?_ | refine spC (fun hb => ?_) fun hb => ?_))
  all_goals exact absurd h0 (by assumption)
 ·rw [if_neg h0]
  refine q00 Ax q03 Tryz.func28 (c := _) rfl Tryz.call28 100 ?_
  (repeat' ((conv => whnf); first | refine cpC (h) ?_ | (refine q08 [] (.inr rfl) ?_ ?_ rfl rfl; (focus exact vwV); exact hsV) | refine x0C ?_ | refine spC (fun hb => ?_) fun hb => ?_))
  all_goals exact absurd (by assumption) h0
end Go.SX
namespace Go.SX
open Go.RowKit
variable {C : Cod}
structure y8b (P : Program) (D : q09 C) (f : FuncId) (args : List (SV C)) (Hp : List (HS C)) (K : List PanicEntry → List (HS C) → Prop) (Y : Prop) : Prop where
 h : ∃ ch Hp', y9p P D f args Hp ch Hp' ∧ K ch Hp' ∧ Y
def y5a (g : Option (Nat × Bool)) (X : Prop) : Prop := match g with
 | none => X
 | some _ => False
def y4e (x : Option Nat) (K : Nat → Prop) (Y : Prop) : Prop := match x with
 | some t => K t
 | none => Y
def qn6 (P : Program) {D : q09 C} (A : Aux C D) (tab : Tab C) (K : DK C) (big : Nat) : List Oper → DK C
 | [] => K
 | ⟨dst, op, _, _, _, guard⟩ :: rest => fun tr T Hp => y4e (z8m T (q4w (q0i op))) (fun t => q33 T dst zz4 fun T' => qn6 P A tab K big rest (⟨dst, [t], [], []⟩ :: tr) T' Hp)
   (y5a guard (qn5 P A tab big (qn6 P A tab K big rest) dst op [] tr T Hp))
def zu1 (all : List Oper) (dd : Nat) : DK C := fun tr T _ => z86 all tr ∧ qv9 (noW tr && z1l (q1x T dd)) True False
def zp5 (P : Program) (D : q09 C) (K : List PanicEntry → List (HS C) → Prop) (Y : Prop) (Hp : List (HS C)) : Out C → Prop
 | .call f args => q3c args fun args => y8b P D f args Hp K Y
 | _ => False
def zu8 (P : Program) {D : q09 C} (A : Aux C D) (tab : Tab C) (R : q61 C) (all : List Oper) (k : List (It C)) (big : Nat) : List Oper → DK C
 | ⟨some dd, op, _, _, _, none⟩ :: post => fun tr T Hp => q3c (q1c T (q0i op)) fun vals => qd8 Hp 0 fun m =>
  zp5 P D (fun ch Hp' => R (.die ch :: k) (qq4 T.length) Hp') (q2s (q4w (q0i op)) fun fs => qf8 T dd zz4 fun T' => qn6 P A tab (zu1 all dd) big post (⟨some dd, fs, [], []⟩ :: tr) T' Hp) Hp (exec A tab op vals (qa8 Hp vals) m)
 | _ => fun _ _ _ => False
section
variable {P : Program} {D : q09 C} {A : Aux C D} {tab : Tab C} {R : q61 C} {k : List (It C)} {T : List (SV C)} {Hp : List (HS C)}
theorem qd2 {big : Nat} {K K' : DK C} (hK : ∀ tr T Hp, K' tr T Hp → K tr T Hp) : ∀ (rest : List Oper) (tr : List Ent) (T : List (SV C)) (Hp : List (HS C)),
  qn6 P A tab K' big rest tr T Hp → qb9 P A tab K big rest tr T Hp
 | [], tr, T, Hp, h => hK _ _ _ h
 | ⟨dst, op, ty, pos, after, guard⟩ :: rest, tr, T, Hp, h => by
  have ih := qd2 (big := big) hK rest
  simp only [qn6] at h
  simp only [qb9]
  cases hp : z8m T (q4w (q0i op)) with
  | some t =>
   rw [hp] at h
   simp only [y4e, q1u] at h
   exact ih _ _ _ h
  | none =>
   rw [hp] at h
   simp only [y4e] at h
   cases guard with
   | some g => exact h.elim
   | none => exact ⟨rfl, q8s ih h⟩
theorem z93 {all : List Oper} {dd : Nat} (tr : List Ent) (T : List (SV C)) (Hp : List (HS C)) (h : zu1 all dd tr T Hp) : zn3 all dd tr T Hp := by
 obtain ⟨h1, h2⟩ := h
 unfold qv9 at h2
 split at h2
 ·rename_i hb
  rw [Bool.and_eq_true] at hb
  exact ⟨h1.h, hb.1, hb.2⟩
 ·exact h2.elim
theorem zf3 {all : List Oper} {big : Nat} {tr : List Ent} : ∀ (l : List Oper), zu8 P A tab R all k big l tr T Hp → y5u P A tab R all k big l tr T Hp
 | [], h => h.elim
 | ⟨none, _, _, _, _, _⟩ :: _, h => h.elim
 | ⟨some _, _, _, _, _, some _⟩ :: _, h => h.elim
 | ⟨some dd, op, ty, pos, after, none⟩ :: post, h => by
  simp only [zu8] at h
  rw [q1f, q3h, Nat.add_zero] at h
  unfold zp5 at h
  split at h
  ·rename_i f args hex
   rw [q1f] at h
   obtain ⟨ch, Hp', h1, h2, h3⟩ := h.h
   rw [q1g, qi6] at h3
   exact ⟨f, args, ch, Hp', hex, h1, h2, qd2 z93 post _ _ _ h3⟩
  ·exact h.elim
theorem q7r {m0 : Nat} {ops : List Oper} (i : Nat) (hmix : P.follows .mixedOrders = true) (h : qd8 Hp 1000 fun big => qn6 P A tab (zu8 P A tab R ops k big (ops.drop i)) big (ops.take i) [] T Hp) : zm8 P A tab m0 R ops k T Hp := by
 rw [q3h] at h
 exact ⟨⟨_, _, fun _ _ _ _ _ h => h, .inr ⟨hmix, i, qd2 (fun tr T Hp hk => zf3 _ hk) _ [] T Hp h⟩⟩⟩
theorem zh6 {f : FuncId} {args : List (SV C)} {ch : List PanicEntry} {args0 : List (SV C)} {H0 H0' H1 : List (HS C)} {K : List PanicEntry → List (HS C) → Prop} {Y : Prop} (ρ : List (Option Nat)) (hM : y6h P D f args0 H0 ch H1) (hargs : renL ρ args0 = some args) (hH0 : q53 ρ H0 = some H0') (hat : q3q (q0r Hp) ρ H0')
  (h : z0p Hp ρ H0.length H1 (.tuple []) fun _ _ ws => q49 Hp ws fun Hp' => K ch Hp') (hy : Y) : y8b P D f args Hp K Y := by
 unfold z0p at h
 rw [q3h, Nat.add_zero, q5f] at h
 unfold zo0 at h
 split at h
 ·rename_i hc
  simp only [Bool.and_eq_true] at hc
  unfold ze9 at h
  split at h
  ·rename_i H1' hH1
   split at h
   ·dsimp only at h
    rw [q30] at h
    refine ⟨ch, _, ⟨hM.enter, fun B σ df a w E hR vs hd => ?_⟩, h, hy⟩
    refine (qv8 (Ω := fun e _ _ => e = .panicked ch) (fun w E hm vs hs hd => (hM.calls w E hm vs hs hd).mono fun e w' ⟨E', h1, h2, h3⟩ => ⟨E', h1, h2, h3⟩) ρ hargs hH0 hat _ rfl (fun k _ => q9f Hp _ (by rw [← q8c]; omega)) hc.1 (Nat.le_of_ble_eq_true hc.2) hH1 B σ df a w E hR vs hd).mono ?_
    rintro e w' ⟨e1, E1, h1, _, _, h2⟩
    exact ⟨E1, h1, by rw [q3t]; exact h2⟩
   ·exact h.elim
  ·exact h.elim
 ·exact h.elim
end
end Go.SX
namespace Go.SX
open Go.RowKit
variable {C : Cod}
section
variable {P : Program} {D : q09 C} {tab : Tab C} {B : q3b} {E : Env} {σ : Nat → SV C} {H : Nat → HS C} {df : List Deferred} {a : Act} {w : World} {o : Oper} {r : Option Nat}
theorem z4z (A : Aux C D) (hT : q1z P D tab) {f : FuncId} {fn : Func} {c : Code} (hf : P.funcs[f]? = some fn) (hb : fn.body = some c) (henter : ∀ args w, (callFunc f args).run P w = .ok (.enter f args) w)
  {args : List (SV C)} {H0 : List (HS C)} {ret : SV C} {H1 : List (HS C)} {Φ : qx3 C} (hΦ : ∀ e T Hp, Φ e T Hp → qn8 D tab fn.results.toList H0.length ret H1 e T Hp) (n : Nat)
  (h : q3c (args ++ qq4 (fn.ntmps - args.length)) fun T0 => q2s H0 fun Hp0 => gx P A tab ⟨none, [], H0.length, false⟩ Φ n [.code c] T0 Hp0) : q07 P D f args H0 ret H1 := by
 rw [q1f, q1g] at h
 refine ⟨henter, fun w E hm vs hs hd => ?_⟩
 refine callsIn_of_wp_marks hf hb trivial ?_ rfl
 have hR := q7u (n := fn.ntmps) (m := H0.length) (hm := hm) hs hd
 have hX : qn2 D (⟨none, [], H0.length, false⟩ : Ctx C) (q3b.here w E H0.length hm) none := ⟨rfl, fun c ri hc => by simp [lkR] at hc, trivial, rfl⟩
 have := q58 (r := none) (Q := bodyPostM (Fc none) 0 P fn fun e w' => ∃ v E', e = .returned v ∧ Den D w' E' ret v ∧ Sat D w' E' (q0r H1) ∧ Fr (q3b.here w E H0.length hm) E' w') A hT hX
  (fun e a w' T Hp hΦ' hRL => ?_) n _ _ _ h _ _ hR
 ·exact this
 ·obtain ⟨he, θ, l, h1, h2, h3⟩ := hΦ _ _ _ hΦ'
  obtain ⟨df, E1, hR1, _⟩ := hRL
  have key : LeavesInM (Fc none) 0 P fn a.tmps (fun e w' => ∃ v E', e = .returned v ∧ Den D w' E' ret v ∧ Sat D w' E' (q0r H1) ∧ Fr (q3b.here w E H0.length hm) E' w') a.defers .returning w' := by
   refine qb3 hR1 fun w2 E2 hR2 => ?_
   obtain ⟨v, h4, h5⟩ := q8o (P := P) (fn := fn) hT hR2 h1
   obtain ⟨g1, g2, g3⟩ := q59 hR2.sat hR2.fr h3
   exact ⟨v, h4, v, _, rfl, q7i hR2.sat g1 _ _ _ h2 h5, g2, g3⟩
  rcases he with rfl | rfl
  ·exact key
  ·exact key
theorem z7t (A : Aux C D) (hT : q1z P D tab) {f : FuncId} {fn : Func} {c : Code} (hf : P.funcs[f]? = some fn) (hb : fn.body = some c) (henter : ∀ args w, (callFunc f args).run P w = .ok (.enter f args) w)
  {args : List (SV C)} {H0 : List (HS C)} {H1 : List (HS C)} {ch : List PanicEntry} {Φ : qx3 C} (hΦ : ∀ e T Hp, Φ e T Hp → qy4 ch H0.length H1 e T Hp) (n : Nat)
  (h : q3c (args ++ qq4 (fn.ntmps - args.length)) fun T0 => q2s H0 fun Hp0 => gx P A tab ⟨none, [], H0.length, false⟩ Φ n [.code c] T0 Hp0) : y6h P D f args H0 ch H1 := by
 rw [q1f, q1g] at h
 refine ⟨henter, fun w E hm vs hs hd => ?_⟩
 refine callsIn_of_wp_marks hf hb trivial ?_ rfl
 have hR := q7u (n := fn.ntmps) (m := H0.length) (hm := hm) hs hd
 have hX : qn2 D (⟨none, [], H0.length, false⟩ : Ctx C) (q3b.here w E H0.length hm) none := ⟨rfl, fun c ri hc => by simp [lkR] at hc, trivial, rfl⟩
 have := q58 (r := none) (Q := bodyPostM (Fc none) 0 P fn fun e w' => ∃ E', e = .panicked ch ∧ Sat D w' E' (q0r H1) ∧ Fr (q3b.here w E H0.length hm) E' w') A hT hX
  (fun e a w' T Hp hΦ' hRL => ?_) n _ _ _ h _ _ hR
 ·exact this
 ·obtain ⟨rfl, θ, h3⟩ := hΦ _ _ _ hΦ'
  obtain ⟨df, E1, hR1, _⟩ := hRL
  refine z0e hR1 fun w2 E2 hR2 => ?_
  obtain ⟨g1, g2, g3⟩ := q59 hR2.sat hR2.fr h3
  exact ⟨_, rfl, g2, g3⟩
end
end Go.SX
