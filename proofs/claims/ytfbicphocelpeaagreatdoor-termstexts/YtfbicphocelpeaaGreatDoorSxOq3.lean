/-
  Plain: the words of the parts of a goal.
-/
import Derived.Test.YtfbicphocelpeaaGreatDoorSxTe3
import Derived.Lib.Bytealg
set_option linter.unusedVariables false
set_option linter.unusedSimpArgs false
namespace Go.SX
theorem jP (g : aI) : aP g = if g.kind = 1 then xV g else if g.kind = 2 ∨ g.kind = 3 ∨ g.kind = 4 then iG g ++ firstW g.kids else [if g.kind = 5 then uU else mZ, pU] ++ kidsW (decide (g.kind = 6)) true g.cents g.kids ++ [cP] := by
 cases g; rw [aP]
theorem pS (any : Bool) : ∀ (a b : List aI) (f : Bool) (c : List Int), kidsW any f c (a ++ b) = kidsW any f c a ++ kidsW any (f && a.isEmpty) (c.drop a.length) b
 | [], b, f, c => by simp [kidsW]
 | k :: a, b, f, c => by
  rw [List.cons_append, kidsW, kidsW, pS any a b false c.tail];simp [List.append_assoc]
theorem Nh (any : Bool) (a : List aI) (k : aI) (c : List Int) : kidsW any true c (a ++ [k]) = kidsW any true c a ++ ((if a.isEmpty then [] else [cG]) ++ (if any then [bJ (c.getD a.length 0)] else []) ++ aP k) := by
 rw [pS, kidsW, kidsW];have : (c.drop a.length).headD 0 = c.getD a.length 0 := by
  rw [List.getD_eq_getElem?_getD, List.headD_eq_head?_getD, List.head?_drop]
 rw [this];simp
theorem I2 (any : Bool) (c : List Int) (l : List aI) (i : Nat) : (kidsW any true c (l.take i)).length ≤ (kidsW any true c l).length := by
 have : kidsW any true c l = kidsW any true c (l.take i) ++ kidsW any (true && (l.take i).isEmpty) (c.drop (l.take i).length) (l.drop i) := by rw [← pS, List.take_append_drop]
 rw [this]; simp
theorem eX {g : aI} {d n : Int} (h : bQ g d = some n) : d ≤ 4 ∧ okB g = true ∧ ∃ m, sizeL g.kids (d + 1) = some m ∧ n = 1 + m := by
 rw [fY] at h;split at h
 ·cases h
 ·rename_i hc;simp only [Bool.or_eq_true, decide_eq_true_eq, Bool.not_eq_true', not_or, Bool.not_eq_false] at hc;refine ⟨by omega, hc.2, ?_⟩;cases hs : sizeL g.kids (d + 1) with
  | none => rw [hs] at h; cases h
  | some m => rw [hs] at h; injection h with h; exact ⟨m, rfl, h.symm⟩
theorem Ar : ∀ {l : List aI} {d m : Int} {k : aI}, sizeL l d = some m → k ∈ l → ∃ n, bQ k d = some n
 | [], d, m, k, h, hk => by cases hk
 | a :: l, d, m, k, h, hk => by
  rw [sizeL] at h;cases ha : bQ a d with
  | none => rw [ha] at h; cases h
  | some x =>
   rw [ha] at h;cases hl : sizeL l d with
   | none => rw [hl] at h; cases h
   | some y =>
    rcases List.mem_cons.1 hk with rfl | hk
    ·exact ⟨x, ha⟩
    ·exact Ar hl hk
structure OkG (g : aI) : Prop where
 kind : 1 ≤ g.kind ∧ g.kind ≤ 6
 lim : vZ g = true
 plain : kC g (oU g) = true
 parts : eU g = true
theorem okG {g : aI} (h : okB g = true) : OkG g := by
 simp only [okB, Bool.and_eq_true] at h;exact ⟨(aK _ _ _).1 h.1.1.1, h.1.2, h.1.1.2, h.2⟩
theorem OkG.see {g : aI} (h : OkG g) (hk : g.kind = 1) : bE g.rows = true ∧ (0 ≤ g.from_ ∧ g.from_ ≤ 1000000) ∧ (g.from_ + 1 ≤ g.to_ ∧ g.to_ ≤ 1000000) ∧ (0 ≤ g.low ∧ g.low ≤ 90) ∧ (g.low ≤ g.high ∧ g.high ≤ 90) ∧ g.kids = [] ∧ g.cents = [] := by
 have h1 := h.lim;have h2 := h.parts;unfold vZ at h1;rw [if_pos hk] at h1;simp only [Bool.and_eq_true, aK] at h1;simp only [eU, mY, iB, hk, if_pos, Bool.and_eq_true] at h2;simp only [show ¬ ((1 : Int) = 6) by decide, if_neg, decide_eq_true_eq, not_false_iff] at h2;obtain ⟨⟨⟨h3, h4⟩, _⟩, _⟩ := h2;exact ⟨h1.1.1.1.1.1, h1.1.1.1.2, h1.1.1.2, h1.1.2, h1.2, List.eq_nil_of_length_eq_zero (by simpa using h3), List.eq_nil_of_length_eq_zero (by simpa using h4)⟩
theorem OkG.one {g : aI} (h : OkG g) (hk : g.kind = 2 ∨ g.kind = 3 ∨ g.kind = 4) : g.kids.length = 1 ∧ g.cents = [] := by
 have h2 := h.parts;have n1 : ¬ g.kind = 1 := by omega
 have n2 : ¬ (g.kind = 5 ∨ g.kind = 6) := by omega
 have n3 : ¬ g.kind = 6 := by omega
 simp only [eU, mY, iB, if_neg n1, if_neg n2, if_neg n3, Bool.and_eq_true, decide_eq_true_eq] at h2;obtain ⟨⟨⟨h3, h4⟩, _⟩, _⟩ := h2;exact ⟨by omega, List.eq_nil_of_length_eq_zero (by omega)⟩
theorem OkG.many {g : aI} (h : OkG g) (hk : g.kind = 5 ∨ g.kind = 6) : 2 ≤ g.kids.length ∧ g.kids.length ≤ 4 ∧ (g.kind = 6 → g.cents.length = g.kids.length ∧ ∀ c ∈ g.cents, 0 ≤ c ∧ c ≤ 1000000000) ∧ (g.kind = 5 → g.cents = []) := by
 have h2 := h.parts;have n1 : ¬ g.kind = 1 := by omega
 simp only [eU, mY, iB, if_neg n1, if_pos hk, Bool.and_eq_true, aK] at h2;obtain ⟨⟨⟨h3, h4⟩, _⟩, _⟩ := h2;refine ⟨by omega, by omega, fun h6 => ?_, fun h5 => ?_⟩
 ·rw [if_pos h6] at h4;simp only [Bool.and_eq_true, decide_eq_true_eq, Bool.not_eq_true', List.any_eq_false] at h4;refine ⟨by omega, fun c hc => ?_⟩;have := h4.2 c hc;exact (aK _ _ _).1 (by simpa using this)
 ·rw [if_neg (by omega)] at h4;simp only [decide_eq_true_eq] at h4;exact List.eq_nil_of_length_eq_zero (by omega)
theorem OkG.lim2 {g : aI} (h : OkG g) (hk : g.kind = 2) : (1 ≤ g.low ∧ g.low ≤ 8) ∧ (1 ≤ g.within ∧ g.within ≤ 1000000) := by
 have h1 := h.lim;unfold vZ at h1;rw [if_neg (by omega), if_pos hk] at h1;simpa only [Bool.and_eq_true, aK] using h1
theorem OkG.lim3 {g : aI} (h : OkG g) (hk : g.kind = 3) : (1 ≤ g.days ∧ g.days ≤ 60) ∧ (1 ≤ g.times ∧ g.times ≤ 6) ∧ (0 ≤ g.within ∧ g.within ≤ 1440 * g.days) ∧ (0 ≤ g.from_ ∧ g.from_ ≤ 1000000) := by
 have h1 := h.lim;unfold vZ at h1;rw [if_neg (by omega), if_neg (by omega), if_pos hk] at h1;simp only [Bool.and_eq_true, aK] at h1;exact ⟨h1.1.1.1, h1.1.1.2, h1.1.2, h1.2⟩
theorem OkG.lim4 {g : aI} (h : OkG g) (hk : g.kind = 4) : 0 ≤ g.within ∧ g.within ≤ 1000000 := by
 have h1 := h.lim;unfold vZ at h1;rw [if_neg (by omega), if_neg (by omega), if_neg (by omega), if_pos hk] at h1;simpa only [aK] using h1
end Go.SX
namespace Go.SX
open Go.Proofs
set_option maxHeartbeats 400000000
set_option maxRecDepth 100000
theorem q9l (m : Nat) (g : aI) (hk : g.kind = 1) (hG : Lx g) (hr : bE g.rows = true) (ws : List Wd) (hm : m = ws.length) (hn : m + (xV g).length ≤ 100000)
  (hbd : ∀ n ∈ [g.from_, g.to_, g.low, g.high], -9223372036854775808 ≤ n ∧ n ≤ 9223372036854775807) :
  aF Tryz.prog Dc 25 [.ptr 0 0, aM g] (wZ m ws) (.tuple []) (K5 (m + (xV g).length) (ws ++ xV g)) := by
 subst hm; exact qc4 g hk hG hr ws hn hbd
theorem qe1 (g : aI) (m : Nat) (ws : List Wd) (hm : m = ws.length) (hok : OkG g) (hkl : (g.kids.length : Int) = 1) (hn : m + (iG g).length + (aP (g.kids.getD (Int.toNat 0) (Cd.dflt U.goal))).length ≤ 100000) (hk : g.kind = 2 ∨ g.kind = 3 ∨ g.kind = 4)
  (ih : ∀ (m : Nat) (ws : List Wd), m = ws.length → m + (aP (g.kids.getD (Int.toNat 0) (Cd.dflt U.goal))).length ≤ 100000 → aF Tryz.prog Dc 25 [.ptr 0 0, aM (g.kids.getD (Int.toNat 0) (Cd.dflt U.goal))] (wZ m ws) (.tuple []) (K5 (m + (aP (g.kids.getD (Int.toNat 0) (Cd.dflt U.goal))).length) (ws ++ aP (g.kids.getD (Int.toNat 0) (Cd.dflt U.goal))))) :
  aF Tryz.prog Dc 25 [.ptr 0 0, aM g] (wZ m ws) (.tuple []) (K5 (m + (iG g).length + (aP (g.kids.getD (Int.toNat 0) (Cd.dflt U.goal))).length) (ws ++ iG g ++ aP (g.kids.getD (Int.toNat 0) (Cd.dflt U.goal)))) := by
 rcases hk with hk | hk | hk
 ·obtain ⟨b1, b2⟩ := hok.lim2 hk;have hL : List.map cX [bN.s lL, .s lU, .n g.low, .s cM, .n g.within, .s tK] = iG g := by unfold iG; rw [if_pos hk]; rfl
  have hlen : (iG g).length = 6 := by rw [← hL]; rfl
  have p1 := Im m [bN.s lL, .s lU, .n g.low, .s cM, .n g.within, .s tK] _ _ rfl ws (fun x hx => by
   simp at hx; rcases hx with rfl | rfl | rfl | rfl | rfl | rfl <;> simp only [rM] <;> omega) hm (by simp; omega)
  have p2 := ih (m + [bN.s lL, .s lU, .n g.low, .s cM, .n g.within, .s tK].length) (ws ++ List.map cX [bN.s lL, .s lU, .n g.low, .s cM, .n g.within, .s tK]) (by rw [List.length_append, List.length_map, hm]) (by have h := hn; rw [hlen] at h; exact h);have hfin : ws ++ List.map cX [bN.s lL, .s lU, .n g.low, .s cM, .n g.within, .s tK] ++ aP (g.kids.getD (Int.toNat 0) (Cd.dflt U.goal)) = ws ++ iG g ++ aP (g.kids.getD (Int.toNat 0) (Cd.dflt U.goal)) := by rw [hL]
  clear ih hok;refine aA Ax aD Tryz.func25 (c := _) rfl Tryz.call25 600 ?_
  (repeat' ((conv => whnf); first | (exfalso; omega) | refine chC [some 0, some 1, some 4] p1 ?_ | (refine cI [some 0, some 5] p2 rfl rfl ⟨rfl, rfl, trivial⟩ ?_) | (refine aZ [some 0, some 1, some 6] (.inl rfl) ?_ ?_ rfl rfl; (focus exact vwV); exact hsW) | refine spC (fun hb => ?_) fun hb => ?_ | refine taC ?_ | refine saC ?_ | refine aE mixed ?_))
 ·obtain ⟨b1, b2, b3, b4⟩ := hok.lim3 hk;have hL : List.map cX [bN.s gV, .n g.days, .s rT, .n g.times, .s mA, .s lY, .n g.within, .s gM, .n g.from_, .s tK] = iG g := by unfold iG; rw [if_neg (by omega), if_pos hk]; rfl
  have hlen : (iG g).length = 10 := by rw [← hL]; rfl
  have p1 := Im m [bN.s gV, .n g.days, .s rT, .n g.times, .s mA, .s lY, .n g.within, .s gM, .n g.from_, .s tK] _ _ rfl ws (fun x hx => by
   simp at hx; rcases hx with rfl | rfl | rfl | rfl | rfl | rfl | rfl | rfl | rfl | rfl <;> simp only [rM] <;> omega) hm (by simp; omega)
  have p2 := ih (m + [bN.s gV, .n g.days, .s rT, .n g.times, .s mA, .s lY, .n g.within, .s gM, .n g.from_, .s tK].length) (ws ++ List.map cX [bN.s gV, .n g.days, .s rT, .n g.times, .s mA, .s lY, .n g.within, .s gM, .n g.from_, .s tK]) (by rw [List.length_append, List.length_map, hm]) (by have h := hn; rw [hlen] at h; exact h);have hfin : ws ++ List.map cX [bN.s gV, .n g.days, .s rT, .n g.times, .s mA, .s lY, .n g.within, .s gM, .n g.from_, .s tK] ++ aP (g.kids.getD (Int.toNat 0) (Cd.dflt U.goal)) = ws ++ iG g ++ aP (g.kids.getD (Int.toNat 0) (Cd.dflt U.goal)) := by rw [hL]
  clear ih hok;refine aA Ax aD Tryz.func25 (c := _) rfl Tryz.call25 600 ?_
  (repeat' ((conv => whnf); first | (exfalso; omega) | refine chC [some 0, some 1, some 4] p1 ?_ | (refine cI [some 0, some 5] p2 rfl rfl ⟨rfl, rfl, trivial⟩ ?_) | (refine aZ [some 0, some 1, some 6] (.inl rfl) ?_ ?_ rfl rfl; (focus exact vwV); exact hsW) | refine spC (fun hb => ?_) fun hb => ?_ | refine taC ?_ | refine saC ?_ | refine aE mixed ?_))
 ·obtain ⟨b1, b2⟩ := hok.lim4 hk;have hL : List.map cX [bN.s dF, .s cM, .n g.within, .s tK] = iG g := by unfold iG; rw [if_neg (by omega), if_neg (by omega)]; rfl
  have hlen : (iG g).length = 4 := by rw [← hL]; rfl
  have p1 := Im m [bN.s dF, .s cM, .n g.within, .s tK] _ _ rfl ws (fun x hx => by
   simp at hx; rcases hx with rfl | rfl | rfl | rfl <;> simp only [rM] <;> omega) hm (by simp; omega)
  have p2 := ih (m + [bN.s dF, .s cM, .n g.within, .s tK].length) (ws ++ List.map cX [bN.s dF, .s cM, .n g.within, .s tK]) (by rw [List.length_append, List.length_map, hm]) (by have h := hn; rw [hlen] at h; exact h);have hfin : ws ++ List.map cX [bN.s dF, .s cM, .n g.within, .s tK] ++ aP (g.kids.getD (Int.toNat 0) (Cd.dflt U.goal)) = ws ++ iG g ++ aP (g.kids.getD (Int.toNat 0) (Cd.dflt U.goal)) := by rw [hL]
  clear ih hok;refine aA Ax aD Tryz.func25 (c := _) rfl Tryz.call25 600 ?_
  (repeat' ((conv => whnf); first | (exfalso; omega) | refine chC [some 0, some 1, some 4] p1 ?_ | (refine cI [some 0, some 5] p2 rfl rfl ⟨rfl, rfl, trivial⟩ ?_) | (refine aZ [some 0, some 1, some 6] (.inl rfl) ?_ ?_ rfl rfl; (focus exact vwV); exact hsW) | refine spC (fun hb => ?_) fun hb => ?_ | refine taC ?_ | refine saC ?_ | refine aE mixed ?_))
def cC (g : aI) (ws : List Wd) (i : Nat) : List Wd := ws ++ [if (decide (g.kind = 5)) = true then uU else mZ] ++ [pU] ++ kidsW (decide (g.kind = 6)) true g.cents (g.kids.take i)
theorem Nj (g : aI) (ws : List Wd) {i : Nat} (h : i < g.kids.length) : cC g ws (i + 1) = cC g ws i ++ ((if i = 0 then [] else [cG]) ++ (if g.kind = 6 then [bJ (g.cents.getD i 0)] else []) ++ aP (g.kids.getD (i : Int).toNat (Cd.dflt U.goal))) := by
 unfold cC;rw [uE (d := Cd.dflt U.goal) h, Nh, List.length_take, Nat.min_eq_left (by omega)];have e1 : (g.kids.take i).isEmpty = decide (i = 0) := by
  cases i with
  | zero => simp
  | succ i => cases hk : g.kids with
   | nil => rw [hk] at h; simp at h
   | cons a l => simp
 rw [e1];have e2 : g.kids.getD (i : Int).toNat (Cd.dflt U.goal) = g.kids.getD i (Cd.dflt U.goal) := rfl;rw [e2]
 by_cases h0 : i = 0 <;> by_cases h6 : g.kind = 6 <;> simp [h0, h6, List.append_assoc]
theorem q9j (g : aI) (m : Nat) (ws : List Wd) (hm : m = ws.length) (hok : OkG g) (hn : m + (aP g).length ≤ 100000) (hk : g.kind = 5 ∨ g.kind = 6)
  (ih : ∀ k ∈ g.kids, ∀ (m : Nat) (ws : List Wd), m = ws.length → m + (aP k).length ≤ 100000 → aF Tryz.prog Dc 25 [.ptr 0 0, aM k] (wZ m ws) (.tuple []) (K5 (m + (aP k).length) (ws ++ aP k))) :
  aF Tryz.prog Dc 25 [.ptr 0 0, aM g] (wZ m ws) (.tuple []) (K5 (m + (aP g).length) (ws ++ aP g)) := by
 obtain ⟨k2, k4, hc6, hc5⟩ := hok.many hk;have hend : cC g ws g.kids.length ++ [cP] = ws ++ aP g := by
  rw [jP, if_neg (by omega), if_neg (by omega)];unfold cC;rw [List.take_length];rcases hk with hk | hk <;> simp [hk, List.append_assoc]
 have hendl := congrArg List.length hend;rw [List.length_append, List.length_append] at hendl;have hpre : ∀ i, i ≤ g.kids.length → (cC g ws i).length ≤ (cC g ws g.kids.length).length := fun i _ => by
  unfold cC;have := I2 (decide (g.kind = 6)) g.cents g.kids i;rw [List.take_length];simp only [List.length_append];omega
 have p1 := S6 m (decide (g.kind = 5)) uU mZ ws hm (by omega);have p2 := Im (m + 1) [.s pU] _ _ rfl (ws ++ [if (decide (g.kind = 5)) = true then uU else mZ]) (fun x hx => by simp at hx; subst hx; trivial) (by rw [List.length_append, hm]; rfl) (by simp; omega);have w0 : ws ++ [if (decide (g.kind = 5)) = true then uU else mZ] ++ List.map cX [bN.s pU] = cC g ws 0 := by simp [cC, kidsW, cX]
 have w0l : (cC g ws 0).length = m + 2 := by rw [← w0, hm]; simp
 have p9 : ∀ i, i = g.kids.length → aF Tryz.prog Dc 23 [.ptr 0 0, .slice 2 0 1 0 [bN.s cP].length] (q7l (cC g ws i).length (cC g ws i) [.s cP]) (.tuple []) (q9c ((cC g ws i).length + [bN.s cP].length) (cC g ws i ++ List.map cX [bN.s cP]) [.s cP]) := fun i hi =>
  Im (cC g ws i).length [.s cP] _ _ rfl (cC g ws i) (fun x hx => by simp at hx; subst hx; trivial) rfl (by have := hpre i (by omega); simp at *; omega)
 refine aA Ax aD Tryz.func25 (c := _) rfl Tryz.call25 600 ?_
 (repeat' ((conv => whnf); first | (exfalso; omega) | refine chC [some 0, some 1] p1 ?_ | refine chC [some 0, some 4, some 5] p2 ?_ | refine spC (fun hb => ?_) fun hb => ?_ | refine saC ?_))
 refine bP (fun i : Nat => [(24, iS i)]) (fun i => [(0, .vart none [.slice 6 0 1 0 (cC g ws i).length]), (6, .rows U.str (cC g ws i))]) (fun i => i ≤ g.kids.length) (fun i => g.kids.length - i) 0 (Nat.zero_le _) (by exact bkW) ?_;intro i hi K hK;rcases Nat.lt_or_ge i g.kids.length with hlt | hge
 ·have hmem : g.kids.getD (i : Int).toNat (Cd.dflt U.goal) ∈ g.kids := List.mem_of_getElem? (getD_some (d := Cd.dflt U.goal) hlt);have hs := Nj g ws hlt;have hsl := congrArg List.length hs;have hp1 := hpre (i + 1) hlt;have ihk := ih _ hmem;clear ih p1 p2 p9;have hcb : ∀ hk6 : g.kind = 6, rM (.n (g.cents.getD (i : Int).toNat (Cd.dflt U.int))) := fun hk6 => by
   have := (hc6 hk6).2 _ (List.mem_of_getElem? (getD_some (d := Cd.dflt U.int) (show i < g.cents.length by have := (hc6 hk6).1; omega)));exact ⟨Int.le_trans (by decide) this.1, Int.le_trans this.2 (by decide)⟩
  have hcl : g.kind = 6 → g.cents.length = g.kids.length := fun h => (hc6 h).1;clear hsl;have hl1 : [cP].length = 1 := rfl;cases i with
  | zero =>
   rcases hk with hk | hk
   ·have hsl : (cC g ws (0 + 1)).length = (cC g ws (0)).length + 0 + (aP (g.kids.getD ((0 : Nat) : Int).toNat (Cd.dflt U.goal))).length := by rw [hs]; simp [hk]; try omega
    have hq : ((cC g ws 0).length) + (aP (g.kids.getD ((0 : Nat) : Int).toNat (Cd.dflt U.goal))).length ≤ 100000 := by (show ((cC g ws 0).length) + (aP (g.kids.getD ((0 : Nat) : Int).toNat (Cd.dflt U.goal))).length ≤ 100000; omega)
    have qg := ihk ((cC g ws 0).length) ((cC g ws 0)) (by simp) hq;have hfin : (cC g ws 0) ++ aP (g.kids.getD ((0 : Nat) : Int).toNat (Cd.dflt U.goal)) = cC g ws (0 + 1) := by rw [hs]; simp [hk, List.append_assoc]
    have hfl := congrArg List.length hfin;simp only [List.length_append, List.length_map] at hfl;clear ihk
    (repeat' ((conv => whnf); first | (exfalso; omega) | refine chC [some 0, some 6] qg ?_ | refine hK (0 + 1) [some 0, some 1, some 2, some 3, some 4, some 5, some 8] _ _ ⟨by omega⟩ ⟨by omega⟩ (by exact bkW) | refine spC (fun hb => ?_) fun hb => ?_ | refine saC ?_))
   ·have hcb := hcb hk;have hcl := hcl hk;have hsl : (cC g ws (0 + 1)).length = (cC g ws (0)).length + 1 + (aP (g.kids.getD ((0 : Nat) : Int).toNat (Cd.dflt U.goal))).length := by rw [hs]; simp [hk]; try omega
    have q0 := Im ((cC g ws 0).length) [bN.n (g.cents.getD ((0 : Nat) : Int).toNat (Cd.dflt U.int))] _ _ rfl ((cC g ws 0)) (fun x hx => by simp at hx; subst hx; exact hcb) (by simp) (by simp only [List.length_cons, List.length_nil]; omega);have hq : ((cC g ws 0).length + [bN.n (g.cents.getD ((0 : Nat) : Int).toNat (Cd.dflt U.int))].length) + (aP (g.kids.getD ((0 : Nat) : Int).toNat (Cd.dflt U.goal))).length ≤ 100000 := by (show ((cC g ws 0).length + 1) + (aP (g.kids.getD ((0 : Nat) : Int).toNat (Cd.dflt U.goal))).length ≤ 100000; omega)
    have qg := ihk ((cC g ws 0).length + [bN.n (g.cents.getD ((0 : Nat) : Int).toNat (Cd.dflt U.int))].length) ((cC g ws 0) ++ List.map cX [bN.n (g.cents.getD ((0 : Nat) : Int).toNat (Cd.dflt U.int))]) (by simp) hq;have hfin : (cC g ws 0) ++ List.map cX [bN.n (g.cents.getD ((0 : Nat) : Int).toNat (Cd.dflt U.int))] ++ aP (g.kids.getD ((0 : Nat) : Int).toNat (Cd.dflt U.goal)) = cC g ws (0 + 1) := by rw [hs]; simp [hk, cX, List.append_assoc]; try rfl
    have hfl := congrArg List.length hfin;simp only [List.length_append, List.length_map] at hfl;clear ihk
    (repeat' ((conv => whnf); first | (exfalso; omega) | (refine cI [some 0, some 6, some 8] q0 rfl rfl ⟨rfl, rfl, rfl, trivial⟩ ?_) | refine chC [some 0, some 9] qg ?_ | refine hK (0 + 1) [some 0, some 1, some 2, some 3, some 4, some 5, some 10] _ _ ⟨by omega⟩ ⟨by omega⟩ (by exact bkW) | refine spC (fun hb => ?_) fun hb => ?_ | refine taC ?_ | refine saC ?_ | refine aE mixed ?_))
  | succ i =>
   rcases hk with hk | hk
   ·have hsl : (cC g ws (i + 1 + 1)).length = (cC g ws (i + 1)).length + 1 + (aP (g.kids.getD ((i + 1 : Nat) : Int).toNat (Cd.dflt U.goal))).length := by rw [hs]; simp [hk]; try omega
    have q0 := Im ((cC g ws (i + 1)).length) [bN.s cG] _ _ rfl ((cC g ws (i + 1))) (fun x hx => by simp at hx; subst hx; trivial) (by simp) (by simp only [List.length_cons, List.length_nil]; omega);have hq : ((cC g ws (i + 1)).length + [bN.s cG].length) + (aP (g.kids.getD ((i + 1 : Nat) : Int).toNat (Cd.dflt U.goal))).length ≤ 100000 := by (show ((cC g ws (i + 1)).length + 1) + (aP (g.kids.getD ((i + 1 : Nat) : Int).toNat (Cd.dflt U.goal))).length ≤ 100000; omega)
    have qg := ihk ((cC g ws (i + 1)).length + [bN.s cG].length) ((cC g ws (i + 1)) ++ List.map cX [bN.s cG]) (by simp) hq;have hfin : (cC g ws (i + 1)) ++ List.map cX [bN.s cG] ++ aP (g.kids.getD ((i + 1 : Nat) : Int).toNat (Cd.dflt U.goal)) = cC g ws (i + 1 + 1) := by rw [hs]; simp [hk, cX, List.append_assoc]; try rfl
    have hfl := congrArg List.length hfin;simp only [List.length_append, List.length_map] at hfl;clear ihk
    (repeat' ((conv => whnf); first | (exfalso; omega) | refine chC [some 0, some 6, some 8] q0 ?_ | refine chC [some 0, some 9] qg ?_ | refine hK (i + 1 + 1) [some 0, some 1, some 2, some 3, some 4, some 5, some 10] _ _ ⟨by omega⟩ ⟨by omega⟩ (by exact bkW) | refine spC (fun hb => ?_) fun hb => ?_ | refine saC ?_))
   ·have hcb := hcb hk;have hcl := hcl hk;have hsl : (cC g ws (i + 1 + 1)).length = (cC g ws (i + 1)).length + 2 + (aP (g.kids.getD ((i + 1 : Nat) : Int).toNat (Cd.dflt U.goal))).length := by rw [hs]; simp [hk]; try omega
    have q0 := Im ((cC g ws (i + 1)).length) [bN.s cG] _ _ rfl ((cC g ws (i + 1))) (fun x hx => by simp at hx; subst hx; trivial) (by simp) (by simp only [List.length_cons, List.length_nil]; omega);have q1 := Im ((cC g ws (i + 1)).length + [bN.s cG].length) [bN.n (g.cents.getD ((i + 1 : Nat) : Int).toNat (Cd.dflt U.int))] _ _ rfl ((cC g ws (i + 1)) ++ List.map cX [bN.s cG]) (fun x hx => by simp at hx; subst hx; exact hcb) (by simp) (by simp only [List.length_cons, List.length_nil]; omega);have hq : ((cC g ws (i + 1)).length + [bN.s cG].length + [bN.n (g.cents.getD ((i + 1 : Nat) : Int).toNat (Cd.dflt U.int))].length) + (aP (g.kids.getD ((i + 1 : Nat) : Int).toNat (Cd.dflt U.goal))).length ≤ 100000 := by (show ((cC g ws (i + 1)).length + 1 + 1) + (aP (g.kids.getD ((i + 1 : Nat) : Int).toNat (Cd.dflt U.goal))).length ≤ 100000; omega)
    have qg := ihk ((cC g ws (i + 1)).length + [bN.s cG].length + [bN.n (g.cents.getD ((i + 1 : Nat) : Int).toNat (Cd.dflt U.int))].length) ((cC g ws (i + 1)) ++ List.map cX [bN.s cG] ++ List.map cX [bN.n (g.cents.getD ((i + 1 : Nat) : Int).toNat (Cd.dflt U.int))]) (by simp) hq;have hfin : (cC g ws (i + 1)) ++ List.map cX [bN.s cG] ++ List.map cX [bN.n (g.cents.getD ((i + 1 : Nat) : Int).toNat (Cd.dflt U.int))] ++ aP (g.kids.getD ((i + 1 : Nat) : Int).toNat (Cd.dflt U.goal)) = cC g ws (i + 1 + 1) := by rw [hs]; simp [hk, cX, List.append_assoc]; try rfl
    have hfl := congrArg List.length hfin;simp only [List.length_append, List.length_map] at hfl;clear ihk
    (repeat' ((conv => whnf); first | (exfalso; omega) | refine chC [some 0, some 6, some 8] q0 ?_ | (refine cI [some 0, some 9, some 10] q1 rfl rfl ⟨rfl, rfl, rfl, trivial⟩ ?_) | refine chC [some 0, some 11] qg ?_ | refine hK (i + 1 + 1) [some 0, some 1, some 2, some 3, some 4, some 5, some 12] _ _ ⟨by omega⟩ ⟨by omega⟩ (by exact bkW) | refine spC (fun hb => ?_) fun hb => ?_ | refine taC ?_ | refine saC ?_ | refine aE mixed ?_))
 ·obtain rfl : i = g.kids.length := by omega
  have q := p9 _ rfl;clear p1 p2 p9 ih;have hfin : cC g ws g.kids.length ++ List.map cX [bN.s cP] = ws ++ aP g := hend;have hl1 : [cP].length = 1 := rfl
  (repeat' ((conv => whnf); first | (exfalso; omega) | refine chC [some 0, some 6, some 7] q ?_ | (refine aZ [some 0, some 1, some 8] (.inr rfl) ?_ ?_ rfl rfl; (focus exact vwV); exact hsW) | refine spC (fun hb => ?_) fun hb => ?_ | refine saC ?_))
theorem q3v : ∀ (j : Nat) (g : aI) (d n : Int), d + j = 5 → bQ g d = some n → pX g → ∀ (m : Nat) (ws : List Wd), m = ws.length → m + (aP g).length ≤ 100000 →
  aF Tryz.prog Dc 25 [.ptr 0 0, aM g] (wZ m ws) (.tuple []) (K5 (m + (aP g).length) (ws ++ aP g))
 | 0, g, d, n, hd, hs, hG, m, ws, hm, hn => by
  have := (eX hs).1;omega
 | j + 1, g, d, n, hd, hs, hG, m, ws, hm, hn => by
  obtain ⟨h4, hok, q, hq, _⟩ := eX hs;have hO := okG hok;have hG' := (dJ g).1 hG;have ih : ∀ k ∈ g.kids, ∀ (m : Nat) (ws : List Wd), m = ws.length → m + (aP k).length ≤ 100000 → aF Tryz.prog Dc 25 [.ptr 0 0, aM k] (wZ m ws) (.tuple []) (K5 (m + (aP k).length) (ws ++ aP k)) := fun k hk m ws hm hn => by
   obtain ⟨z, hz⟩ := Ar hq hk;exact q3v j k (d + 1) z (by omega) hz (dS hG'.2 hk) m ws hm hn
  have hkind := hO.kind
  by_cases k1 : g.kind = 1
  ·obtain ⟨s1, s2, s3, s4, s5, _, _⟩ := hO.see k1;have e : aP g = xV g := by rw [jP, if_pos k1]
   rw [e] at hn ⊢;refine q9l m g k1 hG'.1 s1 ws hm hn fun n hn => ?_;simp at hn;rcases hn with rfl | rfl | rfl | rfl <;> omega
  ·by_cases k2 : g.kind = 2 ∨ g.kind = 3 ∨ g.kind = 4
   ·obtain ⟨o1, _⟩ := hO.one k2;have e : aP g = iG g ++ aP (g.kids.getD (Int.toNat 0) (Cd.dflt U.goal)) := by
     rw [jP, if_neg k1, if_pos k2];cases hk : g.kids with
     | nil => rw [hk] at o1; simp at o1
     | cons a l => rw [firstW]; rfl
    rw [e] at hn ⊢;rw [List.length_append] at hn ⊢;have hmem : g.kids.getD (Int.toNat 0) (Cd.dflt U.goal) ∈ g.kids := by
     cases hk : g.kids with
     | nil => rw [hk] at o1; simp at o1
     | cons a l => exact List.mem_cons_self ..
    rw [← Nat.add_assoc] at hn ⊢;rw [← List.append_assoc];exact qe1 g m ws hm hO (by omega) hn k2 (ih _ hmem)
   ·exact q9j g m ws hm hO hn (by omega) ih
end Go.SX
namespace Go.SX
theorem D8 : ∀ f n : Nat, (mQ f n).length ≤ f
 | 0, n => Nat.le_refl _
 | f + 1, n => by
  unfold mQ;split
  ·simp
  ·have := D8 f (n / 10); simp; exact this
theorem bR (n : Int) : (bJ n).length ≤ 21 := by
 unfold bJ;split
 ·have := D8 20 n.natAbs; simp only [List.length_cons]; omega
 ·have := D8 20 n.toNat; omega
def Sh (l : List Wd) : Prop := ∀ w ∈ l, w.length ≤ 21
theorem Sh.nil : Sh [] := fun w h => by cases h
theorem Sh.cons {w : Wd} {l : List Wd} (h : w.length ≤ 21) (hl : Sh l) : Sh (w :: l) := fun x hx => by
 rcases List.mem_cons.1 hx with rfl | hx
 ·exact h
 ·exact hl x hx
theorem Sh.app {a b : List Wd} (h : Sh a) (h' : Sh b) : Sh (a ++ b) := fun x hx => by
 rcases List.mem_append.1 hx with hx | hx
 ·exact h x hx
 ·exact h' x hx
theorem q35 (y : Nat) (p : Nat × Nat) : Sh (M1 y p) := .cons (by decide) (.cons (bR _) (.cons (bR _) (.cons (bR _) .nil)))
theorem Qq {α : Type} (f : α → List Wd) (h : ∀ a, Sh (f a)) : ∀ l : List α, Sh (l.flatMap f)
 | [] => .nil
 | a :: l => by rw [List.flatMap_cons]; exact (h a).app (Qq f h l)
theorem Jw : ∀ (y : Nat) (l : List Int), Sh (gQ y l)
 | _, [] => .nil
 | y, r :: l => (Qq _ (q35 y) _).app (Jw (y + 1) l)
theorem q3b (g : aI) : Sh (xV g) := by
 unfold xV;refine .app (.cons (by decide) (Jw _ _)) (.cons (by decide) (.cons (bR _) (.cons (by decide) (.cons (bR _) (.cons (by decide) (.cons (bR _) (.cons (by decide) (.cons (bR _) (.cons ?_ .nil)))))))));split <;> decide
theorem Zl (g : aI) : Sh (iG g) := by
 unfold iG;split
 ·exact .cons (by decide) (.cons (by decide) (.cons (bR _) (.cons (by decide) (.cons (bR _) (.cons (by decide) .nil)))))
 ·split
  ·exact .cons (by decide) (.cons (bR _) (.cons (by decide) (.cons (bR _) (.cons (by decide) (.cons (by decide) (.cons (bR _) (.cons (by decide) (.cons (bR _) (.cons (by decide) .nil)))))))))
  ·exact .cons (by decide) (.cons (by decide) (.cons (bR _) (.cons (by decide) .nil)))
mutual
theorem Z5 : ∀ g : aI, Sh (aP g)
 | ⟨kind, rows, from_, to_, low, high, clear, days, times, within, cents, kids⟩ => by
  rw [aP];split
  ·exact q3b _
  ·split
   ·exact (Zl _).app (firstW_sh kids)
   ·refine .app (.app (.cons ?_ (.cons (by decide) .nil)) (kidsW_sh _ _ _ kids)) (.cons (by decide) .nil);split <;> decide
theorem firstW_sh : ∀ l : List aI, Sh (firstW l)
 | [] => .nil
 | k :: _ => by rw [firstW]; exact Z5 k
theorem kidsW_sh : ∀ (any first : Bool) (cents : List Int) (l : List aI), Sh (kidsW any first cents l)
 | _, _, _, [] => by rw [kidsW]; exact .nil
 | any, first, cents, k :: l => by
  rw [kidsW];refine .app (.app (.app ?_ ?_) (Z5 k)) (kidsW_sh any false cents.tail l)
  ·split
   ·exact .nil
   ·exact .cons (by decide) .nil
  ·split
   ·exact .cons (bR _) .nil
   ·exact .nil
end
theorem Cc {l : List Wd} (h : Sh l) : (Go.Lib.joinTail [32] l).length ≤ 22 * l.length := by
 unfold Go.Lib.joinTail
 induction l with
 | nil => simp
 | cons w l ih =>
  have h1 := h w (List.mem_cons_self ..);have h2 := ih fun x hx => h x (List.mem_cons_of_mem _ hx);simp only [List.map_cons, List.flatten_cons, List.length_append, List.length_cons, List.length_nil] at *;omega
theorem zU {l : List Wd} (h : Sh l) : (qG l).length ≤ 22 * l.length := by
 unfold qG;cases l with
 | nil => simp [Go.Lib.join_nil]
 | cons w l =>
  rw [Go.Lib.join_cons];have h1 := h w (List.mem_cons_self ..);have h2 := Cc (l := l) fun x hx => h x (List.mem_cons_of_mem _ hx);simp only [List.length_append, List.length_cons];omega
theorem Cl {n : Nat} (h : n < 2 ^ 48) : ∀ j : Nat, 2 ^ j ∣ bO n j
 | 0 => by simp
 | j + 1 => by
  show 2 ^ (j + 1) ∣ jN (bO n j)
  by_cases h0 : bO n j = 0
  ·rw [h0, Q5]; exact Nat.dvd_zero _
  ·have hle := qY (n := n) (by omega) j;obtain ⟨a, b, c⟩ := iY 64 (bO n j) h0 (by omega);have h1 := (uF h0 (by omega)).1;have h2 := Cl h j;have h3 : j ≤ tzF 64 (bO n j) := by
    rcases Nat.lt_or_ge (tzF 64 (bO n j)) j with h4 | h4
    ·exfalso;obtain ⟨q, hq⟩ := Nat.dvd_trans (Nat.pow_dvd_pow 2 (show tzF 64 (bO n j) + 1 ≤ j by omega)) h2;have h5 : bO n j / 2 ^ tzF 64 (bO n j) = 2 * q := Nat.div_eq_of_eq_mul_right (Nat.two_pow_pos _) (by rw [← Nat.mul_assoc, ← Nat.pow_succ]; exact hq);omega
    ·exact h4
   exact Nat.dvd_trans (Nat.pow_dvd_pow 2 (show j + 1 ≤ bF (bO n j) by omega)) ⟨_, Nat.mul_comm _ _⟩
theorem Xl {n : Nat} (h : n < 2 ^ 48) : (dX n).length ≤ 48 := by
 rcases Nat.lt_or_ge 48 (dX n).length with h1 | h1
 ·exfalso;have h2 : bO n 48 ≠ 0 := fun e => by have := Fm (n := n) (j := 48) (by omega) e; omega
  have h3 := Nat.le_of_dvd (by omega) (Cl h 48);have h4 := qY (n := n) (by omega) 48;omega
 ·exact h1
theorem pR (y : Nat) : ∀ l : List (Nat × Nat), (l.flatMap (M1 y)).length = 4 * l.length
 | [] => rfl
 | p :: l => by rw [List.flatMap_cons, List.length_append, pR y l]; simp only [M1, List.length_cons, List.length_nil]; omega
theorem A6 : ∀ (y : Nat) (l : List Int), l.all pW = true → (gQ y l).length ≤ 192 * l.length
 | _, [], _ => by simp [gQ]
 | y, r :: l, h => by
  rw [List.all_cons, Bool.and_eq_true] at h;have h1 := (aK _ _ _).1 h.1;have h2 := A6 (y + 1) l h.2;have h3 := Xl (n := r.toNat) (by omega);rw [gQ, List.length_append, show W5 r.toNat r.toNat = dX r.toNat from rfl, pR, List.length_cons];omega
theorem Wz {g : aI} (h : bE g.rows = true) : (xV g).length ≤ 4700 := by
 simp only [bE, Bool.and_eq_true, decide_eq_true_eq] at h;have := A6 0 g.rows h.2;simp only [xV, List.length_append, List.length_cons, List.length_nil];omega
theorem Fo (g : aI) : (iG g).length ≤ 10 := by
 unfold iG;split
 ·simp
 ·split <;> simp
mutual
theorem uJ : ∀ (g : aI) (d n : Int), bQ g d = some n → ((aP g).length : Int) ≤ 5000 * n ∧ 1 ≤ n
 | ⟨kind, rows, from_, to_, low, high, clear, days, times, within, cents, kids⟩, d, n, h => by
  obtain ⟨_, hok, m, hm, rfl⟩ := eX h;have hO := okG hok;have ih := kidsW_len kids (d + 1) m hm;have hkind := hO.kind;rw [aP]
  by_cases h1 : kind = 1
  ·rw [if_pos h1];have := Wz (hO.see h1).1;omega
  ·rw [if_neg h1]
   by_cases h2 : kind = 2 ∨ kind = 3 ∨ kind = 4
   ·rw [if_pos h2, List.length_append];have := Fo ⟨kind, rows, from_, to_, low, high, clear, days, times, within, cents, kids⟩;have := ih.2.1;omega
   ·rw [if_neg h2];have := ih.1 (decide (kind = 6)) true cents;have := (hO.many (show kind = 5 ∨ kind = 6 by have : (⟨kind, rows, from_, to_, low, high, clear, days, times, within, cents, kids⟩ : aI).kind = kind := rfl; omega)).2.1;have : kids.length ≤ 4 := this;simp only [List.length_append, List.length_cons, List.length_nil];omega
theorem kidsW_len : ∀ (l : List aI) (d m : Int), sizeL l d = some m → (∀ (any first : Bool) (c : List Int), ((kidsW any first c l).length : Int) ≤ 5000 * m + 2 * l.length) ∧ ((firstW l).length : Int) ≤ 5000 * m ∧ 0 ≤ m
 | [], d, m, h => by
  simp [sizeL] at h;subst h;refine ⟨fun a f c => by rw [kidsW]; simp, by rw [firstW]; simp, by omega⟩
 | k :: l, d, m, h => by
  rw [sizeL] at h;cases ha : bQ k d with
  | none => rw [ha] at h; cases h
  | some x =>
   rw [ha] at h;cases hl : sizeL l d with
   | none => rw [hl] at h; cases h
   | some y =>
    rw [hl] at h;injection h with h;subst h;have h1 := uJ k d x ha;have h2 := kidsW_len l d y hl;refine ⟨fun a f c => ?_, by rw [firstW]; omega, by omega⟩;rw [kidsW];have := h2.1 a false c.tail;have e1 : (if f = true then ([] : List Wd) else [cG]).length ≤ 1 := by split <;> simp
    have e2 : (if a = true then [bJ (c.headD 0)] else []).length ≤ 1 := by split <;> simp
    simp only [List.length_append, List.length_cons];omega
end
theorem Gl {g : aI} (h : cF g = true) : (aP g).length ≤ 60000 := by
 unfold cF at h;split at h
 ·cases h
 ·rename_i n hs;have := uJ g 1 n hs;simp only [decide_eq_true_eq] at h;omega
theorem H6 (o : iF) : Sh (dY o) := by
 unfold dY;refine .app (.app (.cons (by decide) (.cons (bR _) (.cons (by decide) (.cons (bR _) (.cons (by decide) (.cons (bR _) (.cons (by decide) (.cons ?_ (.cons ?_ (.cons (by decide) (.cons (bR _) (.cons (by decide) (.cons (bR _) (.cons (by decide) .nil)))))))))))))) (Z5 _)) (.cons (by decide) .nil)
 ·split
  ·decide
  ·exact bR _
 ·split <;> decide
theorem jU (o : iF) : (dY o).length = 15 + (aP o.goal).length := by
 unfold dY; simp only [List.length_append, List.length_cons, List.length_nil]; omega
end Go.SX
namespace Go.SX
open Go.Proofs
set_option maxHeartbeats 400000000
set_option maxRecDepth 100000
structure qe2 (o : iF) : Prop where
 id : 0 ≤ o.id ∧ o.id ≤ 63
 owner : 0 ≤ o.owner ∧ o.owner ≤ 15
 price : 0 ≤ o.price ∧ o.price ≤ 1000000000
 group : -1 ≤ o.group ∧ o.group ≤ 15
 known : 0 ≤ o.known ∧ o.known ≤ 1000000
 due : o.known + 1 ≤ o.due ∧ o.due ≤ 1000000
 goal : cF o.goal = true
theorem Lc (o : iF) : Wu o = true ↔ qe2 o := by
 simp only [Wu, Bool.and_eq_true, aK];constructor
 ·rintro ⟨⟨⟨⟨⟨⟨h1, h2⟩, h3⟩, h4⟩, h5⟩, h6⟩, h7⟩; exact ⟨h1, h2, h3, h4, h5, h6, h7⟩
 ·rintro ⟨h1, h2, h3, h4, h5, h6, h7⟩; exact ⟨⟨⟨⟨⟨⟨h1, h2⟩, h3⟩, h4⟩, h5⟩, h6⟩, h7⟩
theorem Gs {g : aI} (h : cF g = true) : ∃ n, bQ g 1 = some n := by
 unfold cF at h;split at h
 ·cases h
 ·exact ⟨_, by assumption⟩
theorem q1l (n : Nat) (ws : List Wd) (hw : n = ws.length) (hn : ws.length ≤ 140737488355328) (hl : (qG ws).length ≤ 140737488355328) : aF Tryz.prog Dc 26 [.slice 0 0 1 0 n, wS [32]] [.rows U.str ws] (wS (qG ws)) [.rows U.str ws] := by
 subst hw;exact Fq (qa4 ws hn hl) ⟨⟨fzV rfl rfl rfl (by simp) (by simp) rfl, rfl, trivial⟩⟩ rfl
theorem q7a (o : iF) (hG : pX o.goal) : aF Tryz.prog Dc 7 [q8k o] [] (.tuple [wS (xL o).1, iS (xL o).2]) [] := by
 have hv := q67 o hG;cases hb : Wu o with
 | false =>
  rw [hb] at hv;have e : xL o = ([], 130) := by unfold xL; rw [hb]; rfl
  rw [e];refine aA Ax aD Tryz.func7 (c := _) rfl Tryz.call7 300 ?_
  (repeat' ((conv => whnf); first | refine cpC (hv) ?_ | exact enC []))
 | true =>
  rw [hb] at hv;obtain ⟨b1, b2, b3, b4, b5, b6, b7⟩ := (Lc o).1 hb;have e : xL o = (qG (dY o), 0) := by unfold xL; rw [hb]; rfl
  rw [e];have hgl := Gl b7;obtain ⟨n, hn⟩ := Gs b7
  by_cases hg : o.group < 0
  ·have p0 := qb7 [bN.s bK, .n o.id, .s sI, .n o.owner, .s gE, .n o.price, .s bW] _ _ rfl (fun x hx => by
    simp at hx; rcases hx with rfl | rfl | rfl | rfl | rfl | rfl | rfl <;> simp only [rM] <;> omega) (by simp)
   have p1 := Im ([bN.s bK, .n o.id, .s sI, .n o.owner, .s gE, .n o.price, .s bW].length) [bN.s iD] _ _ rfl (List.map cX [bN.s bK, .n o.id, .s sI, .n o.owner, .s gE, .n o.price, .s bW]) (fun x hx => by simp at hx; subst hx; trivial) rfl (by simp);have p2 := S6 ([bN.s bK, .n o.id, .s sI, .n o.owner, .s gE, .n o.price, .s bW].length + [bN.s iD].length) o.urgent eF gC (List.map cX [bN.s bK, .n o.id, .s sI, .n o.owner, .s gE, .n o.price, .s bW] ++ List.map cX [bN.s iD]) rfl (by simp);have p3 := Im ([bN.s bK, .n o.id, .s sI, .n o.owner, .s gE, .n o.price, .s bW].length + [bN.s iD].length + 1) [bN.s dV, .n o.known, .s mU, .n o.due, .s dT] _ _ rfl (List.map cX [bN.s bK, .n o.id, .s sI, .n o.owner, .s gE, .n o.price, .s bW] ++ List.map cX [bN.s iD] ++ [if o.urgent then eF else gC]) (fun x hx => by
    simp at hx; rcases hx with rfl | rfl | rfl | rfl | rfl <;> simp only [rM] <;> omega) rfl (by simp)
   have p4 := q3v 4 o.goal 1 n (by omega) hn hG ([bN.s bK, .n o.id, .s sI, .n o.owner, .s gE, .n o.price, .s bW].length + [bN.s iD].length + 1 + [bN.s dV, .n o.known, .s mU, .n o.due, .s dT].length) (List.map cX [bN.s bK, .n o.id, .s sI, .n o.owner, .s gE, .n o.price, .s bW] ++ List.map cX [bN.s iD] ++ [if o.urgent then eF else gC] ++ List.map cX [bN.s dV, .n o.known, .s mU, .n o.due, .s dT]) rfl (by simp; omega);have p5 := Im ([bN.s bK, .n o.id, .s sI, .n o.owner, .s gE, .n o.price, .s bW].length + [bN.s iD].length + 1 + [bN.s dV, .n o.known, .s mU, .n o.due, .s dT].length + (aP o.goal).length) [bN.s rN] _ _ rfl (List.map cX [bN.s bK, .n o.id, .s sI, .n o.owner, .s gE, .n o.price, .s bW] ++ List.map cX [bN.s iD] ++ [if o.urgent then eF else gC] ++ List.map cX [bN.s dV, .n o.known, .s mU, .n o.due, .s dT] ++ aP o.goal) (fun x hx => by simp at hx; subst hx; trivial) (by simp; omega) (by simp; omega);have hF : List.map cX [bN.s bK, .n o.id, .s sI, .n o.owner, .s gE, .n o.price, .s bW] ++ List.map cX [bN.s iD] ++ [if o.urgent then eF else gC] ++ List.map cX [bN.s dV, .n o.known, .s mU, .n o.due, .s dT] ++ aP o.goal ++ List.map cX [bN.s rN] = dY o := by unfold dY; rw [if_pos hg]; simp [cX]
   have kj := q1l ([bN.s bK, .n o.id, .s sI, .n o.owner, .s gE, .n o.price, .s bW].length + [bN.s iD].length + 1 + [bN.s dV, .n o.known, .s mU, .n o.due, .s dT].length + (aP o.goal).length + [bN.s rN].length) (dY o) (by rw [← hF]; simp; omega) (by rw [jU]; omega) (by have := zU (H6 o); rw [jU] at this; omega);rw [← hF] at kj ⊢;clear hF;refine aA Ax aD Tryz.func7 (c := _) rfl Tryz.call7 400 ?_
   (repeat' ((conv => whnf); first | (exfalso; omega) | refine cpC (hv) ?_ | refine chC [some 1, some 2] p0 ?_ | refine chC [some 1, some 3, some 4] p1 ?_ | refine chC [some 1, some 5] p2 ?_ | refine chC [some 1, some 6, some 7] p3 ?_ | refine chC [some 1, some 8] p4 ?_ | refine chC [some 1, some 9, some 10] p5 ?_ | refine chC [some 11] kj ?_ | exact enC [] | refine spC (fun hb => ?_) fun hb => ?_ | refine saC ?_))
  ·have p0 := qb7 [bN.s bK, .n o.id, .s sI, .n o.owner, .s gE, .n o.price, .s bW] _ _ rfl (fun x hx => by
    simp at hx; rcases hx with rfl | rfl | rfl | rfl | rfl | rfl | rfl <;> simp only [rM] <;> omega) (by simp)
   have p1 := Im ([bN.s bK, .n o.id, .s sI, .n o.owner, .s gE, .n o.price, .s bW].length) [bN.n o.group] _ _ rfl (List.map cX [bN.s bK, .n o.id, .s sI, .n o.owner, .s gE, .n o.price, .s bW]) (fun x hx => by simp at hx; subst hx; simp only [rM]; omega) rfl (by simp);have p2 := S6 ([bN.s bK, .n o.id, .s sI, .n o.owner, .s gE, .n o.price, .s bW].length + [bN.n o.group].length) o.urgent eF gC (List.map cX [bN.s bK, .n o.id, .s sI, .n o.owner, .s gE, .n o.price, .s bW] ++ List.map cX [bN.n o.group]) rfl (by simp);have p3 := Im ([bN.s bK, .n o.id, .s sI, .n o.owner, .s gE, .n o.price, .s bW].length + [bN.n o.group].length + 1) [bN.s dV, .n o.known, .s mU, .n o.due, .s dT] _ _ rfl (List.map cX [bN.s bK, .n o.id, .s sI, .n o.owner, .s gE, .n o.price, .s bW] ++ List.map cX [bN.n o.group] ++ [if o.urgent then eF else gC]) (fun x hx => by
    simp at hx; rcases hx with rfl | rfl | rfl | rfl | rfl <;> simp only [rM] <;> omega) rfl (by simp)
   have p4 := q3v 4 o.goal 1 n (by omega) hn hG ([bN.s bK, .n o.id, .s sI, .n o.owner, .s gE, .n o.price, .s bW].length + [bN.n o.group].length + 1 + [bN.s dV, .n o.known, .s mU, .n o.due, .s dT].length) (List.map cX [bN.s bK, .n o.id, .s sI, .n o.owner, .s gE, .n o.price, .s bW] ++ List.map cX [bN.n o.group] ++ [if o.urgent then eF else gC] ++ List.map cX [bN.s dV, .n o.known, .s mU, .n o.due, .s dT]) rfl (by simp; omega);have p5 := Im ([bN.s bK, .n o.id, .s sI, .n o.owner, .s gE, .n o.price, .s bW].length + [bN.n o.group].length + 1 + [bN.s dV, .n o.known, .s mU, .n o.due, .s dT].length + (aP o.goal).length) [bN.s rN] _ _ rfl (List.map cX [bN.s bK, .n o.id, .s sI, .n o.owner, .s gE, .n o.price, .s bW] ++ List.map cX [bN.n o.group] ++ [if o.urgent then eF else gC] ++ List.map cX [bN.s dV, .n o.known, .s mU, .n o.due, .s dT] ++ aP o.goal) (fun x hx => by simp at hx; subst hx; trivial) (by simp; omega) (by simp; omega);have hF : List.map cX [bN.s bK, .n o.id, .s sI, .n o.owner, .s gE, .n o.price, .s bW] ++ List.map cX [bN.n o.group] ++ [if o.urgent then eF else gC] ++ List.map cX [bN.s dV, .n o.known, .s mU, .n o.due, .s dT] ++ aP o.goal ++ List.map cX [bN.s rN] = dY o := by unfold dY; rw [if_neg hg]; simp [cX]
   have kj := q1l ([bN.s bK, .n o.id, .s sI, .n o.owner, .s gE, .n o.price, .s bW].length + [bN.n o.group].length + 1 + [bN.s dV, .n o.known, .s mU, .n o.due, .s dT].length + (aP o.goal).length + [bN.s rN].length) (dY o) (by rw [← hF]; simp; omega) (by rw [jU]; omega) (by have := zU (H6 o); rw [jU] at this; omega);rw [← hF] at kj ⊢;clear hF;refine aA Ax aD Tryz.func7 (c := _) rfl Tryz.call7 400 ?_
   (repeat' ((conv => whnf); first | (exfalso; omega) | refine cpC (hv) ?_ | refine chC [some 1, some 2] p0 ?_ | refine chC [some 1, some 3, some 4] p1 ?_ | refine chC [some 1, some 5] p2 ?_ | refine chC [some 1, some 6, some 7] p3 ?_ | refine chC [some 1, some 8] p4 ?_ | refine chC [some 1, some 9, some 10] p5 ?_ | refine chC [some 11] kj ?_ | exact enC [] | refine spC (fun hb => ?_) fun hb => ?_ | refine saC ?_))
end Go.SX
namespace Go.SX
theorem So : ∀ s : Wd, bC s ≠ []
 | [] => by simp [bC]
 | c :: s => by
  unfold bC;split
  ·simp
  ·split <;> simp
theorem iZ : ∀ s : Wd, (bC s).length = s.count 32 + 1
 | [] => rfl
 | c :: s => by
  have ih := iZ s;unfold bC
  by_cases h : c = 32
  ·rw [if_pos h, h, List.count_cons_self, List.length_cons, ih]
  ·rw [if_neg h, List.count_cons_of_ne (fun e => h e)];cases hs : bC s with
   | nil => exact absurd hs (So s)
   | cons t l => rw [hs] at ih; simpa using ih
theorem E9 : ∀ s : Wd, s.count 32 = 0 → bC s = [s]
 | [], _ => rfl
 | c :: s, h => by
  have hc : c ≠ 32 := fun e => by rw [e, List.count_cons_self] at h; omega
  rw [List.count_cons_of_ne (fun e => hc e)] at h;unfold bC;rw [if_neg hc, E9 s h]
theorem zX : ∀ s : Wd, 0 < s.count 32 → ∃ m : Nat, Go.Lib.indexByte s 32 = m ∧ m < s.length ∧ bC s = s.take m :: bC (s.drop (m + 1))
 | [], h => by simp at h
 | c :: s, h => by
  by_cases hc : c = 32
  ·subst hc;exact ⟨0, rfl, by simp, by rw [bC, if_pos rfl]; rfl⟩
  ·rw [List.count_cons_of_ne (fun e => hc e)] at h;obtain ⟨m, h1, h2, h3⟩ := zX s h;refine ⟨m + 1, ?_, by simp; omega, ?_⟩
   ·unfold Go.Lib.indexByte;rw [if_neg (by simpa using hc), h1, if_neg (by simp)];rfl
   ·rw [bC, if_neg hc, h3];simp
theorem O4 (s : Wd) : (bC s).length ≤ s.length + 1 := by
 rw [iZ];have := List.count_le_length (a := (32 : UInt8)) (l := s);omega
end Go.SX
namespace Go.SX
open Go.Proofs
set_option maxHeartbeats 400000000
set_option maxRecDepth 100000
def pC (N : Nat) (pre : List Wd) : List Wd := pre ++ List.replicate (N - pre.length) []
theorem q7p (s : Wd) (hs : s.length ≤ 2000000) : aF Tryz.prog Dc 79 [wS s, wS [32], iS 0, iS (-1)] [] (wsS (bC s)) [] := by
 have hc := q74 s 32;rw [show (Go.Lib.countByte s 32 : Nat) = (bC s).length - 1 by rw [iZ]; rfl] at hc;have hN := O4 s;have hp : 0 < (bC s).length := by rw [iZ]; omega
 have h0 : List.replicate (min (((bC s).length - 1 : Nat) + 1 : Int) ((s.length : Int) + 1)).toNat (Cd.dflt U.str) = pC (bC s).length [] := by
  unfold pC;rw [show (min (((bC s).length - 1 : Nat) + 1 : Int) ((s.length : Int) + 1)).toNat = (bC s).length by omega];simp;exact .inr rfl
 refine aA Ax aD Tryz.func79 (c := _) rfl Tryz.call79 400 ?_
 (repeat' ((conv => whnf); first | refine cpC (hc) ?_ | refine saC ?_))
 refine bP (fun p : List Wd × Wd => [(0, wS p.2), (3, iS (((bC s).length : Int) - 1)), (9, .slice 0 0 1 0 (bC s).length), (10, iS p.1.length)]) (fun p => [(0, .rows U.str (pC (bC s).length p.1))]) (fun p => bC s = p.1 ++ bC p.2 ∧ p.2.length ≤ s.length) (fun p => p.2.length) ([], s) ⟨rfl, Nat.le_refl _⟩ (by exact bkW) ?_;rintro ⟨pre, t⟩ ⟨hsp, htl⟩ K hK;dsimp only at hsp htl ⊢;have hlen := congrArg List.length hsp;rw [List.length_append] at hlen;have htc := iZ t;have hfl : (pC (bC s).length pre).length = (bC s).length := by unfold pC; simp; omega
 have hsd : ∀ i : Nat, i = pre.length → i < (bC s).length → Pt (0 + ((i : Int)).toNat < (pC (bC s).length pre).length ∧ 0 + 1 = Cd.n U.str) := fun i e1 e2 => ⟨⟨by omega, rfl⟩⟩;rcases Nat.eq_zero_or_pos (t.count 32) with hz | hz
 ·have ht := E9 t hz;have hV : bC s = (((pC (bC s).length pre).set (0 + (pre.length : Int).toNat) t).drop (0 + Int.toNat 0)).take (((pre.length : Int) + 1).toNat - Int.toNat 0) := by
   rw [ht] at hsp;have hl : (bC s).length = pre.length + 1 := by rw [hsp]; simp
   have e1 : 0 + (pre.length : Int).toNat = pre.length := by omega
   have e2 : ((pre.length : Int) + 1).toNat - Int.toNat 0 = pre.length + 1 := by omega
   rw [e1, e2, hl];unfold pC;rw [List.set_append_right _ _ (Nat.le_refl _), show pre.length + 1 - pre.length = 1 by omega, Nat.sub_self, hsp];simp [List.take_of_length_le]
  (repeat' ((conv => whnf); first | (exfalso; omega) | (refine aZ [] (.inr rfl) ?_ ?_ rfl rfl) | refine spC (fun hb => ?_) fun hb => ?_ | refine saC ?_))
  ·refine ⟨?_⟩
   (conv => whnf)
   exact fzV rfl rfl rfl (by rw [List.length_set, hfl]; omega) hV rfl
  ·exact trivial
 ·obtain ⟨m, hm1, hm2, hm3⟩ := zX t hz;have hi := q70 t 32;rw [hm1] at hi;have hsm : Pt (InR .i64 ((m : Int) + (([32] : Wd).length : Nat))) := ⟨inR_i64 (by simp; omega) (by simp; omega)⟩;have htm : List.drop (Int.toNat 0) (List.take ((m : Int) + 0).toNat t) = t.take m := by rw [show ((m : Int) + 0).toNat = m by omega]; rfl
  have ht1 : List.drop ((m : Int) + (([32] : Wd).length : Nat)).toNat (List.take (t.length : Int).toNat t) = t.drop (m + 1) := by
   rw [show ((m : Int) + (([32] : Wd).length : Nat)).toNat = m + 1 by simp, Int.toNat_natCast, List.take_length]
  have hV : (pC (bC s).length pre).set (0 + (pre.length : Int).toNat) (List.drop (Int.toNat 0) (List.take ((m : Int) + 0).toNat t)) = pC (bC s).length (pre ++ [List.drop (Int.toNat 0) (List.take ((m : Int) + 0).toNat t)]) := by
   have e1 : 0 + (pre.length : Int).toNat = pre.length := by omega
   rw [e1];unfold pC;obtain ⟨q, hq⟩ : ∃ q, (bC s).length - pre.length = q + 1 := ⟨(bC s).length - pre.length - 1, by omega⟩;rw [List.set_append_right _ _ (Nat.le_refl _), Nat.sub_self, hq, List.length_append, show (bC s).length - (pre.length + [List.drop (Int.toNat 0) (List.take ((m : Int) + 0).toNat t)].length) = q by simp; omega, List.replicate_succ];simp
  have hpl : (((pre ++ [List.drop (Int.toNat 0) (List.take ((m : Int) + 0).toNat t)]).length : Nat) : Int) = (pre.length : Int) + 1 := by simp
  (repeat' ((conv => whnf); first | (exfalso; omega) | refine cpC (hi) ?_ | (refine hsm) | refine hK (pre ++ [List.drop (Int.toNat 0) (List.take ((m : Int) + 0).toNat t)], List.drop ((m : Int) + (([32] : Wd).length : Nat)).toNat (List.take (t.length : Int).toNat t)) [some 0] _ _ ⟨⟨by (rw [htm, ht1, hsp, hm3]; simp), by (show (List.drop _ _).length ≤ _; rw [ht1, List.length_drop]; omega)⟩⟩ ⟨by (show (List.drop _ _).length < t.length; rw [ht1, List.length_drop]; omega)⟩ (by dsimp only; exact bkW) | refine spC (fun hb => ?_) fun hb => ?_ | refine saC ?_ | refine cW ?_ ?_))
theorem q7s (s : Wd) (hs : s.length ≤ 2000000) : aF Tryz.prog Dc 51 [wS s, wS [32]] [] (wsS (bC s)) [] := by
 have h := q7p s hs;refine aA Ax aD Tryz.func51 (c := _) rfl Tryz.call51 100 ?_
 (repeat' ((conv => whnf); first | refine cpC (h) ?_ | exact enC []))
theorem q2p (s : Wd) (hs : s.length ≤ 2000000) : aF Tryz.prog Dc 27 [wS s] [] (wsS (dC s)) [] := by
 have h := q7s s hs;unfold dC
 by_cases h0 : s = []
 ·rw [if_pos h0];refine aA Ax aD Tryz.func27 (c := _) rfl Tryz.call27 100 ?_
  (repeat' ((conv => whnf); first | refine cpC (h) ?_ | exact enC [] | refine x0C ?_ | refine spC (fun hb => ?_) fun hb => ?_))
  all_goals exact absurd h0 (by assumption)
 ·rw [if_neg h0];refine aA Ax aD Tryz.func27 (c := _) rfl Tryz.call27 100 ?_
  (repeat' ((conv => whnf); first | refine cpC (h) ?_ | exact enC [] | refine x0C ?_ | refine spC (fun hb => ?_) fun hb => ?_))
  all_goals exact absurd (by assumption) h0
end Go.SX
namespace Go.SX
open Go.RowKit
variable {C : Cod}
structure q5x (P : Program) (D : aJ C) (f : FuncId) (args : List (SV C)) (Hp : List (HS C)) (K : List PanicEntry → List (HS C) → Prop) (Y : Prop) : Prop where
 h : ∃ ch Hp', q9n P D f args Hp ch Hp' ∧ K ch Hp' ∧ Y
def q36 (g : Option (Nat × Bool)) (X : Prop) : Prop := match g with
 | none => X
 | some _ => False
def q3a (x : Option Nat) (K : Nat → Prop) (Y : Prop) : Prop := match x with
 | some t => K t
 | none => Y
def vP (P : Program) {D : aJ C} (A : Aux C D) (tab : Tab C) (K : DK C) (big : Nat) : List Oper → DK C
 | [] => K
 | ⟨dst, op, _, _, _, guard⟩ :: rest => fun tr T Hp => q3a (Iu T (gN (aN op))) (fun t => dI T dst Yq fun T' => vP P A tab K big rest (⟨dst, [t], [], []⟩ :: tr) T' Hp)
   (q36 guard (vO P A tab big (vP P A tab K big rest) dst op [] tr T Hp))
def Vv (all : List Oper) (dd : Nat) : DK C := fun tr T _ => Jf all tr ∧ yS (noW tr && N5 (bX T dd)) True False
def Tb (P : Program) (D : aJ C) (K : List PanicEntry → List (HS C) → Prop) (Y : Prop) (Hp : List (HS C)) : Out C → Prop
 | .call f args => dQ args fun args => q5x P D f args Hp K Y
 | _ => False
def Sv (P : Program) {D : aJ C} (A : Aux C D) (tab : Tab C) (R : kU C) (all : List Oper) (k : List (It C)) (big : Nat) : List Oper → DK C
 | ⟨some dd, op, _, _, _, none⟩ :: post => fun tr T Hp => dQ (bD T (aN op)) fun vals => sQ Hp 0 fun m =>
  Tb P D (fun ch Hp' => R (.die ch :: k) (xR T.length) Hp') (cZ (gN (aN op)) fun fs => vA T dd Yq fun T' => vP P A tab (Vv all dd) big post (⟨some dd, fs, [], []⟩ :: tr) T' Hp) Hp (exec A tab op vals (rC Hp vals) m)
 | _ => fun _ _ _ => False
section
variable {P : Program} {D : aJ C} {A : Aux C D} {tab : Tab C} {R : kU C} {k : List (It C)} {T : List (SV C)} {Hp : List (HS C)}
theorem sW {big : Nat} {K K' : DK C} (hK : ∀ tr T Hp, K' tr T Hp → K tr T Hp) : ∀ (rest : List Oper) (tr : List Ent) (T : List (SV C)) (Hp : List (HS C)),
  vP P A tab K' big rest tr T Hp → rQ P A tab K big rest tr T Hp
 | [], tr, T, Hp, h => hK _ _ _ h
 | ⟨dst, op, ty, pos, after, guard⟩ :: rest, tr, T, Hp, h => by
  have ih := sW (big := big) hK rest;simp only [vP] at h;simp only [rQ];cases hp : Iu T (gN (aN op)) with
  | some t =>
   rw [hp] at h;simp only [q3a, bU] at h;exact ih _ _ _ h
  | none =>
   rw [hp] at h;simp only [q3a] at h;cases guard with
   | some g => exact h.elim
   | none => exact ⟨rfl, nL ih h⟩
theorem Ij {all : List Oper} {dd : Nat} (tr : List Ent) (T : List (SV C)) (Hp : List (HS C)) (h : Vv all dd tr T Hp) : Qf all dd tr T Hp := by
 obtain ⟨h1, h2⟩ := h;unfold yS at h2;split at h2
 ·rename_i hb;rw [Bool.and_eq_true] at hb;exact ⟨h1.h, hb.1, hb.2⟩
 ·exact h2.elim
theorem Nq {all : List Oper} {big : Nat} {tr : List Ent} : ∀ (l : List Oper), Sv P A tab R all k big l tr T Hp → q46 P A tab R all k big l tr T Hp
 | [], h => h.elim
 | ⟨none, _, _, _, _, _⟩ :: _, h => h.elim
 | ⟨some _, _, _, _, _, some _⟩ :: _, h => h.elim
 | ⟨some dd, op, ty, pos, after, none⟩ :: post, h => by
  simp only [Sv] at h;rw [bB, eG, Nat.add_zero] at h;unfold Tb at h;split at h
  ·rename_i f args hex;rw [bB] at h;obtain ⟨ch, Hp', h1, h2, h3⟩ := h.h;rw [bH, tX] at h3;exact ⟨f, args, ch, Hp', hex, h1, h2, sW Ij post _ _ _ h3⟩
  ·exact h.elim
theorem nB {m0 : Nat} {ops : List Oper} (i : Nat) (hmix : P.follows .mixedOrders = true) (h : sQ Hp 1000 fun big => vP P A tab (Sv P A tab R ops k big (ops.drop i)) big (ops.take i) [] T Hp) : Ub P A tab m0 R ops k T Hp := by
 rw [eG] at h;exact ⟨⟨_, _, fun _ _ _ _ _ h => h, .inr ⟨hmix, i, sW (fun tr T Hp hk => Nq _ hk) _ [] T Hp h⟩⟩⟩
theorem Mi {f : FuncId} {args : List (SV C)} {ch : List PanicEntry} {args0 : List (SV C)} {H0 H0' H1 : List (HS C)} {K : List PanicEntry → List (HS C) → Prop} {Y : Prop} (ρ : List (Option Nat)) (hM : q5m P D f args0 H0 ch H1) (hargs : renL ρ args0 = some args) (hH0 : gR ρ H0 = some H0') (hat : eA (aR Hp) ρ H0')
  (h : B1 Hp ρ H0.length H1 (.tuple []) fun _ _ ws => eP Hp ws fun Hp' => K ch Hp') (hy : Y) : q5x P D f args Hp K Y := by
 unfold B1 at h;rw [eG, Nat.add_zero, iR] at h;unfold Wc at h;split at h
 ·rename_i hc;simp only [Bool.and_eq_true] at hc;unfold Oz at h;split at h
  ·rename_i H1' hH1;split at h
   ·dsimp only at h;rw [cS] at h;refine ⟨ch, _, ⟨hM.enter, fun B σ df a w E hR vs hd => ?_⟩, h, hy⟩;refine (D4 (Ω := fun e _ _ => e = .panicked ch) (fun w E hm vs hs hd => (hM.calls w E hm vs hs hd).mono fun e w' ⟨E', h1, h2, h3⟩ => ⟨E', h1, h2, h3⟩) ρ hargs hH0 hat _ rfl (fun k _ => qA Hp _ (by rw [← nR]; omega)) hc.1 (Nat.le_of_ble_eq_true hc.2) hH1 B σ df a w E hR vs hd).mono ?_;rintro e w' ⟨e1, E1, h1, _, _, h2⟩;exact ⟨E1, h1, by rw [eO]; exact h2⟩
   ·exact h.elim
  ·exact h.elim
 ·exact h.elim
end
end Go.SX
namespace Go.SX
open Go.RowKit
variable {C : Cod}
section
variable {P : Program} {D : aJ C} {tab : Tab C} {B : dP} {E : Env} {σ : Nat → SV C} {H : Nat → HS C} {df : List Deferred} {a : Act} {w : World} {o : Oper} {r : Option Nat}
theorem Ff (A : Aux C D) (hT : bZ P D tab) {f : FuncId} {fn : Func} {c : Code} (hf : P.funcs[f]? = some fn) (hb : fn.body = some c) (henter : ∀ args w, (callFunc f args).run P w = .ok (.enter f args) w)
  {args : List (SV C)} {H0 : List (HS C)} {ret : SV C} {H1 : List (HS C)} {Φ : J9 C} (hΦ : ∀ e T Hp, Φ e T Hp → wQ D tab fn.results.toList H0.length ret H1 e T Hp) (n : Nat)
  (h : dQ (args ++ xR (fn.ntmps - args.length)) fun T0 => cZ H0 fun Hp0 => gx P A tab ⟨none, [], H0.length, false⟩ Φ n [.code c] T0 Hp0) : aF P D f args H0 ret H1 := by
 rw [bB, bH] at h;refine ⟨henter, fun w E hm vs hs hd => ?_⟩;refine callsIn_of_wp_marks hf hb trivial ?_ rfl;have hR := mX (n := fn.ntmps) (m := H0.length) (hm := hm) hs hd;have hX : vW D (⟨none, [], H0.length, false⟩ : Ctx C) (dP.here w E H0.length hm) none := ⟨rfl, fun c ri hc => by simp [lkR] at hc, trivial, rfl⟩;have := gY (r := none) (Q := bodyPostM (Fc none) 0 P fn fun e w' => ∃ v E', e = .returned v ∧ Den D w' E' ret v ∧ Sat D w' E' (aR H1) ∧ Fr (dP.here w E H0.length hm) E' w') A hT hX
  (fun e a w' T Hp hΦ' hRL => ?_) n _ _ _ h _ _ hR
 ·exact this
 ·obtain ⟨he, θ, l, h1, h2, h3⟩ := hΦ _ _ _ hΦ';obtain ⟨df, E1, hR1, _⟩ := hRL;have key : LeavesInM (Fc none) 0 P fn a.tmps (fun e w' => ∃ v E', e = .returned v ∧ Den D w' E' ret v ∧ Sat D w' E' (aR H1) ∧ Fr (dP.here w E H0.length hm) E' w') a.defers .returning w' := by
   refine qM hR1 fun w2 E2 hR2 => ?_;obtain ⟨v, h4, h5⟩ := nN (P := P) (fn := fn) hT hR2 h1;obtain ⟨g1, g2, g3⟩ := gU hR2.sat hR2.fr h3;exact ⟨v, h4, v, _, rfl, nT hR2.sat g1 _ _ _ h2 h5, g2, g3⟩
  rcases he with rfl | rfl
  ·exact key
  ·exact key
theorem Ip (A : Aux C D) (hT : bZ P D tab) {f : FuncId} {fn : Func} {c : Code} (hf : P.funcs[f]? = some fn) (hb : fn.body = some c) (henter : ∀ args w, (callFunc f args).run P w = .ok (.enter f args) w)
  {args : List (SV C)} {H0 : List (HS C)} {H1 : List (HS C)} {ch : List PanicEntry} {Φ : J9 C} (hΦ : ∀ e T Hp, Φ e T Hp → zQ ch H0.length H1 e T Hp) (n : Nat)
  (h : dQ (args ++ xR (fn.ntmps - args.length)) fun T0 => cZ H0 fun Hp0 => gx P A tab ⟨none, [], H0.length, false⟩ Φ n [.code c] T0 Hp0) : q5m P D f args H0 ch H1 := by
 rw [bB, bH] at h;refine ⟨henter, fun w E hm vs hs hd => ?_⟩;refine callsIn_of_wp_marks hf hb trivial ?_ rfl;have hR := mX (n := fn.ntmps) (m := H0.length) (hm := hm) hs hd;have hX : vW D (⟨none, [], H0.length, false⟩ : Ctx C) (dP.here w E H0.length hm) none := ⟨rfl, fun c ri hc => by simp [lkR] at hc, trivial, rfl⟩;have := gY (r := none) (Q := bodyPostM (Fc none) 0 P fn fun e w' => ∃ E', e = .panicked ch ∧ Sat D w' E' (aR H1) ∧ Fr (dP.here w E H0.length hm) E' w') A hT hX
  (fun e a w' T Hp hΦ' hRL => ?_) n _ _ _ h _ _ hR
 ·exact this
 ·obtain ⟨rfl, θ, h3⟩ := hΦ _ _ _ hΦ';obtain ⟨df, E1, hR1, _⟩ := hRL;refine B7 hR1 fun w2 E2 hR2 => ?_;obtain ⟨g1, g2, g3⟩ := gU hR2.sat hR2.fr h3;exact ⟨_, rfl, g2, g3⟩
end
end Go.SX
namespace Go.SX
open Go.Proofs
set_option maxHeartbeats 400000000
set_option maxRecDepth 100000
@[reducible] def rdH (ws : List Wd) (a m : Int) : List (HS Cd) := [.vart none [wsS ws, iS a, iS m]]
@[reducible] def chS : List PanicEntry := [{ v := .iface 81 (.agg #[]), recovered := false }]
structure RM {α : Type} (f : FuncId) (args : List (SV Cd)) (ws : List Wd) (a m : Int) (X : List (HS Cd)) (S : Rs α) (ret : α → SV Cd) (Pr : α → Prop) : Prop where
 ok : ∀ x a' m', S = .ok x a' m' → aF Tryz.prog Dc f args (rdH ws a m ++ X) (ret x) (rdH ws a' m' ++ X)
 no : ∀ a' m', S = .no a' m' → q5m Tryz.prog Dc f args (rdH ws a m ++ X) chS (rdH ws a' m' ++ X)
 bd : S.Bd ws a m
 pr : ∀ x a' m', S = .ok x a' m' → Pr x
def q2o {α : Type} (S : Rs α) (rs : List ResultVar) (m0 : Nat) (ret : α → SV Cd) (ws : List Wd) (X : List (HS Cd)) : J9 Cd := fun e T Hp =>
 (∃ x a' m', S = .ok x a' m' ∧ wQ Dc tab rs m0 (ret x) (rdH ws a' m' ++ X) e T Hp) ∨ ∃ a' m', S = .no a' m' ∧ zQ chS m0 (rdH ws a' m' ++ X) e T Hp
theorem jM {α : Type} {f : FuncId} {fn : Func} {c : Code} (hf : Tryz.prog.funcs[f]? = some fn) (hb : fn.body = some c) (henter : ∀ args w, (callFunc f args).run Tryz.prog w = .ok (.enter f args) w)
  {args : List (SV Cd)} {ws : List Wd} {a m : Int} {X : List (HS Cd)} {S : Rs α} {ret : α → SV Cd} {Pr : α → Prop} (n : Nat) (hbd : S.Bd ws a m) (hpr : ∀ x a' m', S = .ok x a' m' → Pr x)
  (h : dQ (args ++ xR (fn.ntmps - args.length)) fun T0 => cZ (rdH ws a m ++ X) fun Hp0 => gx Tryz.prog Ax tab ⟨none, [], (rdH ws a m ++ X).length, false⟩ (q2o S fn.results.toList (rdH ws a m ++ X).length ret ws X) n [.code c] T0 Hp0) : RM f args ws a m X S ret Pr where
 ok := fun x a' m' e => Ff Ax aD hf hb henter (fun ex T Hp hp => by
  rcases hp with ⟨x2, a2, m2, e2, hp⟩ | ⟨a2, m2, e2, hp⟩
  ·rw [e] at e2; cases e2; exact hp
  ·rw [e] at e2; cases e2) n h
 no := fun a' m' e => Ip Ax aD hf hb henter (fun ex T Hp hp => by
  rcases hp with ⟨x2, a2, m2, e2, hp⟩ | ⟨a2, m2, e2, hp⟩
  ·rw [e] at e2; cases e2
  ·rw [e] at e2; cases e2; exact hp) n h
 bd := hbd
 pr := hpr
section
variable {α : Type} {X : Ctx Cd} {R : kU Cd} {f : FuncId} {args : List (SV Cd)} {dst : Option Nat} {all rest : List Oper} {k : List (It Cd)} {T : List (SV Cd)} {Hp : List (HS Cd)} {ws : List Wd} {a m : Int}
theorem rok {S : Rs α} {rs : List ResultVar} {m0 : Nat} {ret : α → SV Cd} {Y : List (HS Cd)} {e : Exit} {x : α} {a' m' : Int} (hS : S = .ok x a' m') (h : wQ Dc tab rs m0 (ret x) (rdH ws a' m' ++ Y) e T Hp) : q2o S rs m0 ret ws Y e T Hp := .inl ⟨x, a', m', hS, h⟩
theorem rno {S : Rs α} {rs : List ResultVar} {m0 : Nat} {ret : α → SV Cd} {Y : List (HS Cd)} {e : Exit} {a' m' : Int} (hS : S = .no a' m') (h : zQ chS m0 (rdH ws a' m' ++ Y) e T Hp) : q2o S rs m0 ret ws Y e T Hp := .inr ⟨a', m', hS, h⟩
theorem rmX {args0 : List (SV Cd)} {Y : List (HS Cd)} {S : Rs α} {ret : α → SV Cd} {Pr : α → Prop} {H0' : List (HS Cd)} (ρ : List (Option Nat)) (hM : RM f args0 ws a m Y S ret Pr) (hargs : renL ρ args0 = some args) (hH0 : gR ρ (rdH ws a m ++ Y) = some H0') (hat : eA (aR Hp) ρ H0')
  (hok : ∀ x a' m', S = .ok x a' m' → InW ws a' m' → Pr x → B1 Hp ρ (rdH ws a m ++ Y).length (rdH ws a' m' ++ Y) (ret x) fun ret _ ws' => dI T dst ret fun T' => eP Hp ws' fun Hp' => R (.ops all rest :: k) T' Hp')
  (hno : ∀ a' m', S = .no a' m' → InW ws a' m' → B1 Hp ρ (rdH ws a m ++ Y).length (rdH ws a' m' ++ Y) (.tuple []) fun _ _ ws' => eP Hp ws' fun Hp' => R (.die chS :: k) T Hp') (hi : InW ws a m) : kX Tryz.prog Dc X R f args dst all rest k T Hp := by
 have hb := hM.bd;cases hS : S with
 | ok x a' m' => rw [hS] at hb; exact xW ρ (hM.ok x a' m' hS) hargs hH0 hat (hok x a' m' hS (hi.step hb) (hM.pr x a' m' hS))
 | no a' m' => rw [hS] at hb; exact qb4 ρ (hM.no a' m' hS) hargs hH0 hat (hno a' m' hS (hi.step hb))
end
structure wA (ws : List Wd) : Prop where
 w : ∀ w ∈ ws, w.length ≤ 1000000
 n : ws.length ≤ 1000000
theorem Ql {ws : List Wd} (h : wA ws) {a m : Int} (hi : InW ws a m) : (cH ws a).length ≤ 1000000 := by
 unfold cH;split
 ·simp
 ·rename_i hne;have hlt : a.toNat < ws.length := by have := hi.a0; have := hi.a1; omega
  rw [List.getD_eq_getElem?_getD, List.getElem?_eq_getElem hlt];exact h.w _ (List.getElem_mem hlt)
theorem F7 {ws : List Wd} {a m : Int} (hi : InW ws a m) (hn : wA ws) : aF Tryz.prog Dc 80 [.ptr 0 0] (rdH ws a m) (wS (cH ws a)) (rdH ws a m) := by
 obtain ⟨h1, h2, h3, _⟩ := hi;have hl := hn.n;unfold cH
 by_cases he : a = ws.length
 ·rw [if_pos he];refine aA Ax aD Tryz.func80 (c := _) rfl Tryz.call80 100 ?_
  (repeat' ((conv => whnf); first | (exfalso; omega) | exact enC [some 0] | refine spC (fun hb => ?_) fun hb => ?_ | refine taC ?_ | refine aE mixed ?_))
 ·rw [if_neg he];refine aA Ax aD Tryz.func80 (c := _) rfl Tryz.call80 100 ?_
  (repeat' ((conv => whnf); first | (exfalso; omega) | exact enC [some 0] | refine spC (fun hb => ?_) fun hb => ?_ | refine taC ?_ | refine saC ?_ | refine aE mixed ?_))
theorem q63 {ws : List Wd} {a m : Int} (s : Wd) (hi : InW ws a m) (hn : wA ws) (h : cH ws a = s) : aF Tryz.prog Dc 54 [.ptr 0 0, wS s] (rdH ws a m) (bS true) (rdH ws (a + 1) m) := by
 have hp := F7 hi hn;obtain ⟨h1, h2, h3, _⟩ := hi;have hl := hn.n;rw [h] at hp;refine aA Ax aD Tryz.func54 (c := _) rfl Tryz.call54 100 ?_
 (repeat' ((conv => whnf); first | refine chC [some 0] hp ?_ | exact enC [some 0] | refine spC (fun hb => ?_) fun hb => ?_ | refine saC ?_))
 all_goals exact absurd rfl (by assumption)
theorem q77 {ws : List Wd} {a m : Int} (s : Wd) (hi : InW ws a m) (hn : wA ws) (h : ¬ cH ws a = s) : aF Tryz.prog Dc 54 [.ptr 0 0, wS s] (rdH ws a m) (bS false) (rdH ws a m) := by
 have hp := F7 hi hn;obtain ⟨h1, h2, h3, _⟩ := hi;have hl := hn.n;refine aA Ax aD Tryz.func54 (c := _) rfl Tryz.call54 100 ?_
 (repeat' ((conv => whnf); first | refine chC [some 0] hp ?_ | exact enC [some 0] | refine spC (fun hb => ?_) fun hb => ?_ | refine saC ?_))
 all_goals exact absurd (by assumption) h
theorem q4t : Tryz.prog.underlying 81 = some (.struct #[]) := by kernel_rfl
theorem pA (e : Operand → Value) (o : Oper) (w : World) (ho : o.op = .build 81 #[]) : (execOp e o).run Tryz.prog w = .ok (.value (.agg #[])) w := by
 obtain ⟨i, h1, h2⟩ : ∃ i, Tryz.prog.info? 81 = some i ∧ i.zero = some (.agg #[]) := by
  have : (Tryz.prog.info? 81).map (·.zero) = some (some (.agg #[])) := by kernel_rfl
  cases h : Tryz.prog.info? 81 with
  | none => rw [h] at this; cases this
  | some i => rw [h] at this; exact ⟨i, rfl, by simpa using this⟩
 simp [execOp, ho, Instr.build, run_underlying q4t, zeroValue, typeInfo, h1, h2];rfl
theorem jE (x : Operand) (e : Operand → Value) (o : Oper) (w : World) (ho : o.op = .makeInterface 81 x) : (execOp e o).run Tryz.prog w = .ok (.value (.iface 81 (e x))) w := by
 simp [execOp, ho, Instr.makeInterface, run_underlying q4t]
theorem O1 (ws : List Wd) : ∀ (i : Nat) (l : List Wd) (a m : Int), i ≤ l.length → (∀ j, j < i → cH ws (a + j) = l.getD j []) → dL ws l a m = dL ws (l.drop i) (a + i) m
  | 0, l, a, m, _, _ => by simp
  | i + 1, [], a, m, h, _ => by simp at h
  | i + 1, s :: l, a, m, h, hp => by
    have h0 := hp 0 (by omega);simp only [Int.natCast_zero, Int.add_zero, List.getD_cons_zero] at h0;rw [dL, if_pos h0, O1 ws i l (a + 1) m (by simpa using h) fun j hj => by
      have := hp (j + 1) (by omega);rw [show a + 1 + (j : Int) = a + ((j + 1 : Nat) : Int) by omega];simpa using this]
    rw [List.drop_succ_cons, show a + 1 + (i : Int) = a + ((i + 1 : Nat) : Int) by omega]
theorem fX (l : List Wd) (hll : l.length ≤ 1000000) (h32 : ∀ s ∈ l, s ≠ [32]) {ws : List Wd} {a m : Int} (hi : InW ws a m) (hn : wA ws) : RM 52 [.ptr 0 0, .slice 1 0 1 0 l.length] ws a m [.rows U.str l] (dL ws l a m) (fun _ => .tuple []) (fun _ => True) := by
 refine jM Tryz.func52 (c := _) rfl Tryz.call52 200 (bL l hi h32) (fun _ _ _ _ => trivial) ?_;obtain ⟨S, hS⟩ : ∃ S, S = dL ws l a m := ⟨_, rfl⟩;rw [← hS];refine bP (fun i : Nat => [(8, iS i)]) (fun i => [(0, .vart none [wsS ws, iS (a + i), iS m])]) (fun i => i ≤ l.length ∧ InW ws (a + i) m ∧ ∀ j, j < i → cH ws (a + j) = l.getD j []) (fun i => l.length - i) 0 ⟨Nat.zero_le _, by simpa using hi, fun j hj => absurd hj (Nat.not_lt_zero _)⟩ (by exact bkW) ?_;rintro i ⟨hil, hiw, hpj⟩ K hK;have hd := O1 ws i l a m hil hpj;rw [hd] at hS;rcases Nat.lt_or_ge i l.length with hlt | hge
 ·have hb1 := hiw.a1;have hb2 := hn.n;have hg : l.getD (0 + (i : Int).toNat) (Cd.dflt U.str) = l.getD i [] := by rw [Nat.zero_add]; rfl
  rw [Qw (d := ([] : Wd)) hlt, dL] at hS
  by_cases hp : cH ws (a + i) = l.getD i []
  ·have hmem : l.getD i [] ∈ l := by rw [List.getD_eq_getElem?_getD, List.getElem?_eq_getElem hlt]; exact List.getElem_mem hlt
   have hlt2 := eJ hiw hp (h32 _ hmem);have hI : InW ws (a + i + 1) m := ⟨by have := hiw.a0; omega, by omega, hiw.m0, hiw.m1⟩;have q := q63 (l.getD (0 + (i : Int).toNat) (Cd.dflt U.str)) hiw hn (hp.trans hg.symm)
   (repeat' ((conv => whnf); first | (exfalso; omega) | refine chC [some 0] q ?_ | (refine hK (i + 1) [some 0, some 1] _ _ ⟨⟨by omega, by (rw [show a + ((i + 1 : Nat) : Int) = a + i + 1 by omega]; exact hI), fun j hj => by (rcases Nat.lt_or_ge j i with h | h; exact hpj j h; (obtain rfl : j = i := by omega); exact hp)⟩⟩ ⟨by omega⟩ (by exact bkW)) | refine spC (fun hb => ?_) fun hb => ?_ | refine saC ?_))
  ·have q := q77 (l.getD (0 + (i : Int).toNat) (Cd.dflt U.str)) hiw hn (fun e => hp (e.trans hg));rw [if_neg hp] at hS
   (repeat' ((conv => whnf); first | (exfalso; omega) | refine chC [some 0] q ?_ | refine fD pA ?_ | refine dG (jE _) rfl ?_ | refine dH _ _ _ rfl (dK rfl) ?_ | (refine rno hS (aW [some 0, some 1] ?_); exact hsW) | refine spC (fun hb => ?_) fun hb => ?_ | refine saC ?_))
 ·obtain rfl : i = l.length := by omega
  rw [List.drop_length, dL] at hS
  (repeat' ((conv => whnf); first | (exfalso; omega) | (refine rok hS (aZ [some 0, some 1] (.inl rfl) ?_ ?_ rfl rfl); (focus exact vwV); exact hsW) | refine spC (fun hb => ?_) fun hb => ?_))
theorem Pk (lo hi' : Int) {ws : List Wd} {a m : Int} (hi : InW ws a m) (hn : wA ws) : RM 53 [.ptr 0 0, iS lo, iS hi'] ws a m [] (pF ws lo hi' a m) (fun n => iS n) (fun n => lo ≤ n ∧ n ≤ hi') := by
 refine jM Tryz.func53 (c := _) rfl Tryz.call53 200 (dA hi) (fun n a' m' e => ⟨(Gq hi e).1, (Gq hi e).2.1⟩) ?_;obtain ⟨S, hS⟩ : ∃ S, S = pF ws lo hi' a m := ⟨_, rfl⟩;rw [← hS];have hp := F7 hi hn;have hpl := Ql hn hi;have ka := q9v (cH ws a) (by omega);have hin := fun n => oin n lo hi';unfold pF q5s at hS;have hb1 := hi.a1;have hb2 := hn.n;have hb0 := hi.a0;unfold q2z q52 at ka;cases ha : Go.Lib.atoiAll (cH ws a) with
 | ok n =>
  rw [ha] at ka hS;obtain ⟨n1, n2⟩ := Go.Lib.atoiAll_bounds ha;have ki := Va n ⟨by omega, by omega⟩;have hin' := hin n;simp only at ka hS
  by_cases hw : bJ n = cH ws a
  ·rw [if_pos hw] at hS;simp only at hS
   by_cases hb : lo ≤ n ∧ n ≤ hi'
   ·rw [if_pos hb] at hS;have hlt : a < ws.length := by
     rcases Int.lt_or_eq_of_le hb1 with h | h
     ·exact h
     ·exfalso;have : cH ws a = [32] := by unfold cH; rw [if_pos h]
      rw [this] at ha;have h2 : Go.Lib.atoiAll [32] = Go.Lib.NumEnd.syntax := by decide
      rw [h2] at ha; cases ha
    rw [(aK _ _ _).2 hb] at hin'
    (repeat' ((conv => whnf); first | refine chC [some 0] hp ?_ | refine cpC (ka) ?_ | refine cpC (ki) ?_ | refine cpC (hin') ?_ | refine fD pA ?_ | refine dG (jE _) rfl ?_ | refine dH _ _ _ rfl (dK rfl) ?_ | (refine rok hS (aZ [some 0] (.inr rfl) ?_ ?_ rfl rfl); (focus exact vwV); exact hsW) | refine spC (fun hb => ?_) fun hb => ?_ | refine saC ?_))
    all_goals exact absurd hw (by assumption)
   ·rw [if_neg hb] at hS;rw [(Ul _ _ _).2 hb] at hin'
    (repeat' ((conv => whnf); first | refine chC [some 0] hp ?_ | refine cpC (ka) ?_ | refine cpC (ki) ?_ | refine cpC (hin') ?_ | refine fD pA ?_ | refine dG (jE _) rfl ?_ | refine dH _ _ _ rfl (dK rfl) ?_ | (refine rno hS (aW [some 0] ?_); exact hsW) | refine spC (fun hb => ?_) fun hb => ?_))
  ·rw [if_neg hw] at hS;simp only at hS
   (repeat' ((conv => whnf); first | refine chC [some 0] hp ?_ | refine cpC (ka) ?_ | refine cpC (ki) ?_ | refine cpC (hin') ?_ | refine fD pA ?_ | refine dG (jE _) rfl ?_ | refine dH _ _ _ rfl (dK rfl) ?_ | (refine rno hS (aW [some 0] ?_); exact hsW) | refine spC (fun hb => ?_) fun hb => ?_ | refine saC ?_))
   all_goals exact absurd (by assumption) hw
 | range =>
  rw [ha] at ka hS;simp only at ka hS
  (repeat' ((conv => whnf); first | refine chC [some 0] hp ?_ | refine cpC (ka) ?_ | refine fD pA ?_ | refine dG (jE _) rfl ?_ | refine dH _ _ _ rfl (dK rfl) ?_ | (refine rno hS (aW [some 0] ?_); exact hsW)))
 | _ =>
  rw [ha] at ka hS;simp only at ka hS
  (repeat' ((conv => whnf); first | refine chC [some 0] hp ?_ | refine cpC (ka) ?_ | refine fD pA ?_ | refine dG (jE _) rfl ?_ | refine dH _ _ _ rfl (dK rfl) ?_ | (refine rno hS (aW [some 0] ?_); exact hsW)))
end Go.SX
