/-
  Walks: Ua7, Oq5, Ua8, Dx, Rd, Ub0, Ub1, Ub2, Ub3: what single functions of the program compute.
-/
import Derived.Test.YtijedffphgckmaaGreatDoorSxUa3
import Derived.Lib.Bytealg
import Derived.Test.YtijedffphgckmaaGreatDoorSxOq1
set_option linter.unusedVariables false
set_option linter.unusedSimpArgs false
namespace Go.SX
open Go.Proofs
set_option maxHeartbeats 4000000
set_option maxRecDepth 100000
structure OrdB (o : Order) : Prop where
 id : 0 ≤ o.id ∧ o.id ≤ 63
 owner : 0 ≤ o.owner ∧ o.owner ≤ 15
 price : 0 ≤ o.price ∧ o.price ≤ 1000000000
 group : -1 ≤ o.group ∧ o.group ≤ 15
 known : 0 ≤ o.known ∧ o.known ≤ 1000000
 due : o.known + 1 ≤ o.due ∧ o.due ≤ 1000000
 goal : validG o.goal = true
theorem ordB_iff (o : Order) : ordB o = true ↔ OrdB o := by
 simp only [ordB, Bool.and_eq_true, inB_iff]
 constructor
 ·rintro ⟨⟨⟨⟨⟨⟨h1, h2⟩, h3⟩, h4⟩, h5⟩, h6⟩, h7⟩; exact ⟨h1, h2, h3, h4, h5, h6, h7⟩
 ·rintro ⟨h1, h2, h3, h4, h5, h6, h7⟩; exact ⟨⟨⟨⟨⟨⟨h1, h2⟩, h3⟩, h4⟩, h5⟩, h6⟩, h7⟩
theorem validG_size {g : Goal} (h : validG g = true) : ∃ n, sizeG g 1 = some n := by
 unfold validG at h
 split at h
 ·cases h
 ·exact ⟨_, by assumption⟩
theorem kjoinO (n : Nat) (ws : List Wd) (hw : n = ws.length) (hn : ws.length ≤ 140737488355328) (hl : (joinW ws).length ≤ 140737488355328) : Meets Tryz.prog Dc 40 [.slice 0 0 1 0 n, wS [32]] [.rows U.str ws] (wS (joinW ws)) [.rows U.str ws] := by
 subst hw
 exact mownC (kjoin ws hn hl) ⟨⟨fzV rfl rfl rfl (by simp) (by simp) rfl, rfl, trivial⟩⟩ rfl
theorem oprint (o : Order) (hG : GAll o.goal) : Meets Tryz.prog Dc 14 [ordA o] [] (.tuple [wS (printS o).1, iS (printS o).2]) [] := by
 have hv := ovalid o hG
 cases hb : ordB o with
 | false =>
  rw [hb] at hv
  have e : printS o = ([], 130) := by unfold printS; rw [hb]; rfl
  rw [e]
  refine meets_of_gx Ax tab_ok Tryz.func14 (c := _) rfl Tryz.call14 300 ?_
  (repeat' ((conv => whnf); first | (exfalso; omega) | refine cpC (hv) ?_ | refine dpC (hv) ?_ | (refine end_fn [] (.inr rfl) ?_ ?_ rfl rfl; (focus exact vwV); exact hsV) | refine x0C ?_ | refine spC (fun hb => ?_) fun hb => ?_ | refine nilC (fun hb => ?_) ?_ | refine taC ?_ | refine saC ?_ | exact sdV | refine side_and ?_ ?_ | refine drawX_of mixed ?_))
 | true =>
  rw [hb] at hv
  obtain ⟨b1, b2, b3, b4, b5, b6, b7⟩ := (ordB_iff o).1 hb
  have e : printS o = (joinW (orderW o), 0) := by unfold printS; rw [hb]; rfl
  rw [e]
  have hgl := goalW_valid b7
  obtain ⟨n, hn⟩ := validG_size b7
  by_cases hg : o.group < 0
  ·have p0 := put0 [AnyV.s w_order, .n o.id, .s w_by, .n o.owner, .s w_for, .n o.price, .s w_group] _ _ rfl (fun x hx => by
    simp at hx; rcases hx with rfl | rfl | rfl | rfl | rfl | rfl | rfl <;> simp only [AnyOK] <;> omega) (by simp)
   have p1 := putM ([AnyV.s w_order, .n o.id, .s w_by, .n o.owner, .s w_for, .n o.price, .s w_group].length) [AnyV.s w_none] _ _ rfl (List.map anyW [AnyV.s w_order, .n o.id, .s w_by, .n o.owner, .s w_for, .n o.price, .s w_group]) (fun x hx => by simp at hx; subst hx; trivial) rfl (by simp)
   have p2 := chooseM ([AnyV.s w_order, .n o.id, .s w_by, .n o.owner, .s w_for, .n o.price, .s w_group].length + [AnyV.s w_none].length) o.urgent w_urgent w_plain (List.map anyW [AnyV.s w_order, .n o.id, .s w_by, .n o.owner, .s w_for, .n o.price, .s w_group] ++ List.map anyW [AnyV.s w_none]) rfl (by simp)
   have p3 := putM ([AnyV.s w_order, .n o.id, .s w_by, .n o.owner, .s w_for, .n o.price, .s w_group].length + [AnyV.s w_none].length + 1) [AnyV.s w_known, .n o.known, .s w_due, .n o.due, .s w_colon] _ _ rfl (List.map anyW [AnyV.s w_order, .n o.id, .s w_by, .n o.owner, .s w_for, .n o.price, .s w_group] ++ List.map anyW [AnyV.s w_none] ++ [if o.urgent then w_urgent else w_plain]) (fun x hx => by
    simp at hx; rcases hx with rfl | rfl | rfl | rfl | rfl <;> simp only [AnyOK] <;> omega) rfl (by simp)
   have p4 := wgoal 4 o.goal 1 n (by omega) hn hG ([AnyV.s w_order, .n o.id, .s w_by, .n o.owner, .s w_for, .n o.price, .s w_group].length + [AnyV.s w_none].length + 1 + [AnyV.s w_known, .n o.known, .s w_due, .n o.due, .s w_colon].length) (List.map anyW [AnyV.s w_order, .n o.id, .s w_by, .n o.owner, .s w_for, .n o.price, .s w_group] ++ List.map anyW [AnyV.s w_none] ++ [if o.urgent then w_urgent else w_plain] ++ List.map anyW [AnyV.s w_known, .n o.known, .s w_due, .n o.due, .s w_colon]) rfl (by simp; omega)
   have p5 := putM ([AnyV.s w_order, .n o.id, .s w_by, .n o.owner, .s w_for, .n o.price, .s w_group].length + [AnyV.s w_none].length + 1 + [AnyV.s w_known, .n o.known, .s w_due, .n o.due, .s w_colon].length + (goalW o.goal).length) [AnyV.s w_dot] _ _ rfl (List.map anyW [AnyV.s w_order, .n o.id, .s w_by, .n o.owner, .s w_for, .n o.price, .s w_group] ++ List.map anyW [AnyV.s w_none] ++ [if o.urgent then w_urgent else w_plain] ++ List.map anyW [AnyV.s w_known, .n o.known, .s w_due, .n o.due, .s w_colon] ++ goalW o.goal) (fun x hx => by simp at hx; subst hx; trivial) (by simp; omega) (by simp; omega)
   have hF : List.map anyW [AnyV.s w_order, .n o.id, .s w_by, .n o.owner, .s w_for, .n o.price, .s w_group] ++ List.map anyW [AnyV.s w_none] ++ [if o.urgent then w_urgent else w_plain] ++ List.map anyW [AnyV.s w_known, .n o.known, .s w_due, .n o.due, .s w_colon] ++ goalW o.goal ++ List.map anyW [AnyV.s w_dot] = orderW o := by unfold orderW; rw [if_pos hg]; simp [anyW]
   have kj := kjoinO ([AnyV.s w_order, .n o.id, .s w_by, .n o.owner, .s w_for, .n o.price, .s w_group].length + [AnyV.s w_none].length + 1 + [AnyV.s w_known, .n o.known, .s w_due, .n o.due, .s w_colon].length + (goalW o.goal).length + [AnyV.s w_dot].length) (orderW o) (by rw [← hF]; simp; omega) (by rw [orderW_len]; omega) (by have := joinW_len (orderW_sh o); rw [orderW_len] at this; omega)
   rw [← hF] at kj ⊢
   clear hF
   refine meets_of_gx Ax tab_ok Tryz.func14 (c := _) rfl Tryz.call14 400 ?_
   (repeat' ((conv => whnf); first | (exfalso; omega) | refine cpC (hv) ?_ | refine dpC (hv) ?_ | (refine callh [some 1, some 2] p0 rfl rfl ⟨rfl, rfl, trivial⟩ ?_) | (refine callh [some 1, some 3, some 4] p1 rfl rfl ⟨rfl, rfl, rfl, trivial⟩ ?_) | (refine callh [some 1, some 5] p2 rfl rfl ⟨rfl, rfl, trivial⟩ ?_) | (refine callh [some 1, some 6, some 7] p3 rfl rfl ⟨rfl, rfl, rfl, trivial⟩ ?_) | (refine callh [some 1, some 8] p4 rfl rfl ⟨rfl, rfl, trivial⟩ ?_) | (refine callh [some 1, some 9, some 10] p5 rfl rfl ⟨rfl, rfl, rfl, trivial⟩ ?_) | (refine callh [some 11] kj rfl rfl ⟨rfl, trivial⟩ ?_) | (refine end_fn [] (.inr rfl) ?_ ?_ rfl rfl; (focus exact vwV); exact hsV) | refine x0C ?_ | refine spC (fun hb => ?_) fun hb => ?_ | refine nilC (fun hb => ?_) ?_ | refine taC ?_ | refine saC ?_ | exact sdV | refine side_and ?_ ?_ | refine drawX_of mixed ?_))
  ·have p0 := put0 [AnyV.s w_order, .n o.id, .s w_by, .n o.owner, .s w_for, .n o.price, .s w_group] _ _ rfl (fun x hx => by
    simp at hx; rcases hx with rfl | rfl | rfl | rfl | rfl | rfl | rfl <;> simp only [AnyOK] <;> omega) (by simp)
   have p1 := putM ([AnyV.s w_order, .n o.id, .s w_by, .n o.owner, .s w_for, .n o.price, .s w_group].length) [AnyV.n o.group] _ _ rfl (List.map anyW [AnyV.s w_order, .n o.id, .s w_by, .n o.owner, .s w_for, .n o.price, .s w_group]) (fun x hx => by simp at hx; subst hx; simp only [AnyOK]; omega) rfl (by simp)
   have p2 := chooseM ([AnyV.s w_order, .n o.id, .s w_by, .n o.owner, .s w_for, .n o.price, .s w_group].length + [AnyV.n o.group].length) o.urgent w_urgent w_plain (List.map anyW [AnyV.s w_order, .n o.id, .s w_by, .n o.owner, .s w_for, .n o.price, .s w_group] ++ List.map anyW [AnyV.n o.group]) rfl (by simp)
   have p3 := putM ([AnyV.s w_order, .n o.id, .s w_by, .n o.owner, .s w_for, .n o.price, .s w_group].length + [AnyV.n o.group].length + 1) [AnyV.s w_known, .n o.known, .s w_due, .n o.due, .s w_colon] _ _ rfl (List.map anyW [AnyV.s w_order, .n o.id, .s w_by, .n o.owner, .s w_for, .n o.price, .s w_group] ++ List.map anyW [AnyV.n o.group] ++ [if o.urgent then w_urgent else w_plain]) (fun x hx => by
    simp at hx; rcases hx with rfl | rfl | rfl | rfl | rfl <;> simp only [AnyOK] <;> omega) rfl (by simp)
   have p4 := wgoal 4 o.goal 1 n (by omega) hn hG ([AnyV.s w_order, .n o.id, .s w_by, .n o.owner, .s w_for, .n o.price, .s w_group].length + [AnyV.n o.group].length + 1 + [AnyV.s w_known, .n o.known, .s w_due, .n o.due, .s w_colon].length) (List.map anyW [AnyV.s w_order, .n o.id, .s w_by, .n o.owner, .s w_for, .n o.price, .s w_group] ++ List.map anyW [AnyV.n o.group] ++ [if o.urgent then w_urgent else w_plain] ++ List.map anyW [AnyV.s w_known, .n o.known, .s w_due, .n o.due, .s w_colon]) rfl (by simp; omega)
   have p5 := putM ([AnyV.s w_order, .n o.id, .s w_by, .n o.owner, .s w_for, .n o.price, .s w_group].length + [AnyV.n o.group].length + 1 + [AnyV.s w_known, .n o.known, .s w_due, .n o.due, .s w_colon].length + (goalW o.goal).length) [AnyV.s w_dot] _ _ rfl (List.map anyW [AnyV.s w_order, .n o.id, .s w_by, .n o.owner, .s w_for, .n o.price, .s w_group] ++ List.map anyW [AnyV.n o.group] ++ [if o.urgent then w_urgent else w_plain] ++ List.map anyW [AnyV.s w_known, .n o.known, .s w_due, .n o.due, .s w_colon] ++ goalW o.goal) (fun x hx => by simp at hx; subst hx; trivial) (by simp; omega) (by simp; omega)
   have hF : List.map anyW [AnyV.s w_order, .n o.id, .s w_by, .n o.owner, .s w_for, .n o.price, .s w_group] ++ List.map anyW [AnyV.n o.group] ++ [if o.urgent then w_urgent else w_plain] ++ List.map anyW [AnyV.s w_known, .n o.known, .s w_due, .n o.due, .s w_colon] ++ goalW o.goal ++ List.map anyW [AnyV.s w_dot] = orderW o := by unfold orderW; rw [if_neg hg]; simp [anyW]
   have kj := kjoinO ([AnyV.s w_order, .n o.id, .s w_by, .n o.owner, .s w_for, .n o.price, .s w_group].length + [AnyV.n o.group].length + 1 + [AnyV.s w_known, .n o.known, .s w_due, .n o.due, .s w_colon].length + (goalW o.goal).length + [AnyV.s w_dot].length) (orderW o) (by rw [← hF]; simp; omega) (by rw [orderW_len]; omega) (by have := joinW_len (orderW_sh o); rw [orderW_len] at this; omega)
   rw [← hF] at kj ⊢
   clear hF
   refine meets_of_gx Ax tab_ok Tryz.func14 (c := _) rfl Tryz.call14 400 ?_
   (repeat' ((conv => whnf); first | (exfalso; omega) | refine cpC (hv) ?_ | refine dpC (hv) ?_ | (refine callh [some 1, some 2] p0 rfl rfl ⟨rfl, rfl, trivial⟩ ?_) | (refine callh [some 1, some 3, some 4] p1 rfl rfl ⟨rfl, rfl, rfl, trivial⟩ ?_) | (refine callh [some 1, some 5] p2 rfl rfl ⟨rfl, rfl, trivial⟩ ?_) | (refine callh [some 1, some 6, some 7] p3 rfl rfl ⟨rfl, rfl, rfl, trivial⟩ ?_) | (refine callh [some 1, some 8] p4 rfl rfl ⟨rfl, rfl, trivial⟩ ?_) | (refine callh [some 1, some 9, some 10] p5 rfl rfl ⟨rfl, rfl, rfl, trivial⟩ ?_) | (refine callh [some 11] kj rfl rfl ⟨rfl, trivial⟩ ?_) | (refine end_fn [] (.inr rfl) ?_ ?_ rfl rfl; (focus exact vwV); exact hsV) | refine x0C ?_ | refine spC (fun hb => ?_) fun hb => ?_ | refine nilC (fun hb => ?_) ?_ | refine taC ?_ | refine saC ?_ | exact sdV | refine side_and ?_ ?_ | refine drawX_of mixed ?_))
end Go.SX

/-
 Plain: texts parted at blanks.
-/
namespace Go.SX
theorem splitW_ne : ∀ s : Wd, splitW s ≠ []
 | [] => by simp [splitW]
 | c :: s => by
  unfold splitW
  split
  ·simp
  ·split <;> simp
theorem splitW_count : ∀ s : Wd, (splitW s).length = s.count 32 + 1
 | [] => rfl
 | c :: s => by
  have ih := splitW_count s
  unfold splitW
  by_cases h : c = 32
  ·rw [if_pos h, h, List.count_cons_self, List.length_cons, ih]
  ·rw [if_neg h, List.count_cons_of_ne (fun e => h e)]
   cases hs : splitW s with
   | nil => exact absurd hs (splitW_ne s)
   | cons t l => rw [hs] at ih; simpa using ih
theorem splitW_none : ∀ s : Wd, s.count 32 = 0 → splitW s = [s]
 | [], _ => rfl
 | c :: s, h => by
  have hc : c ≠ 32 := fun e => by rw [e, List.count_cons_self] at h; omega
  rw [List.count_cons_of_ne (fun e => hc e)] at h
  unfold splitW
  rw [if_neg hc, splitW_none s h]
/-- where the first blank stands -/
theorem splitW_some : ∀ s : Wd, 0 < s.count 32 → ∃ m : Nat, Go.Lib.indexByte s 32 = m ∧ m < s.length ∧ splitW s = s.take m :: splitW (s.drop (m + 1))
 | [], h => by simp at h
 | c :: s, h => by
  by_cases hc : c = 32
  ·subst hc
   exact ⟨0, rfl, by simp, by rw [splitW, if_pos rfl]; rfl⟩
  ·rw [List.count_cons_of_ne (fun e => hc e)] at h
   obtain ⟨m, h1, h2, h3⟩ := splitW_some s h
   refine ⟨m + 1, ?_, by simp; omega, ?_⟩
   ·unfold Go.Lib.indexByte
    rw [if_neg (by simpa using hc), h1, if_neg (by simp)]
    rfl
   ·rw [splitW, if_neg hc, h3]
    simp
theorem splitW_len (s : Wd) : (splitW s).length ≤ s.length + 1 := by
 rw [splitW_count]
 have := List.count_le_length (a := (32 : UInt8)) (l := s)
 omega
end Go.SX

namespace Go.SX
open Go.Proofs
set_option maxHeartbeats 4000000
set_option maxRecDepth 100000
/-- what is filled in -/
def fillW' (N : Nat) (pre : List Wd) : List Wd := pre ++ List.replicate (N - pre.length) []
theorem ksplit (s : Wd) (hs : s.length ≤ 1000000) : Meets Tryz.prog Dc 83 [wS s, wS [32], iS 0, iS (-1)] [] (wsS (splitW s)) [] := by
 have hc := kcount s 32
 rw [show (Go.Lib.countByte s 32 : Nat) = (splitW s).length - 1 by rw [splitW_count]; rfl] at hc
 have hN := splitW_len s
 have hp : 0 < (splitW s).length := by rw [splitW_count]; omega
 have h0 : List.replicate (min (((splitW s).length - 1 : Nat) + 1 : Int) ((s.length : Int) + 1)).toNat (Cd.dflt U.str) = fillW' (splitW s).length [] := by
  unfold fillW'
  rw [show (min (((splitW s).length - 1 : Nat) + 1 : Int) ((s.length : Int) + 1)).toNat = (splitW s).length by omega]
  simp
  exact .inr rfl
 refine meets_of_gx Ax tab_ok Tryz.func83 (c := _) rfl Tryz.call83 400 ?_
 (repeat' ((conv => whnf); first | (exfalso; omega) | refine cpC (hc) ?_ | refine dpC (hc) ?_ | refine x0C ?_ | refine spC (fun hb => ?_) fun hb => ?_ | refine nilC (fun hb => ?_) ?_ | refine taC ?_ | refine saC ?_ | exact sdV | refine side_and ?_ ?_ | refine drawX_of mixed ?_))
 refine loop_up (fun p : List Wd × Wd => [(0, wS p.2), (3, iS (((splitW s).length : Int) - 1)), (9, .slice 0 0 1 0 (splitW s).length), (10, iS p.1.length)]) (fun p => [(0, .rows U.str (fillW' (splitW s).length p.1))]) (fun p => splitW s = p.1 ++ splitW p.2 ∧ p.2.length ≤ s.length) (fun p => p.2.length) ([], s) ⟨rfl, Nat.le_refl _⟩ (by exact bkW) ?_
 rintro ⟨pre, t⟩ ⟨hsp, htl⟩ K hK
 dsimp only at hsp htl ⊢
 have hlen := congrArg List.length hsp
 rw [List.length_append] at hlen
 have htc := splitW_count t
 have hfl : (fillW' (splitW s).length pre).length = (splitW s).length := by unfold fillW'; simp; omega
 have hsd : ∀ i : Nat, i = pre.length → i < (splitW s).length → Side (0 + ((i : Int)).toNat < (fillW' (splitW s).length pre).length ∧ 0 + 1 = Cd.n U.str) := fun i e1 e2 => ⟨⟨by omega, rfl⟩⟩
 rcases Nat.eq_zero_or_pos (t.count 32) with hz | hz
 ·have ht := splitW_none t hz
  have hV : splitW s = (((fillW' (splitW s).length pre).set (0 + (pre.length : Int).toNat) t).drop (0 + Int.toNat 0)).take (((pre.length : Int) + 1).toNat - Int.toNat 0) := by
   rw [ht] at hsp
   have hl : (splitW s).length = pre.length + 1 := by rw [hsp]; simp
   have e1 : 0 + (pre.length : Int).toNat = pre.length := by omega
   have e2 : ((pre.length : Int) + 1).toNat - Int.toNat 0 = pre.length + 1 := by omega
   rw [e1, e2, hl]
   unfold fillW'
   rw [List.set_append_right _ _ (Nat.le_refl _), show pre.length + 1 - pre.length = 1 by omega, Nat.sub_self, hsp]
   simp [List.take_of_length_le]
  (repeat' ((conv => whnf); first | (exfalso; omega) | (refine hsd _ rfl (by omega)) | (refine end_fn [] (.inr rfl) ?_ ?_ rfl rfl) | refine x0C ?_ | refine spC (fun hb => ?_) fun hb => ?_ | refine nilC (fun hb => ?_) ?_ | refine taC ?_ | refine saC ?_ | exact sdV | refine side_and ?_ ?_ | refine drawX_of mixed ?_))
  ·refine ⟨?_⟩
   (conv => whnf)
   exact fzV rfl rfl rfl (by rw [List.length_set, hfl]; omega) hV rfl
  ·exact trivial
 ·obtain ⟨m, hm1, hm2, hm3⟩ := splitW_some t hz
  have hi := kindex t 32
  rw [hm1] at hi
  have hsm : Side (InR .i64 ((m : Int) + (([32] : Wd).length : Nat))) := ⟨inR_i64 (by simp; omega) (by simp; omega)⟩
  have htm : List.drop (Int.toNat 0) (List.take ((m : Int) + 0).toNat t) = t.take m := by rw [show ((m : Int) + 0).toNat = m by omega]; rfl
  have ht1 : List.drop ((m : Int) + (([32] : Wd).length : Nat)).toNat (List.take (t.length : Int).toNat t) = t.drop (m + 1) := by
   rw [show ((m : Int) + (([32] : Wd).length : Nat)).toNat = m + 1 by simp, Int.toNat_natCast, List.take_length]
  have hV : (fillW' (splitW s).length pre).set (0 + (pre.length : Int).toNat) (List.drop (Int.toNat 0) (List.take ((m : Int) + 0).toNat t)) = fillW' (splitW s).length (pre ++ [List.drop (Int.toNat 0) (List.take ((m : Int) + 0).toNat t)]) := by
   have e1 : 0 + (pre.length : Int).toNat = pre.length := by omega
   rw [e1]
   unfold fillW'
   obtain ⟨q, hq⟩ : ∃ q, (splitW s).length - pre.length = q + 1 := ⟨(splitW s).length - pre.length - 1, by omega⟩
   rw [List.set_append_right _ _ (Nat.le_refl _), Nat.sub_self, hq, List.length_append, show (splitW s).length - (pre.length + [List.drop (Int.toNat 0) (List.take ((m : Int) + 0).toNat t)].length) = q by simp; omega, List.replicate_succ]
   simp
  have hpl : (((pre ++ [List.drop (Int.toNat 0) (List.take ((m : Int) + 0).toNat t)]).length : Nat) : Int) = (pre.length : Int) + 1 := by simp
  (repeat' ((conv => whnf); first | (exfalso; omega) | refine cpC (hi) ?_ | refine dpC (hi) ?_ | (refine hsd _ rfl (by omega)) | (refine hsm) | refine hK (pre ++ [List.drop (Int.toNat 0) (List.take ((m : Int) + 0).toNat t)], List.drop ((m : Int) + (([32] : Wd).length : Nat)).toNat (List.take (t.length : Int).toNat t)) [some 0] _ _ ⟨⟨by (rw [htm, ht1, hsp, hm3]; simp), by (show (List.drop _ _).length ≤ _; rw [ht1, List.length_drop]; omega)⟩⟩ ⟨by (show (List.drop _ _).length < t.length; rw [ht1, List.length_drop]; omega)⟩ (by dsimp only; exact bkW) | refine x0C ?_ | refine spC (fun hb => ?_) fun hb => ?_ | refine nilC (fun hb => ?_) ?_ | refine taC ?_ | refine saC ?_ | exact sdV | refine side_and ?_ ?_ | refine drawX_of mixed ?_))
theorem osplit (s : Wd) (hs : s.length ≤ 1000000) : Meets Tryz.prog Dc 57 [wS s, wS [32]] [] (wsS (splitW s)) [] := by
 have h := ksplit s hs
 refine meets_of_gx Ax tab_ok Tryz.func57 (c := _) rfl Tryz.call57 100 ?_
 (repeat' ((conv => whnf); first | (exfalso; omega) | refine cpC (h) ?_ | refine dpC (h) ?_ | (refine end_fn [] (.inr rfl) ?_ ?_ rfl rfl; (focus exact vwV); exact hsV) | refine x0C ?_ | refine spC (fun hb => ?_) fun hb => ?_ | refine nilC (fun hb => ?_) ?_ | refine taC ?_ | refine saC ?_ | exact sdV | refine side_and ?_ ?_ | refine drawX_of mixed ?_))
theorem otokens (s : Wd) (hs : s.length ≤ 1000000) : Meets Tryz.prog Dc 28 [wS s] [] (wsS (tokensW s)) [] := by
 have h := osplit s hs
 unfold tokensW
 by_cases h0 : s = []
 ·rw [if_pos h0]
  refine meets_of_gx Ax tab_ok Tryz.func28 (c := _) rfl Tryz.call28 100 ?_
  (repeat' ((conv => whnf); first | (exfalso; omega) | refine cpC (h) ?_ | refine dpC (h) ?_ | (refine end_fn [] (.inr rfl) ?_ ?_ rfl rfl; (focus exact vwV); exact hsV) | refine x0C ?_ | refine spC (fun hb => ?_) fun hb => ?_ | refine nilC (fun hb => ?_) ?_ | refine taC ?_ | refine saC ?_ | exact sdV | refine side_and ?_ ?_ | refine drawX_of mixed ?_))
  all_goals exact absurd h0 (by assumption)
 ·rw [if_neg h0]
  refine meets_of_gx Ax tab_ok Tryz.func28 (c := _) rfl Tryz.call28 100 ?_
  (repeat' ((conv => whnf); first | (exfalso; omega) | refine cpC (h) ?_ | refine dpC (h) ?_ | (refine end_fn [] (.inr rfl) ?_ ?_ rfl rfl; (focus exact vwV); exact hsV) | refine x0C ?_ | refine spC (fun hb => ?_) fun hb => ?_ | refine nilC (fun hb => ?_) ?_ | refine taC ?_ | refine saC ?_ | exact sdV | refine side_and ?_ ?_ | refine drawX_of mixed ?_))
  all_goals exact absurd (by assumption) h0
end Go.SX

/-
 SX, part Dx: a region that draws its order, in which a call ends with a panic, strictly.
-/
namespace Go.SX
open Go.RowKit
variable {C : Cod}
/-- a call that dies, in a region that draws its order -/
structure DDieX (P : Program) (D : Codec C) (f : FuncId) (args : List (SV C)) (Hp : List (HS C)) (K : List PanicEntry → List (HS C) → Prop) (Y : Prop) : Prop where
 h : ∃ ch Hp', DieN P D f args Hp ch Hp' ∧ K ch Hp' ∧ Y
def noGuard (g : Option (Nat × Bool)) (X : Prop) : Prop := match g with
 | none => X
 | some _ => False
def poisK (x : Option Nat) (K : Nat → Prop) (Y : Prop) : Prop := match x with
 | some t => K t
 | none => Y
def postGoX (P : Program) {D : Codec C} (A : Aux C D) (tab : Tab C) (K : DK C) (big : Nat) : List Oper → DK C
 | [] => K
 | ⟨dst, op, _, _, _, guard⟩ :: rest => fun tr T Hp => poisK (poisT T (tmpsOf (opnds op))) (fun t => setOK T dst pois fun T' => postGoX P A tab K big rest (⟨dst, [t], [], []⟩ :: tr) T' Hp)
   (noGuard guard (drawOpX P A tab big (postGoX P A tab K big rest) dst op [] tr T Hp))
def dieEndX (all : List Oper) (dd : Nat) : DK C := fun tr T _ => TraceOK all tr ∧ condX (noW tr && isPois (getT T dd)) True False
def dieOutX (P : Program) (D : Codec C) (K : List PanicEntry → List (HS C) → Prop) (Y : Prop) (Hp : List (HS C)) : Out C → Prop
 | .call f args => forceV args fun args => DDieX P D f args Hp K Y
 | _ => False
def dieOpX (P : Program) {D : Codec C} (A : Aux C D) (tab : Tab C) (R : Kont C) (all : List Oper) (k : List (It C)) (big : Nat) : List Oper → DK C
 | ⟨some dd, op, _, _, _, none⟩ :: post => fun tr T Hp => forceV (valsOf T (opnds op)) fun vals => hlenK Hp 0 fun m =>
  dieOutX P D (fun ch Hp' => R (.die ch :: k) (anys T.length) Hp') (forceL (tmpsOf (opnds op)) fun fs => setTK T dd pois fun T' => postGoX P A tab (dieEndX all dd) big post (⟨some dd, fs, [], []⟩ :: tr) T' Hp) Hp (exec A tab op vals (hsOf Hp vals) m)
 | _ => fun _ _ _ => False
section
variable {P : Program} {D : Codec C} {A : Aux C D} {tab : Tab C} {R : Kont C} {k : List (It C)} {T : List (SV C)} {Hp : List (HS C)}
theorem postGoX_imp {big : Nat} {K K' : DK C} (hK : ∀ tr T Hp, K' tr T Hp → K tr T Hp) : ∀ (rest : List Oper) (tr : List Ent) (T : List (SV C)) (Hp : List (HS C)),
  postGoX P A tab K' big rest tr T Hp → postGo P A tab K big rest tr T Hp
 | [], tr, T, Hp, h => hK _ _ _ h
 | ⟨dst, op, ty, pos, after, guard⟩ :: rest, tr, T, Hp, h => by
  have ih := postGoX_imp (big := big) hK rest
  simp only [postGoX] at h
  simp only [postGo]
  cases hp : poisT T (tmpsOf (opnds op)) with
  | some t =>
   rw [hp] at h
   simp only [poisK, setOK_eq] at h
   exact ih _ _ _ h
  | none =>
   rw [hp] at h
   simp only [poisK] at h
   cases guard with
   | some g => exact h.elim
   | none => exact ⟨rfl, drawOpX_imp ih h⟩
theorem dieEndX_imp {all : List Oper} {dd : Nat} (tr : List Ent) (T : List (SV C)) (Hp : List (HS C)) (h : dieEndX all dd tr T Hp) : dieEnd all dd tr T Hp := by
 obtain ⟨h1, h2⟩ := h
 unfold condX at h2
 split at h2
 ·rename_i hb
  rw [Bool.and_eq_true] at hb
  exact ⟨h1.h, hb.1, hb.2⟩
 ·exact h2.elim
theorem dieOpX_imp {all : List Oper} {big : Nat} {tr : List Ent} : ∀ (l : List Oper), dieOpX P A tab R all k big l tr T Hp → dieOp P A tab R all k big l tr T Hp
 | [], h => h.elim
 | ⟨none, _, _, _, _, _⟩ :: _, h => h.elim
 | ⟨some _, _, _, _, _, some _⟩ :: _, h => h.elim
 | ⟨some dd, op, ty, pos, after, none⟩ :: post, h => by
  simp only [dieOpX] at h
  rw [forceV_eq, hlenK_eq, Nat.add_zero] at h
  unfold dieOutX at h
  split at h
  ·rename_i f args hex
   rw [forceV_eq] at h
   obtain ⟨ch, Hp', h1, h2, h3⟩ := h.h
   rw [forceL_eq, setTK_eq] at h3
   exact ⟨f, args, ch, Hp', hex, h1, h2, postGoX_imp dieEndX_imp post _ _ _ h3⟩
  ·exact h.elim
theorem drawX_die {m0 : Nat} {ops : List Oper} (i : Nat) (hmix : P.follows .mixedOrders = true) (h : hlenK Hp 1000 fun big => postGoX P A tab (dieOpX P A tab R ops k big (ops.drop i)) big (ops.take i) [] T Hp) : DrawX P A tab m0 R ops k T Hp := by
 rw [hlenK_eq] at h
 exact ⟨⟨_, _, fun _ _ _ _ _ h => h, .inr ⟨hmix, i, postGoX_imp (fun tr T Hp hk => dieOpX_imp _ hk) _ [] T Hp h⟩⟩⟩
/-- a call that dies in a region that draws its order, of a contract about some chunks -/
theorem ddieh {f : FuncId} {args : List (SV C)} {ch : List PanicEntry} {args0 : List (SV C)} {H0 H0' H1 : List (HS C)} {K : List PanicEntry → List (HS C) → Prop} {Y : Prop} (ρ : List (Option Nat)) (hM : Dies P D f args0 H0 ch H1) (hargs : renL ρ args0 = some args) (hH0 : renHs ρ H0 = some H0') (hat : heapAt (getC Hp) ρ H0')
  (h : callK Hp ρ H0.length H1 (.tuple []) fun _ _ ws => setCsK Hp ws fun Hp' => K ch Hp') (hy : Y) : DDieX P D f args Hp K Y := by
 unfold callK at h
 rw [hlenK_eq, Nat.add_zero, forceIds_eq] at h
 unfold condT at h
 split at h
 ·rename_i hc
  simp only [Bool.and_eq_true] at hc
  unfold someK at h
  split at h
  ·rename_i H1' hH1
   split at h
   ·dsimp only at h
    rw [setCsK_eq] at h
    refine ⟨ch, _, ⟨hM.enter, fun B σ df a w E hR vs hd => ?_⟩, h, hy⟩
    refine (call_core (Ω := fun e _ _ => e = .panicked ch) (fun w E hm vs hs hd => (hM.calls w E hm vs hs hd).mono fun e w' ⟨E', h1, h2, h3⟩ => ⟨E', h1, h2, h3⟩) ρ hargs hH0 hat _ rfl (fun k _ => getC_ge Hp _ (by rw [← hlen_eq]; omega)) hc.1 (Nat.le_of_ble_eq_true hc.2) hH1 B σ df a w E hR vs hd).mono ?_
    rintro e w' ⟨e1, E1, h1, _, _, h2⟩
    exact ⟨E1, h1, by rw [getC_setCs]; exact h2⟩
   ·exact h.elim
  ·exact h.elim
 ·exact h.elim
end
end Go.SX

/-
 SX, part Rd: contracts of a reader's functions: they hand something back, or end with a panic.
-/
namespace Go.SX
open Go.RowKit
variable {C : Cod}
section
variable {P : Program} {D : Codec C} {tab : Tab C} {B : Base} {E : Env} {σ : Nat → SV C} {H : Nat → HS C} {df : List Deferred} {a : Act} {w : World} {o : Oper} {r : Option Nat}
theorem meets_of_gxP (A : Aux C D) (hT : TabOK P D tab) {f : FuncId} {fn : Func} {c : Code} (hf : P.funcs[f]? = some fn) (hb : fn.body = some c) (henter : ∀ args w, (callFunc f args).run P w = .ok (.enter f args) w)
  {args : List (SV C)} {H0 : List (HS C)} {ret : SV C} {H1 : List (HS C)} {Φ : Post C} (hΦ : ∀ e T Hp, Φ e T Hp → EndPost D tab fn.results.toList H0.length ret H1 e T Hp) (n : Nat)
  (h : forceV (args ++ anys (fn.ntmps - args.length)) fun T0 => forceL H0 fun Hp0 => gx P A tab ⟨none, [], H0.length, false⟩ Φ n [.code c] T0 Hp0) : Meets P D f args H0 ret H1 := by
 rw [forceV_eq, forceL_eq] at h
 refine ⟨henter, fun w E hm vs hs hd => ?_⟩
 refine callsIn_of_wp_marks hf hb trivial ?_ rfl
 have hR := enter_rel (n := fn.ntmps) (m := H0.length) (hm := hm) hs hd
 have hX : CtxOK D (⟨none, [], H0.length, false⟩ : Ctx C) (Base.here w E H0.length hm) none := ⟨rfl, fun c ri hc => by simp [lkR] at hc, trivial, rfl⟩
 have := gx_sound (r := none) (Q := bodyPostM (Fc none) 0 P fn fun e w' => ∃ v E', e = .returned v ∧ Den D w' E' ret v ∧ Sat D w' E' (getC H1) ∧ Fr (Base.here w E H0.length hm) E' w') A hT hX
  (fun e a w' T Hp hΦ' hRL => ?_) n _ _ _ h _ _ hR
 ·exact this
 ·obtain ⟨he, θ, l, h1, h2, h3⟩ := hΦ _ _ _ hΦ'
  obtain ⟨df, E1, hR1, _⟩ := hRL
  have key : LeavesInM (Fc none) 0 P fn a.tmps (fun e w' => ∃ v E', e = .returned v ∧ Den D w' E' ret v ∧ Sat D w' E' (getC H1) ∧ Fr (Base.here w E H0.length hm) E' w') a.defers .returning w' := by
   refine leaves_rel hR1 fun w2 E2 hR2 => ?_
   obtain ⟨v, h4, h5⟩ := results_run (P := P) (fn := fn) hT hR2 h1
   obtain ⟨g1, g2, g3⟩ := view_env hR2.sat hR2.fr h3
   exact ⟨v, h4, v, _, rfl, view_den hR2.sat g1 _ _ _ h2 h5, g2, g3⟩
  rcases he with rfl | rfl
  ·exact key
  ·exact key
theorem dies_of_gxP (A : Aux C D) (hT : TabOK P D tab) {f : FuncId} {fn : Func} {c : Code} (hf : P.funcs[f]? = some fn) (hb : fn.body = some c) (henter : ∀ args w, (callFunc f args).run P w = .ok (.enter f args) w)
  {args : List (SV C)} {H0 : List (HS C)} {H1 : List (HS C)} {ch : List PanicEntry} {Φ : Post C} (hΦ : ∀ e T Hp, Φ e T Hp → DiePost ch H0.length H1 e T Hp) (n : Nat)
  (h : forceV (args ++ anys (fn.ntmps - args.length)) fun T0 => forceL H0 fun Hp0 => gx P A tab ⟨none, [], H0.length, false⟩ Φ n [.code c] T0 Hp0) : Dies P D f args H0 ch H1 := by
 rw [forceV_eq, forceL_eq] at h
 refine ⟨henter, fun w E hm vs hs hd => ?_⟩
 refine callsIn_of_wp_marks hf hb trivial ?_ rfl
 have hR := enter_rel (n := fn.ntmps) (m := H0.length) (hm := hm) hs hd
 have hX : CtxOK D (⟨none, [], H0.length, false⟩ : Ctx C) (Base.here w E H0.length hm) none := ⟨rfl, fun c ri hc => by simp [lkR] at hc, trivial, rfl⟩
 have := gx_sound (r := none) (Q := bodyPostM (Fc none) 0 P fn fun e w' => ∃ E', e = .panicked ch ∧ Sat D w' E' (getC H1) ∧ Fr (Base.here w E H0.length hm) E' w') A hT hX
  (fun e a w' T Hp hΦ' hRL => ?_) n _ _ _ h _ _ hR
 ·exact this
 ·obtain ⟨rfl, θ, h3⟩ := hΦ _ _ _ hΦ'
  obtain ⟨df, E1, hR1, _⟩ := hRL
  refine leaves_relP hR1 fun w2 E2 hR2 => ?_
  obtain ⟨g1, g2, g3⟩ := view_env hR2.sat hR2.fr h3
  exact ⟨_, rfl, g2, g3⟩
end
end Go.SX

namespace Go.SX
open Go.Proofs
set_option maxHeartbeats 4000000
set_option maxRecDepth 100000
@[reducible] def rdH (ws : List Wd) (a m : Int) : List (HS Cd) := [.vart none [wsS ws, iS a, iS m]]
@[reducible] def chS : List PanicEntry := [{ v := .iface 84 (.agg #[]), recovered := false }]
/-- what a reader's function does: it hands back what S says, or ends with a panic -/
structure RM {α : Type} (f : FuncId) (args : List (SV Cd)) (ws : List Wd) (a m : Int) (X : List (HS Cd)) (S : Rs α) (ret : α → SV Cd) (Pr : α → Prop) : Prop where
 ok : ∀ x a' m', S = .ok x a' m' → Meets Tryz.prog Dc f args (rdH ws a m ++ X) (ret x) (rdH ws a' m' ++ X)
 no : ∀ a' m', S = .no a' m' → Dies Tryz.prog Dc f args (rdH ws a m ++ X) chS (rdH ws a' m' ++ X)
 bd : S.Bd ws a m
 pr : ∀ x a' m', S = .ok x a' m' → Pr x
def RPost {α : Type} (S : Rs α) (rs : List ResultVar) (m0 : Nat) (ret : α → SV Cd) (ws : List Wd) (X : List (HS Cd)) : Post Cd := fun e T Hp =>
 (∃ x a' m', S = .ok x a' m' ∧ EndPost Dc tab rs m0 (ret x) (rdH ws a' m' ++ X) e T Hp) ∨ ∃ a' m', S = .no a' m' ∧ DiePost chS m0 (rdH ws a' m' ++ X) e T Hp
theorem rm_of {α : Type} {f : FuncId} {fn : Func} {c : Code} (hf : Tryz.prog.funcs[f]? = some fn) (hb : fn.body = some c) (henter : ∀ args w, (callFunc f args).run Tryz.prog w = .ok (.enter f args) w)
  {args : List (SV Cd)} {ws : List Wd} {a m : Int} {X : List (HS Cd)} {S : Rs α} {ret : α → SV Cd} {Pr : α → Prop} (n : Nat) (hbd : S.Bd ws a m) (hpr : ∀ x a' m', S = .ok x a' m' → Pr x)
  (h : forceV (args ++ anys (fn.ntmps - args.length)) fun T0 => forceL (rdH ws a m ++ X) fun Hp0 => gx Tryz.prog Ax tab ⟨none, [], (rdH ws a m ++ X).length, false⟩ (RPost S fn.results.toList (rdH ws a m ++ X).length ret ws X) n [.code c] T0 Hp0) : RM f args ws a m X S ret Pr where
 ok := fun x a' m' e => meets_of_gxP Ax tab_ok hf hb henter (fun ex T Hp hp => by
  rcases hp with ⟨x2, a2, m2, e2, hp⟩ | ⟨a2, m2, e2, hp⟩
  ·rw [e] at e2; cases e2; exact hp
  ·rw [e] at e2; cases e2) n h
 no := fun a' m' e => dies_of_gxP Ax tab_ok hf hb henter (fun ex T Hp hp => by
  rcases hp with ⟨x2, a2, m2, e2, hp⟩ | ⟨a2, m2, e2, hp⟩
  ·rw [e] at e2; cases e2
  ·rw [e] at e2; cases e2; exact hp) n h
 bd := hbd
 pr := hpr
section
variable {α : Type} {X : Ctx Cd} {R : Kont Cd} {f : FuncId} {args : List (SV Cd)} {dst : Option Nat} {all rest : List Oper} {k : List (It Cd)} {T : List (SV Cd)} {Hp : List (HS Cd)} {ws : List Wd} {a m : Int}
theorem rok {S : Rs α} {rs : List ResultVar} {m0 : Nat} {ret : α → SV Cd} {Y : List (HS Cd)} {e : Exit} {x : α} {a' m' : Int} (hS : S = .ok x a' m') (h : EndPost Dc tab rs m0 (ret x) (rdH ws a' m' ++ Y) e T Hp) : RPost S rs m0 ret ws Y e T Hp := .inl ⟨x, a', m', hS, h⟩
theorem rno {S : Rs α} {rs : List ResultVar} {m0 : Nat} {ret : α → SV Cd} {Y : List (HS Cd)} {e : Exit} {a' m' : Int} (hS : S = .no a' m') (h : DiePost chS m0 (rdH ws a' m' ++ Y) e T Hp) : RPost S rs m0 ret ws Y e T Hp := .inr ⟨a', m', hS, h⟩
theorem rmX {args0 : List (SV Cd)} {Y : List (HS Cd)} {S : Rs α} {ret : α → SV Cd} {Pr : α → Prop} {H0' : List (HS Cd)} (ρ : List (Option Nat)) (hM : RM f args0 ws a m Y S ret Pr) (hargs : renL ρ args0 = some args) (hH0 : renHs ρ (rdH ws a m ++ Y) = some H0') (hat : heapAt (getC Hp) ρ H0')
  (hok : ∀ x a' m', S = .ok x a' m' → InW ws a' m' → Pr x → callK Hp ρ (rdH ws a m ++ Y).length (rdH ws a' m' ++ Y) (ret x) fun ret _ ws' => setOK T dst ret fun T' => setCsK Hp ws' fun Hp' => R (.ops all rest :: k) T' Hp')
  (hno : ∀ a' m', S = .no a' m' → InW ws a' m' → callK Hp ρ (rdH ws a m ++ Y).length (rdH ws a' m' ++ Y) (.tuple []) fun _ _ ws' => setCsK Hp ws' fun Hp' => R (.die chS :: k) T Hp') (hi : InW ws a m) : CallX Tryz.prog Dc X R f args dst all rest k T Hp := by
 have hb := hM.bd
 cases hS : S with
 | ok x a' m' => rw [hS] at hb; exact callh ρ (hM.ok x a' m' hS) hargs hH0 hat (hok x a' m' hS (hi.step hb) (hM.pr x a' m' hS))
 | no a' m' => rw [hS] at hb; exact dieh ρ (hM.no a' m' hS) hargs hH0 hat (hno a' m' hS (hi.step hb))
end
structure WsOK (ws : List Wd) : Prop where
 w : ∀ w ∈ ws, w.length ≤ 1000000
 n : ws.length ≤ 1000000
theorem peekW_len {ws : List Wd} (h : WsOK ws) {a m : Int} (hi : InW ws a m) : (peekW ws a).length ≤ 1000000 := by
 unfold peekW
 split
 ·simp
 ·rename_i hne
  have hlt : a.toNat < ws.length := by have := hi.a0; have := hi.a1; omega
  rw [List.getD_eq_getElem?_getD, List.getElem?_eq_getElem hlt]
  exact h.w _ (List.getElem_mem hlt)
theorem rpeek {ws : List Wd} {a m : Int} (hi : InW ws a m) (hn : WsOK ws) : Meets Tryz.prog Dc 102 [.ptr 0 0] (rdH ws a m) (wS (peekW ws a)) (rdH ws a m) := by
 obtain ⟨h1, h2, h3, _⟩ := hi
 have hl := hn.n
 unfold peekW
 by_cases he : a = ws.length
 ·rw [if_pos he]
  refine meets_of_gx Ax tab_ok Tryz.func102 (c := _) rfl Tryz.call102 100 ?_
  (repeat' ((conv => whnf); first | (exfalso; omega) | (refine end_fn [some 0] (.inr rfl) ?_ ?_ rfl rfl; (focus exact vwV); exact hsV) | refine x0C ?_ | refine spC (fun hb => ?_) fun hb => ?_ | refine nilC (fun hb => ?_) ?_ | refine taC ?_ | refine saC ?_ | exact sdV | refine side_and ?_ ?_ | refine drawX_of mixed ?_))
 ·rw [if_neg he]
  refine meets_of_gx Ax tab_ok Tryz.func102 (c := _) rfl Tryz.call102 100 ?_
  (repeat' ((conv => whnf); first | (exfalso; omega) | (refine end_fn [some 0] (.inr rfl) ?_ ?_ rfl rfl; (focus exact vwV); exact hsV) | refine x0C ?_ | refine spC (fun hb => ?_) fun hb => ?_ | refine nilC (fun hb => ?_) ?_ | refine taC ?_ | refine saC ?_ | exact sdV | refine side_and ?_ ?_ | refine drawX_of mixed ?_))
theorem risT {ws : List Wd} {a m : Int} (s : Wd) (hi : InW ws a m) (hn : WsOK ws) (h : peekW ws a = s) : Meets Tryz.prog Dc 75 [.ptr 0 0, wS s] (rdH ws a m) (bS true) (rdH ws (a + 1) m) := by
 have hp := rpeek hi hn
 obtain ⟨h1, h2, h3, _⟩ := hi
 have hl := hn.n
 rw [h] at hp
 refine meets_of_gx Ax tab_ok Tryz.func75 (c := _) rfl Tryz.call75 100 ?_
 (repeat' ((conv => whnf); first | (exfalso; omega) | (refine callh [some 0] hp rfl rfl ⟨rfl, trivial⟩ ?_) | (refine end_fn [some 0] (.inr rfl) ?_ ?_ rfl rfl; (focus exact vwV); exact hsV) | refine x0C ?_ | refine spC (fun hb => ?_) fun hb => ?_ | refine nilC (fun hb => ?_) ?_ | refine taC ?_ | refine saC ?_ | exact sdV | refine side_and ?_ ?_ | refine drawX_of mixed ?_))
 all_goals exact absurd rfl (by assumption)
theorem risF {ws : List Wd} {a m : Int} (s : Wd) (hi : InW ws a m) (hn : WsOK ws) (h : ¬ peekW ws a = s) : Meets Tryz.prog Dc 75 [.ptr 0 0, wS s] (rdH ws a m) (bS false) (rdH ws a m) := by
 have hp := rpeek hi hn
 obtain ⟨h1, h2, h3, _⟩ := hi
 have hl := hn.n
 refine meets_of_gx Ax tab_ok Tryz.func75 (c := _) rfl Tryz.call75 100 ?_
 (repeat' ((conv => whnf); first | (exfalso; omega) | (refine callh [some 0] hp rfl rfl ⟨rfl, trivial⟩ ?_) | (refine end_fn [some 0] (.inr rfl) ?_ ?_ rfl rfl; (focus exact vwV); exact hsV) | refine x0C ?_ | refine spC (fun hb => ?_) fun hb => ?_ | refine nilC (fun hb => ?_) ?_ | refine taC ?_ | refine saC ?_ | exact sdV | refine side_and ?_ ?_ | refine drawX_of mixed ?_))
 all_goals exact absurd (by assumption) h
theorem und84 : Tryz.prog.underlying 84 = some (.struct #[]) := by kernel_rfl
theorem unitS (e : Operand → Value) (o : Oper) (w : World) (ho : o.op = .build 84 #[]) : (execOp e o).run Tryz.prog w = .ok (.value (.agg #[])) w := by
 obtain ⟨i, h1, h2⟩ : ∃ i, Tryz.prog.info? 84 = some i ∧ i.zero = some (.agg #[]) := by
  have : (Tryz.prog.info? 84).map (·.zero) = some (some (.agg #[])) := by kernel_rfl
  cases h : Tryz.prog.info? 84 with
  | none => rw [h] at this; cases this
  | some i => rw [h] at this; exact ⟨i, rfl, by simpa using this⟩
 simp [execOp, ho, Instr.build, run_underlying und84, zeroValue, typeInfo, h1, h2]
 rfl
theorem ufaceS (x : Operand) (e : Operand → Value) (o : Oper) (w : World) (ho : o.op = .makeInterface 84 x) : (execOp e o).run Tryz.prog w = .ok (.value (.iface 84 (e x))) w := by
 simp [execOp, ho, Instr.makeInterface, run_underlying und84]
/-- the three operations of a panic -/
theorem mustW_drop (ws : List Wd) : ∀ (i : Nat) (l : List Wd) (a m : Int), i ≤ l.length → (∀ j, j < i → peekW ws (a + j) = l.getD j []) → mustW ws l a m = mustW ws (l.drop i) (a + i) m
  | 0, l, a, m, _, _ => by simp
  | i + 1, [], a, m, h, _ => by simp at h
  | i + 1, s :: l, a, m, h, hp => by
    have h0 := hp 0 (by omega)
    simp only [Int.natCast_zero, Int.add_zero, List.getD_cons_zero] at h0
    rw [mustW, if_pos h0, mustW_drop ws i l (a + 1) m (by simpa using h) fun j hj => by
      have := hp (j + 1) (by omega)
      rw [show a + 1 + (j : Int) = a + ((j + 1 : Nat) : Int) by omega]
      simpa using this]
    rw [List.drop_succ_cons, show a + 1 + (i : Int) = a + ((i + 1 : Nat) : Int) by omega]
theorem rmust (l : List Wd) (hll : l.length ≤ 1000000) (h32 : ∀ s ∈ l, s ≠ [32]) {ws : List Wd} {a m : Int} (hi : InW ws a m) (hn : WsOK ws) : RM 73 [.ptr 0 0, .slice 1 0 1 0 l.length] ws a m [.rows U.str l] (mustW ws l a m) (fun _ => .tuple []) (fun _ => True) := by
 refine rm_of Tryz.func73 (c := _) rfl Tryz.call73 200 (mustW_bd l hi h32) (fun _ _ _ _ => trivial) ?_
 obtain ⟨S, hS⟩ : ∃ S, S = mustW ws l a m := ⟨_, rfl⟩
 rw [← hS]
 refine loop_up (fun i : Nat => [(8, iS i)]) (fun i => [(0, .vart none [wsS ws, iS (a + i), iS m])]) (fun i => i ≤ l.length ∧ InW ws (a + i) m ∧ ∀ j, j < i → peekW ws (a + j) = l.getD j []) (fun i => l.length - i) 0 ⟨Nat.zero_le _, by simpa using hi, fun j hj => absurd hj (Nat.not_lt_zero _)⟩ (by exact bkW) ?_
 rintro i ⟨hil, hiw, hpj⟩ K hK
 have hd := mustW_drop ws i l a m hil hpj
 rw [hd] at hS
 rcases Nat.lt_or_ge i l.length with hlt | hge
 ·have hb1 := hiw.a1
  have hb2 := hn.n
  have hg : l.getD (0 + (i : Int).toNat) (Cd.dflt U.str) = l.getD i [] := by rw [Nat.zero_add]; rfl
  rw [drop_getD (d := ([] : Wd)) hlt, mustW] at hS
  by_cases hp : peekW ws (a + i) = l.getD i []
  ·have hmem : l.getD i [] ∈ l := by rw [List.getD_eq_getElem?_getD, List.getElem?_eq_getElem hlt]; exact List.getElem_mem hlt
   have hlt2 := peekW_lt hiw hp (h32 _ hmem)
   have hI : InW ws (a + i + 1) m := ⟨by have := hiw.a0; omega, by omega, hiw.m0, hiw.m1⟩
   have q := risT (l.getD (0 + (i : Int).toNat) (Cd.dflt U.str)) hiw hn (hp.trans hg.symm)
   (repeat' ((conv => whnf); first | (exfalso; omega) | (refine callh [some 0] q rfl rfl ⟨rfl, trivial⟩ ?_) | (refine hK (i + 1) [some 0, some 1] _ _ ⟨⟨by omega, by (rw [show a + ((i + 1 : Nat) : Int) = a + i + 1 by omega]; exact hI), fun j hj => by (rcases Nat.lt_or_ge j i with h | h; exact hpj j h; (obtain rfl : j = i := by omega); exact hp)⟩⟩ ⟨by omega⟩ (by exact bkW)) | refine x0C ?_ | refine spC (fun hb => ?_) fun hb => ?_ | refine nilC (fun hb => ?_) ?_ | refine taC ?_ | refine saC ?_ | exact sdV | refine side_and ?_ ?_ | refine drawX_of mixed ?_))
  ·have q := risF (l.getD (0 + (i : Int).toNat) (Cd.dflt U.str)) hiw hn (fun e => hp (e.trans hg))
   rw [if_neg hp] at hS
   (repeat' ((conv => whnf); first | (exfalso; omega) | (refine callh [some 0] q rfl rfl ⟨rfl, trivial⟩ ?_) | refine unit_in unitS ?_ | refine uface_in (ufaceS _) rfl ?_ | refine panic_in _ _ _ rfl (only_lit rfl) ?_ | (refine rno hS (die_end [some 0, some 1] ?_); exact hsW) | refine x0C ?_ | refine spC (fun hb => ?_) fun hb => ?_ | refine nilC (fun hb => ?_) ?_ | refine taC ?_ | refine saC ?_ | exact sdV | refine side_and ?_ ?_ | refine drawX_of mixed ?_))
 ·obtain rfl : i = l.length := by omega
  rw [List.drop_length, mustW] at hS
  (repeat' ((conv => whnf); first | (exfalso; omega) | (refine rok hS (end_fn [some 0, some 1] (.inl rfl) ?_ ?_ rfl rfl); (focus exact vwV); exact hsW) | refine x0C ?_ | refine spC (fun hb => ?_) fun hb => ?_ | refine nilC (fun hb => ?_) ?_ | refine taC ?_ | refine saC ?_ | exact sdV | refine side_and ?_ ?_ | refine drawX_of mixed ?_))
theorem rnum (lo hi' : Int) {ws : List Wd} {a m : Int} (hi : InW ws a m) (hn : WsOK ws) : RM 74 [.ptr 0 0, iS lo, iS hi'] ws a m [] (numP ws lo hi' a m) (fun n => iS n) (fun n => lo ≤ n ∧ n ≤ hi') := by
 refine rm_of Tryz.func74 (c := _) rfl Tryz.call74 200 (numP_bd hi) (fun n a' m' e => ⟨(numP_ok hi e).1, (numP_ok hi e).2.1⟩) ?_
 obtain ⟨S, hS⟩ : ∃ S, S = numP ws lo hi' a m := ⟨_, rfl⟩
 rw [← hS]
 have hp := rpeek hi hn
 have hpl := peekW_len hn hi
 have ka := katoi (peekW ws a) (by omega)
 have hin := fun n => oin n lo hi'
 unfold numP numW at hS
 have hb1 := hi.a1
 have hb2 := hn.n
 have hb0 := hi.a0
 unfold atoiN atoiE at ka
 cases ha : Go.Lib.atoiAll (peekW ws a) with
 | ok n =>
  rw [ha] at ka hS
  obtain ⟨n1, n2⟩ := Go.Lib.atoiAll_bounds ha
  have ki := kitoa n ⟨by omega, by omega⟩
  have hin' := hin n
  simp only at ka hS
  by_cases hw : itoaW n = peekW ws a
  ·rw [if_pos hw] at hS
   simp only at hS
   by_cases hb : lo ≤ n ∧ n ≤ hi'
   ·rw [if_pos hb] at hS
    have hlt : a < ws.length := by
     rcases Int.lt_or_eq_of_le hb1 with h | h
     ·exact h
     ·exfalso
      have : peekW ws a = [32] := by unfold peekW; rw [if_pos h]
      rw [this] at ha
      have h2 : Go.Lib.atoiAll [32] = Go.Lib.NumEnd.syntax := by decide
      rw [h2] at ha; cases ha
    rw [(inB_iff _ _ _).2 hb] at hin'
    (repeat' ((conv => whnf); first | (exfalso; omega) | (refine callh [some 0] hp rfl rfl ⟨rfl, trivial⟩ ?_) | refine cpC (ka) ?_ | refine dpC (ka) ?_ | refine cpC (ki) ?_ | refine dpC (ki) ?_ | refine cpC (hin') ?_ | refine dpC (hin') ?_ | refine unit_in unitS ?_ | refine uface_in (ufaceS _) rfl ?_ | refine panic_in _ _ _ rfl (only_lit rfl) ?_ | (refine rok hS (end_fn [some 0] (.inr rfl) ?_ ?_ rfl rfl); (focus exact vwV); exact hsW) | refine x0C ?_ | refine spC (fun hb => ?_) fun hb => ?_ | refine nilC (fun hb => ?_) ?_ | refine taC ?_ | refine saC ?_ | exact sdV | refine side_and ?_ ?_ | refine drawX_of mixed ?_))
    all_goals exact absurd hw (by assumption)
   ·rw [if_neg hb] at hS
    rw [(inB_not _ _ _).2 hb] at hin'
    (repeat' ((conv => whnf); first | (exfalso; omega) | (refine callh [some 0] hp rfl rfl ⟨rfl, trivial⟩ ?_) | refine cpC (ka) ?_ | refine dpC (ka) ?_ | refine cpC (ki) ?_ | refine dpC (ki) ?_ | refine cpC (hin') ?_ | refine dpC (hin') ?_ | refine unit_in unitS ?_ | refine uface_in (ufaceS _) rfl ?_ | refine panic_in _ _ _ rfl (only_lit rfl) ?_ | (refine rno hS (die_end [some 0] ?_); exact hsW) | refine x0C ?_ | refine spC (fun hb => ?_) fun hb => ?_ | refine nilC (fun hb => ?_) ?_ | refine taC ?_ | refine saC ?_ | exact sdV | refine side_and ?_ ?_ | refine drawX_of mixed ?_))
  ·rw [if_neg hw] at hS
   simp only at hS
   (repeat' ((conv => whnf); first | (exfalso; omega) | (refine callh [some 0] hp rfl rfl ⟨rfl, trivial⟩ ?_) | refine cpC (ka) ?_ | refine dpC (ka) ?_ | refine cpC (ki) ?_ | refine dpC (ki) ?_ | refine cpC (hin') ?_ | refine dpC (hin') ?_ | refine unit_in unitS ?_ | refine uface_in (ufaceS _) rfl ?_ | refine panic_in _ _ _ rfl (only_lit rfl) ?_ | (refine rno hS (die_end [some 0] ?_); exact hsW) | refine x0C ?_ | refine spC (fun hb => ?_) fun hb => ?_ | refine nilC (fun hb => ?_) ?_ | refine taC ?_ | refine saC ?_ | exact sdV | refine side_and ?_ ?_ | refine drawX_of mixed ?_))
   all_goals exact absurd (by assumption) hw
 | range =>
  rw [ha] at ka hS
  simp only at ka hS
  (repeat' ((conv => whnf); first | (exfalso; omega) | (refine callh [some 0] hp rfl rfl ⟨rfl, trivial⟩ ?_) | refine cpC (ka) ?_ | refine dpC (ka) ?_ | refine unit_in unitS ?_ | refine uface_in (ufaceS _) rfl ?_ | refine panic_in _ _ _ rfl (only_lit rfl) ?_ | (refine rno hS (die_end [some 0] ?_); exact hsW) | refine x0C ?_ | refine spC (fun hb => ?_) fun hb => ?_ | refine nilC (fun hb => ?_) ?_ | refine taC ?_ | refine saC ?_ | exact sdV | refine side_and ?_ ?_ | refine drawX_of mixed ?_))
 | _ =>
  rw [ha] at ka hS
  simp only at ka hS
  (repeat' ((conv => whnf); first | (exfalso; omega) | (refine callh [some 0] hp rfl rfl ⟨rfl, trivial⟩ ?_) | refine cpC (ka) ?_ | refine dpC (ka) ?_ | refine unit_in unitS ?_ | refine uface_in (ufaceS _) rfl ?_ | refine panic_in _ _ _ rfl (only_lit rfl) ?_ | (refine rno hS (die_end [some 0] ?_); exact hsW) | refine x0C ?_ | refine spC (fun hb => ?_) fun hb => ?_ | refine nilC (fun hb => ?_) ?_ | refine taC ?_ | refine saC ?_ | exact sdV | refine side_and ?_ ?_ | refine drawX_of mixed ?_))
theorem wordP_bd {ws : List Wd} {s t : Wd} {a m : Int} (h : InW ws a m) (hs : s ≠ [32]) (ht : t ≠ [32]) : (wordP ws s t a m).Bd ws a m := by
 have h0 := h.a0
 unfold wordP
 split
 ·rename_i e
  have := peekW_lt h e hs
  exact ⟨by omega, by omega, h.m0, Int.le_refl _⟩
 ·split
  ·rename_i e
   have := peekW_lt h e ht
   exact ⟨by omega, by omega, h.m0, Int.le_refl _⟩
  ·exact h.refl
theorem rword (s t : Wd) (hsw : s ≠ [32]) (htw : t ≠ [32]) {ws : List Wd} {a m : Int} (hi : InW ws a m) (hn : WsOK ws) : RM 76 [.ptr 0 0, wS s, wS t] ws a m [] (wordP ws s t a m) (fun b => bS b) (fun _ => True) := by
 refine rm_of Tryz.func76 (c := _) rfl Tryz.call76 200 (wordP_bd hi hsw htw) (fun _ _ _ _ => trivial) ?_
 obtain ⟨S, hS⟩ : ∃ S, S = wordP ws s t a m := ⟨_, rfl⟩
 rw [← hS]
 unfold wordP at hS
 have hb1 := hi.a1
 have hb2 := hn.n
 by_cases h1 : peekW ws a = s
 ·rw [if_pos h1] at hS
  have hq := risT s hi hn h1
  (repeat' ((conv => whnf); first | (exfalso; omega) | (refine callh [some 0] hq rfl rfl ⟨rfl, trivial⟩ ?_) | (refine rok hS (end_fn [some 0] (.inr rfl) ?_ ?_ rfl rfl); (focus exact vwV); exact hsW) | refine x0C ?_ | refine spC (fun hb => ?_) fun hb => ?_ | refine nilC (fun hb => ?_) ?_ | refine taC ?_ | refine saC ?_ | exact sdV | refine side_and ?_ ?_ | refine drawX_of mixed ?_))
 ·rw [if_neg h1] at hS
  have hq := risF s hi hn h1
  have hm := rmust [t] (by simp) (by simpa using htw) hi hn
  unfold mustW mustW at hm
  by_cases h2 : peekW ws a = t
  ·rw [if_pos h2] at hS hm
   (repeat' ((conv => whnf); first | (exfalso; omega) | (refine callh [some 0] hq rfl rfl ⟨rfl, trivial⟩ ?_) | (refine rmX [some 0, some _] hm rfl rfl ⟨rfl, rfl, trivial⟩ (fun x a1 m1 e hi hp => ?_) (fun a1 m1 e hi => ?_) (by assumption) <;> cases e) | (refine rok hS (end_fn [some 0] (.inr rfl) ?_ ?_ rfl rfl); (focus exact vwV); exact hsW) | refine x0C ?_ | refine spC (fun hb => ?_) fun hb => ?_ | refine nilC (fun hb => ?_) ?_ | refine taC ?_ | refine saC ?_ | exact sdV | refine side_and ?_ ?_ | refine drawX_of mixed ?_))
  ·rw [if_neg h2] at hS hm
   (repeat' ((conv => whnf); first | (exfalso; omega) | (refine callh [some 0] hq rfl rfl ⟨rfl, trivial⟩ ?_) | (refine rmX [some 0, some _] hm rfl rfl ⟨rfl, rfl, trivial⟩ (fun x a1 m1 e hi hp => ?_) (fun a1 m1 e hi => ?_) (by assumption) <;> cases e) | (refine rno hS (die_end [some 0] ?_); exact hsW) | refine x0C ?_ | refine spC (fun hb => ?_) fun hb => ?_ | refine nilC (fun hb => ?_) ?_ | refine taC ?_ | refine saC ?_ | exact sdV | refine side_and ?_ ?_ | refine drawX_of mixed ?_))
theorem areaP_bd {ws : List Wd} : ∀ (n : Nat) (y free : Int) (rows : List Int) {a m : Int}, InW ws a m → (areaP ws n y free rows a m).Bd ws a m
 | 0, _, _, _, a, m, h => by unfold areaP; exact h.refl
 | n + 1, y, free, rows, a, m, h => by
  unfold areaP
  split
  ·exact h.refl
  ·refine bd_bind h (mustW_bd [w_at] h (by decide)) fun _ a1 m1 _ h1 => ?_
   refine bd_bind h1 (numP_bd h1) fun row a2 m2 _ h2 => ?_
   refine bd_bind h2 (numP_bd h2) fun x a3 m3 _ h3 => ?_
   refine bd_bind h3 (numP_bd h3) fun z a4 m4 _ h4 => ?_
   split
   ·exact areaP_bd n _ _ _ h4
   ·exact h4.refl
theorem shl_i64 {n k : Nat} (h : k ≤ 64) (h2 : n * 2 ^ k < 2 ^ 63) : shlop .i64 (n : Int) (k : Int) = ((n * 2 ^ k : Nat) : Int) := by
 unfold shlop
 rw [show min (k : Int).toNat IntKind.i64.bits = k by simp [IntKind.bits]; omega, show (n : Int) * 2 ^ k = ((n * 2 ^ k : Nat) : Int) by simp]
 generalize n * 2 ^ k = x at *
 simp only [IntKind.wrap, IntKind.signed, IntKind.bits]
 simp
 omega
theorem mask_eq {x z : Int} (h : 0 ≤ x ∧ x ≤ z ∧ z ≤ 47) : 1 ≤ shlop .i64 1 (z - x + 1) ∧ shlop .i64 1 (z - x + 1) ≤ 281474976710656 ∧ shlop .i64 (shlop .i64 1 (z - x + 1) - 1) x = maskW x z := by
  obtain ⟨x, rfl⟩ := Int.eq_ofNat_of_zero_le h.1
  obtain ⟨z, rfl⟩ := Int.eq_ofNat_of_zero_le (Int.le_trans h.1 h.2.1)
  have hk : (z : Int) - x + 1 = ((z - x + 1 : Nat) : Int) := by omega
  have hp : 2 ^ (z - x + 1) ≤ 2 ^ 48 := Nat.pow_le_pow_right (by omega) (by omega)
  have hq : 2 ^ (z - x + 1) * 2 ^ x ≤ 2 ^ 48 := by rw [← Nat.pow_add]; exact Nat.pow_le_pow_right (by omega) (by omega)
  have h1 : 1 ≤ 2 ^ (z - x + 1) := Nat.one_le_two_pow
  have hs := shl_i64 (n := 1) (k := z - x + 1) (by omega) (by omega)
  rw [Nat.one_mul] at hs
  have e : (2 : Int) ^ (z - x + 1) - 1 = ((2 ^ (z - x + 1) - 1 : Nat) : Int) := by rw [Int.ofNat_sub h1]; simp
  have hs2 := shl_i64 (n := 2 ^ (z - x + 1) - 1) (k := x) (by omega) (by
    have h3 : (2 ^ (z - x + 1) - 1) * 2 ^ x ≤ 2 ^ (z - x + 1) * 2 ^ x := Nat.mul_le_mul_right _ (by omega)
    omega)
  have hs' : shlop .i64 1 (z - x + 1) = ((2 ^ (z - x + 1) : Nat) : Int) := by rw [hk]; exact hs
  rw [hs']
  refine ⟨by omega, by omega, ?_⟩
  rw [show ((2 ^ (z - x + 1) : Nat) : Int) - 1 = ((2 ^ (z - x + 1) - 1 : Nat) : Int) by omega, hs2]
  unfold maskW
  rw [hk, Int.toNat_natCast, e, Int.toNat_natCast]
  simp
structure AreaI (ws : List Wd) (S : Rs (List Int)) (g : Nat × Int × Int × List Int × Int × Int) : Prop where
 y : 0 ≤ g.2.1 ∧ g.2.1 ≤ 23
 free : 0 ≤ g.2.2.1 ∧ g.2.2.1 ≤ 49
 fuel : 1200 ≤ 50 * g.2.1 + g.2.2.1 + g.1
 len : g.2.2.2.1.length = 24
 inw : InW ws g.2.2.2.2.1 g.2.2.2.2.2
 eq : S = areaP ws g.1 g.2.1 g.2.2.1 g.2.2.2.1 g.2.2.2.2.1 g.2.2.2.2.2
theorem rarea {ws : List Wd} {a m : Int} (hi : InW ws a m) (hn : WsOK ws) : RM 142 [.ptr 0 0] ws a m [] (areaP ws 1200 0 0 (List.replicate 24 0) a m) (fun rows => areaA rows) (fun _ => True) := by
 refine rm_of Tryz.func142 (c := _) rfl Tryz.call142 600 (areaP_bd _ _ _ _ hi) (fun _ _ _ _ => trivial) ?_
 obtain ⟨S, hS⟩ : ∃ S, S = areaP ws 1200 0 0 (List.replicate 24 0) a m := ⟨_, rfl⟩
 rw [← hS]
 (repeat' ((conv => whnf); first | refine x0C ?_ | refine spC (fun hb => ?_) fun hb => ?_ | refine nilC (fun hb => ?_) ?_ | refine taC ?_ | refine saC ?_ | exact sdV | refine side_and ?_ ?_ | refine drawX_of mixed ?_))
 refine loop_up (fun g : Nat × Int × Int × List Int × Int × Int => [(4, iS g.2.1), (5, iS g.2.2.1)]) (fun g => [(0, .vart none [wsS ws, iS g.2.2.2.2.1, iS g.2.2.2.2.2]), (2, .rows U.int g.2.2.2.1)]) (AreaI ws S) (fun g => g.1) (1200, 0, 0, List.replicate 24 0, a, m) ⟨by simp, by simp, by simp, by simp, hi, hS⟩ (by exact bkW) ?_
 clear hS hi
 rintro ⟨n, y, free, rows, a, m⟩ ⟨⟨hy1, hy2⟩, ⟨hf1, hf2⟩, hfu, hl, hi, hS⟩ K hK
 dsimp only at hy1 hy2 hf1 hf2 hfu hl hi hS ⊢
 obtain ⟨n, rfl⟩ : ∃ j, n = j + 1 := ⟨n - 1, by omega⟩
 unfold areaP at hS
 by_cases hc : 48 ≤ free ∧ y = 23
 ·rw [if_pos hc] at hS
  (repeat' ((conv => whnf); first | (exfalso; omega) | (refine rok hS (end_fn [some 0] (.inr rfl) ?_ ?_ rfl rfl); (focus (refine ⟨?_⟩; (repeat' (first | exact trivial | exact rfl | refine And.intro ?_ ?_ | exact fzV rfl rfl rfl (by simp; omega) (by simp [List.take_of_length_le, hl]) rfl)); done)); exact hsW) | refine x0C ?_ | refine spC (fun hb => ?_) fun hb => ?_ | refine nilC (fun hb => ?_) ?_ | refine taC ?_ | refine saC ?_ | exact sdV | refine side_and ?_ ?_ | refine drawX_of mixed ?_))
 ·rw [if_neg hc] at hS
  (repeat' ((conv => whnf); first | (exfalso; omega) | (refine rmX [some 0, some _] (rmust [w_at] (by decide) (by decide) (by assumption) hn) rfl rfl ⟨rfl, rfl, trivial⟩ (fun x a1 m1 e1 h1 p1 => ?_) (fun a1 m1 e1 h1 => ?_) (by assumption) <;> simp only [e1, Rs.bind] at hS) | (refine rno hS (die_end [some 0] ?_); exact hsW) | refine x0C ?_ | refine spC (fun hb => ?_) fun hb => ?_ | refine nilC (fun hb => ?_) ?_ | refine taC ?_ | refine saC ?_ | exact sdV | refine side_and ?_ ?_ | refine drawX_of mixed ?_))
  all_goals first | (have h48' : 48 ≤ free := (by assumption); simp only [h48', if_true, or_true] at hS) | (have h48' : ¬ 48 ≤ free := (by assumption); simp only [h48', if_false, or_false] at hS)
  all_goals (conv => whnf); (refine rmX [some 0] (rnum _ _ (by assumption) hn) rfl rfl ⟨rfl, trivial⟩ (fun row a2 m2 e2 h2 p2 => ?_) (fun a2 m2 e2 h2 => ?_) (by assumption)) <;> simp only [e2, Rs.bind] at hS
  all_goals (repeat' ((conv => whnf); first | (exfalso; omega) | (refine rno hS (die_end [some 0] ?_); exact hsW) | refine x0C ?_ | refine spC (fun hb => ?_) fun hb => ?_ | refine nilC (fun hb => ?_) ?_ | refine taC ?_ | refine saC ?_ | exact sdV | refine side_and ?_ ?_ | refine drawX_of mixed ?_))
  all_goals first | simp only [gt_iff_lt, ‹_ < _›, if_true] at hS | simp only [gt_iff_lt, ‹¬ _ < _›, if_false] at hS | skip
  all_goals (conv => whnf); (refine rmX [some 0] (rnum _ _ (by assumption) hn) rfl rfl ⟨rfl, trivial⟩ (fun x0 a3 m3 e3 h3 p3 => ?_) (fun a3 m3 e3 h3 => ?_) (by assumption)) <;> simp only [e3, Rs.bind] at hS
  all_goals (repeat' ((conv => whnf); first | (exfalso; omega) | (refine rno hS (die_end [some 0] ?_); exact hsW) | refine x0C ?_ | refine spC (fun hb => ?_) fun hb => ?_ | refine nilC (fun hb => ?_) ?_ | refine taC ?_ | refine saC ?_ | exact sdV | refine side_and ?_ ?_ | refine drawX_of mixed ?_))
  all_goals (conv => whnf); (refine rmX [some 0] (rnum _ _ (by assumption) hn) rfl rfl ⟨rfl, trivial⟩ (fun z1 a4 m4 e4 h4 p4 => ?_) (fun a4 m4 e4 h4 => ?_) (by assumption)) <;> simp only [e4, Rs.bind] at hS
  all_goals try have hmk := mask_eq (x := x0) (z := z1) ⟨by omega, by omega, by omega⟩
  all_goals try obtain ⟨k1, k2, k3⟩ := hmk
  all_goals try have hrow : rows.set (0 + row.toNat) (bitop .or .i64 (rows.getD (0 + row.toNat) (Cd.dflt U.int)) (shlop .i64 (shlop .i64 1 (z1 - x0 + 1) - 1) x0)) = rows.set row.toNat (bitop .or .i64 (rows.getD row.toNat 0) (maskW x0 z1)) := by rw [k3, Nat.zero_add]; rfl
  all_goals try have hpk := rpeek h4 hn
  all_goals try (by_cases hw : peekW ws a4 = w_at <;> simp only [hw, if_true, if_false] at hS hpk)
  all_goals (repeat' ((conv => whnf); first | (exfalso; omega) | (refine callh [some 0] hpk rfl rfl ⟨rfl, trivial⟩ ?_) | (refine rno hS (die_end [some 0] ?_); exact hsW) | (refine hK (n, row, z1 + 2, rows.set row.toNat (bitop .or .i64 (rows.getD row.toNat 0) (maskW x0 z1)), a4, m4) [some 0, some 1, some 2, some 3] _ _ ⟨⟨by dsimp only; omega, by dsimp only; omega, by dsimp only; omega, by simp [hl], h4, hS⟩⟩ ⟨by simp⟩ (by exact bkW)) | (refine rok hS (end_fn [some 0] (.inr rfl) ?_ ?_ rfl rfl); (focus (refine ⟨?_⟩; (repeat' (first | exact trivial | exact rfl | refine And.intro ?_ ?_ | exact fzV rfl rfl rfl (by simp; omega) (by rw [hrow]; simp [List.take_of_length_le, hl]) rfl)); done)); exact hsW) | refine x0C ?_ | refine spC (fun hb => ?_) fun hb => ?_ | refine nilC (fun hb => ?_) ?_ | refine taC ?_ | refine saC ?_ | exact sdV | refine side_and ?_ ?_ | refine drawX_of mixed ?_))
  all_goals exact absurd (by assumption) hw
theorem seeP_bd {ws : List Wd} {a m : Int} (h : InW ws a m) : (seeP ws a m).Bd ws a m := by
 unfold seeP
 refine bd_bind h (areaP_bd _ _ _ _ h) fun _ _ _ _ h => ?_
 refine bd_bind h (mustW_bd [w_from] h (by decide)) fun _ _ _ _ h => ?_
 refine bd_bind h (numP_bd h) fun _ _ _ _ h => ?_
 refine bd_bind h (mustW_bd [w_to] h (by decide)) fun _ _ _ _ h => ?_
 refine bd_bind h (numP_bd h) fun _ _ _ _ h => ?_
 refine bd_bind h (mustW_bd [w_sun] h (by decide)) fun _ _ _ _ h => ?_
 refine bd_bind h (numP_bd h) fun _ _ _ _ h => ?_
 refine bd_bind h (mustW_bd [w_to] h (by decide)) fun _ _ _ _ h => ?_
 refine bd_bind h (numP_bd h) fun _ _ _ _ h => ?_
 refine bd_bind h (wordP_bd h (by decide) (by decide)) fun _ _ _ _ h => ?_
 exact h.refl
theorem rsee (dp : Int) {ws : List Wd} {a m : Int} (hi : InW ws a m) (hn : WsOK ws) : RM 121 [.ptr 0 0, iS dp] ws a m [] (seeP ws a m) (fun g => goalA g) (fun _ => True) := by
 refine rm_of Tryz.func121 (c := _) rfl Tryz.call121 900 (seeP_bd hi) (fun _ _ _ _ => trivial) ?_
 obtain ⟨S, hS⟩ : ∃ S, S = seeP ws a m := ⟨_, rfl⟩
 rw [← hS]
 unfold seeP at hS
 (repeat' ((conv => whnf); first | (exfalso; omega) | (refine rmX [some 0, some _] (rmust [w_from] (by decide) (by decide) (by assumption) hn) rfl rfl ⟨rfl, rfl, trivial⟩ (fun x a1 m1 e hi hp => ?_) (fun a1 m1 e hi => ?_) (by assumption) <;> simp only [e, Rs.bind] at hS) | (refine rmX [some 0, some _] (rmust [w_to] (by decide) (by decide) (by assumption) hn) rfl rfl ⟨rfl, rfl, trivial⟩ (fun x a1 m1 e hi hp => ?_) (fun a1 m1 e hi => ?_) (by assumption) <;> simp only [e, Rs.bind] at hS) | (refine rmX [some 0, some _] (rmust [w_sun] (by decide) (by decide) (by assumption) hn) rfl rfl ⟨rfl, rfl, trivial⟩ (fun x a1 m1 e hi hp => ?_) (fun a1 m1 e hi => ?_) (by assumption) <;> simp only [e, Rs.bind] at hS) | (refine rmX [some 0] (rnum _ _ (by assumption) hn) rfl rfl ⟨rfl, trivial⟩ (fun x a1 m1 e hi hp => ?_) (fun a1 m1 e hi => ?_) (by assumption) <;> simp only [e, Rs.bind] at hS) | (refine rmX [some 0] (rarea (by assumption) hn) rfl rfl ⟨rfl, trivial⟩ (fun x a1 m1 e hi hp => ?_) (fun a1 m1 e hi => ?_) (by assumption) <;> simp only [e, Rs.bind] at hS) | (refine rmX [some 0] (rword w_clear w_any (by decide) (by decide) (by assumption) hn) rfl rfl ⟨rfl, trivial⟩ (fun x a1 m1 e hi hp => ?_) (fun a1 m1 e hi => ?_) (by assumption) <;> simp only [e, Rs.bind] at hS) | (refine rno hS (die_end [some 0] ?_); exact hsW) | (refine rok hS (end_fn [some 0] (.inr rfl) ?_ ?_ rfl rfl); (focus first | exact vwV | (refine ⟨?_⟩; (repeat' (first | exact trivial | exact rfl | refine And.intro ?_ ?_ | exact fzV | exact fzV rfl rfl rfl (by simp) (by simp [eta_goal]) rfl | exact fvV)); done)); exact hsW) | refine x0C ?_ | refine spC (fun hb => ?_) fun hb => ?_ | refine nilC (fun hb => ?_) ?_ | refine taC ?_ | refine saC ?_ | exact sdV | refine side_and ?_ ?_ | refine drawX_of mixed ?_))
end Go.SX
