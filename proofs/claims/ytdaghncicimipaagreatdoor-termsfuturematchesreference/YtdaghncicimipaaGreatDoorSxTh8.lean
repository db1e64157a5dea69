/-
  Walks: Th8: what single functions of the program compute.
-/
import Derived.Test.YtdaghncicimipaaGreatDoorSxTh1
set_option linter.unusedVariables false
set_option linter.unusedSimpArgs false
namespace Go.SX
open Go.Proofs
set_option maxHeartbeats 4000000
set_option maxRecDepth 100000
def gp (G : Nat → Int × Int) : Nat → Int × Int
 | 0 => (-1, 0)
 | q + 1 => G q
theorem rgoOn (g : Goal) (hk : (g.kids.length : Int) = 1) (ht : 1 ≤ g.times ∧ g.times ≤ 6) (hd : 0 ≤ g.days ∧ g.days ≤ 60) (hw : 0 ≤ g.within ∧ g.within ≤ 86400) (hfr : 0 ≤ g.from_ ∧ g.from_ ≤ 1000000) (hkr : ((kid0 g.kids).rows.length : Int) ≤ 1000) (hkg : GLen (kid0 g.kids)) (hkf : 0 ≤ (kid0 g.kids).from_ ∧ (kid0 g.kids).from_ ≤ 1000000) (l : List Event) (h : EvsOK l) (hla : ∀ e ∈ l, 0 ≤ e.at_ ∧ e.at_ ≤ 1000000) (now image : Int) (hnow : 0 ≤ now ∧ now ≤ 1000000) (hi : 0 ≤ image ∧ image ≤ 900000) :
  Meets Tryz.prog Dc 77 [goalA g, eS l, iS now, iS image] [] (finR (finEvery g l now image)) [] := by
 have hl := h.len
 have h1 := rseen (kid0 g.kids) hkg l hl h.el
 obtain ⟨hal, hget, hbd, hjl⟩ := at_seen (kid0 g.kids) l
 have hmem : ∀ e ∈ seenS (kid0 g.kids) l, 0 ≤ e.at_ ∧ e.at_ ≤ 1000000 := fun e he => hla e (List.mem_filter.1 he).1
 unfold finEvery
 generalize seenS (kid0 g.kids) l = M at *
 generalize idxN (seesB (kid0 g.kids)) (U.dflt .event) l l.length = js at *
 have hka : kid0 g.kids = g.kids.getD (Int.toNat 0) (Cd.dflt U.goal) := rfl
 rw [hka] at h1 hkr hkg hkf ⊢
 obtain ⟨G, hG⟩ : ∃ G, G = goN g (g.kids.getD (Int.toNat 0) (Cd.dflt U.goal)) M (max now (g.kids.getD (Int.toNat 0) (Cd.dflt U.goal)).from_) := ⟨_, rfl⟩
 rw [← hG]
 refine meets_of_gx Ax tab_ok Tryz.func77 (c := _) rfl Tryz.call77 900 ?_
 (repeat' ((conv => whnf); first | (exfalso; omega) | refine cpC (h1) ?_ | refine dpC (h1) ?_ | refine x0C ?_ | refine spC (fun hb => ?_) fun hb => ?_ | refine nilC (fun hb => ?_) ?_ | refine taC ?_ | refine saC ?_ | exact sdV | refine side_and ?_ ?_ | refine drawX_of mixed ?_))
 have hst : List.replicate ((js.length : Nat) : Int).toNat (Cd.dflt U.int) = longE g M (0 - 1) := by rw [Int.toNat_natCast, ← hal]; exact (longE_zero g M).symm
 rw [hst]
 refine loop_upT [some 0, some 1, some 2] (fun q : Nat × Int => [(15, iS (gp G q.1).1), (16, iS (gp G q.1).2), (17, iS q.2)]) (fun q => [(2, .rows U.int (longE g M (q.1 - 1)))]) (fun q => q.1 ≤ M.length + 1 ∧ q.2 = (q.1 : Int) - 1) (fun q => M.length + 1 - q.1) (0, -1) ⟨Nat.zero_le _, rfl⟩ (by exact bkI) ?_
 rintro ⟨q, z⟩ ⟨hq, hz⟩ K hK
 dsimp only at hq hz hK ⊢
 match q with
 | 0 =>
  obtain rfl : z = -1 := by omega
  have hG0 : gp G 1 = considerS g (g.kids.getD (Int.toNat 0) (Cd.dflt U.goal)).to_ (-1, 0) 0 (max now (g.kids.getD (Int.toNat 0) (Cd.dflt U.goal)).from_) (g.from_ + 1440 * g.days) := by rw [hG]; rfl
  unfold considerS at hG0
  have hyes : max now (g.kids.getD (Int.toNat 0) (Cd.dflt U.goal)).from_ ≤ g.from_ + 1440 * g.days → max now (g.kids.getD (Int.toNat 0) (Cd.dflt U.goal)).from_ + (g.times - 0 - 1) * g.within < (g.kids.getD (Int.toNat 0) (Cd.dflt U.goal)).to_ → gp G 1 = (0, max now (g.kids.getD (Int.toNat 0) (Cd.dflt U.goal)).from_) := fun a b => by rw [hG0, if_pos ⟨a, b, (by decide : (-1 : Int) ≤ 0)⟩]
  have hno1 : ¬ max now (g.kids.getD (Int.toNat 0) (Cd.dflt U.goal)).from_ ≤ g.from_ + 1440 * g.days → gp G 1 = (-1, 0) := fun a => by rw [hG0, if_neg fun h => a h.1]
  have hno2 : ¬ max now (g.kids.getD (Int.toNat 0) (Cd.dflt U.goal)).from_ + (g.times - 0 - 1) * g.within < (g.kids.getD (Int.toNat 0) (Cd.dflt U.goal)).to_ → gp G 1 = (-1, 0) := fun a => by rw [hG0, if_neg fun h => a h.2.1]
  have hmu : 0 ≤ (g.times - 0 - 1) * g.within ∧ (g.times - 0 - 1) * g.within ≤ 1000000 := by
   have h1 : (g.times - 0 - 1) * g.within ≤ 5 * g.within := Int.mul_le_mul_of_nonneg_right (by omega) hw.1
   have h2 : 0 * g.within ≤ (g.times - 0 - 1) * g.within := Int.mul_le_mul_of_nonneg_right (by omega) hw.1
   omega
  rw [show (gp G 0).1 = -1 from rfl, show (gp G 0).2 = 0 from rfl]
  (repeat' ((conv => whnf); first | (exfalso; omega) | refine hK (1, 0) [some 0, some 1, some 2] _ _ ⟨⟨by dsimp only; omega, rfl⟩⟩ ⟨by dsimp only; omega⟩ (by (rw [hyes (by assumption) (by assumption)]; exact bkI)) | refine hK (1, 0) [some 0, some 1, some 2] _ _ ⟨⟨by dsimp only; omega, rfl⟩⟩ ⟨by dsimp only; omega⟩ (by (rw [hno1 (by assumption)]; exact bkI)) | refine hK (1, 0) [some 0, some 1, some 2] _ _ ⟨⟨by dsimp only; omega, rfl⟩⟩ ⟨by dsimp only; omega⟩ (by (rw [hno2 (by assumption)]; exact bkI)) | refine x0C ?_ | refine spC (fun hb => ?_) fun hb => ?_ | refine nilC (fun hb => ?_) ?_ | refine taC ?_ | refine saC ?_ | exact sdV | refine side_and ?_ ?_ | refine drawX_of mixed ?_))
 | i + 1 =>
  obtain rfl : z = (i : Int) := by omega
  rw [show (gp G (i + 1)).1 = (G i).1 from rfl, show (gp G (i + 1)).2 = (G i).2 from rfl, show i + 1 - 1 = i from rfl]
  rcases Nat.lt_or_ge i M.length with hlt | hge
  ·have hll := longE_len g M (i := i) (by omega)
   have hbi := hbd i (by omega)
   have hgi := hget i (by omega)
   have hei := hmem _ (List.mem_of_getElem? (getD_some (d := Cd.dflt U.event) hlt))
   obtain ⟨e, he⟩ : ∃ e, e = l.getD (js.getD (i : Int).toNat (Cd.dflt U.int)).toNat (Cd.dflt U.event) := ⟨_, rfl⟩
   have hgi2 : e = M.getD i (U.dflt .event) := by rw [he, Int.toNat_natCast]; exact hgi
   have hbi2 : 0 ≤ js.getD (i : Int).toNat (Cd.dflt U.int) ∧ js.getD (i : Int).toNat (Cd.dflt U.int) < l.length := by rw [Int.toNat_natCast]; exact hbi
   have hb1 : e.at_ ≤ g.from_ + 1440 * g.days → (longE g M i).set (0 + (i : Int).toNat) 1 = longK g M i 0 := fun hb => by
    rw [Nat.zero_add, Int.toNat_natCast]
    exact longK_begin g M hlt (by rw [← hgi2]; exact decide_eq_true hb)
   have hb0 : ¬ e.at_ ≤ g.from_ + 1440 * g.days → longE g M i = longK g M i 0 := fun hb => longK_nobegin g M hlt (by rw [← hgi2]; exact decide_eq_false hb)
   (repeat' ((conv => whnf); first | (exfalso; omega) | refine x0C ?_ | refine spC (fun hb => ?_) fun hb => ?_ | refine nilC (fun hb => ?_) ?_ | refine taC ?_ | refine saC ?_ | exact sdV | refine side_and ?_ ?_ | refine drawX_of mixed ?_))
   all_goals rw [← he] at hb ⊢
   all_goals (first
    | refine loop_upT [some 0, some 1, some 2, some 3] (fun q : Nat × List Int => [(22, iS q.1)]) (fun q => [(2, .rows U.int q.2)]) (fun q => q.1 ≤ i ∧ q.2 = longK g M i q.1) (fun q => i - q.1) (0, (longE g M i).set (0 + (i : Int).toNat) 1) ⟨Nat.zero_le _, hb1 hb⟩ (by exact bkI) ?_
    | refine loop_upT [some 0, some 1, some 2, some 3] (fun q : Nat × List Int => [(22, iS q.1)]) (fun q => [(2, .rows U.int q.2)]) (fun q => q.1 ≤ i ∧ q.2 = longK g M i q.1) (fun q => i - q.1) (0, longE g M i) ⟨Nat.zero_le _, hb0 hb⟩ (by exact bkI) ?_)
   all_goals (
    rintro ⟨k, J⟩ ⟨hk, hJ⟩ K2 hK2
    dsimp only at hk hJ hK2 ⊢
    have hJl : J.length = M.length := by rw [hJ]; exact longK_len g M hlt
    have hJi : J.getD (0 + (i : Int).toNat) (Cd.dflt U.int) = endK g M (endsN g M i) i k := by rw [Nat.zero_add, Int.toNat_natCast, hJ]; exact longK_at g M hlt
    have hbe := endK_bd g M (endsN g M i) i i (by omega) (endsN_bd g M i) k
    rcases Nat.lt_or_ge k i with hki | hki
    ·have hbk := hbd k (by omega)
     have hbk2 : 0 ≤ js.getD (k : Int).toNat (Cd.dflt U.int) ∧ js.getD (k : Int).toNat (Cd.dflt U.int) < l.length := by rw [Int.toNat_natCast]; exact hbk
     have hgk := hget k (by omega)
     have hek := hmem _ (List.mem_of_getElem? (getD_some (d := Cd.dflt U.event) (show k < M.length by omega)))
     obtain ⟨e2, he2⟩ : ∃ e2, e2 = l.getD (js.getD (k : Int).toNat (Cd.dflt U.int)).toNat (Cd.dflt U.event) := ⟨_, rfl⟩
     have hgk2 : e2 = M.getD k (U.dflt .event) := by rw [he2, Int.toNat_natCast]; exact hgk
     have hat2 : 0 ≤ (l.getD (js.getD (k : Int).toNat (Cd.dflt U.int)).toNat (Cd.dflt U.event)).at_ ∧ (l.getD (js.getD (k : Int).toNat (Cd.dflt U.int)).toNat (Cd.dflt U.event)).at_ ≤ 1000000 := by rw [← he2, hgk2, ← Int.toNat_natCast k]; exact hek
     have hat1 : 0 ≤ e.at_ ∧ e.at_ ≤ 1000000 := by rw [hgi2, ← Int.toNat_natCast i]; exact hei
     have hJk : J.getD (0 + (k : Int).toNat) (Cd.dflt U.int) = (endsN g M i).getD k 0 := by rw [Nat.zero_add, Int.toNat_natCast, hJ]; exact longK_far g M hki
     have hbq := endsN_bd g M i k
     have hset : 0 < J.getD (0 + (k : Int).toNat) (Cd.dflt U.int) → g.within ≤ e.at_ - (l.getD (js.getD (k : Int).toNat (Cd.dflt U.int)).toNat (Cd.dflt U.event)).at_ → e.at_ - (l.getD (js.getD (k : Int).toNat (Cd.dflt U.int)).toNat (Cd.dflt U.event)).at_ ≤ 1440 * g.days → J.set (0 + (i : Int).toNat) (max (J.getD (0 + (i : Int).toNat) (Cd.dflt U.int)) (1 + J.getD (0 + (k : Int).toNat) (Cd.dflt U.int))) = longK g M i (k + 1) := fun c1 c2 c3 => by
      rw [hJi, hJk, hJ, Nat.zero_add, Int.toNat_natCast]
      rw [← he2, hgi2, hgk2] at c2 c3
      exact longK_set g M hlt hki (by rw [← hJk]; exact c1) ((inB_iff _ _ _).2 ⟨c2, c3⟩)
     have hkeep : ¬ (0 < J.getD (0 + (k : Int).toNat) (Cd.dflt U.int) ∧ g.within ≤ e.at_ - (l.getD (js.getD (k : Int).toNat (Cd.dflt U.int)).toNat (Cd.dflt U.event)).at_ ∧ e.at_ - (l.getD (js.getD (k : Int).toNat (Cd.dflt U.int)).toNat (Cd.dflt U.event)).at_ ≤ 1440 * g.days) → J = longK g M i (k + 1) := fun c => by
      refine hJ.trans (longK_keep g M fun ⟨d1, d2⟩ => c ?_).symm
      rw [hJk, ← he2, hgi2, hgk2]
      exact ⟨d1, (inB_iff _ _ _).1 d2⟩
     (repeat' ((conv => whnf); first | (exfalso; omega) | refine hK2 (k + 1, J.set (0 + (i : Int).toNat) (max (J.getD (0 + (i : Int).toNat) (Cd.dflt U.int)) (1 + J.getD (0 + (k : Int).toNat) (Cd.dflt U.int)))) [some 0, some 1, some 2, some 3] _ _ ⟨⟨by dsimp only; omega, hset (by assumption) (by assumption) (by assumption)⟩⟩ ⟨by dsimp only; omega⟩ (by exact bkI) | refine hK2 (k + 1, J) [some 0, some 1, some 2, some 3] _ _ ⟨⟨by dsimp only; omega, hkeep (by omega)⟩⟩ ⟨by dsimp only; omega⟩ (by exact bkI) | refine x0C ?_ | refine spC (fun hb => ?_) fun hb => ?_ | refine nilC (fun hb => ?_) ?_ | refine taC ?_ | refine saC ?_ | exact sdV | refine side_and ?_ ?_ | refine drawX_of mixed ?_))
    ·obtain rfl : k = i := by omega
     have hJs : longE g M (k + 1 + 1 - 1) = J := by rw [hJ]; exact (longE_succ g M hlt).symm
     have hee : endK g M (endsN g M k) k k = runI g M k := rfl
     rw [hee] at hJi hbe
     have hat1 : 0 ≤ e.at_ ∧ e.at_ ≤ 1000000 := by rw [hgi2, ← Int.toNat_natCast k]; exact hei
     have hmu : -86400000000 ≤ (g.times - J.getD (0 + (k : Int).toNat) (Cd.dflt U.int) - 1) * g.within ∧ (g.times - J.getD (0 + (k : Int).toNat) (Cd.dflt U.int) - 1) * g.within ≤ 604800 := by
      have h1 : (g.times - J.getD (0 + (k : Int).toNat) (Cd.dflt U.int) - 1) * g.within ≤ 5 * g.within := Int.mul_le_mul_of_nonneg_right (by omega) hw.1
      have h2 : (-1000000) * g.within ≤ (g.times - J.getD (0 + (k : Int).toNat) (Cd.dflt U.int) - 1) * g.within := Int.mul_le_mul_of_nonneg_right (by omega) hw.1
      omega
     have hGk : gp G (k + 1 + 1) = if 0 < J.getD (0 + (k : Int).toNat) (Cd.dflt U.int) then considerS g (g.kids.getD (Int.toNat 0) (Cd.dflt U.goal)).to_ (G k) (J.getD (0 + (k : Int).toNat) (Cd.dflt U.int)) (max (max now (g.kids.getD (Int.toNat 0) (Cd.dflt U.goal)).from_) (e.at_ + g.within)) (e.at_ + 1440 * g.days) else G k := by
      rw [hJi, hgi2]
      show G (k + 1) = _
      rw [hG, goN]
     have hyes : max (max now (g.kids.getD (Int.toNat 0) (Cd.dflt U.goal)).from_) (e.at_ + g.within) ≤ e.at_ + 1440 * g.days → max (max now (g.kids.getD (Int.toNat 0) (Cd.dflt U.goal)).from_) (e.at_ + g.within) + (g.times - J.getD (0 + (k : Int).toNat) (Cd.dflt U.int) - 1) * g.within < (g.kids.getD (Int.toNat 0) (Cd.dflt U.goal)).to_ → 0 < J.getD (0 + (k : Int).toNat) (Cd.dflt U.int) → (G k).1 ≤ J.getD (0 + (k : Int).toNat) (Cd.dflt U.int) → gp G (k + 1 + 1) = (J.getD (0 + (k : Int).toNat) (Cd.dflt U.int), max (max now (g.kids.getD (Int.toNat 0) (Cd.dflt U.goal)).from_) (e.at_ + g.within)) := fun c1 c2 c3 c4 => by
      rw [hGk, if_pos c3]; unfold considerS; rw [if_pos ⟨c1, c2, c4⟩]
     have hno : ¬ (max (max now (g.kids.getD (Int.toNat 0) (Cd.dflt U.goal)).from_) (e.at_ + g.within) ≤ e.at_ + 1440 * g.days ∧ max (max now (g.kids.getD (Int.toNat 0) (Cd.dflt U.goal)).from_) (e.at_ + g.within) + (g.times - J.getD (0 + (k : Int).toNat) (Cd.dflt U.int) - 1) * g.within < (g.kids.getD (Int.toNat 0) (Cd.dflt U.goal)).to_ ∧ 0 < J.getD (0 + (k : Int).toNat) (Cd.dflt U.int) ∧ (G k).1 ≤ J.getD (0 + (k : Int).toNat) (Cd.dflt U.int)) → gp G (k + 1 + 1) = G k := fun c => by
      rw [hGk]
      split
      ·rename_i c3
       unfold considerS
       rw [if_neg fun h => c ⟨h.1, h.2.1, c3, h.2.2⟩]
      ·rfl
     have hno1 : ¬ max (max now (g.kids.getD (Int.toNat 0) (Cd.dflt U.goal)).from_) (e.at_ + g.within) ≤ e.at_ + 1440 * g.days → gp G (k + 1 + 1) = G k := fun c => hno fun h => c h.1
     have hno2 : ¬ max (max now (g.kids.getD (Int.toNat 0) (Cd.dflt U.goal)).from_) (e.at_ + g.within) + (g.times - J.getD (0 + (k : Int).toNat) (Cd.dflt U.int) - 1) * g.within < (g.kids.getD (Int.toNat 0) (Cd.dflt U.goal)).to_ → gp G (k + 1 + 1) = G k := fun c => hno fun h => c h.2.1
     have hno3 : ¬ 0 < J.getD (0 + (k : Int).toNat) (Cd.dflt U.int) → gp G (k + 1 + 1) = G k := fun c => hno fun h => c h.2.2.1
     have hno4 : ¬ (G k).1 ≤ J.getD (0 + (k : Int).toNat) (Cd.dflt U.int) → gp G (k + 1 + 1) = G k := fun c => hno fun h => c h.2.2.2
     (repeat' ((conv => whnf); first | (exfalso; omega) | refine hK (k + 1 + 1, (k : Int) + 1) [some 0, some 1, some 2] _ _ ⟨⟨by dsimp only; omega, by dsimp only; omega⟩⟩ ⟨by dsimp only; omega⟩ (by (rw [hyes (by assumption) (by assumption) (by assumption) (by assumption), hJs]; exact bkI)) | refine hK (k + 1 + 1, (k : Int) + 1) [some 0, some 1, some 2] _ _ ⟨⟨by dsimp only; omega, by dsimp only; omega⟩⟩ ⟨by dsimp only; omega⟩ (by (rw [(by first | exact hno1 (by assumption) | exact hno2 (by assumption) | exact hno3 (by assumption) | exact hno4 (by assumption) : gp G (k + 1 + 1) = G k), hJs]; exact bkI)) | refine x0C ?_ | refine spC (fun hb => ?_) fun hb => ?_ | refine nilC (fun hb => ?_) ?_ | refine taC ?_ | refine saC ?_ | exact sdV | refine side_and ?_ ?_ | refine drawX_of mixed ?_)))
  ·have hie : i = M.length := by omega
   subst hie
   obtain ⟨R, hR⟩ : ∃ R, R = G M.length := ⟨_, rfl⟩
   rw [← hR]
   by_cases hneg : R.1 < 0
   ·rw [if_pos hneg]
    (repeat' ((conv => whnf); first | (exfalso; omega) | refine x0C ?_ | refine spC (fun hb => ?_) fun hb => ?_ | refine nilC (fun hb => ?_) ?_ | refine taC ?_ | refine saC ?_ | exact sdV | refine side_and ?_ ?_ | refine drawX_of mixed ?_))
    all_goals exact vwV
   ·rw [if_neg hneg]
    have hRb := goN_bd g (g.kids.getD (Int.toNat 0) (Cd.dflt U.goal)) M (max now (g.kids.getD (Int.toNat 0) (Cd.dflt U.goal)).from_) M.length
    have hRa := goN_at g (g.kids.getD (Int.toNat 0) (Cd.dflt U.goal)) M (max now (g.kids.getD (Int.toNat 0) (Cd.dflt U.goal)).from_) (by omega) hw hmem M.length (Nat.le_refl _)
    rw [← hG, ← hR] at hRb hRa
    clear hR hG hK
    obtain ⟨best, a⟩ := R
    dsimp only at hRb hRa hneg ⊢
    obtain ⟨N, hN⟩ : ∃ N, N = (g.times - best).toNat := ⟨_, rfl⟩
    rw [← hN]
    (repeat' ((conv => whnf); first | (exfalso; omega) | refine x0C ?_ | refine spC (fun hb => ?_) fun hb => ?_ | refine nilC (fun hb => ?_) ?_ | refine taC ?_ | refine saC ?_ | exact sdV | refine side_and ?_ ?_ | refine drawX_of mixed ?_))
    refine loop_upT [some 0, some 1, some 2, none] (fun q : Nat × Int × List Event => [(25, .slice 3 0 7 0 q.2.2.length), (26, iS q.2.1)]) (fun q => [(3, .rows U.event q.2.2)]) (fun q => q.1 ≤ N ∧ q.2.1 = best + q.1 ∧ q.2.2 = shotsN (g.kids.getD (Int.toNat 0) (Cd.dflt U.goal)) a g.within image q.1) (fun q => N - q.1) (0, best, []) ⟨Nat.zero_le _, by dsimp only; omega, rfl⟩ (by exact bkI) ?_
    rintro ⟨j, z, out⟩ ⟨hj, hz, hout⟩ K hK
    dsimp only at hj hz hout hK ⊢
    have hol : out.length = j := by rw [hout]; exact shotsN_len _ _ _ _ _
    rcases Nat.lt_or_ge j N with hlt | hge
    ·have hmu : 0 ≤ (z - best) * g.within ∧ (z - best) * g.within ≤ 604800 := by
      have h1 : (z - best) * g.within ≤ 6 * g.within := Int.mul_le_mul_of_nonneg_right (by omega) hw.1
      have h2 : 0 * g.within ≤ (z - best) * g.within := Int.mul_le_mul_of_nonneg_right (by omega) hw.1
      omega
     have ha := rshot2 (g.kids.getD (Int.toNat 0) (Cd.dflt U.goal)) hkr (a + (z - best) * g.within) (image + z - best) 0
     have hW : List.take out.length out ++ List.take 1 (List.drop 0 [shotE (g.kids.getD (Int.toNat 0) (Cd.dflt U.goal)) (a + (z - best) * g.within) (image + z - best) 0]) = shotsN (g.kids.getD (Int.toNat 0) (Cd.dflt U.goal)) a g.within image (j + 1) := by
      rw [shotsN, ← hout, List.take_length, show z - best = j by omega, show image + z - best = image + j by omega]; rfl
     (repeat' ((conv => whnf); first | (exfalso; omega) | (refine callh [] ha rfl rfl trivial ?_) | (refine dcallh [] ha rfl rfl trivial ?_) | (refine frz_op [some 0, some 1, some 2, some 3, none] [(196, evA (shotE (g.kids.getD (Int.toNat 0) (Cd.dflt U.goal)) (a + (z - best) * g.within) (image + z - best) 0))] [(4, .rows U.int [])] (by exact bkV) ?_) | refine hK (j + 1, z + 1, List.take out.length out ++ List.take 1 (List.drop 0 [shotE (g.kids.getD (Int.toNat 0) (Cd.dflt U.goal)) (a + (z - best) * g.within) (image + z - best) 0])) [some 0, some 1, some 2, some 6] _ _ ⟨⟨by dsimp only; omega, by dsimp only; omega, hW⟩⟩ ⟨by dsimp only; omega⟩ (by exact bkI) | refine x0C ?_ | refine spC (fun hb => ?_) fun hb => ?_ | refine nilC (fun hb => ?_) ?_ | refine taC ?_ | refine saC ?_ | exact sdV | refine side_and ?_ ?_ | refine drawX_of mixed ?_))
     done
    ·obtain rfl : j = N := by omega
     rw [← hout]
     (repeat' ((conv => whnf); first | (exfalso; omega) | refine x0C ?_ | refine spC (fun hb => ?_) fun hb => ?_ | refine nilC (fun hb => ?_) ?_ | refine taC ?_ | refine saC ?_ | exact sdV | refine side_and ?_ ?_ | refine drawX_of mixed ?_))
     all_goals exact vwV
end Go.SX
