/-
  Walks: Tg9, Th0, Th1, Th2, Th3, Tr0, Th4, Tr1, Th5: what single functions of the program compute.
-/
import Derived.Test.YtfbicphocelpeaaGreatDoorSxTg2
import Derived.Test.YtfbicphocelpeaaGreatDoorSxTd7
import Derived.Test.YtfbicphocelpeaaGreatDoorSxV6
set_option linter.unusedVariables false
set_option linter.unusedSimpArgs false
namespace Go.SX
open Go.Proofs
set_option maxHeartbeats 400000000
set_option maxRecDepth 100000
@[reducible] def q8z (g : aI) : HS Cd := .vart none [iS g.kind, lS g.rows, iS g.from_, iS g.to_, iS g.low, iS g.high, bS g.clear, iS g.days, iS g.times, iS g.within, lS g.cents, .p (.dsl U.goal g.kids)]
@[reducible] def Cz (g kid : aI) (image : Int) (r : Int × Int) : List (HS Cd) := [q8z g, .vart none [.ptr 4 0], .vart none [iS r.1], .vart none [iS r.2], Mm kid image]
theorem zM (g kid : aI) (image : Int) (r : Int × Int) (n from_ latest : Int) (ht : 1 ≤ g.times ∧ g.times ≤ 6) (hw : 0 ≤ g.within ∧ g.within ≤ 86400) (hn : 0 ≤ n ∧ n ≤ 1000000) (hf : 0 ≤ from_ ∧ from_ ≤ 4000000) : aF Tryz.prog Dc 90 [iS n, iS from_, iS latest, .ptr 0 0, .ptr 1 0, .ptr 2 0, .ptr 3 0] (Cz g kid image r) (.tuple []) (Cz g kid image (dU g kid.to_ r n from_ latest)) := by
 have hm : -86400000000 ≤ (g.times - n - 1) * g.within ∧ (g.times - n - 1) * g.within ≤ 604800 := by
  have h1 : (g.times - n - 1) * g.within ≤ 5 * g.within := Int.mul_le_mul_of_nonneg_right (by omega) hw.1;have h2 : (-1000000) * g.within ≤ (g.times - n - 1) * g.within := Int.mul_le_mul_of_nonneg_right (by omega) hw.1;omega
 obtain ⟨b, a⟩ := r;unfold dU
 by_cases hc : from_ ≤ latest ∧ from_ + (g.times - n - 1) * g.within < kid.to_ ∧ b ≤ n
 ·rw [if_pos hc];obtain ⟨c1, c2, c3⟩ := hc;refine aA Ax aD Tryz.func90 (c := _) rfl Tryz.call90 300 ?_
  (repeat' ((conv => whnf); first | (exfalso; omega) | (refine aZ [some 0, some 1, some 2, some 3, some 4] (.inl rfl) ?_ ?_ rfl rfl; (focus exact vwV); exact hsV) | refine spC (fun hb => ?_) fun hb => ?_ | refine taC ?_ | refine saC ?_ | refine aE mixed ?_))
 ·rw [if_neg hc];refine aA Ax aD Tryz.func90 (c := _) rfl Tryz.call90 300 ?_
  (repeat' ((conv => whnf); first | (exfalso; omega) | (refine aZ [some 0, some 1, some 2, some 3, some 4] (.inl rfl) ?_ ?_ rfl rfl; (focus exact vwV); exact hsV) | refine spC (fun hb => ?_) fun hb => ?_ | refine taC ?_ | refine saC ?_ | refine aE mixed ?_))
theorem q1b (g kid : aI) (M : List aB) (mm : Int) : ∀ i : Nat, -1 ≤ (goN g kid M mm i).1 ∧ (goN g kid M mm i).1 ≤ i
 | 0 => by
  rw [goN]; unfold dU;split
  ·exact ⟨by dsimp only; omega, by dsimp only; omega⟩
  ·exact ⟨by dsimp only; omega, by dsimp only; omega⟩
 | i + 1 => by
  have ih := q1b g kid M mm i;have hr := q4f g M i;rw [goN];split
  ·unfold dU;split
   ·dsimp only; omega
   ·omega
  ·omega
theorem q1o (g kid : aI) (M : List aB) (mm : Int) (hm : 0 ≤ mm ∧ mm ≤ 2000000) (hw : 0 ≤ g.within ∧ g.within ≤ 86400) (hM : ∀ e ∈ M, 0 ≤ e.at_ ∧ e.at_ ≤ 1000000) : ∀ i : Nat, i ≤ M.length → 0 ≤ (goN g kid M mm i).2 ∧ (goN g kid M mm i).2 ≤ 2000000
 | 0, _ => by
  rw [goN]; unfold dU;split
  ·dsimp only; omega
  ·dsimp only; omega
 | i + 1, h => by
  have ih := q1o g kid M mm hm hw hM i (by omega);rw [goN];have hi := hM _ (Xw (l := M) (k := i) (by omega));split
  ·unfold dU;split
   ·dsimp only; omega
   ·exact ih
  ·exact ih
def tI (g : aI) (M : List aB) (i : Nat) : List Int := gD g M i ++ List.replicate (M.length - i) 0
def kS (g : aI) (M : List aB) (i k : Nat) : List Int := gD g M i ++ X8 g M (gD g M i) i k :: List.replicate (M.length - (i + 1)) 0
theorem Sk (g : aI) (M : List aB) {i : Nat} (h : i ≤ M.length) : (tI g M i).length = M.length := by
 unfold tI; rw [List.length_append, fH, List.length_replicate]; omega
theorem Fv (g : aI) (M : List aB) {i k : Nat} (h : i < M.length) : (kS g M i k).length = M.length := by
 unfold kS; rw [List.length_append, fH, List.length_cons, List.length_replicate]; omega
theorem Mw (g : aI) (M : List aB) : tI g M 0 = List.replicate M.length 0 := rfl
theorem P1 (g : aI) (M : List aB) {i : Nat} (h : i < M.length) : kS g M i i = tI g M (i + 1) := by
 unfold kS tI;rw [gD, List.append_assoc]; rfl
theorem A2 (g : aI) (M : List aB) {i : Nat} (h : i < M.length) : tI g M i = gD g M i ++ 0 :: List.replicate (M.length - (i + 1)) 0 := by
 unfold tI;rw [show M.length - i = (M.length - (i + 1)) + 1 by omega, List.replicate_succ]
theorem Hg (g : aI) (M : List aB) {i : Nat} (h : i < M.length) (hb : nW g (M.getD i (U.dflt .event)) = true) : (tI g M i).set i 1 = kS g M i 0 := by
 rw [A2 g M h];unfold kS;rw [List.set_append_right _ _ (by rw [fH]; exact Nat.le_refl _), fH, Nat.sub_self, List.set_cons_zero, X8, if_pos hb]
theorem Z0 (g : aI) (M : List aB) {i : Nat} (h : i < M.length) (hb : nW g (M.getD i (U.dflt .event)) = false) : tI g M i = kS g M i 0 := by
 rw [A2 g M h];unfold kS;rw [X8, if_neg (by rw [hb]; simp)]
theorem Jj (g : aI) (M : List aB) {i k : Nat} (h : i < M.length) : (kS g M i k).getD i 0 = X8 g M (gD g M i) i k := by
 unfold kS;rw [List.getD_eq_getElem?_getD, List.getElem?_append_right (by rw [fH]; exact Nat.le_refl _), fH, Nat.sub_self]; rfl
theorem Ch (g : aI) (M : List aB) {i k j : Nat} (h : j < i) : (kS g M i k).getD j 0 = (gD g M i).getD j 0 := by
 unfold kS;rw [List.getD_eq_getElem?_getD, List.getElem?_append_left (by rw [fH]; exact h), List.getD_eq_getElem?_getD]
theorem Az (g : aI) (M : List aB) {i k : Nat} (h : i < M.length) (hk : k < i) (h1 : 0 < (gD g M i).getD k 0) (h2 : bY g (M.getD k (U.dflt .event)) (M.getD i (U.dflt .event)) = true) : (kS g M i k).set i (max (X8 g M (gD g M i) i k) (1 + (gD g M i).getD k 0)) = kS g M i (k + 1) := by
 unfold kS;rw [List.set_append_right _ _ (by rw [fH]; exact Nat.le_refl _), fH, Nat.sub_self, List.set_cons_zero, X8, if_pos (by simp only [Bool.and_eq_true, decide_eq_true_eq]; exact ⟨h1, h2⟩)]
theorem rA (g : aI) (M : List aB) {i k : Nat} (h : ¬ (0 < (gD g M i).getD k 0 ∧ bY g (M.getD k (U.dflt .event)) (M.getD i (U.dflt .event)) = true)) : kS g M i (k + 1) = kS g M i k := by
 unfold kS;rw [X8, if_neg (by simp only [Bool.and_eq_true, decide_eq_true_eq]; exact h)]
theorem qa0 (g kid : aI) (ht : 1 ≤ g.times ∧ g.times ≤ 6) (hd : 0 ≤ g.days ∧ g.days ≤ 60) (hw : 0 ≤ g.within ∧ g.within ≤ 86400) (hfr : 0 ≤ g.from_ ∧ g.from_ ≤ 1000000) (hkr : (kid.rows.length : Int) ≤ 1000) (M : List aB) (hM : lV M) (hMa : ∀ e ∈ M, 0 ≤ e.at_ ∧ e.at_ ≤ 1000000) (l : List aB) (now image m : Int) (hm : 0 ≤ m ∧ m ≤ 2000000) (hi : 0 ≤ image ∧ image ≤ 900000)
  (hseen : aF Tryz.prog Dc 91 [aX l now, aM kid] [] (eS M) []) :
  aF Tryz.prog Dc 61 [aX l now, aM g, .ptr 0 0, iS m] [Mm kid image] (T9 (if (goN g kid M m M.length).1 < 0 then none else some (fR kid (goN g kid M m M.length).2 g.within image (g.times - (goN g kid M m M.length).1).toNat))) [Mm kid (if (goN g kid M m M.length).1 < 0 then image else image + (g.times - (goN g kid M m M.length).1).toNat)] := by
 have hl := hM.len;have hc0 := zM g kid image (-1, 0) 0 m (g.from_ + 1440 * g.days) ht hw (by omega) (by omega);obtain ⟨G, hG⟩ : ∃ G, G = goN g kid M m := ⟨_, rfl⟩;rw [← hG];refine aA Ax aD Tryz.func61 (c := _) rfl Tryz.call61 900 ?_
 (repeat' ((conv => whnf); first | refine chC [some 2, some 3, some 4, some 5, some 0] hc0 ?_ | refine dpC (hseen) ?_ | refine taC ?_ | refine saC ?_ | refine aE mixed ?_))
 have hst : List.replicate ((M.length : Nat) : Int).toNat (Cd.dflt U.int) = tI g M 0 := by rw [Mw, Int.toNat_natCast]; rfl
 have hG0 : dU g kid.to_ (-1, 0) 0 m (g.from_ + 1440 * g.days) = G 0 := by rw [hG]; rfl
 rw [hst, hG0];refine aT [some 0, some 1, some 2, some 3, some 4, some 5, some 6] (fun q : Nat => [(43, iS q)]) (fun q => [(4, .vart none [iS (G q).1]), (5, .vart none [iS (G q).2]), (6, .rows U.int (tI g M q))]) (fun q => q ≤ M.length) (fun q => M.length - q) 0 (Nat.zero_le _) (by exact bkI) ?_;rintro i hi K hK;dsimp only at hK ⊢;have hll := Sk g M hi;rcases Nat.lt_or_ge i M.length with hlt | hge
 ·have hgi := getD_some (d := Cd.dflt U.event) hlt;have hbg := q1j g (M.getD (i : Int).toNat (Cd.dflt U.event)) hfr hd;cases hB : nW g (M.getD (i : Int).toNat (Cd.dflt U.event)) with
  | true =>
   rw [hB] at hbg
   (repeat' ((conv => whnf); first | (exfalso; omega) | refine cpC (hbg) ?_ | refine spC (fun hb => ?_) fun hb => ?_ | refine saC ?_))
   refine aT [some 0, some 1, some 2, some 3, some 4, some 5, some 6, some 7] (fun q : Nat × List Int => [(55, iS q.1)]) (fun q => [(6, .rows U.int q.2)]) (fun q => q.1 ≤ i ∧ q.2 = kS g M i q.1) (fun q => i - q.1) (0, (tI g M i).set (0 + (i : Int).toNat) 1) ⟨Nat.zero_le _, by dsimp only; rw [Nat.zero_add, Int.toNat_natCast]; exact Hg g M hlt hB⟩ (by exact bkI) ?_;rintro ⟨k, J⟩ ⟨hk, hJ⟩ K2 hK2;dsimp only at hk hJ hK2 ⊢;have hJl : J.length = M.length := by rw [hJ]; exact Fv g M hlt
   have hJi : J.getD (0 + (i : Int).toNat) (Cd.dflt U.int) = X8 g M (gD g M i) i k := by rw [Nat.zero_add, Int.toNat_natCast, hJ]; exact Jj g M hlt
   have hbi := F5 g M (gD g M i) i i (by omega) (nP g M i) k;rcases Nat.lt_or_ge k i with hki | hki
   ·have hgk := getD_some (d := Cd.dflt U.event) (show k < M.length by omega);have hJk : J.getD (0 + (k : Int).toNat) (Cd.dflt U.int) = (gD g M i).getD k 0 := by rw [Nat.zero_add, Int.toNat_natCast, hJ]; exact Ch g M hki
    have hbk := nP g M i k;have hfo := X1 g (M.getD (k : Int).toNat (Cd.dflt U.event)) (M.getD (i : Int).toNat (Cd.dflt U.event)) (hM.i64 _ (List.mem_of_getElem? hgk)) (hM.i64 _ (List.mem_of_getElem? hgi)) hd
    by_cases hp : 0 < (gD g M i).getD k 0
    ·cases hF : bY g (M.getD (k : Int).toNat (Cd.dflt U.event)) (M.getD (i : Int).toNat (Cd.dflt U.event)) with
     | true =>
      rw [hF] at hfo;have hn := Az g M hlt hki hp hF;have he : J.set (0 + (i : Int).toNat) (max (J.getD (0 + (i : Int).toNat) (Cd.dflt U.int)) (1 + J.getD (0 + (k : Int).toNat) (Cd.dflt U.int))) = kS g M i (k + 1) := by
       rw [hJi, hJk, hJ, Nat.zero_add, Int.toNat_natCast]; exact hn
      (repeat' ((conv => whnf); first | (exfalso; omega) | refine dpC (hfo) ?_ | refine hK2 (k + 1, J.set (0 + (i : Int).toNat) (max (J.getD (0 + (i : Int).toNat) (Cd.dflt U.int)) (1 + J.getD (0 + (k : Int).toNat) (Cd.dflt U.int)))) [some 0, some 1, some 2, some 3, some 4, some 5, some 6, some 7] _ _ ⟨⟨by dsimp only; omega, he⟩⟩ ⟨by dsimp only; omega⟩ (by exact bkI) | refine spC (fun hb => ?_) fun hb => ?_ | refine taC ?_ | refine saC ?_ | refine aE mixed ?_))
     | false =>
      rw [hF] at hfo;have hn := rA g M (i := i) (k := k) (fun h => by rw [show bY g (M.getD k (U.dflt .event)) (M.getD i (U.dflt .event)) = false from hF] at h; cases h.2)
      (repeat' ((conv => whnf); first | (exfalso; omega) | refine dpC (hfo) ?_ | refine hK2 (k + 1, J) [some 0, some 1, some 2, some 3, some 4, some 5, some 6, some 7] _ _ ⟨⟨by dsimp only; omega, hJ.trans hn.symm⟩⟩ ⟨by dsimp only; omega⟩ (by exact bkI) | refine spC (fun hb => ?_) fun hb => ?_ | refine taC ?_ | refine saC ?_ | refine aE mixed ?_))
    ·have hn := rA g M (i := i) (k := k) (fun h => hp h.1)
     (repeat' ((conv => whnf); first | (exfalso; omega) | refine hK2 (k + 1, J) [some 0, some 1, some 2, some 3, some 4, some 5, some 6, some 7] _ _ ⟨⟨by dsimp only; omega, hJ.trans hn.symm⟩⟩ ⟨by dsimp only; omega⟩ (by exact bkI) | refine spC (fun hb => ?_) fun hb => ?_ | refine taC ?_ | refine saC ?_ | refine aE mixed ?_))
   ·obtain rfl : k = i := by omega
    have hJs : J = tI g M (k + 1) := by rw [hJ]; exact P1 g M hlt
    have hee : X8 g M (gD g M k) k k = Ws g M k := rfl;rw [hee] at hJi hbi;have hMk := hMa _ (List.mem_of_getElem? hgi);have hMk' : 0 ≤ (M.getD (k : Int).toNat (U.dflt .event)).at_ ∧ (M.getD (k : Int).toNat (U.dflt .event)).at_ ≤ 1000000 := hMk;have hcn := zM g kid image (G k) (J.getD (0 + (k : Int).toNat) (Cd.dflt U.int)) (max m ((M.getD (k : Int).toNat (Cd.dflt U.event)).at_ + g.within)) ((M.getD (k : Int).toNat (Cd.dflt U.event)).at_ + 1440 * g.days) ht hw (by omega) (by omega)
    by_cases hp : 0 < Ws g M k
    ·have hG1 : dU g kid.to_ (G k) (J.getD (0 + (k : Int).toNat) (Cd.dflt U.int)) (max m ((M.getD (k : Int).toNat (Cd.dflt U.event)).at_ + g.within)) ((M.getD (k : Int).toNat (Cd.dflt U.event)).at_ + 1440 * g.days) = G (k + 1) := by
      rw [hJi, hG, goN, if_pos hp]; rfl
     rw [hG1] at hcn
     (repeat' ((conv => whnf); first | (exfalso; omega) | (refine cI [some 2, some 3, some 4, some 5, some 0] hcn rfl rfl ⟨rfl, rfl, rfl, rfl, rfl, trivial⟩ ?_) | refine hK (k + 1) [some 0, some 1, some 2, some 3, some 4, some 5, some 6] _ _ ⟨by omega⟩ ⟨by omega⟩ (by (rw [← hJs]; exact bkI)) | refine spC (fun hb => ?_) fun hb => ?_ | refine taC ?_ | refine saC ?_ | refine aE mixed ?_))
    ·have hG1 : G (k + 1) = G k := by rw [hG, goN, if_neg hp]
     (repeat' ((conv => whnf); first | (exfalso; omega) | refine hK (k + 1) [some 0, some 1, some 2, some 3, some 4, some 5, some 6] _ _ ⟨by omega⟩ ⟨by omega⟩ (by (rw [← hJs, hG1]; exact bkI)) | refine spC (fun hb => ?_) fun hb => ?_ | refine saC ?_))
  | false =>
   rw [hB] at hbg
   (repeat' ((conv => whnf); first | (exfalso; omega) | refine cpC (hbg) ?_ | refine spC (fun hb => ?_) fun hb => ?_ | refine saC ?_))
   refine aT [some 0, some 1, some 2, some 3, some 4, some 5, some 6, some 7] (fun q : Nat × List Int => [(55, iS q.1)]) (fun q => [(6, .rows U.int q.2)]) (fun q => q.1 ≤ i ∧ q.2 = kS g M i q.1) (fun q => i - q.1) (0, tI g M i) ⟨Nat.zero_le _, Z0 g M hlt hB⟩ (by exact bkI) ?_;rintro ⟨k, J⟩ ⟨hk, hJ⟩ K2 hK2;dsimp only at hk hJ hK2 ⊢;have hJl : J.length = M.length := by rw [hJ]; exact Fv g M hlt
   have hJi : J.getD (0 + (i : Int).toNat) (Cd.dflt U.int) = X8 g M (gD g M i) i k := by rw [Nat.zero_add, Int.toNat_natCast, hJ]; exact Jj g M hlt
   have hbi := F5 g M (gD g M i) i i (by omega) (nP g M i) k;rcases Nat.lt_or_ge k i with hki | hki
   ·have hgk := getD_some (d := Cd.dflt U.event) (show k < M.length by omega);have hJk : J.getD (0 + (k : Int).toNat) (Cd.dflt U.int) = (gD g M i).getD k 0 := by rw [Nat.zero_add, Int.toNat_natCast, hJ]; exact Ch g M hki
    have hbk := nP g M i k;have hfo := X1 g (M.getD (k : Int).toNat (Cd.dflt U.event)) (M.getD (i : Int).toNat (Cd.dflt U.event)) (hM.i64 _ (List.mem_of_getElem? hgk)) (hM.i64 _ (List.mem_of_getElem? hgi)) hd
    by_cases hp : 0 < (gD g M i).getD k 0
    ·cases hF : bY g (M.getD (k : Int).toNat (Cd.dflt U.event)) (M.getD (i : Int).toNat (Cd.dflt U.event)) with
     | true =>
      rw [hF] at hfo;have hn := Az g M hlt hki hp hF;have he : J.set (0 + (i : Int).toNat) (max (J.getD (0 + (i : Int).toNat) (Cd.dflt U.int)) (1 + J.getD (0 + (k : Int).toNat) (Cd.dflt U.int))) = kS g M i (k + 1) := by
       rw [hJi, hJk, hJ, Nat.zero_add, Int.toNat_natCast]; exact hn
      (repeat' ((conv => whnf); first | (exfalso; omega) | refine dpC (hfo) ?_ | refine hK2 (k + 1, J.set (0 + (i : Int).toNat) (max (J.getD (0 + (i : Int).toNat) (Cd.dflt U.int)) (1 + J.getD (0 + (k : Int).toNat) (Cd.dflt U.int)))) [some 0, some 1, some 2, some 3, some 4, some 5, some 6, some 7] _ _ ⟨⟨by dsimp only; omega, he⟩⟩ ⟨by dsimp only; omega⟩ (by exact bkI) | refine spC (fun hb => ?_) fun hb => ?_ | refine taC ?_ | refine saC ?_ | refine aE mixed ?_))
     | false =>
      rw [hF] at hfo;have hn := rA g M (i := i) (k := k) (fun h => by rw [show bY g (M.getD k (U.dflt .event)) (M.getD i (U.dflt .event)) = false from hF] at h; cases h.2)
      (repeat' ((conv => whnf); first | (exfalso; omega) | refine dpC (hfo) ?_ | refine hK2 (k + 1, J) [some 0, some 1, some 2, some 3, some 4, some 5, some 6, some 7] _ _ ⟨⟨by dsimp only; omega, hJ.trans hn.symm⟩⟩ ⟨by dsimp only; omega⟩ (by exact bkI) | refine spC (fun hb => ?_) fun hb => ?_ | refine taC ?_ | refine saC ?_ | refine aE mixed ?_))
    ·have hn := rA g M (i := i) (k := k) (fun h => hp h.1)
     (repeat' ((conv => whnf); first | (exfalso; omega) | refine hK2 (k + 1, J) [some 0, some 1, some 2, some 3, some 4, some 5, some 6, some 7] _ _ ⟨⟨by dsimp only; omega, hJ.trans hn.symm⟩⟩ ⟨by dsimp only; omega⟩ (by exact bkI) | refine spC (fun hb => ?_) fun hb => ?_ | refine taC ?_ | refine saC ?_ | refine aE mixed ?_))
   ·obtain rfl : k = i := by omega
    have hJs : J = tI g M (k + 1) := by rw [hJ]; exact P1 g M hlt
    have hee : X8 g M (gD g M k) k k = Ws g M k := rfl;rw [hee] at hJi hbi;have hMk := hMa _ (List.mem_of_getElem? hgi);have hMk' : 0 ≤ (M.getD (k : Int).toNat (U.dflt .event)).at_ ∧ (M.getD (k : Int).toNat (U.dflt .event)).at_ ≤ 1000000 := hMk;have hcn := zM g kid image (G k) (J.getD (0 + (k : Int).toNat) (Cd.dflt U.int)) (max m ((M.getD (k : Int).toNat (Cd.dflt U.event)).at_ + g.within)) ((M.getD (k : Int).toNat (Cd.dflt U.event)).at_ + 1440 * g.days) ht hw (by omega) (by omega)
    by_cases hp : 0 < Ws g M k
    ·have hG1 : dU g kid.to_ (G k) (J.getD (0 + (k : Int).toNat) (Cd.dflt U.int)) (max m ((M.getD (k : Int).toNat (Cd.dflt U.event)).at_ + g.within)) ((M.getD (k : Int).toNat (Cd.dflt U.event)).at_ + 1440 * g.days) = G (k + 1) := by
      rw [hJi, hG, goN, if_pos hp]; rfl
     rw [hG1] at hcn
     (repeat' ((conv => whnf); first | (exfalso; omega) | (refine cI [some 2, some 3, some 4, some 5, some 0] hcn rfl rfl ⟨rfl, rfl, rfl, rfl, rfl, trivial⟩ ?_) | refine hK (k + 1) [some 0, some 1, some 2, some 3, some 4, some 5, some 6] _ _ ⟨by omega⟩ ⟨by omega⟩ (by (rw [← hJs]; exact bkI)) | refine spC (fun hb => ?_) fun hb => ?_ | refine taC ?_ | refine saC ?_ | refine aE mixed ?_))
    ·have hG1 : G (k + 1) = G k := by rw [hG, goN, if_neg hp]
     (repeat' ((conv => whnf); first | (exfalso; omega) | refine hK (k + 1) [some 0, some 1, some 2, some 3, some 4, some 5, some 6] _ _ ⟨by omega⟩ ⟨by omega⟩ (by (rw [← hJs, hG1]; exact bkI)) | refine spC (fun hb => ?_) fun hb => ?_ | refine saC ?_))
 ·obtain rfl : i = M.length := by omega
  have hbd : -1 ≤ (G M.length).1 ∧ (G M.length).1 ≤ M.length := by rw [hG]; exact q1b g kid M m M.length
  have hab : 0 ≤ (G M.length).2 ∧ (G M.length).2 ≤ 2000000 := by rw [hG]; exact q1o g kid M m hm hw hMa M.length (Nat.le_refl _)
  by_cases hneg : (G M.length).1 < 0
  ·rw [if_pos hneg, if_pos hneg]
   (repeat' ((conv => whnf); first | (exfalso; omega) | exact enC [some 0] | refine spC (fun hb => ?_) fun hb => ?_))
  ·rw [if_neg hneg, if_neg hneg];generalize G M.length = r at *;obtain ⟨b, a⟩ := r;dsimp only at hneg hbd hab ⊢;obtain ⟨N, hN⟩ : ∃ N : Nat, N = (g.times - b).toNat := ⟨_, rfl⟩;rw [← hN]
   (repeat' ((conv => whnf); first | (exfalso; omega) | refine spC (fun hb => ?_) fun hb => ?_ | refine saC ?_))
   refine aT [some 0, some 1, some 2, some 3, some 4, some 5, some 6, none] (fun q : Nat × Int × Int × List aB => [(115, iS q.1), (19, .slice 7 0 7 0 q.2.2.2.length)]) (fun q => [(0, Mm kid q.2.1), (5, .vart none [iS q.2.2.1]), (7, .rows U.event q.2.2.2)]) (fun q => q.1 ≤ N ∧ q.2.1 = image + q.1 ∧ q.2.2.1 = a + q.1 * g.within ∧ q.2.2.2 = fR kid a g.within image q.1) (fun q => N - q.1) (0, image, a, []) ⟨Nat.zero_le _, by dsimp only; omega, by dsimp only; simp, rfl⟩ (by exact bkI) ?_;rintro ⟨j, im, at_, out⟩ ⟨hj, him, hat_, hout⟩ K hK;dsimp only at hj him hat_ hout hK ⊢;have hjw : 0 ≤ (j : Int) * g.within ∧ (j : Int) * g.within ≤ 7 * 86400 := by
    have h1 : (j : Int) * g.within ≤ 7 * g.within := Int.mul_le_mul_of_nonneg_right (by omega) hw.1;exact ⟨Int.mul_nonneg (by omega) hw.1, by omega⟩
   have hol : out.length = j := by rw [hout]; exact vT _ _ _ _ _
   rcases Nat.lt_or_ge j N with hjN | hjN
   ·have hat := tat kid hkr im at_ 0 (by omega);have hW : List.take out.length out ++ List.take 1 (List.drop 0 [mK kid at_ im 0]) = fR kid a g.within image (j + 1) := by rw [fR, ← hout, List.take_length, ← him, ← hat_]; rfl
    have hsu : at_ + g.within = a + ((j + 1 : Nat) : Int) * g.within := by rw [hat_, Int.natCast_add, Int.add_mul]; simp; omega
    (repeat' ((conv => whnf); first | (exfalso; omega) | refine chC [some 0] hat ?_ | (refine rR (rS [some 0, some 1, some 2, some 3, some 4, some 5, some 6, some 7, none] [(120, evA (mK kid at_ im 0))] [(8, .rows U.int [])] (by exact bkV) ?_)) | refine hK (j + 1, im + 1, at_ + g.within, List.take out.length out ++ List.take 1 (List.drop 0 [mK kid at_ im 0])) [some 0, some 1, some 2, some 3, some 4, some 5, some 6, some 10] _ _ ⟨⟨by dsimp only; omega, by dsimp only; omega, hsu, hW⟩⟩ ⟨by dsimp only; omega⟩ (by exact bkI) | refine spC (fun hb => ?_) fun hb => ?_ | refine saC ?_))
   ·obtain rfl : j = N := by omega
    rw [← hout, ← him]
    (repeat' ((conv => whnf); first | (exfalso; omega) | exact enC [some 0] | refine spC (fun hb => ?_) fun hb => ?_))
theorem Wl {C : Cod} {P : Program} {D : aJ C} {f : FuncId} {args args' : List (SV C)} {p : PV C} {H1 : List (HS C)} (hM : aF P D f args' [] (.p p) []) (hv : q5d H1 [] args args') : aF P D f args H1 (.p p) (H1.map fun _ => .dead) := by
 refine ⟨hM.enter, fun w E hm vs hs hd => ?_⟩
 let B0 : dP := ⟨w, { F := E.F, β := fun _ => .fresh }, fun _ => True, 0, fun _ _ => rfl, [], false⟩
 have hf0 : Fr B0 E w := ⟨rfl, rfl, rfl, Nat.le_refl _, fun b _ ho => absurd trivial ho, ⟨fun b hb => ⟨hb, rfl⟩, fun c => .inr (.inr rfl), fun c b e => by cases e⟩, fun b _ => .inr (.inl trivial), fun c b _ => .inl trivial⟩;obtain ⟨g1, g2, g3⟩ := gU hs hf0 (θ := []) (Hp' := []) ⟨trivial, rfl, rfl⟩;have hd' := view_denA hs g1 args args' vs hv.h hd;refine (hM.calls w (E.view [] []) (fun c _ => rfl) vs g2 hd').mono ?_;rintro e w' ⟨v, E', rfl, hv', hsat, hfr⟩;refine ⟨v, { F := E'.F, β := fun c => if c < H1.length then .dead else .fresh }, rfl, by simp only [Den] at hv' ⊢; exact hv', ⟨fun c => ?_, fun c b e => ?_, fun c c' b e _ => ?_, hsat.F, hsat.glob⟩, ⟨hfr.os, hfr.tape, hfr.output, hfr.size, fun b hb _ => hfr.same b hb (by rintro ⟨c, hc⟩; cases hc), ⟨fun b hb => hfr.late.F b (.inl hb), fun c => ?_, fun c b _ e => ?_⟩, fun b hb => ?_, fun c b e => ?_⟩⟩
 ·by_cases hc : c < H1.length
  ·simp only [if_pos hc];show aR (H1.map fun _ => .dead) c = .dead;have : ∀ (l : List (HS C)) (c : Nat), c < l.length → aR (l.map fun _ => (.dead : HS C)) c = .dead := by
    intro l
    induction l with
    | nil => intro c h; cases h
    | cons a l ih =>
     intro c h;cases c with
     | zero => rfl
     | succ c => exact ih c (by simpa using h)
   exact this H1 c hc
  ·simp only [if_neg hc];show aR (H1.map fun _ => .dead) c = .fresh;have : ∀ (l : List (HS C)) (c : Nat), ¬ c < l.length → aR (l.map fun _ => (.dead : HS C)) c = .fresh := by
    intro l
    induction l with
    | nil => intro c h; rfl
    | cons a l ih =>
     intro c h;cases c with
     | zero => simp at h
     | succ c => exact ih c (by simpa using h)
   exact this H1 c hc
 ·dsimp only at e; split at e <;> cases e
 ·dsimp only at e; split at e <;> cases e
 ·by_cases hc : c < H1.length
  ·exact .inr (.inl (if_pos hc))
  ·exact .inr (.inr (hm c (by omega)))
 ·dsimp only at e; split at e <;> cases e
 ·rcases hfr.newF b hb with h | ⟨c, hc⟩ | h
  ·rcases h with h | ⟨c, _, hc⟩
   ·exact .inl h
   ·exact .inr (.inl ⟨c, hc⟩)
  ·cases hc
  ·exact .inr (.inr h)
 ·dsimp only at e; split at e <;> cases e
theorem q7j (l : List Int) (v : Int) (hl : (l.length : Int) ≤ 9223372036854775807) : aF Tryz.prog Dc 140 [lS l, iS v] [] (iS (Oq (fun x => decide (v = x)) l)) [] := by
 refine aA Ax aD Tryz.func140 (c := _) rfl Tryz.call140 200 ?_
 (repeat' ((conv => whnf); first | fail))
 refine bP (fun i : Nat => [(8, iS i)]) (fun _ => []) (fun i => i ≤ l.length ∧ (l.take i).any (fun x => decide (v = x)) = false) (fun i => l.length - i) 0 ⟨Nat.zero_le _, by simp⟩ (by exact bkV) ?_;intro i hi K hK;rcases Nat.lt_or_ge i l.length with hlt | hge
 ·have hg := getD_some (d := Cd.dflt U.int) hlt
  by_cases hv : v = l.getD (i : Int).toNat (Cd.dflt U.int)
  ·have h1 := yE (p := fun x => decide (v = x)) hg (decide_eq_true hv) hi.2
   (repeat' ((conv => whnf); first | (exfalso; omega) | refine x0C (eI h1.symm rfl) | refine spC (fun hb => ?_) fun hb => ?_ | refine saC ?_))
  ·have h1 := iA (p := fun x => decide (v = x)) hg (decide_eq_false hv) hi.2
   (repeat' ((conv => whnf); first | (exfalso; omega) | refine hK (i + 1) [] _ _ ⟨by omega, h1⟩ ⟨by omega⟩ (by exact bkV) | refine spC (fun hb => ?_) fun hb => ?_ | refine saC ?_))
 ·have := mL (jG hge hi.2)
  (repeat' ((conv => whnf); first | (exfalso; omega) | refine x0C (eI this.symm rfl) | refine spC (fun hb => ?_) fun hb => ?_))
theorem qd1 (l : List Int) (v : Int) (hl : (l.length : Int) ≤ 9223372036854775807) : aF Tryz.prog Dc 98 [lS l, iS v] [] (bS (decide (v ∈ l))) [] := by
 have h := q7j l v hl;have e : decide (v ∈ l) = decide (0 ≤ Oq (fun x => decide (v = x)) l) := by
  rw [nU, Bool.eq_iff_iff, decide_eq_true_eq, List.any_eq_true];constructor
  ·intro h; exact ⟨v, h, by simp⟩
  ·rintro ⟨x, h1, h2⟩;rw [decide_eq_true_eq] at h2;rw [h2]; exact h1
 rw [e];refine aA Ax aD Tryz.func98 (c := _) rfl Tryz.call98 100 ?_
 (repeat' ((conv => whnf); first | refine x0C (eB ?_ rfl) | refine cpC (h) ?_))
 all_goals rfl
theorem Wb (p : Int) (im : List Int) (hl : (im.length : Int) ≤ 9223372036854775807) (e : aB) : aF Tryz.prog Dc 97 [evA e, .dptr [.int .i64 p, .dsl U.int im] 0] [] (bS (!decide (e.image ∈ im))) [] := by
 have h := qd1 im e.image hl;refine aA Ax aD Tryz.func97 (c := _) rfl Tryz.call97 100 ?_
 (repeat' ((conv => whnf); first | refine x0C (eB ?_ rfl) | refine cpC (h) ?_))
 all_goals rfl
def mV (l : List aB) (within now : Int) (i : Nat) : List aB := ((l.take i).filter (L0 l within now)).map fun e => qU now e.image
theorem Gy {l : List aB} {within now : Int} {i : Nat} (h : i < l.length) : mV l within now (i + 1) = if L0 l within now (l.getD i dE) then mV l within now i ++ [qU now (l.getD i dE).image] else mV l within now i := by
 unfold mV;rw [kF h, List.filter_append, List.map_append];show _ ++ List.map _ (List.filter (L0 l within now) [l.getD i dE]) = _;generalize l.getD i dE = e;cases hc : L0 l within now e <;> simp [hc]
theorem Mo (l : List aB) (within now : Int) (i : Nat) : (mV l within now i).length ≤ i := by
 unfold mV;rw [List.length_map];exact Nat.le_trans (List.length_filter_le _ _) (by simp; omega)
theorem Om (l : List aB) (within now : Int) : mV l within now l.length = kK l within now := by unfold mV kK; rw [List.take_length]
theorem q2k (im : List Int) (l : List aB) : mG (fun e => !decide (e.image ∈ im)) l = l.filter fun e => decide (e.image ∈ im) := by
 unfold mG; congr 1; funext e; simp
theorem Cj {l : List aB} {i : Nat} (h : i < l.length) : cU (l.take (i + 1)) = cU (l.take i) ++ [l.getD i dE, qU (l.getD i dE).at_ (l.getD i dE).image] := by
 unfold cU;rw [kF h, List.flatMap_append]; simp
theorem D6 : ∀ l : List aB, (cU l).length = 2 * l.length
 | [] => rfl
 | e :: l => by
  have := D6 l;unfold cU at *;rw [List.flatMap_cons, List.length_append, this]; simp; omega
theorem Yo (s : Sen) : ∃ p b, qD s = .tuple [q64 p (I8 s), bS b] := by
 cases s with
 | none => exact ⟨0, false, rfl⟩
 | some w => exact ⟨w.1, true, rfl⟩
def q6u (g : aI) (l : List aB) (now : Int) : Option (List aB) → Option (List aB)
 | none => none
 | some more => some (Ls (kK l g.within now) more (I8 (bV (eM g.kids) (aY (eV l g.within now ++ more)))))
theorem Yn (g : aI) (hk : (g.kids.length : Int) = 1) (hw : 0 ≤ g.within ∧ g.within ≤ 1000000) (l : List aB) (hl : lV l) (hll : l.length ≤ 100000) (hla : ∀ e ∈ l, 0 ≤ e.at_ ∧ e.at_ ≤ 1000000) (now image : Int) (hnow : 0 ≤ now ∧ now ≤ 1000000) (F : Option (List aB))
  (hF : aF Tryz.prog Dc 35 [aX (eV l g.within now) now, aM (eM g.kids), iS image] [] (T9 F) [])
  (hFl : ∀ more, F = some more → more.length ≤ 100000)
  (hs : ∀ more, F = some more → aF Tryz.prog Dc 57 [aX (aY (eV l g.within now ++ more)) now, aM (eM g.kids)] [] (qD (bV (eM g.kids) (aY (eV l g.within now ++ more)))) [])
  (hsl : ∀ more, F = some more → ((I8 (bV (eM g.kids) (aY (eV l g.within now ++ more)))).length : Int) ≤ 9223372036854775807) :
  aF Tryz.prog Dc 62 [aX l now, aM g, iS image] [] (T9 (q6u g l now F)) [] := by
 have hlen := hl.len;generalize hX : q6u g l now F = X;refine aA Ax aD Tryz.func62 (c := _) rfl Tryz.call62 900 ?_
 (repeat' ((conv => whnf); first | fail))
 refine aT [some 0, some 1, none] (fun q : Nat × List aB => [(22, iS q.1), (8, .slice 2 0 7 0 q.2.length)]) (fun q => [(2, .rows U.event q.2)]) (fun q => q.1 ≤ l.length ∧ q.2 = mV l g.within now q.1) (fun q => l.length - q.1) (0, []) ⟨Nat.zero_le _, rfl⟩ (by exact bkI) ?_;rintro ⟨i, H⟩ ⟨hi, hH⟩ K hK;dsimp only at hi hH hK ⊢;have hHl : H.length ≤ i := by rw [hH]; exact Mo _ _ _ _
 rcases Nat.lt_or_ge i l.length with hlt | hge
 ·have hgi := getD_some (d := Cd.dflt U.event) hlt;have hei := hla _ (List.mem_of_getElem? hgi);have hd := N3 l now (l.getD (i : Int).toNat (Cd.dflt U.event)) g.within hlen hl.i64 (hl.i64 _ (List.mem_of_getElem? hgi));have hsu := Gy (within := g.within) (now := now) hlt;have hyes : (l.getD (i : Int).toNat (Cd.dflt U.event)).kind = 1 → now ≤ (l.getD (i : Int).toNat (Cd.dflt U.event)).at_ + g.within → Sr l (l.getD (i : Int).toNat (Cd.dflt U.event)) g.within = false → List.take H.length H ++ List.take 1 (List.drop 0 [qU now (l.getD (i : Int).toNat (Cd.dflt U.event)).image]) = mV l g.within now (i + 1) := fun h1 h2 h3 => by
   rw [hsu, if_pos (by
    unfold L0;simp only [Bool.and_eq_true, decide_eq_true_eq, Bool.not_eq_true'];exact ⟨⟨h1, h2⟩, h3⟩), ← hH, List.take_length]; rfl
  have hno1 : ¬ (l.getD (i : Int).toNat (Cd.dflt U.event)).kind = 1 → H = mV l g.within now (i + 1) := fun h1 => by
   rw [hsu, if_neg (by
    unfold L0;simp only [Bool.and_eq_true, decide_eq_true_eq];exact fun h => h1 h.1.1), ← hH]
  have hno2 : ¬ now ≤ (l.getD (i : Int).toNat (Cd.dflt U.event)).at_ + g.within → H = mV l g.within now (i + 1) := fun h1 => by
   rw [hsu, if_neg (by
    unfold L0;simp only [Bool.and_eq_true, decide_eq_true_eq];exact fun h => h1 h.1.2), ← hH]
  have hno3 : Sr l (l.getD (i : Int).toNat (Cd.dflt U.event)) g.within = true → H = mV l g.within now (i + 1) := fun h1 => by
   rw [hsu, if_neg (by
    unfold L0;simp only [Bool.and_eq_true, Bool.not_eq_true'];exact fun h => by rw [show Sr l (l.getD i dE) g.within = true from h1] at h; cases h.2), ← hH]
  by_cases c1 : (l.getD (i : Int).toNat (Cd.dflt U.event)).kind = 1
  ·by_cases c2 : now ≤ (l.getD (i : Int).toNat (Cd.dflt U.event)).at_ + g.within
   ·cases hB : Sr l (l.getD (i : Int).toNat (Cd.dflt U.event)) g.within with
    | true =>
     rw [hB] at hd;have hW := hno3 hB
     (repeat' ((conv => whnf); first | (exfalso; omega) | refine cpC (hd) ?_ | refine hK (i + 1, H) [some 0, some 1, some 2] _ _ ⟨⟨by dsimp only; omega, hW⟩⟩ ⟨by dsimp only; omega⟩ (by exact bkI) | refine spC (fun hb => ?_) fun hb => ?_ | refine saC ?_))
    | false =>
     rw [hB] at hd;have hW := hyes c1 c2 hB
     (repeat' ((conv => whnf); first | (exfalso; omega) | refine cpC (hd) ?_ | refine spC (fun hb => ?_) fun hb => ?_ | refine saC ?_))
     (conv => whnf)
     refine hK (i + 1, List.take H.length H ++ List.take 1 (List.drop 0 [qU now (l.getD (i : Int).toNat (Cd.dflt U.event)).image])) [some 0, some 1, some 5] _ _ ⟨⟨by dsimp only; omega, hW⟩⟩ ⟨by dsimp only; omega⟩ ?_;exact bkI
   ·have hW := hno2 c2
    (repeat' ((conv => whnf); first | (exfalso; omega) | refine hK (i + 1, H) [some 0, some 1, some 2] _ _ ⟨⟨by dsimp only; omega, hW⟩⟩ ⟨by dsimp only; omega⟩ (by exact bkI) | refine spC (fun hb => ?_) fun hb => ?_ | refine saC ?_))
  ·have hW := hno1 c1
   (repeat' ((conv => whnf); first | (exfalso; omega) | refine hK (i + 1, H) [some 0, some 1, some 2] _ _ ⟨⟨by dsimp only; omega, hW⟩⟩ ⟨by dsimp only; omega⟩ (by exact bkI) | refine spC (fun hb => ?_) fun hb => ?_ | refine saC ?_))
 ·have hHe : H = kK l g.within now := by rw [hH, show i = l.length by omega, Om]
  have hHS : H.length ≤ l.length := by omega
  have hm := q5e l H (by rw [List.length_append]; omega);have hoM : eV l g.within now = xX (aY (l ++ H)) g.within := by rw [hHe]; rfl
  rw [hoM] at hF hs hsl;have hMl : (aY (l ++ H)).length ≤ 200000 := by
   refine Nat.le_trans (List.Nodup.length_le_of_subset (kN (gW _)) (fun x hx => iC hx)) ?_;rw [List.length_append]; omega
  have hMm : ∀ e ∈ aY (l ++ H), Bf e := fun e he => by
   rcases List.mem_append.1 (iC he) with h | h
   ·exact hl.i64 e h
   ·rw [hHe] at h;obtain ⟨x, _, _, rfl⟩ := fQ h;show -4611686018427387904 ≤ now ∧ now ≤ 4611686018427387903;omega
  have hr := zC (aY (l ++ H)) now g.within (by omega) hMm;unfold q6u at hX;rw [← hHe] at hX;rw [hoM] at hX;generalize hM : aY (l ++ H) = M at *;have hRl : (xX M g.within).length ≤ M.length := List.length_filter_le _ _;generalize hR : xX M g.within = R at *;cases F with
  | none =>
   obtain rfl : none = X := hX
   (repeat' ((conv => whnf); first | (exfalso; omega) | (refine cI [some 3, some 2] hm rfl rfl ⟨rfl, rfl, trivial⟩ ?_) | refine dpC (hr) ?_ | refine dpC (hF) ?_ | refine x0C ?_ | refine spC (fun hb => ?_) fun hb => ?_ | refine taC ?_ | refine saC ?_ | refine aE mixed ?_))
   all_goals exact vwV
  | some more =>
   dsimp only at hX;have hml := hFl more rfl;have hs := hs more rfl;have hsl := hsl more rfl;rw [qV, show (some more).getD [] = more from rfl, show (some more).isSome = true from rfl] at hF;obtain ⟨sp, sb, hsr⟩ := Yo (bV (eM g.kids) (aY (R ++ more)));rw [hsr] at hs;generalize I8 (bV (eM g.kids) (aY (R ++ more))) = im at *;have hm2 : aF Tryz.prog Dc 63 [.slice 0 0 1 0 2] [.rows U.evs [⟨R⟩, ⟨more⟩]] (eS (aY (R ++ more))) [.dead] := Wl (by
    have := Ui [⟨R⟩, ⟨more⟩] (by simp) (by simp [iX]; omega);rw [show iX [⟨R⟩, ⟨more⟩] = R ++ more by simp [iX]] at this;exact this) (by exact snV)
   (repeat' ((conv => whnf); first | (exfalso; omega) | (refine cI [some 3, some 2] hm rfl rfl ⟨rfl, rfl, trivial⟩ ?_) | refine dpC (hr) ?_ | refine dpC (hF) ?_ | (refine cI [some 5] hm2 rfl rfl ⟨rfl, trivial⟩ ?_) | refine dpC (hs) ?_ | refine spC (fun hb => ?_) fun hb => ?_ | refine taC ?_ | refine saC ?_ | refine aE mixed ?_))
   have hdf := wJ (f := 97) (.c1 [.int .i64 sp, .dsl U.int im]) H (by omega) fun e he => Wb sp im hsl e;rw [q2k] at hdf;refine Ix [some 0, some 1, some 2, some 3, some 4, some 5, none] [(14, .any), (96, .fn (.func 97) [] [.dptr [.int .i64 sp, .dsl U.int im] 0])] [(6, .rows U.int [])] [.slice 2 0 7 0 H.length, .fn (.func 97) [] [.dptr [.int .i64 sp, .dsl U.int im] 0]] (by exact bkV) (by exact snV) ?_
   (conv => whnf)
   refine xW [some 2] hdf rfl rfl ⟨rfl, trivial⟩ ?_
   (repeat' ((conv => whnf); first | fail))
   obtain ⟨O, hO⟩ : ∃ O, O = H.filter fun e => decide (e.image ∈ im) := ⟨_, rfl⟩;have hOl : O.length ≤ H.length := by rw [hO]; exact List.length_filter_le _ _
   rw [← hO] at hdf ⊢;have hX' : X = some (aY (O ++ cU more)) := by rw [← hX, hO]; rfl
   clear hX;subst hX';have hwl := D6;refine aT [some 0, some 1, some 2, none, some 4, some 5, some 6] (fun q : Nat × Nat × List aB => [(100, iS q.1), (16, .slice 2 0 7 0 q.2.1), (8, .any), (58, .any), (59, .any), (95, .any), (97, .any)]) (fun q => [(2, .rows U.event q.2.2), (3, .rows U.int [])]) (fun q => q.1 ≤ more.length ∧ q.2.1 ≤ q.2.2.length ∧ q.2.2.take q.2.1 = O ++ cU (more.take q.1)) (fun q => more.length - q.1) (0, O.length, O ++ List.replicate (H.length - O.length) (U.dflt .event)) ⟨Nat.zero_le _, by dsimp only; rw [List.length_append]; omega, by dsimp only; rw [List.take_left']; simp [cU]; rfl⟩ (by exact bkI) ?_;rintro ⟨k, n, Y⟩ ⟨hk', hn, hY⟩ K hK;dsimp only at hk' hn hY hK ⊢;have hnl : n = O.length + 2 * k := by
    have := congrArg List.length hY;rw [List.length_take, List.length_append, hwl, List.length_take] at this;omega
   rcases Nat.lt_or_ge k more.length with hlt | hge
   ·obtain ⟨x, hx⟩ : ∃ x, x = more.getD (k : Int).toNat (Cd.dflt U.event) := ⟨_, rfl⟩;have hwd := Cj hlt;have hW : ∀ z : List aB, z = List.take n Y ++ List.take 2 (List.drop 0 [x, qU x.at_ x.image]) → z.length = n + 2 ∧ z.take z.length = O ++ cU (more.take (k + 1)) := fun z hz => by
     have e : z = O ++ cU (more.take (k + 1)) := by
      rw [hz, hY, hwd, List.append_assoc, hx]; rfl
     have el : z.length = n + 2 := by
      rw [e, List.length_append, hwl, List.length_take]; omega
     exact ⟨el, by rw [List.take_length]; exact e⟩
    have hW2 := hW _ rfl;rw [hx] at hW2
    (repeat' ((conv => whnf); first | (exfalso; omega) | refine spC (fun hb => ?_) fun hb => ?_ | refine saC ?_))
    (conv => whnf)
    refine hK (k + 1, (List.take n Y ++ List.take 2 (List.drop 0 [more.getD (k : Int).toNat (Cd.dflt U.event), qU (more.getD (k : Int).toNat (Cd.dflt U.event)).at_ (more.getD (k : Int).toNat (Cd.dflt U.event)).image])).length, List.take n Y ++ List.take 2 (List.drop 0 [more.getD (k : Int).toNat (Cd.dflt U.event), qU (more.getD (k : Int).toNat (Cd.dflt U.event)).at_ (more.getD (k : Int).toNat (Cd.dflt U.event)).image])) [some 0, some 1, some 9, some 3, some 4, some 5, some 6] _ _ ⟨⟨by dsimp only; omega, Nat.le_refl _, hW2.2⟩⟩ ⟨by dsimp only; omega⟩ ?_;exact bkI
   ·have hYe : Y.take n = O ++ cU more := by rw [hY, List.take_of_length_le hge]
    have hm3 := Ui [⟨O ++ cU more⟩] (by simp) (by simp [iX, hwl]; omega);rw [show iX [⟨O ++ cU more⟩] = O ++ cU more by simp [iX]] at hm3;have hm3 : aF Tryz.prog Dc 63 [.slice 0 0 1 0 1] [.rows U.evs [⟨O ++ cU more⟩]] (eS (aY (O ++ cU more))) [.dead] := Wl hm3 (by exact snV);rw [← hYe] at hm3 ⊢
    (repeat' ((conv => whnf); first | (exfalso; omega) | (refine rR (rS [some 0, some 1, none, some 3, some 4, some 5, some 6] [(16, .any), (114, eS (List.take n Y))] [(2, .rows U.int [])] (by exact bkV) ?_)) | refine chC [some 7] hm3 ?_ | refine x0C ?_ | refine spC (fun hb => ?_) fun hb => ?_ | refine saC ?_))
    all_goals exact vwV
theorem Lb (g : aI) (l : List aB) (now image : Int) (p : Int) (im : List Int) (hm : bV g l = some (p, im)) (hs : aF Tryz.prog Dc 57 [aX l now, aM g] [] (qD (bV g l)) []) : aF Tryz.prog Dc 35 [aX l now, aM g, iS image] [] (T9 (uV g l now image)) [] := by
 rw [qC, hm];rw [hm] at hs;refine aA Ax aD Tryz.func35 (c := _) rfl Tryz.call35 300 ?_
 (repeat' ((conv => whnf); first | refine cpC (hs) ?_ | refine x0C ?_))
 all_goals exact vwV
theorem q02 (g : aI) (hk : g.kind = 1) (hr : (g.rows.length : Int) ≤ 1000) (l : List aB) (now image : Int) (hi : 0 ≤ image ∧ image ≤ 900000) (hm : bV g l = none) (hs : aF Tryz.prog Dc 57 [aX l now, aM g] [] (qD (bV g l)) []) : aF Tryz.prog Dc 35 [aX l now, aM g, iS image] [] (T9 (uV g l now image)) [] := by
 have h := q0s g hk hr l now image (by omega) hs;have e : uV g l now image = q0o g l now image := by
  rw [qC, hm, if_neg (by simp), if_pos hk];unfold Dj q0o;rw [hm]; rfl
 rw [e]; exact h
theorem Vz (g : aI) (hk : g.kind = 2) (h1 : (g.kids.length : Int) = 1) (hr : ((eM g.kids).rows.length : Int) ≤ 1000) (l : List aB) (now image : Int) (hi : 0 ≤ image ∧ image ≤ 900000) (hm : bV g l = none) (hs : aF Tryz.prog Dc 57 [aX l now, aM g] [] (qD (bV g l)) []) : aF Tryz.prog Dc 35 [aX l now, aM g, iS image] [] (T9 (uV g l now image)) [] := by
 rw [qC, hm, if_neg (by simp), if_neg (by omega), if_pos hk];rw [hm] at hs;unfold F0;obtain ⟨kid, hkid⟩ : ∃ kid, kid = eM g.kids := ⟨_, rfl⟩;rw [← hkid] at hr ⊢;have hka : kid = g.kids.getD (Int.toNat 0) (Cd.dflt U.goal) := hkid
 by_cases hlt : max now kid.from_ < kid.to_
 ·rw [if_pos hlt];have ha1 := tat kid hr image (max now kid.from_) (-4) (by omega);have ha2 := tat kid hr (image + 1) (max now kid.from_) 4 (by omega);rw [hka] at ha1 ha2 hlt ⊢;refine aA Ax aD Tryz.func35 (c := _) rfl Tryz.call35 500 ?_
  (repeat' ((conv => whnf); first | (exfalso; omega) | refine cpC (hs) ?_ | refine chC [some 4] ha1 ?_ | refine chC [some 4] ha2 ?_ | (refine rR (rS [some 0, some 1, some 2, some 3, some 4, none, none] [(76, evA (mK (g.kids.getD (Int.toNat 0) (Cd.dflt U.goal)) (max now (g.kids.getD (Int.toNat 0) (Cd.dflt U.goal)).from_) image (-4))), (79, evA (mK (g.kids.getD (Int.toNat 0) (Cd.dflt U.goal)) (max now (g.kids.getD (Int.toNat 0) (Cd.dflt U.goal)).from_) (image + 1) 4))] [(5, .rows U.int []), (6, .rows U.int [])] (by exact bkV) ?_)) | refine x0C ?_ | refine spC (fun hb => ?_) fun hb => ?_ | refine saC ?_))
  all_goals exact vwV
 ·rw [if_neg hlt];rw [hka] at hlt;refine aA Ax aD Tryz.func35 (c := _) rfl Tryz.call35 500 ?_
  (repeat' ((conv => whnf); first | (exfalso; omega) | refine cpC (hs) ?_ | refine x0C ?_ | refine spC (fun hb => ?_) fun hb => ?_ | refine saC ?_))
  all_goals exact vwV
theorem Nn (g : aI) (hok : okB g = true) (hk : g.kind = 3) (hr : ((eM g.kids).rows.length : Int) ≤ 1000) (hg : Lx (eM g.kids)) (hkf : 0 ≤ (eM g.kids).from_ ∧ (eM g.kids).from_ ≤ 1000000) (l : List aB) (hl : lV l) (hla : ∀ e ∈ l, 0 ≤ e.at_ ∧ e.at_ ≤ 1000000) (now image : Int) (hnow : 0 ≤ now ∧ now ≤ 1000000) (hi : 0 ≤ image ∧ image ≤ 900000) (hm : bV g l = none) (hs : aF Tryz.prog Dc 57 [aX l now, aM g] [] (qD (bV g l)) []) : aF Tryz.prog Dc 35 [aX l now, aM g, iS image] [] (T9 (uV g l now image)) [] := by
 rw [qC, hm, if_neg (by simp), if_neg (by omega), if_neg (by omega), if_pos hk];rw [hm] at hs;have hti := vI hok hk;have hdy := Hd hok hk;have h1 := sD hok (by omega) (by omega) (by omega);have hsee := oA (eM g.kids) hg l now hl.len hl.el;have hM : lV (iJ (eM g.kids) l) := ⟨Int.le_trans (Int.ofNat_le.2 (List.length_filter_le _ _)) hl.len, fun e he => hl.el e (List.mem_filter.1 he).1, fun e he => hl.i64 e (List.mem_filter.1 he).1, fun e he => hl.look e (List.mem_filter.1 he).1⟩;have hgo := qa0 g (eM g.kids) hti (by omega) (by omega) (by omega) hr (iJ (eM g.kids) l) hM (fun e he => hla e (List.mem_filter.1 he).1) l now image (max now (eM g.kids).from_) (by omega) hi hsee
 change aF _ _ _ _ _ (T9 (vJ g l now image)) _ at hgo
 rw [qV] at hgo ⊢;generalize (if (goN g (eM g.kids) (iJ (eM g.kids) l) (max now (eM g.kids).from_) (iJ (eM g.kids) l).length).1 < 0 then image else image + (g.times - (goN g (eM g.kids) (iJ (eM g.kids) l) (max now (eM g.kids).from_) (iJ (eM g.kids) l).length).1).toNat) = im2 at hgo;refine aA Ax aD Tryz.func35 (c := _) rfl Tryz.call35 500 ?_
 (repeat' ((conv => whnf); first | (exfalso; omega) | refine cpC (hs) ?_ | refine chC [some 4] hgo ?_ | refine x0C ?_ | refine spC (fun hb => ?_) fun hb => ?_ | refine saC ?_))
 all_goals exact vwV
theorem Wx (g : aI) (hk : g.kind = 4) (h1 : (g.kids.length : Int) = 1) (l : List aB) (now image : Int) (hi : 0 ≤ image ∧ image ≤ 900000) (hm : bV g l = none) (hs : aF Tryz.prog Dc 57 [aX l now, aM g] [] (qD (bV g l)) []) (hd : aF Tryz.prog Dc 62 [aX l now, aM g, iS image] [] (T9 (q6u g l now (uV (eM g.kids) (eV l g.within now) now image))) []) : aF Tryz.prog Dc 35 [aX l now, aM g, iS image] [] (T9 (uV g l now image)) [] := by
 have e : uV g l now image = q6u g l now (uV (eM g.kids) (eV l g.within now) now image) := by
  rw [qC, hm, if_neg (by simp), if_neg (by omega), if_neg (by omega), if_neg (by omega), if_pos hk, Sj _ _ _ _ _ h1];cases uV (eM g.kids) (eV l g.within now) now image <;> rfl
 rw [e];rw [hm] at hs;rw [qV] at hd ⊢;refine aA Ax aD Tryz.func35 (c := _) rfl Tryz.call35 500 ?_
 (repeat' ((conv => whnf); first | (exfalso; omega) | refine cpC (hs) ?_ | refine cpC (hd) ?_ | refine x0C ?_ | refine spC (fun hb => ?_) fun hb => ?_))
 all_goals exact vwV
theorem Ib {l : List aB} {j : Nat} (h : j < l.length) : bG (l.take (j + 1)) = if (l.getD j dE).kind = 1 then bG (l.take j) + 1 else bG (l.take j) := by
 rw [kF h, vK];show _ + bG [l.getD j dE] = _;generalize l.getD j dE = e;unfold bG;split
 ·rename_i hk; simp [hk]
 ·rename_i hk; simp [hk]
theorem G4 (l : List aB) : (aY l).length ≤ l.length := List.Nodup.length_le_of_subset (kN (gW _)) fun x hx => iC hx
theorem Xg (g : aI) (hk : g.kind = 5) (hkl : (g.kids.length : Int) ≤ 4) (l : List aB) (now image : Int) (B : Int) (hB : B ≤ 800000) (hi : 0 ≤ image ∧ image ≤ B) (hm : bV g l = none) (hs : aF Tryz.prog Dc 57 [aX l now, aM g] [] (qD (bV g l)) [])
  (hf : ∀ k ∈ g.kids, ∀ im : Int, 0 ≤ im → image ≤ im → im ≤ B + 400 → aF Tryz.prog Dc 35 [aX l now, aM k, iS im] [] (T9 (uV k l now im)) [])
  (hbd : ∀ k ∈ g.kids, ∀ (im : Int) (more : List aB), 0 ≤ im → image ≤ im → im ≤ B + 400 → uV k l now im = some more → more.length ≤ 200000 ∧ bG more ≤ 100) :
  aF Tryz.prog Dc 35 [aX l now, aM g, iS image] [] (T9 (uV g l now image)) [] := by
 rw [qC, hm, if_neg (by simp), if_neg (by omega), if_neg (by omega), if_neg (by omega), if_neg (by omega), if_pos hk];rw [hm] at hs;refine aA Ax aD Tryz.func35 (c := _) rfl Tryz.call35 700 ?_
 (repeat' ((conv => whnf); first | (exfalso; omega) | refine cpC (hs) ?_ | refine spC (fun hb => ?_) fun hb => ?_))
 obtain ⟨X, hX⟩ : ∃ X, X = finAll g.kids l now image [] := ⟨_, rfl⟩;rw [← hX];refine aT [some 0, some 1, some 2, some 3, some 4] (fun q : Nat × Int × List aB => [(103, iS q.1), (2, iS q.2.1), (13, eS q.2.2)]) (fun q => []) (fun q => q.1 ≤ g.kids.length ∧ X = finAll (g.kids.drop q.1) l now q.2.1 q.2.2 ∧ (image ≤ q.2.1 ∧ q.2.1 ≤ image + 100 * q.1) ∧ q.2.2.length ≤ 200000 * q.1) (fun q => g.kids.length - q.1) (0, image, []) ⟨Nat.zero_le _, hX, by dsimp only; omega, by dsimp only; simp⟩ (by exact bkI) ?_;rintro ⟨i, im, out⟩ ⟨hi1, hXi, him, hol⟩ K hK;dsimp only at hi1 hXi him hol hK ⊢;rcases Nat.lt_or_ge i g.kids.length with hlt | hge
 ·have hgi := getD_some (d := Cd.dflt U.goal) hlt;have hmem := List.mem_of_getElem? hgi;have hfk := hf _ hmem im (by omega) (by omega) (by omega);have hdr : g.kids.drop i = g.kids.getD (i : Int).toNat (Cd.dflt U.goal) :: g.kids.drop (i + 1) := iT (d := U.dflt .goal) hlt;rw [hdr, finAll] at hXi;have hbk := hbd _ hmem im;cases hF : uV (g.kids.getD (i : Int).toNat (Cd.dflt U.goal)) l now im with
  | none =>
   rw [hF] at hfk hXi;dsimp only at hXi;rw [hXi]
   (repeat' ((conv => whnf); first | (exfalso; omega) | refine cpC (hfk) ?_ | refine x0C ?_ | refine spC (fun hb => ?_) fun hb => ?_ | refine saC ?_))
   all_goals exact vwV
  | some more =>
   obtain ⟨hml, hmc⟩ := hbk more (by omega) (by omega) (by omega) hF;rw [hF] at hfk hXi;dsimp only at hXi;have hcn := dZ more;have hme := G4 (out ++ more);rw [List.length_append] at hme
   (repeat' ((conv => whnf); first | (exfalso; omega) | refine cpC (hfk) ?_ | refine spC (fun hb => ?_) fun hb => ?_ | refine saC ?_))
   have hm2 : aF Tryz.prog Dc 63 [.slice 0 0 1 0 2] [.rows U.evs [⟨out⟩, ⟨more⟩]] (eS (aY (out ++ more))) [.dead] := Wl (by
    have := Ui [⟨out⟩, ⟨more⟩] (by simp) (by simp [iX]; omega);rw [show iX [⟨out⟩, ⟨more⟩] = out ++ more by simp [iX]] at this;exact this) (by exact snV)
   refine aT [some 0, some 1, some 2, some 3, some 4, some 5] (fun q : Nat × Int => [(118, iS q.1), (2, iS q.2)]) (fun q => []) (fun q => q.1 ≤ more.length ∧ q.2 = im + bG (more.take q.1)) (fun q => more.length - q.1) (0, im) ⟨Nat.zero_le _, by dsimp only; rw [List.take_zero]; show im = im + 0; omega⟩ (by exact bkI) ?_;rintro ⟨j, z⟩ ⟨hj, hz⟩ K2 hK2;dsimp only at hj hz hK2 ⊢;have hcj := dZ (more.take j);have hcj2 : bG (more.take j) ≤ bG more := by
    have := vK (more.take j) (more.drop j);rw [List.take_append_drop] at this;have := dZ (more.drop j);omega
   rcases Nat.lt_or_ge j more.length with hjl | hjl
   ·have hsu := Ib hjl
    by_cases hke : (more.getD (j : Int).toNat (Cd.dflt U.event)).kind = 1
    ·rw [if_pos (show (more.getD j dE).kind = 1 from hke)] at hsu
     (repeat' ((conv => whnf); first | (exfalso; omega) | refine hK2 (j + 1, z + 1) [some 0, some 1, some 2, some 3, some 4, some 5] _ _ ⟨⟨by dsimp only; omega, by dsimp only; omega⟩⟩ ⟨by dsimp only; omega⟩ (by exact bkI) | refine spC (fun hb => ?_) fun hb => ?_ | refine saC ?_))
    ·rw [if_neg (show ¬ (more.getD j dE).kind = 1 from hke)] at hsu
     (repeat' ((conv => whnf); first | (exfalso; omega) | refine hK2 (j + 1, z) [some 0, some 1, some 2, some 3, some 4, some 5] _ _ ⟨⟨by dsimp only; omega, by dsimp only; omega⟩⟩ ⟨by dsimp only; omega⟩ (by exact bkI) | refine spC (fun hb => ?_) fun hb => ?_ | refine saC ?_))
   ·have hzz : z = im + bG more := by rw [hz, List.take_of_length_le hjl]
    subst hzz
    (repeat' ((conv => whnf); first | (exfalso; omega) | refine chC [some 6] hm2 ?_ | refine hK (i + 1, im + bG more, aY (out ++ more)) [some 0, some 1, some 2, some 3, some 4] _ _ ⟨⟨by dsimp only; omega, hXi, by dsimp only; omega, by dsimp only; omega⟩⟩ ⟨by dsimp only; omega⟩ (by exact bkI) | refine spC (fun hb => ?_) fun hb => ?_ | refine saC ?_))
    done
 ·have he : X = some out := by rw [hXi, List.drop_of_length_le hge, finAll]
  rw [he]
  (repeat' ((conv => whnf); first | (exfalso; omega) | refine x0C ?_ | refine spC (fun hb => ?_) fun hb => ?_))
  all_goals exact vwV
theorem Xa (g : aI) (hk : g.kind = 6) (hkl : (g.kids.length : Int) ≤ 4) (l : List aB) (now image : Int) (hm : bV g l = none) (hs : aF Tryz.prog Dc 57 [aX l now, aM g] [] (qD (bV g l)) [])
  (hf : ∀ k ∈ g.kids, aF Tryz.prog Dc 35 [aX l now, aM k, iS image] [] (T9 (uV k l now image)) []) :
  aF Tryz.prog Dc 35 [aX l now, aM g, iS image] [] (T9 (uV g l now image)) [] := by
 rw [qC, hm, if_neg (by simp), if_neg (by omega), if_neg (by omega), if_neg (by omega), if_neg (by omega), if_neg (by omega)];rw [hm] at hs;refine aA Ax aD Tryz.func35 (c := _) rfl Tryz.call35 700 ?_
 (repeat' ((conv => whnf); first | (exfalso; omega) | refine cpC (hs) ?_ | refine spC (fun hb => ?_) fun hb => ?_))
 obtain ⟨X, hX⟩ : ∃ X, X = finAny g.kids l now image := ⟨_, rfl⟩;rw [← hX];refine aT [some 0, some 1, some 2, some 3, some 4] (fun q : Nat => [(139, iS q)]) (fun q => []) (fun q => q ≤ g.kids.length ∧ X = finAny (g.kids.drop q) l now image) (fun q => g.kids.length - q) 0 ⟨Nat.zero_le _, hX⟩ (by exact bkI) ?_;rintro i ⟨hi1, hXi⟩ K hK;rcases Nat.lt_or_ge i g.kids.length with hlt | hge
 ·have hgi := getD_some (d := Cd.dflt U.goal) hlt;have hfk := hf _ (List.mem_of_getElem? hgi);have hdr : g.kids.drop i = g.kids.getD (i : Int).toNat (Cd.dflt U.goal) :: g.kids.drop (i + 1) := iT (d := U.dflt .goal) hlt;rw [hdr, finAny] at hXi;cases hF : uV (g.kids.getD (i : Int).toNat (Cd.dflt U.goal)) l now image with
  | none =>
   rw [hF] at hfk hXi;dsimp only at hXi
   (repeat' ((conv => whnf); first | (exfalso; omega) | refine cpC (hfk) ?_ | refine hK (i + 1) [some 0, some 1, some 2, some 3, some 4] _ _ ⟨⟨by omega, hXi⟩⟩ ⟨by omega⟩ (by exact bkI) | refine spC (fun hb => ?_) fun hb => ?_ | refine saC ?_))
  | some more =>
   rw [hF] at hfk hXi;dsimp only at hXi;rw [hXi]
   (repeat' ((conv => whnf); first | (exfalso; omega) | refine cpC (hfk) ?_ | refine x0C ?_ | refine spC (fun hb => ?_) fun hb => ?_ | refine saC ?_))
   all_goals exact vwV
 ·have he : X = none := by rw [hXi, List.drop_of_length_le hge, finAny]
  rw [he]
  (repeat' ((conv => whnf); first | (exfalso; omega) | refine x0C ?_ | refine spC (fun hb => ?_) fun hb => ?_))
  all_goals exact vwV
end Go.SX
namespace Go.SX
theorem q3q {l out : List aB} {now image : Int} (hs : Pp out) (h : ∀ e ∈ out, e.image < image → e = qU now e.image ∧ ∃ x ∈ l, x.image = e.image) : out.length ≤ xZ out image + l.length := by
 have h1 : out.length ≤ ((out.filter fun e => decide (image ≤ e.image)) ++ l.map fun x => qU now x.image).length := by
  refine List.Nodup.length_le_of_subset (kN hs) fun e he => ?_
  by_cases hi : image ≤ e.image
  ·exact List.mem_append.2 (.inl (List.mem_filter.2 ⟨he, by simpa using hi⟩))
  ·obtain ⟨e1, x, x1, x2⟩ := h e he (by omega);exact List.mem_append.2 (.inr (List.mem_map.2 ⟨x, x1, by rw [x2]; exact e1.symm⟩))
 rw [List.length_append, List.length_map] at h1;exact h1
theorem Hh {g : aI} {n : Int} {l out : List aB} {now image : Int} (h : xP g n l now image out) : (out.length : Int) ≤ 4 * n + l.length ∧ bG out ≤ 4 * n := by
 have h1 := q3q h.good.str h.old;have h2 := h.new;refine ⟨by omega, ?_⟩;have : bG out ≤ xZ out image := by
  unfold bG xZ;have : (out.filter fun e => decide (e.kind = 1)).length ≤ (out.filter fun e => decide (image ≤ e.image)).length := by
   refine List.Nodup.length_le_of_subset (oG h.good) fun e he => ?_;obtain ⟨e1, e2⟩ := List.mem_filter.1 he;exact List.mem_filter.2 ⟨e1, by simpa using (h.good.shots e e1 (by simpa using e2)).1⟩
  omega
 omega
end Go.SX
namespace Go.SX
open Go.Proofs
set_option maxHeartbeats 400000000
set_option maxRecDepth 100000
theorem yJ {e : aB} (h : fI e = true) : oS e ∧ (0 ≤ e.at_ ∧ e.at_ ≤ 1000000) ∧ -1000 ≤ e.look ∧ e.look ≤ 1000 := by
 unfold fI at h;simp only [Bool.and_eq_true, aK] at h;obtain ⟨⟨h1, h2⟩, h3⟩ := h;refine ⟨?_, h1, ?_⟩
 ·unfold oS;split at h3
  ·simp only [Bool.and_eq_true] at h3;have := h3.2;unfold bE at this;simp only [Bool.and_eq_true, decide_eq_true_eq] at this;omega
  ·split at h3
   ·simp only [Bool.and_eq_true, decide_eq_true_eq] at h3; omega
   ·cases h3
 ·split at h3
  ·simp only [Bool.and_eq_true, aK] at h3; omega
  ·split at h3
   ·simp only [Bool.and_eq_true, decide_eq_true_eq] at h3; omega
   ·cases h3
theorem q0v {l : List aB} (hl : (l.length : Int) ≤ 1000000) (h : ∀ e ∈ l, oS e ∧ (0 ≤ e.at_ ∧ e.at_ ≤ 1000000) ∧ -1000 ≤ e.look ∧ e.look ≤ 1000) : lV l :=
 ⟨hl, fun e he => (h e he).1, fun e he => by have := (h e he).2.1; unfold Bf; omega, fun e he => (h e he).2.2⟩
theorem Uo {l : List aB} {now image : Int} (hc : Fw l now image) (hl : (l.length : Int) ≤ 1000000) : lV l := q0v hl fun e he => yJ (hc.form e he)
theorem Yf {l : List aB} {now image : Int} (ht : 0 ≤ now) (hc : I7 l now image) : ∀ e ∈ l, oS e ∧ (0 ≤ e.at_ ∧ e.at_ ≤ 1000000) ∧ -1000 ≤ e.look ∧ e.look ≤ 1000 := fun e he => by
 have h1 := hc.late e he
 by_cases hk : e.kind = 1
 ·have h2 := hc.shots e he hk;refine ⟨?_, by omega, by omega⟩;have := h2.2.2.2;unfold bE at this;simp only [Bool.and_eq_true, decide_eq_true_eq] at this;unfold oS; omega
 ·have h2 := (hc.plain e he).resolve_left hk;refine ⟨?_, by omega, ?_⟩
  ·rw [h2]; unfold oS qU; simp
  ·rw [h2]; unfold qU; dsimp only; omega
theorem Ve (l : List aB) (w now : Int) : (eV l w now).length ≤ 2 * l.length := by
 refine Nat.le_trans (List.length_filter_le _ _) (Nat.le_trans (G4 _) ?_);rw [List.length_append];have : (kK l w now).length ≤ l.length := by
  unfold kK; rw [List.length_map]; exact List.length_filter_le _ _
 omega
theorem yX {g : aI} (h : okB g = true) (hk : g.kind = 1) : (g.rows.length : Int) ≤ 1000 := by
 have := yD h hk;unfold bE at this;simp only [Bool.and_eq_true, decide_eq_true_eq] at this;omega
theorem Ck (g : aI) (d n : Int) (hs : bQ g d = some n) (hd1 : 1 ≤ d) (hG : pX g) (hk3 : g.kind ≤ 3) (l : List aB) (now image : Int) (hc : Fw l now image) (hl : (l.length : Int) ≤ 1000) (hi : 0 ≤ image ∧ image ≤ 900000) (hnow : 0 ≤ now ∧ now ≤ 1000000) : aF Tryz.prog Dc 35 [aX l now, aM g, iS image] [] (T9 (uV g l now image)) [] := by
 have hE := Uo hc (by omega);have hsen := kZ 4 g d n (by omega) hd1 hs hG l now hE;obtain ⟨hok, hd, m, hL, rfl⟩ := iK hs;obtain ⟨hgl, hgk⟩ := (dJ g).1 hG;cases hm : bV g l with
 | some w => exact Lb g l now image w.1 w.2 (by rw [hm]) hsen
 | none =>
  have hkk := (cN hok).1;have hkb : g.kind = 1 ∨ g.kind = 2 ∨ g.kind = 3 := by omega
  rcases hkb with e | e | e
  ·exact q02 g e (yX hok e) l now image hi hm hsen
  ·have h1 := sD hok (by omega) (by omega) (by omega);obtain ⟨q, hq, _, hko, hkk1⟩ := U6 hok (.inl e) hL;exact Vz g e h1 (yX hko hkk1) l now image hi hm hsen
  ·have h1 := sD hok (by omega) (by omega) (by omega);obtain ⟨q, hq, _, hko, hkk1⟩ := U6 hok (.inr e) hL;have hso := Ej hko hkk1;exact Nn g hok e (yX hko hkk1) ((dJ _).1 (dS hgk (qQ h1))).1 hso.fr l hE (fun x hx => (yJ (hc.form x hx)).2.1) now image hnow hi hm hsen
theorem q45 {g : aI} {d n : Int} {l : List aB} (hs : bQ g d = some n) (hn : n ≤ 1000) : ((I8 (bV g l)).length : Int) ≤ 9223372036854775807 := by
 cases hm : bV g l with
 | none => exact (by decide : (0 : Int) ≤ 9223372036854775807)
 | some w =>
  have := jW g d n l w.1 w.2 hs (by rw [hm]);show ((w.2.length : Nat) : Int) ≤ _;omega
theorem On : ∀ (j : Nat) (g : aI) (d n : Int), 5 - d ≤ j → 1 ≤ d → bQ g d = some n → n ≤ 12 → pX g → ∀ (l : List aB) (now image : Int), Fw l now image → (l.length : Int) ≤ 120 → (0 ≤ image ∧ image ≤ 10000 - 1000 * j) → (0 ≤ now ∧ now ≤ 1000000) → aF Tryz.prog Dc 35 [aX l now, aM g, iS image] [] (T9 (uV g l now image)) [] := by
 intro j
 induction j with
 | zero =>
  intro g d n h1 h2 hs;have := (iK hs).2.1;omega
 | succ j ih =>
  intro g d n h1 h2 hs hn hG l now image hc hl hi hnow;have hE := Uo hc (by omega);have hsen := kZ 4 g d n (by omega) h2 hs hG l now hE;obtain ⟨hok, hd, m, hL, rfl⟩ := iK hs;obtain ⟨hgl, hgk⟩ := (dJ g).1 hG
  by_cases hk3 : g.kind ≤ 3
  ·exact Ck g d _ hs h2 hG hk3 l now image hc (by omega) (by omega) hnow
  cases hm : bV g l with
  | some w => exact Lb g l now image w.1 w.2 (by rw [hm]) hsen
  | none =>
   have hkk := (cN hok).1;have hkb : g.kind = 4 ∨ g.kind = 5 ∨ g.kind = 6 := by omega
   rcases hkb with e | e | e
   ·have hone := sD hok (by omega) (by omega) (by omega);obtain ⟨q, hq, rfl⟩ := Vi hL hone;have hkk3 := Ah hok hone;unfold dM at hkk3;rw [if_neg (by omega), if_pos e] at hkk3;have hw := Qi hok e;have hGk := dS hgk (qQ hone);have hhc := yZ (within := g.within) hc hnow;have hhl := Ve l g.within now;have hfo : ∀ more, uV (eM g.kids) (eV l g.within now) now image = some more → xP (eM g.kids) m (eV l g.within now) now image more := fun more h => Ez _ _ _ _ _ _ _ hq hhc hi.1 hnow h;refine Wx g e hone l now image (by omega) hm hsen ?_;refine Yn g hone hw l hE (by omega) (fun x hx => (yJ (hc.form x hx)).2.1) now image hnow _ ?_ ?_ ?_ ?_
    ·exact Ck _ (d + 1) _ hq (by omega) hGk hkk3 _ now image hhc (by omega) (by omega) hnow
    ·intro more hmore;have := (Hh (hfo more hmore)).1;omega
    ·intro more hmore;refine kZ 4 _ (d + 1) _ (by omega) (by omega) hq hGk _ now (q0v ?_ fun x hx => ?_)
     ·have h3 := G4 (eV l g.within now ++ more);rw [List.length_append] at h3;have := (Hh (hfo more hmore)).1;omega
     ·rcases List.mem_append.1 (iC hx) with h | h
      ·exact yJ (hhc.form x h)
      ·exact Yf hnow.1 (hfo more hmore).good x h
    ·intro more hmore;exact q45 hq (by omega)
   ·have h2' := tU hok (.inl e);refine Xg g e h2'.2 l now image (10000 - 1000 * ((j : Int) + 1)) (by omega) (by omega) hm hsen ?_ ?_
    ·intro k hk im hi1 hi2 hi3;obtain ⟨x, hx, hxm⟩ := fJ hL hk;exact ih k (d + 1) x (by omega) (by omega) hx (by omega) (dS hgk hk) l now im (U5 hc hi2) hl ⟨hi1, by omega⟩ hnow
    ·intro k hk im more hi1 hi2 hi3 hmore;obtain ⟨x, hx, hxm⟩ := fJ hL hk;have := Hh (Ez k (d + 1) x l now im more hx (U5 hc hi2) hi1 hnow hmore);omega
   ·have h2' := tU hok (.inr e);refine Xa g e h2'.2 l now image hm hsen fun k hk => ?_;obtain ⟨x, hx, hxm⟩ := fJ hL hk;exact ih k (d + 1) x (by omega) (by omega) hx (by omega) (dS hgk hk) l now image hc hl (by omega) hnow
end Go.SX
namespace Go.SX
theorem Aj (x : A5) : ∀ s ∈ iH (qF x), s.from_ ≤ 3000 := by
 intro s hs;rw [rI, if_pos (show (qF x).kind = 1 from rfl)] at hs;rw [List.mem_singleton.1 hs];have := aL (c := x.c) (n := 3000) (by omega);unfold qF; dsimp only; omega
theorem Ba {rec : Int → Int → aI × Int × Int} (hr : ∀ a m, ∀ s ∈ iH (rec a m).1, s.from_ ≤ 3000) (y : A5) (at_ most : Int) : ∀ i : Nat, ∀ s ∈ seesL (bI rec y at_ most i).kids, s.from_ ≤ 3000
 | 0 => fun s hs => by rw [bI, seesL] at hs; cases hs
 | i + 1 => fun s hs => by
  rw [bI] at hs;dsimp only at hs;rw [rB] at hs;rcases List.mem_append.1 hs with h | h
  ·exact Ba hr y at_ most i s h
  ·exact hr _ _ s h
theorem S2 : ∀ (j : Nat) (x : List A5) (at_ most : Int), ∀ s ∈ iH (dO j x at_ most).1, s.from_ ≤ 3000
 | 0, x, at_, most => by rw [dO]; exact Aj _
 | j + 1, x, at_, most => by
  have one : ∀ g : aI, g.kind ≠ 1 → (∃ z, g.kids = [qF z]) → ∀ s ∈ iH g, s.from_ ≤ 3000 := fun g hk ⟨z, hz⟩ s hs => by
   rw [rI, if_neg hk, hz, seesL, seesL, List.append_nil] at hs;exact Aj z s hs
  rw [dO];dsimp only;split
  ·exact one _ (by show (2 : Int) ≠ 1; omega) ⟨_, rfl⟩
  ·split
   ·exact one _ (by show (3 : Int) ≠ 1; omega) ⟨_, rfl⟩
   ·split
    ·exact one _ (by show (4 : Int) ≠ 1; omega) ⟨_, rfl⟩
    ·split
     ·rename_i e;intro s hs;rw [rI, if_neg (by dsimp only; omega)] at hs;exact Ba (fun a m => S2 j x a m) _ _ _ _ s hs
     ·exact Aj _
theorem St (x : List A5) : ∀ s ∈ oM (mN x), s.from_ ≤ 3000 := by
 unfold oM mN;split
 ·exact S2 3 x 0 9
 ·intro s hs; cases hs
theorem xM (shots : List aI) (xs : List A4) (h : ∀ s ∈ shots, s.from_ ≤ 3000) : ∀ i : Nat, i ≤ 1000 → (aC shots xs i).at_ ≤ 3000 + 400 * i ∧ ∀ e ∈ (aC shots xs i).out, e.at_ ≤ 3000 + 400 * i ∧ e.image < i
 | 0, _ => ⟨by simp [aC], fun e he => by simp [aC] at he⟩
 | i + 1, hi => by
  obtain ⟨h1, h2⟩ := xM shots xs h i (by omega);have hb := aL (c := (xs.getD i tR).b) (n := 400) (by omega);have hm : (fM shots (xs.getD i tR) i (aC shots xs i).at_).2 ≤ 3000 + 400 * ((i : Int) + 1) ∧ (fM shots (xs.getD i tR) i (aC shots xs i).at_).1.at_ ≤ 3000 + 400 * ((i : Int) + 1) ∧ (fM shots (xs.getD i tR) i (aC shots xs i).at_).1.image < (i : Int) + 1 := by
   unfold fM;split
   ·rename_i hc;have hbd := aL (c := (xs.getD i tR).a.tdiv 3) (n := shots.length) (by omega);have hm : shots.getD (aH ((xs.getD i tR).a.tdiv 3) shots.length).toNat (U.dflt .goal) ∈ shots := by
     rw [List.getD_eq_getElem?_getD, List.getElem?_eq_getElem (by omega)];exact List.getElem_mem _
    have := h _ hm;dsimp only;split <;> omega
   ·have := aL (c := (xs.getD i tR).a) (n := (i : Int) + 1) (by omega);dsimp only; omega
  rw [aC];unfold uS;refine ⟨by dsimp only; omega, fun e he => ?_⟩;dsimp only at he;split at he
  ·rcases qX he with he | rfl
   ·have := h2 e he; omega
   ·omega
  ·have := h2 e he; omega
theorem Dg (xs : List A5) (ys : List A4) : ∀ e ∈ qB (mN xs) ys, e.at_ ≤ 9400 ∧ e.image < 16 := by
 intro e he;have := (xM (oM (mN xs)) ys (St xs) (min ys.length 16) (by omega)).2 e he;omega
theorem tB {l : List aB} (h : bM l = true) : (l.length : Int) ≤ 120 ∧ (∀ e ∈ l, fI e = true) ∧ Pp l ∧ l.Pairwise q5u := by
 unfold bM at h;simp only [Bool.and_eq_true, decide_eq_true_eq] at h;obtain ⟨h1, h2⟩ := h;rw [Id] at h2;exact ⟨h1, h2.1, h2.2.1, h2.2.2⟩
theorem q6b {l : List aB} {now image : Int} (hv : bM l = true) (h1 : ∀ e ∈ l, e.at_ < now) (h2 : ∀ e ∈ l, e.image < image) : Fw l now image := by
 obtain ⟨_, a, b, _⟩ := tB hv;exact ⟨b, a, fun e he _ => h1 e he, fun e he => by have := h1 e he; omega, h2⟩
end Go.SX
namespace Go.SX
open Go.Proofs
set_option maxHeartbeats 400000000
set_option maxRecDepth 100000
theorem Uy : ∀ (l : List aB) (m : Int), m ≤ l.foldl (fun m e => max m (e.image + 1)) m ∧ ∀ e ∈ l, e.image < l.foldl (fun m e => max m (e.image + 1)) m
 | [], m => ⟨Int.le_refl _, fun e he => (by cases he)⟩
 | x :: l, m => by
  obtain ⟨h1, h2⟩ := Uy l (max m (x.image + 1));rw [List.foldl_cons];refine ⟨by omega, fun e he => ?_⟩;rcases List.mem_cons.1 he with rfl | he
  ·omega
  ·exact h2 e he
theorem q4n (l : List aB) : ∀ e ∈ l, e.image < I1 l := by
 intro e he;unfold I1 xS;rw [List.take_length];exact (Uy l 0).2 e he
theorem q3w {l : List aB} (h : bM l = true) : 0 ≤ I1 l ∧ I1 l ≤ 1000 := X5 (F6 h) l.length (Nat.le_refl _)
structure qd9 (g : aI) (l : List aB) (now : Int) : Prop where
 ctx : Fw l now (I1 l)
 now : 0 ≤ now ∧ now ≤ 1000000
 goal : cF g = true
 evs : bM l = true
theorem q4x {g : aI} {l : List aB} {now : Int} (h : okF g l now = true) : qd9 g l now := by
 unfold okF at h;simp only [Bool.and_eq_true, Bool.not_eq_true'] at h;obtain ⟨⟨⟨h1, h2⟩, h3⟩, h4⟩ := h;rw [aK] at h2;rw [List.any_eq_false] at h1;refine ⟨q6b h4 (fun e he => ?_) (q4n l), h2, h3, h4⟩;have := h1 e he;unfold T8 at this;simp only [Bool.or_eq_true, decide_eq_true_eq] at this;omega
theorem q7u {g : aI} {l : List aB} {now : Int} (h1 : ∀ e ∈ l, e.at_ < now ∧ e.image ≤ 899) (h2 : 0 ≤ now ∧ now ≤ 1000000) (h3 : cF g = true) (h4 : bM l = true) : okF g l now = true := by
 unfold okF;simp only [Bool.and_eq_true, Bool.not_eq_true'];refine ⟨⟨⟨?_, (aK _ _ _).2 h2⟩, h3⟩, h4⟩;rw [List.any_eq_false];intro e he;have := h1 e he;unfold T8;simp only [Bool.or_eq_true, decide_eq_true_eq];omega
def q0l (g : aI) (l : List aB) (now : Int) : Option (List aB) := uV g l now (I1 l)
theorem Ed {g : aI} (h : cF g = true) : ∃ n, bQ g 1 = some n ∧ n ≤ 12 := by
 unfold cF at h;split at h
 ·cases h
 ·rename_i n hn;exact ⟨n, hn, by simpa using h⟩
theorem qb3 (g : aI) (hG : pX g) (l : List aB) (hl : (l.length : Int) ≤ 9223372036854775807) (hE : ∀ e ∈ l, oS e) (now : Int) :
  aF Tryz.prog Dc 13 [aM g, eS l, iS now] [] (if okF g l now then .tuple [eS ((q0l g l now).getD []), bS (q0l g l now).isSome, iS 0] else .tuple [eS [], bS false, iS 150]) [] := by
 refine q4k g hG l hl hE now (q0l g l now) fun h => ?_;obtain ⟨a, b, c, d⟩ := q4x h;obtain ⟨n, hn, hn12⟩ := Ed c;have := q3w d;exact On 4 g 1 n (by omega) (by omega) hn hn12 hG l now (I1 l) a (tB d).1 (by omega) b
theorem q9b (g : aI) (hG : pX g) (l : List aB) (hl : (l.length : Int) ≤ 9223372036854775807) (hE : ∀ e ∈ l, oS e) (now : Int) :
  aF Tryz.prog Dc 10 [aM g, eS l, iS now] [] (.tuple [bS (okF g l now && (q0l g l now).isNone), iS (if okF g l now then 0 else 150)]) [] := by
 have h := qb3 g hG l hl hE now;cases hok : okF g l now with
 | false =>
  rw [hok, if_neg (by simp)] at h;exact Gr g l now [] false 150 h
 | true =>
  rw [hok, if_pos rfl] at h;have := Gr g l now _ _ 0 h;rw [if_pos rfl];have e : (true && (q0l g l now).isNone) = (decide ((0 : Int) = 0) && !(q0l g l now).isSome) := by cases q0l g l now <;> rfl
  rw [e];exact this
end Go.SX
