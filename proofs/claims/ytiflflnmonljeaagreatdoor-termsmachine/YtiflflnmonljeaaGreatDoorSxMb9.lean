/-
  Walks: Mb9, Mc0, Mc1, Mc2, Mc3, Vs, Tb3, Tb5, Tb4: what single functions of the program compute.
-/
import Derived.Test.YtiflflnmonljeaaGreatDoorSxMa1
import Derived.Test.YtiflflnmonljeaaGreatDoorSxV6
import Derived.Test.YtiflflnmonljeaaGreatDoorSxTa6
set_option linter.unusedVariables false
set_option linter.unusedSimpArgs false
namespace Go.SX
open Go.Proofs
set_option linter.unusedSectionVars false
set_option maxHeartbeats 400000000
set_option maxRecDepth 100000
theorem Ut (n : Nat) (hn : n ≤ 16) (l : List aD) (hln : l.length = n) (hE : ∀ e ∈ l, 0 ≤ e.at_ ∧ e.at_ ≤ 1000000) (hL : ∀ e ∈ l, jM e) (w : aK) {K : Obj} {B : List Nd} (hB : WFN n B) (hK : aU K B) (hl : B.length ≤ 994000000000) (g : aK) (hk : (g.kids.length : Int) = 1) (hg : ((eC g.kids).rows.length : Int) ≤ 9223372036854775807) (hd : 1 ≤ g.days ∧ g.days ≤ 1000000) (ht : 1 ≤ g.times ∧ g.times ≤ 6) (hf : 0 ≤ g.from_ ∧ g.from_ ≤ 1000000) :
  ∃ B' K' s, CR n B 198000000 (fun σ => vP g l (cC (eC g.kids) l) (wC0 l w σ)) B' K' s ∧ aG Tryz.prog Dc 53 [.ptr 2 0, aP g, xY] (hC0 n l w K B) (iS s) (dC0 n l w K' B') := by
 have hsl := lY (eC g.kids) l
 have hA := N0 (eC g.kids) l
 have hSl : ∀ i ∈ cC (eC g.kids) l, i < l.length := fun i h => lM h
 have hsu : aG Tryz.prog Dc 50 [.ptr 2 0, aP (g.kids.getD (Int.toNat 0) (Cd.dflt U.goal))] (cpH n K B l) (.p (.dsl U.int ((cC (eC g.kids) l).map Int.ofNat))) (cpH n K B l) := qV n K B l (by omega) hL (eC g.kids) hg
 generalize hS : cC (eC g.kids) l = S at *
 have hcc := fun (K : Obj) (B : List Nd) (i : Nat) (h1 : WFN n B) (h2 : aU K B) (h3 : i ∈ S) (h4 : B.length ≤ 996000000000) => cC0 n hn l hln hE w h1 h2 i (hSl i h3) h4
 obtain ⟨f, hf0, hfP, hfR⟩ := Ak n hn S (by omega) hA (sC0 l w) (fun K B i K' B' s => aG Tryz.prog Dc fC0 (aC0 i) (hC0 n l w K B) (iS s) (dC0 n l w K' B')) hcc
  (fun j => decide ((evL l (aY S j)).at_ - g.from_ ≤ 1440 * g.days)) hB hK hl
 have hfe := (hfP _ (Nat.le_refl _)).weaken (show S.length * 1114129 ≤ 17826064 by omega) fun j _ σ => rfl
 obtain ⟨F, hF0, hFP, hFR⟩ := G5 n hn S (by omega) hA (sC0 l w) (fun K B i K' B' s => aG Tryz.prog Dc fC0 (aC0 i) (hC0 n l w K B) (iS s) (dC0 n l w K' B')) hcc
  (fun j => decide ((evL l (aY S j)).at_ - g.from_ ≤ 1440 * g.days)) (fun i j => inB ((evL l (aY S j)).at_ - (evL l (aY S i)).at_) g.within (1440 * g.days)) (g.times - 1).toNat (by omega) hl _ hfe
 have hFe := (hFP _ (Nat.le_refl _)).weaken (show 17826064 + (g.times - 1).toNat * 35651856 ≤ 196085344 from Nat.le_trans (Nat.add_le_add_left (Nat.mul_le_mul_right _ (show (g.times - 1).toNat ≤ 5 by omega)) _) (by simp)) fun j _ σ => rfl
 obtain ⟨B', K', s, hR, hlast⟩ := Qp n hn S (by omega) hl _ _ hFe
 refine ⟨B', K', s, hR.weaken (Nat.le_refl _) fun σ => ?_, ?_⟩
 ·unfold vP
  congr 1
  funext k
  generalize (g.times - 1).toNat = t
  induction t generalizing k with
  | zero => rfl
  | succ t ih =>
   unfold spE Sd
   simp only [ih]
   rfl
 have hK0 : (f 0).2.1 = K := by rw [hf0]
 have hB0 : (f 0).1 = B := by rw [hf0]
 have hM0 : (f 0).2.2.1 = .map #[] 0 := by rw [hf0]
 rw [← hK0, ← hB0] at hsu ⊢
 have hz : (S.map Int.ofNat).length = S.length := List.length_map ..
 refine aC Ax aF Tryz.func53 (c := _) rfl Tryz.call53 400 ?_
 (repeat' ((conv => whnf); first | (exfalso; omega) | refine dxC ?_ | refine chC [some 0, some 1, some 2, some 3] hsu ?_ | refine x0C ?_ | refine spC (fun hb => ?_) fun hb => ?_ | refine aJ (fun hb => ?_) ?_ | refine taC ?_ | refine saC ?_ | exact sdV | refine aA ?_ ?_ | refine aB mixed ?_))
 refine aT [some 0, some 1, some 2, none, some 4, some 5, some 6, some 3] (fun k : Nat => [(30, iS k)]) (fun k => [(0, .vart none [iS n, .slice 7 0 3 0 (f k).1.length, .mapp 1]), (1, .obj (f k).2.1), (3, .dead), (5, .obj (f k).2.2.1), (7, .rows U.node (f k).1)]) (fun k => k ≤ S.length) (fun k => S.length - k) 0 (Nat.zero_le _) (by (rw [hM0]; exact bkI)) ?_
 intro k hk KK hKK
 rcases Nat.lt_or_ge k S.length with hlt | hge
 ·obtain ⟨es, clk, e1, e2, e3⟩ := hfR k hlt
  have hZk := Dg hlt
  have hbk : aY S k < l.length := hSl _ (by rw [cG (List.getElem?_eq_getElem hlt)]; exact List.getElem_mem _)
  have eb : l.getD (Int.toNat ((S.map Int.ofNat).getD (k : Int).toNat (Cd.dflt U.int))) (Cd.dflt U.event) = evL l (aY S k) := by rw [hZk, Int.toNat_natCast]; rfl
  have mb : evL l (aY S k) ∈ l := by unfold evL; rw [List.getD_eq_getElem?_getD, List.getElem?_eq_getElem hbk]; exact List.getElem_mem _
  have bb := hE _ mb
  rw [← eb] at bb e3
  rw [← hZk] at e2 e3
  clear mb hFR hFP hfR hfP hE hlast hfe hFe
  rw [e1]
  by_cases p : (l.getD (Int.toNat ((S.map Int.ofNat).getD (k : Int).toNat (Cd.dflt U.int))) (Cd.dflt U.event)).at_ - g.from_ ≤ 1440 * g.days
  ·rw [if_pos (decide_eq_true p)] at e3
   obtain ⟨p1, s1, m1, m2, m3⟩ := e3
   (repeat' ((conv => whnf); first | (exfalso; omega) | refine bM e2 ?_ | refine bM m1 ?_ | refine dxC ?_ | refine dcm [some 0, some 1, some 2, some 7] [2] m2 ?_ | refine hKK (k + 1) [some 0, some 1, some 2, some 3, some 4, some 5, some 6, some 8] _ _ ⟨by omega⟩ ⟨by omega⟩ (by (rw [m3]; exact bkI)) | refine x0C ?_ | refine spC (fun hb => ?_) fun hb => ?_ | refine aJ (fun hb => ?_) ?_ | refine taC ?_ | refine saC ?_ | exact sdV | refine aA ?_ ?_ | refine aB mixed ?_))
  ·rw [if_neg (by rw [decide_eq_false p]; exact Bool.false_ne_true)] at e3
   obtain ⟨m1, m2, m3⟩ := e3
   (repeat' ((conv => whnf); first | (exfalso; omega) | refine bM e2 ?_ | refine hKK (k + 1) [some 0, some 1, some 2, some 3, some 4, some 5, some 6, some 7] _ _ ⟨by omega⟩ ⟨by omega⟩ (by (rw [m1, m2, m3]; exact bkI)) | refine x0C ?_ | refine spC (fun hb => ?_) fun hb => ?_ | refine aJ (fun hb => ?_) ?_ | refine taC ?_ | refine saC ?_ | exact sdV | refine aA ?_ ?_ | refine aB mixed ?_))
 ·have hkS : k = S.length := by omega
  subst hkS
  (repeat' ((conv => whnf); first | (exfalso; omega) | refine x0C ?_ | refine spC (fun hb => ?_) fun hb => ?_ | refine aJ (fun hb => ?_) ?_ | refine taC ?_ | refine saC ?_ | exact sdV | refine aA ?_ ?_ | refine aB mixed ?_))
  rw [← hF0]
  refine aT [some 0, some 1, some 2, some 3, some 4, some 5, some 6, some 7] (fun t : Nat => [(27, .any), (59, iS t)]) (fun t => [(0, .vart none [iS n, .slice 7 0 3 0 (F t).1.length, .mapp 1]), (1, .obj (F t).2.1), (5, .obj (F t).2.2.1), (7, .rows U.node (F t).1)]) (fun t => t ≤ (g.times - 1).toNat) (fun t => (g.times - 1).toNat - t) 0 (Nat.zero_le _) (by exact bkI) ?_
  intro t htt KT hKT
  obtain ⟨es, clk, hM, g1, g2, g3⟩ := (hFP t htt).ends
  rcases Nat.lt_or_ge t (g.times - 1).toNat with hlt | hge
  ·obtain ⟨h, hh0, hhT, hhR⟩ := hFR t hlt
   have hM0' : (h 0).2.2.1 = .map #[] 0 := by rw [hh0]
   have hKa : (h 0).2.1 = (F t).2.1 := by rw [hh0]
   have hKb : (h 0).1 = (F t).1 := by rw [hh0]
   (repeat' ((conv => whnf); first | (exfalso; omega) | refine x0C ?_ | refine spC (fun hb => ?_) fun hb => ?_ | refine aJ (fun hb => ?_) ?_ | refine taC ?_ | refine saC ?_ | exact sdV | refine aA ?_ ?_ | refine aB mixed ?_))
   refine aT [some 0, some 1, some 2, some 3, some 4, some 5, some 6, none, some 8, some 7] (fun k : Nat => [(64, iS k)]) (fun k => [(0, .vart none [iS n, .slice 9 0 3 0 (h k).1.length, .mapp 1]), (1, .obj (h k).2.1), (7, .dead), (8, .obj (h k).2.2.1), (9, .rows U.node (h k).1)]) (fun k => k ≤ S.length) (fun k => S.length - k) 0 (Nat.zero_le _) (by (rw [hM0', hKa, hKb]; exact bkI)) ?_
   intro k hk KK hKK
   rcases Nat.lt_or_ge k S.length with hlt2 | hge2
   ·obtain ⟨q, hq0, hqR, B1, K1, s1, s2, es2, clk2, m1, m2, m3, m4, m5⟩ := hhR k hlt2
    have hZk := Dg hlt2
    have hNl : ∀ j, j < S.length → aY S j < l.length := fun j hj => hSl _ (by rw [cG (List.getElem?_eq_getElem hj)]; exact List.getElem_mem _)
    have hbk := hNl k hlt2
    have hDl : (List.drop (Int.toNat 0) (List.take (k : Int).toNat (S.map Int.ofNat))).length = k := by
     rw [show Int.toNat 0 = 0 from rfl, List.drop_zero, List.length_take, Int.toNat_natCast, hz]; omega
    have hDg : ∀ j, j < k → (List.drop (Int.toNat 0) (List.take (k : Int).toNat (S.map Int.ofNat))).getD (j : Int).toNat (Cd.dflt U.int) = (aY S j : Nat) := fun j hj => by
     rw [← Dg (show j < S.length by omega), show Int.toNat 0 = 0 from rfl, List.drop_zero, Int.toNat_natCast, Int.toNat_natCast, List.getD_eq_getElem?_getD, List.getD_eq_getElem?_getD, List.getElem?_take, if_pos hj]
    have eb : l.getD (Int.toNat ((S.map Int.ofNat).getD (k : Int).toNat (Cd.dflt U.int))) (Cd.dflt U.event) = evL l (aY S k) := by rw [hZk, Int.toNat_natCast]; rfl
    have mb : evL l (aY S k) ∈ l := by unfold evL; rw [List.getD_eq_getElem?_getD, List.getElem?_eq_getElem hbk]; exact List.getElem_mem _
    have bb := hE _ mb
    rw [← eb] at bb
    rw [← hZk] at m1 m4 m5
    have hqa : (q 0).1 = (h k).1 := by rw [hq0]
    have hqb : (q 0).2.1 = (h k).2.1 := by rw [hq0]
    have hqc : (q 0).2.2 = -1 := by rw [hq0]
    clear mb hFR hFP hfR hfP hlast hfe hFe hhR
    rw [m3]
    (repeat' ((conv => whnf); first | (exfalso; omega) | refine x0C ?_ | refine spC (fun hb => ?_) fun hb => ?_ | refine aJ (fun hb => ?_) ?_ | refine taC ?_ | refine saC ?_ | exact sdV | refine aA ?_ ?_ | refine aB mixed ?_))
    refine aT [some 0, some 1, some 2, some 3, some 4, some 5, some 6, some 7, some 8, some 9] (fun j : Nat => [(15, iS (q j).2.2), (73, iS j)]) (fun j => [(0, .vart none [iS n, .slice 9 0 3 0 (q j).1.length, .mapp 1]), (1, .obj (q j).2.1), (9, .rows U.node (q j).1)]) (fun j => j ≤ k) (fun j => k - j) 0 (Nat.zero_le _) (by (rw [hqa, hqb, hqc]; exact bkI)) ?_
    intro j hj K2 hK2
    rcases Nat.lt_or_ge j k with hjk | hjk
    ·have hR := hqR j hjk
     obtain ⟨p, hp⟩ := g2 j (by omega)
     have hXj := hDg j hjk
     have hbj := hNl j (by omega)
     have ea : l.getD (Int.toNat ((List.drop (Int.toNat 0) (List.take (k : Int).toNat (S.map Int.ofNat))).getD (j : Int).toNat (Cd.dflt U.int))) (Cd.dflt U.event) = evL l (aY S j) := by rw [hXj, Int.toNat_natCast]; rfl
     have ma : evL l (aY S j) ∈ l := by unfold evL; rw [List.getD_eq_getElem?_getD, List.getElem?_eq_getElem hbj]; exact List.getElem_mem _
     have ba := hE _ ma
     rw [← ea] at ba hR
     rw [← eb] at hR
     rw [← hXj] at hp
     have hc := min_ ((l.getD (Int.toNat ((S.map Int.ofNat).getD (k : Int).toNat (Cd.dflt U.int))) (Cd.dflt U.event)).at_ - (l.getD (Int.toNat ((List.drop (Int.toNat 0) (List.take (k : Int).toNat (S.map Int.ofNat))).getD (j : Int).toNat (Cd.dflt U.int))) (Cd.dflt U.event)).at_) g.within (1440 * g.days)
     clear ma hqR hE
     rw [hM]
     cases hfw : inB ((l.getD (Int.toNat ((S.map Int.ofNat).getD (k : Int).toNat (Cd.dflt U.int))) (Cd.dflt U.event)).at_ - (l.getD (Int.toNat ((List.drop (Int.toNat 0) (List.take (k : Int).toNat (S.map Int.ofNat))).getD (j : Int).toNat (Cd.dflt U.int))) (Cd.dflt U.event)).at_) g.within (1440 * g.days) with
     | true =>
      rw [hfw] at hR hc
      rw [if_pos rfl] at hR
      (repeat' ((conv => whnf); first | (exfalso; omega) | refine cpC (hc) ?_ | refine dpC (hc) ?_ | refine bM hp ?_ | refine dxC ?_ | refine dcm [some 0, some 1, some 9] [] hR ?_ | refine hK2 (j + 1) [some 0, some 1, some 2, some 3, some 4, some 5, some 6, some 7, some 8, some 10] _ _ ⟨by omega⟩ ⟨by omega⟩ (by (rw [← hM]; exact bkI)) | refine x0C ?_ | refine spC (fun hb => ?_) fun hb => ?_ | refine aJ (fun hb => ?_) ?_ | refine taC ?_ | refine saC ?_ | exact sdV | refine aA ?_ ?_ | refine aB mixed ?_))
     | false =>
      rw [hfw] at hR hc
      rw [if_neg Bool.false_ne_true] at hR
      (repeat' ((conv => whnf); first | (exfalso; omega) | refine cpC (hc) ?_ | refine dpC (hc) ?_ | refine hK2 (j + 1) [some 0, some 1, some 2, some 3, some 4, some 5, some 6, some 7, some 8, some 9] _ _ ⟨by omega⟩ ⟨by omega⟩ (by (rw [hR, ← hM]; exact bkI)) | refine x0C ?_ | refine spC (fun hb => ?_) fun hb => ?_ | refine aJ (fun hb => ?_) ?_ | refine taC ?_ | refine saC ?_ | exact sdV | refine aA ?_ ?_ | refine aB mixed ?_))
    ·have hjk2 : j = k := by omega
     subst hjk2
     (repeat' ((conv => whnf); first | (exfalso; omega) | refine dxC ?_ | refine dcm [some 0, some 1, some 2, some 9] [2] m1 ?_ | refine dcm [some 0, some 1, some 10] [] m2 ?_ | refine bM m4 ?_ | refine hKK (j + 1) [some 0, some 1, some 2, some 3, some 4, some 5, some 6, some 7, some 8, some 11] _ _ ⟨by omega⟩ ⟨by omega⟩ (by (rw [m5]; exact bkI)) | refine x0C ?_ | refine spC (fun hb => ?_) fun hb => ?_ | refine aJ (fun hb => ?_) ?_ | refine taC ?_ | refine saC ?_ | exact sdV | refine aA ?_ ?_ | refine aB mixed ?_))
   ·have hkS : k = S.length := by omega
    subst hkS
    rw [hhT]
    (repeat' ((conv => whnf); first | (exfalso; omega) | refine x0C ?_ | refine spC (fun hb => ?_) fun hb => ?_ | refine aJ (fun hb => ?_) ?_ | refine taC ?_ | refine saC ?_ | exact sdV | refine aA ?_ ?_ | refine aB mixed ?_))
    refine hKT (t + 1) [some 0, some 1, some 2, some 3, some 4, some 8, some 6, some 9] _ _ ⟨by omega⟩ ⟨by omega⟩ (by exact bkI)
  ·have hkT : t = (g.times - 1).toNat := by omega
   subst hkT
   (repeat' ((conv => whnf); first | (exfalso; omega) | refine chC [some 0, some 1, some 7, some 6, some 5] hlast ?_ | exact enC [some 0, some 1, some 2, some 3, some 8] | refine x0C ?_ | refine spC (fun hb => ?_) fun hb => ?_ | refine aJ (fun hb => ?_) ?_ | refine taC ?_ | refine saC ?_ | exact sdV | refine aA ?_ ?_ | refine aB mixed ?_))
theorem Uv (n : Nat) (hn : n ≤ 16) (l : List aD) (hln : l.length = n) (hE : ∀ e ∈ l, 0 ≤ e.at_ ∧ e.at_ ≤ 1000000) (hL : ∀ e ∈ l, jM e) (w : aK) {K : Obj} {B : List Nd} (hB : WFN n B) (hK : aU K B) (hl : B.length ≤ 994000000000) (g : aK) (hk : (g.kids.length : Int) = 1) (hg : ((eC g.kids).rows.length : Int) ≤ 9223372036854775807) (hd : 1 ≤ g.days ∧ g.days ≤ 1000000) (ht : 1 ≤ g.times ∧ g.times ≤ 6) (hf : 0 ≤ g.from_ ∧ g.from_ ≤ 1000000) :
  ∃ B' K' s, CR n B 198000000 (fun σ => vP g l (cC (eC g.kids) l) (wC1 l w σ)) B' K' s ∧ aG Tryz.prog Dc 53 [.ptr 2 0, aP g, Vj] (hC1 n l w K B) (iS s) (dC1 n l w K' B') := by
 have hsl := lY (eC g.kids) l
 have hA := N0 (eC g.kids) l
 have hSl : ∀ i ∈ cC (eC g.kids) l, i < l.length := fun i h => lM h
 have hsu : aG Tryz.prog Dc 50 [.ptr 2 0, aP (g.kids.getD (Int.toNat 0) (Cd.dflt U.goal))] (cpH n K B l) (.p (.dsl U.int ((cC (eC g.kids) l).map Int.ofNat))) (cpH n K B l) := qV n K B l (by omega) hL (eC g.kids) hg
 generalize hS : cC (eC g.kids) l = S at *
 have hcc := fun (K : Obj) (B : List Nd) (i : Nat) (h1 : WFN n B) (h2 : aU K B) (h3 : i ∈ S) (h4 : B.length ≤ 996000000000) => cC1 n hn l hln hE w h1 h2 i (hSl i h3) h4
 obtain ⟨f, hf0, hfP, hfR⟩ := Ak n hn S (by omega) hA (sC1 l w) (fun K B i K' B' s => aG Tryz.prog Dc fC1 (aC1 i) (hC1 n l w K B) (iS s) (dC1 n l w K' B')) hcc
  (fun j => decide ((evL l (aY S j)).at_ - g.from_ ≤ 1440 * g.days)) hB hK hl
 have hfe := (hfP _ (Nat.le_refl _)).weaken (show S.length * 1114129 ≤ 17826064 by omega) fun j _ σ => rfl
 obtain ⟨F, hF0, hFP, hFR⟩ := G5 n hn S (by omega) hA (sC1 l w) (fun K B i K' B' s => aG Tryz.prog Dc fC1 (aC1 i) (hC1 n l w K B) (iS s) (dC1 n l w K' B')) hcc
  (fun j => decide ((evL l (aY S j)).at_ - g.from_ ≤ 1440 * g.days)) (fun i j => inB ((evL l (aY S j)).at_ - (evL l (aY S i)).at_) g.within (1440 * g.days)) (g.times - 1).toNat (by omega) hl _ hfe
 have hFe := (hFP _ (Nat.le_refl _)).weaken (show 17826064 + (g.times - 1).toNat * 35651856 ≤ 196085344 from Nat.le_trans (Nat.add_le_add_left (Nat.mul_le_mul_right _ (show (g.times - 1).toNat ≤ 5 by omega)) _) (by simp)) fun j _ σ => rfl
 obtain ⟨B', K', s, hR, hlast⟩ := Qp n hn S (by omega) hl _ _ hFe
 refine ⟨B', K', s, hR.weaken (Nat.le_refl _) fun σ => ?_, ?_⟩
 ·unfold vP
  congr 1
  funext k
  generalize (g.times - 1).toNat = t
  induction t generalizing k with
  | zero => rfl
  | succ t ih =>
   unfold spE Sd
   simp only [ih]
   rfl
 have hK0 : (f 0).2.1 = K := by rw [hf0]
 have hB0 : (f 0).1 = B := by rw [hf0]
 have hM0 : (f 0).2.2.1 = .map #[] 0 := by rw [hf0]
 rw [← hK0, ← hB0] at hsu ⊢
 have hz : (S.map Int.ofNat).length = S.length := List.length_map ..
 refine aC Ax aF Tryz.func53 (c := _) rfl Tryz.call53 400 ?_
 (repeat' ((conv => whnf); first | (exfalso; omega) | refine dxC ?_ | refine chC [some 0, some 1, some 2, some 3] hsu ?_ | refine x0C ?_ | refine spC (fun hb => ?_) fun hb => ?_ | refine aJ (fun hb => ?_) ?_ | refine taC ?_ | refine saC ?_ | exact sdV | refine aA ?_ ?_ | refine aB mixed ?_))
 refine aT [some 0, some 1, some 2, none, some 4, some 5, some 6, some 7, some 8, some 9, some 3] (fun k : Nat => [(30, iS k)]) (fun k => [(0, .vart none [iS n, .slice 10 0 3 0 (f k).1.length, .mapp 1]), (1, .obj (f k).2.1), (3, .dead), (8, .obj (f k).2.2.1), (10, .rows U.node (f k).1)]) (fun k => k ≤ S.length) (fun k => S.length - k) 0 (Nat.zero_le _) (by (rw [hM0]; exact bkI)) ?_
 intro k hk KK hKK
 rcases Nat.lt_or_ge k S.length with hlt | hge
 ·obtain ⟨es, clk, e1, e2, e3⟩ := hfR k hlt
  have hZk := Dg hlt
  have hbk : aY S k < l.length := hSl _ (by rw [cG (List.getElem?_eq_getElem hlt)]; exact List.getElem_mem _)
  have eb : l.getD (Int.toNat ((S.map Int.ofNat).getD (k : Int).toNat (Cd.dflt U.int))) (Cd.dflt U.event) = evL l (aY S k) := by rw [hZk, Int.toNat_natCast]; rfl
  have mb : evL l (aY S k) ∈ l := by unfold evL; rw [List.getD_eq_getElem?_getD, List.getElem?_eq_getElem hbk]; exact List.getElem_mem _
  have bb := hE _ mb
  rw [← eb] at bb e3
  rw [← hZk] at e2 e3
  clear mb hFR hFP hfR hfP hE hlast hfe hFe
  rw [e1]
  by_cases p : (l.getD (Int.toNat ((S.map Int.ofNat).getD (k : Int).toNat (Cd.dflt U.int))) (Cd.dflt U.event)).at_ - g.from_ ≤ 1440 * g.days
  ·rw [if_pos (decide_eq_true p)] at e3
   obtain ⟨p1, s1, m1, m2, m3⟩ := e3
   (repeat' ((conv => whnf); first | (exfalso; omega) | refine bM e2 ?_ | refine bM m1 ?_ | refine dxC ?_ | refine dcm [some 0, some 1, some 2, some 10, some 4, some 5, some 6] [2, 4, 5, 6] m2 ?_ | refine hKK (k + 1) [some 0, some 1, some 2, some 3, some 4, some 5, some 6, some 7, some 8, some 9, some 11] _ _ ⟨by omega⟩ ⟨by omega⟩ (by (rw [m3]; exact bkI)) | refine x0C ?_ | refine spC (fun hb => ?_) fun hb => ?_ | refine aJ (fun hb => ?_) ?_ | refine taC ?_ | refine saC ?_ | exact sdV | refine aA ?_ ?_ | refine aB mixed ?_))
  ·rw [if_neg (by rw [decide_eq_false p]; exact Bool.false_ne_true)] at e3
   obtain ⟨m1, m2, m3⟩ := e3
   (repeat' ((conv => whnf); first | (exfalso; omega) | refine bM e2 ?_ | refine hKK (k + 1) [some 0, some 1, some 2, some 3, some 4, some 5, some 6, some 7, some 8, some 9, some 10] _ _ ⟨by omega⟩ ⟨by omega⟩ (by (rw [m1, m2, m3]; exact bkI)) | refine x0C ?_ | refine spC (fun hb => ?_) fun hb => ?_ | refine aJ (fun hb => ?_) ?_ | refine taC ?_ | refine saC ?_ | exact sdV | refine aA ?_ ?_ | refine aB mixed ?_))
 ·have hkS : k = S.length := by omega
  subst hkS
  (repeat' ((conv => whnf); first | (exfalso; omega) | refine x0C ?_ | refine spC (fun hb => ?_) fun hb => ?_ | refine aJ (fun hb => ?_) ?_ | refine taC ?_ | refine saC ?_ | exact sdV | refine aA ?_ ?_ | refine aB mixed ?_))
  rw [← hF0]
  refine aT [some 0, some 1, some 2, some 3, some 4, some 5, some 6, some 7, some 8, some 9, some 10] (fun t : Nat => [(27, .any), (59, iS t)]) (fun t => [(0, .vart none [iS n, .slice 10 0 3 0 (F t).1.length, .mapp 1]), (1, .obj (F t).2.1), (8, .obj (F t).2.2.1), (10, .rows U.node (F t).1)]) (fun t => t ≤ (g.times - 1).toNat) (fun t => (g.times - 1).toNat - t) 0 (Nat.zero_le _) (by exact bkI) ?_
  intro t htt KT hKT
  obtain ⟨es, clk, hM, g1, g2, g3⟩ := (hFP t htt).ends
  rcases Nat.lt_or_ge t (g.times - 1).toNat with hlt | hge
  ·obtain ⟨h, hh0, hhT, hhR⟩ := hFR t hlt
   have hM0' : (h 0).2.2.1 = .map #[] 0 := by rw [hh0]
   have hKa : (h 0).2.1 = (F t).2.1 := by rw [hh0]
   have hKb : (h 0).1 = (F t).1 := by rw [hh0]
   (repeat' ((conv => whnf); first | (exfalso; omega) | refine x0C ?_ | refine spC (fun hb => ?_) fun hb => ?_ | refine aJ (fun hb => ?_) ?_ | refine taC ?_ | refine saC ?_ | exact sdV | refine aA ?_ ?_ | refine aB mixed ?_))
   refine aT [some 0, some 1, some 2, some 3, some 4, some 5, some 6, some 7, some 8, some 9, none, some 11, some 10] (fun k : Nat => [(64, iS k)]) (fun k => [(0, .vart none [iS n, .slice 12 0 3 0 (h k).1.length, .mapp 1]), (1, .obj (h k).2.1), (10, .dead), (11, .obj (h k).2.2.1), (12, .rows U.node (h k).1)]) (fun k => k ≤ S.length) (fun k => S.length - k) 0 (Nat.zero_le _) (by (rw [hM0', hKa, hKb]; exact bkI)) ?_
   intro k hk KK hKK
   rcases Nat.lt_or_ge k S.length with hlt2 | hge2
   ·obtain ⟨q, hq0, hqR, B1, K1, s1, s2, es2, clk2, m1, m2, m3, m4, m5⟩ := hhR k hlt2
    have hZk := Dg hlt2
    have hNl : ∀ j, j < S.length → aY S j < l.length := fun j hj => hSl _ (by rw [cG (List.getElem?_eq_getElem hj)]; exact List.getElem_mem _)
    have hbk := hNl k hlt2
    have hDl : (List.drop (Int.toNat 0) (List.take (k : Int).toNat (S.map Int.ofNat))).length = k := by
     rw [show Int.toNat 0 = 0 from rfl, List.drop_zero, List.length_take, Int.toNat_natCast, hz]; omega
    have hDg : ∀ j, j < k → (List.drop (Int.toNat 0) (List.take (k : Int).toNat (S.map Int.ofNat))).getD (j : Int).toNat (Cd.dflt U.int) = (aY S j : Nat) := fun j hj => by
     rw [← Dg (show j < S.length by omega), show Int.toNat 0 = 0 from rfl, List.drop_zero, Int.toNat_natCast, Int.toNat_natCast, List.getD_eq_getElem?_getD, List.getD_eq_getElem?_getD, List.getElem?_take, if_pos hj]
    have eb : l.getD (Int.toNat ((S.map Int.ofNat).getD (k : Int).toNat (Cd.dflt U.int))) (Cd.dflt U.event) = evL l (aY S k) := by rw [hZk, Int.toNat_natCast]; rfl
    have mb : evL l (aY S k) ∈ l := by unfold evL; rw [List.getD_eq_getElem?_getD, List.getElem?_eq_getElem hbk]; exact List.getElem_mem _
    have bb := hE _ mb
    rw [← eb] at bb
    rw [← hZk] at m1 m4 m5
    have hqa : (q 0).1 = (h k).1 := by rw [hq0]
    have hqb : (q 0).2.1 = (h k).2.1 := by rw [hq0]
    have hqc : (q 0).2.2 = -1 := by rw [hq0]
    clear mb hFR hFP hfR hfP hlast hfe hFe hhR
    rw [m3]
    (repeat' ((conv => whnf); first | (exfalso; omega) | refine x0C ?_ | refine spC (fun hb => ?_) fun hb => ?_ | refine aJ (fun hb => ?_) ?_ | refine taC ?_ | refine saC ?_ | exact sdV | refine aA ?_ ?_ | refine aB mixed ?_))
    refine aT [some 0, some 1, some 2, some 3, some 4, some 5, some 6, some 7, some 8, some 9, some 10, some 11, some 12] (fun j : Nat => [(15, iS (q j).2.2), (73, iS j)]) (fun j => [(0, .vart none [iS n, .slice 12 0 3 0 (q j).1.length, .mapp 1]), (1, .obj (q j).2.1), (12, .rows U.node (q j).1)]) (fun j => j ≤ k) (fun j => k - j) 0 (Nat.zero_le _) (by (rw [hqa, hqb, hqc]; exact bkI)) ?_
    intro j hj K2 hK2
    rcases Nat.lt_or_ge j k with hjk | hjk
    ·have hR := hqR j hjk
     obtain ⟨p, hp⟩ := g2 j (by omega)
     have hXj := hDg j hjk
     have hbj := hNl j (by omega)
     have ea : l.getD (Int.toNat ((List.drop (Int.toNat 0) (List.take (k : Int).toNat (S.map Int.ofNat))).getD (j : Int).toNat (Cd.dflt U.int))) (Cd.dflt U.event) = evL l (aY S j) := by rw [hXj, Int.toNat_natCast]; rfl
     have ma : evL l (aY S j) ∈ l := by unfold evL; rw [List.getD_eq_getElem?_getD, List.getElem?_eq_getElem hbj]; exact List.getElem_mem _
     have ba := hE _ ma
     rw [← ea] at ba hR
     rw [← eb] at hR
     rw [← hXj] at hp
     have hc := min_ ((l.getD (Int.toNat ((S.map Int.ofNat).getD (k : Int).toNat (Cd.dflt U.int))) (Cd.dflt U.event)).at_ - (l.getD (Int.toNat ((List.drop (Int.toNat 0) (List.take (k : Int).toNat (S.map Int.ofNat))).getD (j : Int).toNat (Cd.dflt U.int))) (Cd.dflt U.event)).at_) g.within (1440 * g.days)
     clear ma hqR hE
     rw [hM]
     cases hfw : inB ((l.getD (Int.toNat ((S.map Int.ofNat).getD (k : Int).toNat (Cd.dflt U.int))) (Cd.dflt U.event)).at_ - (l.getD (Int.toNat ((List.drop (Int.toNat 0) (List.take (k : Int).toNat (S.map Int.ofNat))).getD (j : Int).toNat (Cd.dflt U.int))) (Cd.dflt U.event)).at_) g.within (1440 * g.days) with
     | true =>
      rw [hfw] at hR hc
      rw [if_pos rfl] at hR
      (repeat' ((conv => whnf); first | (exfalso; omega) | refine cpC (hc) ?_ | refine dpC (hc) ?_ | refine bM hp ?_ | refine dxC ?_ | refine dcm [some 0, some 1, some 12] [] hR ?_ | refine hK2 (j + 1) [some 0, some 1, some 2, some 3, some 4, some 5, some 6, some 7, some 8, some 9, some 10, some 11, some 13] _ _ ⟨by omega⟩ ⟨by omega⟩ (by (rw [← hM]; exact bkI)) | refine x0C ?_ | refine spC (fun hb => ?_) fun hb => ?_ | refine aJ (fun hb => ?_) ?_ | refine taC ?_ | refine saC ?_ | exact sdV | refine aA ?_ ?_ | refine aB mixed ?_))
     | false =>
      rw [hfw] at hR hc
      rw [if_neg Bool.false_ne_true] at hR
      (repeat' ((conv => whnf); first | (exfalso; omega) | refine cpC (hc) ?_ | refine dpC (hc) ?_ | refine hK2 (j + 1) [some 0, some 1, some 2, some 3, some 4, some 5, some 6, some 7, some 8, some 9, some 10, some 11, some 12] _ _ ⟨by omega⟩ ⟨by omega⟩ (by (rw [hR, ← hM]; exact bkI)) | refine x0C ?_ | refine spC (fun hb => ?_) fun hb => ?_ | refine aJ (fun hb => ?_) ?_ | refine taC ?_ | refine saC ?_ | exact sdV | refine aA ?_ ?_ | refine aB mixed ?_))
    ·have hjk2 : j = k := by omega
     subst hjk2
     (repeat' ((conv => whnf); first | (exfalso; omega) | refine dxC ?_ | refine dcm [some 0, some 1, some 2, some 12, some 4, some 5, some 6] [2, 4, 5, 6] m1 ?_ | refine dcm [some 0, some 1, some 13] [] m2 ?_ | refine bM m4 ?_ | refine hKK (j + 1) [some 0, some 1, some 2, some 3, some 4, some 5, some 6, some 7, some 8, some 9, some 10, some 11, some 14] _ _ ⟨by omega⟩ ⟨by omega⟩ (by (rw [m5]; exact bkI)) | refine x0C ?_ | refine spC (fun hb => ?_) fun hb => ?_ | refine aJ (fun hb => ?_) ?_ | refine taC ?_ | refine saC ?_ | exact sdV | refine aA ?_ ?_ | refine aB mixed ?_))
   ·have hkS : k = S.length := by omega
    subst hkS
    rw [hhT]
    (repeat' ((conv => whnf); first | (exfalso; omega) | refine x0C ?_ | refine spC (fun hb => ?_) fun hb => ?_ | refine aJ (fun hb => ?_) ?_ | refine taC ?_ | refine saC ?_ | exact sdV | refine aA ?_ ?_ | refine aB mixed ?_))
    refine hKT (t + 1) [some 0, some 1, some 2, some 3, some 4, some 5, some 6, some 7, some 11, some 9, some 12] _ _ ⟨by omega⟩ ⟨by omega⟩ (by exact bkI)
  ·have hkT : t = (g.times - 1).toNat := by omega
   subst hkT
   (repeat' ((conv => whnf); first | (exfalso; omega) | refine chC [some 0, some 1, some 10, some 9, some 8] hlast ?_ | exact enC [some 0, some 1, some 2, some 3, some 4, some 5, some 6, some 11] | refine x0C ?_ | refine spC (fun hb => ?_) fun hb => ?_ | refine aJ (fun hb => ?_) ?_ | refine taC ?_ | refine saC ?_ | exact sdV | refine aA ?_ ?_ | refine aB mixed ?_))
theorem A0 {g : aK} (h : okB g = true) : (g.rows.length : Int) ≤ 9223372036854775807 := by
 by_cases hk : g.kind = 1
 ·have := (bP h).2.1
  unfold E6 bC at this
  rw [if_pos hk] at this
  simp only [Bool.and_eq_true, decide_eq_true_eq] at this
  omega
 ·unfold okB dU at h
  simp only [Bool.and_eq_true, Bool.or_eq_true, decide_eq_true_eq] at h
  have := h.2.1.2
  omega
theorem q17 {g : aK} (h : okB g = true) (hk : g.kind = 3) : (1 ≤ g.days ∧ g.days ≤ 1000000) ∧ (0 ≤ g.from_ ∧ g.from_ ≤ 1000000) := by
 have := (bP h).2.1
 unfold E6 at this
 rw [hk] at this
 simp [aM] at this
 omega
theorem Rz {g k : aK} (h : okB g = true) (hk : k ∈ g.kids) : k.kind ≤ qF g.kind := by
 unfold okB dU at h
 simp only [Bool.and_eq_true] at h
 have h3 := h.2.2
 rw [Bool.not_eq_true', List.any_eq_false] at h3
 have := h3 _ hk
 simp at this
 omega
theorem Pe (n : Nat) (hn : n ≤ 16) (l : List aD) (hln : l.length = n) (hE : ∀ e ∈ l, 0 ≤ e.at_ ∧ e.at_ ≤ 1000000) (hlk : ∀ e ∈ l, -4 ≤ e.look ∧ e.look ≤ 4) (hL : ∀ e ∈ l, jM e) (w : aK) {K : Obj} {B : List Nd} (hB : WFN n B) (hK : aU K B) (hl : B.length ≤ 994000000000) (g : aK) {d m : Int} (hs : cB g d = some m) (hk : g.kind ≤ 3) :
  ∃ B' K' s, CR n B 604000000 (fun σ => lE g l (wC0 l w σ)) B' K' s ∧ aG Tryz.prog Dc 26 [.ptr 2 0, aP g, xY] (hC0 n l w K B) (iS s) (dC0 n l w K' B') := by
 obtain ⟨hok, hd, q, hq, _⟩ := cR hs
 have hk1 := (bP hok).1
 by_cases k1 : g.kind = 1
 ·obtain ⟨B', K', s, h1, h2⟩ := q0y n hn l hln hE hL w hB hK hl g k1 (A0 hok)
  exact ⟨B', K', s, h1.weaken (by omega) fun σ => rfl, h2⟩
 have ho := uA hok k1 (by omega) (by omega)
 obtain ⟨x, hx, _⟩ := bX hq (iY ho)
 obtain ⟨hok2, _⟩ := cR hx
 have hrow := A0 hok2
 by_cases k2 : g.kind = 2
 ·obtain ⟨B', K', s, h1, h2⟩ := Wn n hn l hln hE hlk hL w hB hK hl g ho hrow
  refine ⟨B', K', s, h1.weaken (Nat.le_refl _) fun σ => by unfold lE; rw [if_neg k1, if_pos k2], ?_⟩
  refine aC Ax aF Tryz.func26 (c := _) rfl Tryz.call26 300 ?_
  (repeat' ((conv => whnf); first | (exfalso; omega) | refine chC [some 0, some 1, some 2, some 3] h2 ?_ | exact enC [some 0, some 1, some 2, some 3, some 7] | refine x0C ?_ | refine spC (fun hb => ?_) fun hb => ?_ | refine aJ (fun hb => ?_) ?_ | refine taC ?_ | refine saC ?_ | exact sdV | refine aA ?_ ?_ | refine aB mixed ?_))
 ·have k3 : g.kind = 3 := by omega
  have hdy := q17 hok k3
  obtain ⟨B', K', s, h1, h2⟩ := Ut n hn l hln hE hL w hB hK hl g ho hrow hdy.1 (lT hok k3) hdy.2
  refine ⟨B', K', s, h1.weaken (by omega) fun σ => by unfold lE; rw [if_neg k1, if_neg k2], ?_⟩
  refine aC Ax aF Tryz.func26 (c := _) rfl Tryz.call26 300 ?_
  (repeat' ((conv => whnf); first | (exfalso; omega) | refine chC [some 0, some 1, some 2, some 3] h2 ?_ | exact enC [some 0, some 1, some 2, some 3, some 7] | refine x0C ?_ | refine spC (fun hb => ?_) fun hb => ?_ | refine aJ (fun hb => ?_) ?_ | refine taC ?_ | refine saC ?_ | exact sdV | refine aA ?_ ?_ | refine aB mixed ?_))
theorem Xy (n : Nat) (hn : n ≤ 16) (l : List aD) (hln : l.length = n) (hE : ∀ e ∈ l, 0 ≤ e.at_ ∧ e.at_ ≤ 1000000) (hlk : ∀ e ∈ l, -4 ≤ e.look ∧ e.look ≤ 4) (hL : ∀ e ∈ l, jM e) (w : aK) {K : Obj} {B : List Nd} (hB : WFN n B) (hK : aU K B) (hl : B.length ≤ 994000000000) (g : aK) {d m : Int} (hs : cB g d = some m) (hk : g.kind ≤ 3) :
  ∃ B' K' s, CR n B 604000000 (fun σ => lE g l (wC1 l w σ)) B' K' s ∧ aG Tryz.prog Dc 26 [.ptr 2 0, aP g, Vj] (hC1 n l w K B) (iS s) (dC1 n l w K' B') := by
 obtain ⟨hok, hd, q, hq, _⟩ := cR hs
 have hk1 := (bP hok).1
 by_cases k1 : g.kind = 1
 ·obtain ⟨B', K', s, h1, h2⟩ := q08 n hn l hln hE hL w hB hK hl g k1 (A0 hok)
  exact ⟨B', K', s, h1.weaken (by omega) fun σ => rfl, h2⟩
 have ho := uA hok k1 (by omega) (by omega)
 obtain ⟨x, hx, _⟩ := bX hq (iY ho)
 obtain ⟨hok2, _⟩ := cR hx
 have hrow := A0 hok2
 by_cases k2 : g.kind = 2
 ·obtain ⟨B', K', s, h1, h2⟩ := Wt n hn l hln hE hlk hL w hB hK hl g ho hrow
  refine ⟨B', K', s, h1.weaken (Nat.le_refl _) fun σ => by unfold lE; rw [if_neg k1, if_pos k2], ?_⟩
  refine aC Ax aF Tryz.func26 (c := _) rfl Tryz.call26 300 ?_
  (repeat' ((conv => whnf); first | (exfalso; omega) | refine chC [some 0, some 1, some 2, some 3, some 4, some 5, some 6] h2 ?_ | exact enC [some 0, some 1, some 2, some 3, some 4, some 5, some 6, some 10] | refine x0C ?_ | refine spC (fun hb => ?_) fun hb => ?_ | refine aJ (fun hb => ?_) ?_ | refine taC ?_ | refine saC ?_ | exact sdV | refine aA ?_ ?_ | refine aB mixed ?_))
 ·have k3 : g.kind = 3 := by omega
  have hdy := q17 hok k3
  obtain ⟨B', K', s, h1, h2⟩ := Uv n hn l hln hE hL w hB hK hl g ho hrow hdy.1 (lT hok k3) hdy.2
  refine ⟨B', K', s, h1.weaken (by omega) fun σ => by unfold lE; rw [if_neg k1, if_neg k2], ?_⟩
  refine aC Ax aF Tryz.func26 (c := _) rfl Tryz.call26 300 ?_
  (repeat' ((conv => whnf); first | (exfalso; omega) | refine chC [some 0, some 1, some 2, some 3, some 4, some 5, some 6] h2 ?_ | exact enC [some 0, some 1, some 2, some 3, some 4, some 5, some 6, some 10] | refine x0C ?_ | refine spC (fun hb => ?_) fun hb => ?_ | refine aJ (fun hb => ?_) ?_ | refine taC ?_ | refine saC ?_ | exact sdV | refine aA ?_ ?_ | refine aB mixed ?_))
theorem Nj (n : Nat) (hn : n ≤ 16) (l : List aD) (hln : l.length = n) (hE : ∀ e ∈ l, 0 ≤ e.at_ ∧ e.at_ ≤ 1000000) (hlk : ∀ e ∈ l, -4 ≤ e.look ∧ e.look ≤ 4) (hL : ∀ e ∈ l, jM e) (w : aK) {K : Obj} {B : List Nd} (hB : WFN n B) (hK : aU K B) (hl : B.length ≤ 994000000000) (g : aK) {d m : Int} (hs : cB g d = some m) (hk : g.kind = 4) :
  ∃ B' K' s, CR n B 604000000 (fun σ => lE (eC g.kids) l (fun i => σ i && Kq l (fun j => σ j) g.within i)) B' K' s ∧ aG Tryz.prog Dc 26 [.ptr 2 0, aP g, xY] (hC0 n l w K B) (iS s) (dC0 n l w K' B') := by
 obtain ⟨hok, hd, q, hq, _⟩ := cR hs
 have ho := uA hok (by omega) (by omega) (by omega)
 obtain ⟨x, hx, _⟩ := bX hq (iY ho)
 have hk3 := Rz hok (iY ho)
 rw [hk] at hk3
 obtain ⟨B', K', s, h1, h2⟩ := Xy n hn l hln hE hlk hL g hB hK hl (eC g.kids) hx hk3
 refine ⟨B', K', s, h1, ?_⟩
 have h3 : aG Tryz.prog Dc 26 [.ptr 2 0, aP (g.kids.getD (Int.toNat 0) (Cd.dflt U.goal)), Vj] (hC1 n l g K B) (iS s) (dC1 n l g K' B') := h2
 refine aC Ax aF Tryz.func26 (c := _) rfl Tryz.call26 300 ?_
 (repeat' ((conv => whnf); first | (exfalso; omega) | refine dxC ?_ | refine dcm [some 0, some 1, some 2, some 3, some 4, some 6, some 5] [2, 4, 5, 6] h3 ?_ | exact enC [some 0, some 1, some 2, some 3, some 7] | refine x0C ?_ | refine spC (fun hb => ?_) fun hb => ?_ | refine aJ (fun hb => ?_) ?_ | refine taC ?_ | refine saC ?_ | exact sdV | refine aA ?_ ?_ | refine aB mixed ?_))
theorem xE (l : List aD) (σ : Nat → Bool) : ∀ ks : List aK, metAllC ks l σ = ks.all fun k => Q3 k l σ
 | [] => by rw [metAllC]; rfl
 | k :: ks => by rw [metAllC, xE l σ ks]; rfl
theorem yB (l : List aD) (σ : Nat → Bool) : ∀ ks : List aK, metAnyC ks l σ = ks.any fun k => Q3 k l σ
 | [] => by rw [metAnyC]; rfl
 | k :: ks => by rw [metAnyC, yB l σ ks]; rfl
def Ep (S : List aK) (i : Nat) : aK := S.getD i (Cd.dflt U.goal)
theorem sP {S : List aK} {i : Nat} (h : i < S.length) : S[i]? = some (Ep S i) := by
 unfold Ep
 rw [List.getD_eq_getElem?_getD, List.getElem?_eq_getElem h]; rfl
@[reducible] def fH (n : Int) (l : List aD) (K : Obj) (B : List Nd) : List (HS Cd) := [.vart none [iS n, .slice 3 0 3 0 B.length, .mapp 1], .obj K, .vart none [.ptr 0 0, eS l], .rows U.node B, .vart none [.ptr 2 0], .vart none [xY]]
@[reducible] def fD (n : Int) (l : List aD) (K : Obj) (B : List Nd) : List (HS Cd) := [.vart none [iS n, .slice 6 0 3 0 B.length, .mapp 1], .obj K, .vart none [.ptr 0 0, eS l], .dead, .vart none [.ptr 2 0], .vart none [xY], .rows U.node B]
theorem Ry (n : Nat) (hn : n ≤ 16) (S : List aK) (hS : S.length ≤ 4) (G : Nat) (sp : aK → (Int → Bool) → Bool) (Q : Obj → List Nd → aK → Obj → List Nd → Int → Prop) {B : List Nd} (hl : B.length + 4 * (G + 65536) ≤ 994000000000)
  (hc : ∀ (K : Obj) (B' : List Nd) (g : aK), WFN n B' → aU K B' → g ∈ S → B'.length + G ≤ 994000000000 → ∃ B'' K' s, CR n B' G (sp g) B'' K' s ∧ Q K B' g K' B'' s)
  {K : Obj} (hB : WFN n B) (hK : aU K B) :
  ∃ f : Nat → BS3, f 0 = (B, K, -2) ∧ (∀ i, i ≤ S.length → CR n B (i * (G + 65536)) (fun σ => (S.take i).all fun g => sp g σ) (f i).1 (f i).2.1 (f i).2.2) ∧
   ∀ i, i < S.length → ∃ B1 K1 s1, Q (f i).2.1 (f i).1 (Ep S i) K1 B1 s1 ∧ aG Tryz.prog Dc 55 [.ptr 0 0, iS (f i).2.2, iS s1] (bdH n K1 B1) (iS (f (i + 1)).2.2) (bdD n (f (i + 1)).2.1 (f (i + 1)).1) := by
 have hst : St B.length (-2) := ⟨by omega, by omega⟩
 refine dP (n := S.length) (P := fun i (a : BS3) => CR n B (i * (G + 65536)) (fun σ => (S.take i).all fun g => sp g σ) a.1 a.2.1 a.2.2)
  (R := fun i (a b : BS3) => ∃ B1 K1 s1, Q a.2.1 a.1 (Ep S i) K1 B1 s1 ∧ aG Tryz.prog Dc 55 [.ptr 0 0, iS a.2.2, iS s1] (bdH n K1 B1) (iS b.2.2) (bdD n b.2.1 b.1))
  (B, K, -2) ⟨hB, List.prefix_refl _, hst, fun σ => cN (s := -2) (by omega), by simp, hK⟩ fun i a hi h => ?_
 have hm : Ep S i ∈ S := List.mem_of_getElem? (sP hi)
 have hlen2 : a.1.length + (G + 65536) ≤ B.length + 4 * (G + 65536) := by
  exact Nat.le_trans (Nat.add_le_add_right h.len _) (by rw [Nat.add_assoc, ← Nat.succ_mul]; exact Nat.add_le_add_left (Nat.mul_le_mul_right _ (by omega)) _)
 have hX : a.1.length + G ≤ 994000000000 := Nat.le_trans (Nat.le_trans (Nat.add_le_add_left (Nat.le_add_right G 65536) _) hlen2) hl
 clear hlen2 hl
 obtain ⟨B1, K1, s1, c1, m1⟩ := hc a.2.1 a.1 (Ep S i) h.wf h.known hm hX
 obtain ⟨o1, o2⟩ := c1.old h
 have hlen1 := c1.len
 obtain ⟨B2, K2, s2, c2, m2⟩ := Zc n hn c1.wf c1.known a.2.2 s1 o1 c1.st (by omega)
 refine ⟨(B2, K2, s2), ((c2.after c1).after h).weaken (by rw [Nat.succ_mul]; exact Nat.le_refl _) fun σ => ?_, B1, K1, s1, m1, m2⟩
 rw [C8, o2, c1.sem, List.take_add_one, sP hi]
 simp
theorem Oj (n : Nat) (l : List aD) {K K' : Obj} {B B' : List Nd} {s : Int} (k : aK) (h : aG Tryz.prog Dc 26 [.ptr 2 0, aP k, xY] (cpH n K B l) (iS s) (cpD n K' B' l)) :
  aG Tryz.prog Dc 58 [aP k, .ptr 4 0, .ptr 5 0] (fH n l K B) (iS s) (fD n l K' B') := by
 refine aC Ax aF Tryz.func58 (c := _) rfl Tryz.call58 100 ?_
 (repeat' ((conv => whnf); first | (exfalso; omega) | refine dxC ?_ | refine dcm [some 0, some 1, some 2, some 3] [2] h ?_ | refine chC [some 0, some 1, some 2, some 3] h ?_ | exact enC [some 0, some 1, some 2, some 3, some 4, some 5, some 7] | refine x0C ?_ | refine spC (fun hb => ?_) fun hb => ?_ | refine aJ (fun hb => ?_) ?_ | refine taC ?_ | refine saC ?_ | exact sdV | refine aA ?_ ?_ | refine aB mixed ?_))
theorem Gz (n : Nat) (hn : n ≤ 16) (l : List aD) (S : List aK) (hS : S.length ≤ 4) (G : Nat) {B : List Nd} (hl : B.length + 4 * (G + 65536) ≤ 994000000000)
  (hc : ∀ (K : Obj) (B' : List Nd) (g : aK), WFN n B' → aU K B' → g ∈ S → B'.length + G ≤ 994000000000 → ∃ B'' K' s, CR n B' G (fun σ => Q3 g l (fun j => σ j)) B'' K' s ∧ aG Tryz.prog Dc 26 [.ptr 2 0, aP g, xY] (cpH n K B' l) (iS s) (cpD n K' B'' l))
  {K : Obj} (hB : WFN n B) (hK : aU K B) :
  ∃ B' K' s, CR n B (4 * (G + 65536)) (fun σ => S.all fun g => Q3 g l (fun j => σ j)) B' K' s ∧ aG Tryz.prog Dc 57 [.p (.dsl U.goal S), iS (-2), .fn (.func 55) [.ptr 0 0] [], .fn (.func 58) [] [.ptr 4 0, .ptr 5 0]] (fH n l K B) (iS s) (fD n l K' B') := by
 obtain ⟨f, hf0, hfP, hfR⟩ := Ry n hn S hS G (fun g σ => Q3 g l (fun j => σ j)) (fun K B g K' B' s => aG Tryz.prog Dc 26 [.ptr 2 0, aP g, xY] (cpH n K B l) (iS s) (cpD n K' B' l)) hl hc hB hK
 have hend := hfP _ (Nat.le_refl _)
 rw [List.take_length] at hend
 refine ⟨_, _, _, hend.weaken (Nat.mul_le_mul_right _ hS) fun σ => rfl, ?_⟩
 have hK0 : (f 0).2.1 = K := by rw [hf0]
 have hB0 : (f 0).1 = B := by rw [hf0]
 have hs0 : (f 0).2.2 = -2 := by rw [hf0]
 rw [← hK0, ← hB0]
 refine aC Ax aF Tryz.func57 (c := _) rfl Tryz.call57 300 ?_
 clear hl hc
 (repeat' ((conv => whnf); first | (exfalso; omega) | refine x0C ?_ | refine spC (fun hb => ?_) fun hb => ?_ | refine aJ (fun hb => ?_) ?_ | refine taC ?_ | refine saC ?_ | exact sdV | refine aA ?_ ?_ | refine aB mixed ?_))
 refine aT [some 0, some 1, some 2, none, some 4, some 5, some 3] (fun i : Nat => [(1, iS (f i).2.2), (13, iS i)]) (fun i => [(0, .vart none [iS n, .slice 6 0 3 0 (f i).1.length, .mapp 1]), (1, .obj (f i).2.1), (3, .dead), (6, .rows U.node (f i).1)]) (fun i => i ≤ S.length) (fun i => S.length - i) 0 (Nat.zero_le _) (by exact bkI) ?_
 intro i hi KK hKK
 rcases Nat.lt_or_ge i S.length with hlt | hge
 ·obtain ⟨B1, K1, s1, m1, m2⟩ := hfR i hlt
  have hg : S.getD (i : Int).toNat (Cd.dflt U.goal) = Ep S i := by rw [Int.toNat_natCast]; rfl
  rw [← hg] at m1
  have m1' := Oj n l _ m1
  clear hfR hfP hend m1
  (repeat' ((conv => whnf); first | (exfalso; omega) | refine dxC ?_ | refine chC [some 0, some 1, some 2, some 6, some 4, some 5] m1' ?_ | refine chC [some 0, some 1, some 8] m2 ?_ | refine hKK (i + 1) [some 0, some 1, some 2, some 3, some 4, some 5, some 9] _ _ ⟨by omega⟩ ⟨by omega⟩ (by exact bkI) | refine x0C ?_ | refine spC (fun hb => ?_) fun hb => ?_ | refine aJ (fun hb => ?_) ?_ | refine taC ?_ | refine saC ?_ | exact sdV | refine aA ?_ ?_ | refine aB mixed ?_))
 ·have hiS : i = S.length := by omega
  subst hiS
  (repeat' ((conv => whnf); first | (exfalso; omega) | exact enC [some 0, some 1, some 2, some 3, some 4, some 5, some 6] | refine x0C ?_ | refine spC (fun hb => ?_) fun hb => ?_ | refine aJ (fun hb => ?_) ?_ | refine taC ?_ | refine saC ?_ | exact sdV | refine aA ?_ ?_ | refine aB mixed ?_))
theorem Yh (n : Nat) (hn : n ≤ 16) (S : List aK) (hS : S.length ≤ 4) (G : Nat) (sp : aK → (Int → Bool) → Bool) (Q : Obj → List Nd → aK → Obj → List Nd → Int → Prop) {B : List Nd} (hl : B.length + 4 * (G + 65536) ≤ 994000000000)
  (hc : ∀ (K : Obj) (B' : List Nd) (g : aK), WFN n B' → aU K B' → g ∈ S → B'.length + G ≤ 994000000000 → ∃ B'' K' s, CR n B' G (sp g) B'' K' s ∧ Q K B' g K' B'' s)
  {K : Obj} (hB : WFN n B) (hK : aU K B) :
  ∃ f : Nat → BS3, f 0 = (B, K, -1) ∧ (∀ i, i ≤ S.length → CR n B (i * (G + 65536)) (fun σ => (S.take i).any fun g => sp g σ) (f i).1 (f i).2.1 (f i).2.2) ∧
   ∀ i, i < S.length → ∃ B1 K1 s1, Q (f i).2.1 (f i).1 (Ep S i) K1 B1 s1 ∧ aG Tryz.prog Dc 51 [.ptr 0 0, iS (f i).2.2, iS s1] (bdH n K1 B1) (iS (f (i + 1)).2.2) (bdD n (f (i + 1)).2.1 (f (i + 1)).1) := by
 have hst : St B.length (-1) := ⟨by omega, by omega⟩
 refine dP (n := S.length) (P := fun i (a : BS3) => CR n B (i * (G + 65536)) (fun σ => (S.take i).any fun g => sp g σ) a.1 a.2.1 a.2.2)
  (R := fun i (a b : BS3) => ∃ B1 K1 s1, Q a.2.1 a.1 (Ep S i) K1 B1 s1 ∧ aG Tryz.prog Dc 51 [.ptr 0 0, iS a.2.2, iS s1] (bdH n K1 B1) (iS b.2.2) (bdD n b.2.1 b.1))
  (B, K, -1) ⟨hB, List.prefix_refl _, hst, fun σ => cN (s := -1) (by omega), by simp, hK⟩ fun i a hi h => ?_
 have hm : Ep S i ∈ S := List.mem_of_getElem? (sP hi)
 have hlen2 : a.1.length + (G + 65536) ≤ B.length + 4 * (G + 65536) := by
  exact Nat.le_trans (Nat.add_le_add_right h.len _) (by rw [Nat.add_assoc, ← Nat.succ_mul]; exact Nat.add_le_add_left (Nat.mul_le_mul_right _ (by omega)) _)
 have hX : a.1.length + G ≤ 994000000000 := Nat.le_trans (Nat.le_trans (Nat.add_le_add_left (Nat.le_add_right G 65536) _) hlen2) hl
 clear hlen2 hl
 obtain ⟨B1, K1, s1, c1, m1⟩ := hc a.2.1 a.1 (Ep S i) h.wf h.known hm hX
 obtain ⟨o1, o2⟩ := c1.old h
 have hlen1 := c1.len
 obtain ⟨B2, K2, s2, c2, m2⟩ := cor n hn c1.wf c1.known a.2.2 s1 o1 c1.st (by omega)
 refine ⟨(B2, K2, s2), ((c2.after c1).after h).weaken (by rw [Nat.succ_mul]; exact Nat.le_refl _) fun σ => ?_, B1, K1, s1, m1, m2⟩
 rw [wU, o2, c1.sem, List.take_add_one, sP hi]
 simp
theorem Tb (n : Nat) (l : List aD) {K K' : Obj} {B B' : List Nd} {s : Int} (k : aK) (h : aG Tryz.prog Dc 26 [.ptr 2 0, aP k, xY] (cpH n K B l) (iS s) (cpD n K' B' l)) :
  aG Tryz.prog Dc 59 [aP k, .ptr 4 0, .ptr 5 0] (fH n l K B) (iS s) (fD n l K' B') := by
 refine aC Ax aF Tryz.func59 (c := _) rfl Tryz.call59 100 ?_
 (repeat' ((conv => whnf); first | (exfalso; omega) | refine dxC ?_ | refine dcm [some 0, some 1, some 2, some 3] [2] h ?_ | refine chC [some 0, some 1, some 2, some 3] h ?_ | exact enC [some 0, some 1, some 2, some 3, some 4, some 5, some 7] | refine x0C ?_ | refine spC (fun hb => ?_) fun hb => ?_ | refine aJ (fun hb => ?_) ?_ | refine taC ?_ | refine saC ?_ | exact sdV | refine aA ?_ ?_ | refine aB mixed ?_))
theorem Lq (n : Nat) (hn : n ≤ 16) (l : List aD) (S : List aK) (hS : S.length ≤ 4) (G : Nat) {B : List Nd} (hl : B.length + 4 * (G + 65536) ≤ 994000000000)
  (hc : ∀ (K : Obj) (B' : List Nd) (g : aK), WFN n B' → aU K B' → g ∈ S → B'.length + G ≤ 994000000000 → ∃ B'' K' s, CR n B' G (fun σ => Q3 g l (fun j => σ j)) B'' K' s ∧ aG Tryz.prog Dc 26 [.ptr 2 0, aP g, xY] (cpH n K B' l) (iS s) (cpD n K' B'' l))
  {K : Obj} (hB : WFN n B) (hK : aU K B) :
  ∃ B' K' s, CR n B (4 * (G + 65536)) (fun σ => S.any fun g => Q3 g l (fun j => σ j)) B' K' s ∧ aG Tryz.prog Dc 57 [.p (.dsl U.goal S), iS (-1), .fn (.func 51) [.ptr 0 0] [], .fn (.func 59) [] [.ptr 4 0, .ptr 5 0]] (fH n l K B) (iS s) (fD n l K' B') := by
 obtain ⟨f, hf0, hfP, hfR⟩ := Yh n hn S hS G (fun g σ => Q3 g l (fun j => σ j)) (fun K B g K' B' s => aG Tryz.prog Dc 26 [.ptr 2 0, aP g, xY] (cpH n K B l) (iS s) (cpD n K' B' l)) hl hc hB hK
 have hend := hfP _ (Nat.le_refl _)
 rw [List.take_length] at hend
 refine ⟨_, _, _, hend.weaken (Nat.mul_le_mul_right _ hS) fun σ => rfl, ?_⟩
 have hK0 : (f 0).2.1 = K := by rw [hf0]
 have hB0 : (f 0).1 = B := by rw [hf0]
 have hs0 : (f 0).2.2 = -1 := by rw [hf0]
 rw [← hK0, ← hB0]
 refine aC Ax aF Tryz.func57 (c := _) rfl Tryz.call57 300 ?_
 clear hl hc
 (repeat' ((conv => whnf); first | (exfalso; omega) | refine x0C ?_ | refine spC (fun hb => ?_) fun hb => ?_ | refine aJ (fun hb => ?_) ?_ | refine taC ?_ | refine saC ?_ | exact sdV | refine aA ?_ ?_ | refine aB mixed ?_))
 refine aT [some 0, some 1, some 2, none, some 4, some 5, some 3] (fun i : Nat => [(1, iS (f i).2.2), (13, iS i)]) (fun i => [(0, .vart none [iS n, .slice 6 0 3 0 (f i).1.length, .mapp 1]), (1, .obj (f i).2.1), (3, .dead), (6, .rows U.node (f i).1)]) (fun i => i ≤ S.length) (fun i => S.length - i) 0 (Nat.zero_le _) (by exact bkI) ?_
 intro i hi KK hKK
 rcases Nat.lt_or_ge i S.length with hlt | hge
 ·obtain ⟨B1, K1, s1, m1, m2⟩ := hfR i hlt
  have hg : S.getD (i : Int).toNat (Cd.dflt U.goal) = Ep S i := by rw [Int.toNat_natCast]; rfl
  rw [← hg] at m1
  have m1' := Tb n l _ m1
  clear hfR hfP hend m1
  (repeat' ((conv => whnf); first | (exfalso; omega) | refine dxC ?_ | refine chC [some 0, some 1, some 2, some 6, some 4, some 5] m1' ?_ | refine chC [some 0, some 1, some 8] m2 ?_ | refine hKK (i + 1) [some 0, some 1, some 2, some 3, some 4, some 5, some 9] _ _ ⟨by omega⟩ ⟨by omega⟩ (by exact bkI) | refine x0C ?_ | refine spC (fun hb => ?_) fun hb => ?_ | refine aJ (fun hb => ?_) ?_ | refine taC ?_ | refine saC ?_ | exact sdV | refine aA ?_ ?_ | refine aB mixed ?_))
 ·have hiS : i = S.length := by omega
  subst hiS
  (repeat' ((conv => whnf); first | (exfalso; omega) | exact enC [some 0, some 1, some 2, some 3, some 4, some 5, some 6] | refine x0C ?_ | refine spC (fun hb => ?_) fun hb => ?_ | refine aJ (fun hb => ?_) ?_ | refine taC ?_ | refine saC ?_ | exact sdV | refine aA ?_ ?_ | refine aB mixed ?_))
theorem Rr (n : Nat) (l : List aD) (w : aK) {K K' : Obj} {B B' : List Nd} {s : Int} (g : aK) (hk : g.kind = 5) (h : aG Tryz.prog Dc 57 [.p (.dsl U.goal g.kids), iS (-2), .fn (.func 55) [.ptr 0 0] [], .fn (.func 58) [] [.ptr 4 0, .ptr 5 0]] (fH n l K B) (iS s) (fD n l K' B')) :
  aG Tryz.prog Dc 26 [.ptr 2 0, aP g, xY] (hC0 n l w K B) (iS s) (dC0 n l w K' B') := by
 refine aC Ax aF Tryz.func26 (c := _) rfl Tryz.call26 300 ?_
 (repeat' ((conv => whnf); first | (exfalso; omega) | refine dxC ?_ | refine dcm [some 0, some 1, some 2, some 3, some 4, some 6] [2, 4, 5] h ?_ | exact enC [some 0, some 1, some 2, some 3, some 7] | refine x0C ?_ | refine spC (fun hb => ?_) fun hb => ?_ | refine aJ (fun hb => ?_) ?_ | refine taC ?_ | refine saC ?_ | exact sdV | refine aA ?_ ?_ | refine aB mixed ?_))
theorem Xl (n : Nat) (l : List aD) (w : aK) {K K' : Obj} {B B' : List Nd} {s : Int} (g : aK) (hk : g.kind = 6) (h : aG Tryz.prog Dc 57 [.p (.dsl U.goal g.kids), iS (-1), .fn (.func 51) [.ptr 0 0] [], .fn (.func 59) [] [.ptr 4 0, .ptr 5 0]] (fH n l K B) (iS s) (fD n l K' B')) :
  aG Tryz.prog Dc 26 [.ptr 2 0, aP g, xY] (hC0 n l w K B) (iS s) (dC0 n l w K' B') := by
 refine aC Ax aF Tryz.func26 (c := _) rfl Tryz.call26 300 ?_
 (repeat' ((conv => whnf); first | (exfalso; omega) | refine dxC ?_ | refine dcm [some 0, some 1, some 2, some 3, some 4, some 6] [2, 4, 5] h ?_ | exact enC [some 0, some 1, some 2, some 3, some 7] | refine x0C ?_ | refine spC (fun hb => ?_) fun hb => ?_ | refine aJ (fun hb => ?_) ?_ | refine taC ?_ | refine saC ?_ | exact sdV | refine aA ?_ ?_ | refine aB mixed ?_))
def GB : Nat → Nat
 | 0 => 604000000
 | j + 1 => 4 * (GB j + 65536)
theorem Nq : ∀ j, 604000000 ≤ GB j
 | 0 => Nat.le_refl _
 | j + 1 => by
  have := Nq j
  rw [GB]; omega
theorem q0s (n : Nat) (hn : n ≤ 16) (l : List aD) (hln : l.length = n) (hE : ∀ e ∈ l, 0 ≤ e.at_ ∧ e.at_ ≤ 1000000) (hlk : ∀ e ∈ l, -4 ≤ e.look ∧ e.look ≤ 4) (hL : ∀ e ∈ l, jM e) (w : aK) : ∀ (j : Nat) (g : aK) (d m : Int), 4 ≤ d + j → cB g d = some m → ∀ {K : Obj} {B : List Nd}, WFN n B → aU K B → B.length + GB j ≤ 994000000000 →
  ∃ B' K' s, CR n B (GB j) (fun σ => Q3 g l (fun j => σ j)) B' K' s ∧ aG Tryz.prog Dc 26 [.ptr 2 0, aP g, xY] (cpH n K B l) (iS s) (cpD n K' B' l) := by
 intro j
 induction j with
 | zero =>
  intro g d m hd hs K B hB hK hl
  obtain ⟨hok, hd4, q, hq, _⟩ := cR hs
  have hk := (bP hok).1
  have hl2 : B.length ≤ 994000000000 := by omega
  by_cases k3 : g.kind ≤ 3
  ·obtain ⟨B', K', s, h1, h2⟩ := Pe n hn l hln hE hlk hL w hB hK hl2 g hs k3
   refine ⟨B', K', s, h1.weaken (Nq _) fun σ => ?_, h2⟩
   rw [qA, if_pos k3]; rfl
  ·exfalso
   have hne : g.kids ≠ [] := by
    have := (bP hok).2.2.1
    unfold kI at this
    rw [if_neg (by omega)] at this
    intro e
    rw [e] at this
    split at this
    ·simp [aM] at this
    ·simp at this
   cases hks : g.kids with
   | nil => exact hne hks
   | cons k ks =>
    rw [hks] at hq
    obtain ⟨x, hx, _⟩ := bX hq (List.mem_cons_self ..)
    have := (cR hx).2.1
    omega
 | succ j ih =>
  intro g d m hd hs K B hB hK hl
  obtain ⟨hok, hd4, q, hq, _⟩ := cR hs
  have hk := (bP hok).1
  have hl2 : B.length ≤ 994000000000 := by omega
  by_cases k3 : g.kind ≤ 3
  ·obtain ⟨B', K', s, h1, h2⟩ := Pe n hn l hln hE hlk hL w hB hK hl2 g hs k3
   refine ⟨B', K', s, h1.weaken (Nq _) fun σ => ?_, h2⟩
   rw [qA, if_pos k3]; rfl
  by_cases k4 : g.kind = 4
  ·obtain ⟨B', K', s, h1, h2⟩ := Nj n hn l hln hE hlk hL w hB hK hl2 g hs k4
   refine ⟨B', K', s, h1.weaken (Nq _) fun σ => ?_, h2⟩
   rw [qA, if_neg k3, if_pos k4]
  have hc : ∀ (K : Obj) (B' : List Nd) (k : aK), WFN n B' → aU K B' → k ∈ g.kids → B'.length + GB j ≤ 994000000000 → ∃ B'' K' s, CR n B' (GB j) (fun σ => Q3 k l (fun j => σ j)) B'' K' s ∧ aG Tryz.prog Dc 26 [.ptr 2 0, aP k, xY] (cpH n K B' l) (iS s) (cpD n K' B'' l) := fun K B' k h1 h2 h3 h4 => by
   obtain ⟨x, hx, _⟩ := bX hq h3
   exact ih k (d + 1) x (by omega) hx h1 h2 h4
  have h4 := zG hok
  by_cases k5 : g.kind = 5
  ·obtain ⟨B', K', s, h1, h2⟩ := Gz n hn l g.kids h4 (GB j) hl hc hB hK
   refine ⟨B', K', s, h1.weaken (Nat.le_refl _) fun σ => ?_, Rr n l w g k5 h2⟩
   rw [qA, if_neg k3, if_neg k4, if_pos k5, xE]
  ·obtain ⟨B', K', s, h1, h2⟩ := Lq n hn l g.kids h4 (GB j) hl hc hB hK
   refine ⟨B', K', s, h1.weaken (Nat.le_refl _) fun σ => ?_, Xl n l w g (by omega) h2⟩
   rw [qA, if_neg k3, if_neg k4, if_neg k5, yB]
theorem Ou (l : List aD) (hl : l.length ≤ 10) (hv : aX l = true) (hE : ∀ e ∈ l, 0 ≤ e.at_ ∧ e.at_ ≤ 1000000) (hlk : ∀ e ∈ l, -4 ≤ e.look ∧ e.look ≤ 4) (hL : ∀ e ∈ l, jM e) (hi : ∀ e ∈ l, e.image ≤ 63) (g : aK) (hg : cA g = true) (hG : oN g) {m : Int} (hs : cB g 1 = some m) :
  ∃ N k, R6 l.length N k ∧ (∀ σ, cM σ N k = Q3 g l (fun j => σ j)) ∧ aG Tryz.prog Dc 6 [aP g, eS l] [] (.tuple [wJ l.length k N, iS 0]) [] := by
 have h1 := jV g hG
 rw [hg] at h1
 have h2 := Tw l hv hL (by omega) hi
 have h3 := Oy l.length
 obtain ⟨B, K, s, c, h4⟩ := q0s l.length (by omega) l rfl hE hlk hL g 3 g 1 m (by omega) hs (K := .map #[] 0) (B := []) (Qz _) ⟨_, _, rfl, J4⟩ (show 0 + GB 3 ≤ 994000000000 by simp [GB])
 have hlen : B.length ≤ 1000000000000 := Nat.le_trans c.len (show 0 + GB 3 ≤ 1000000000000 by simp [GB])
 obtain ⟨N, k, n1, n2, h5⟩ := q0x l.length hl c.wf hlen s c.st (K := K)
 refine ⟨N, k, n1, fun σ => (n2 σ).trans (c.sem σ), ?_⟩
 clear c n1 n2 hlen
 refine aC Ax aF Tryz.func6 (c := _) rfl Tryz.call6 300 ?_
 (repeat' ((conv => whnf); first | (exfalso; omega) | refine cpC (h1) ?_ | refine dpC (h1) ?_ | refine cpC (h2) ?_ | refine dpC (h2) ?_ | refine chC [] h3 ?_ | refine dxC ?_ | refine dcm [some 2, some 3, some 5, some 4] [5] h4 ?_ | refine dcm [some 2, some 3, some 6] [2, 3, 6] h5 ?_ | refine chC [some 2, some 3, some 6] h5 ?_ | refine x0C ?_ | refine spC (fun hb => ?_) fun hb => ?_ | refine aJ (fun hb => ?_) ?_ | refine taC ?_ | refine saC ?_ | exact sdV | refine aA ?_ ?_ | refine aB mixed ?_))
 all_goals exact vwV
end Go.SX
namespace Go.SX
theorem uW {C : Cod} {o : Op} {vals : List (SV C)} {hs : List (Nat × HS C)} {Y Z : Prop} (h : L0 o vals hs Y) : L0 o vals hs (Y ∨ Z) := ⟨.inl h.h⟩
end Go.SX
namespace Go.SX
open Go.Proofs
set_option maxHeartbeats 400000000
set_option maxRecDepth 100000
def mR : List Int → Nat → List MapEntry
 | [], _ => []
 | k :: l, s => ⟨.int .i64 k, .bool true, s⟩ :: mR l (s + 1)
theorem uX (k : Int) : ∀ (l : List Int) (s : Nat), mR (l ++ [k]) s = mR l s ++ [⟨.int .i64 k, .bool true, s + l.length⟩]
 | [], s => rfl
 | x :: l, s => by simp only [List.cons_append, mR, uX k l (s + 1), List.length_cons]; rw [show s + 1 + l.length = s + (l.length + 1) by omega]
theorem pY (n : Int) : ∀ (l : List Int) (s i : Nat), (n ∈ l → ∃ j, Instr.findNow (.int .i64) (.int .i64 n) (mR l s) i = some (some (j, .bool true))) ∧ (n ∉ l → Instr.findNow (.int .i64) (.int .i64 n) (mR l s) i = some none)
 | [], s, i => ⟨fun h => by simp at h, fun _ => rfl⟩
 | x :: l, s, i => by
  have ih := pY n l (s + 1) (i + 1)
  simp only [mR, Instr.findNow, Instr.sameNow, if_true]
  by_cases hx : n = x
  ·subst hx
   simp
  ·have : (n == x) = false := by simpa using hx
   rw [this]
   exact ⟨fun h => ih.1 (by simpa [hx] using h), fun h => ih.2 (by simp [hx] at h; exact h)⟩
def Rb (l : List Int) : Obj := .map (mR l 0).toArray l.length
theorem iC (l : List aD) (hl : (l.length : Int) ≤ 9223372036854775807) (hE : ∀ e ∈ l, jM e) : aG Tryz.prog Dc 19 [eS l] [] (bS (aX l)) [] := by
 refine aC Ax aF Tryz.func19 (c := _) rfl Tryz.call19 400 ?_
 (repeat' ((conv => whnf); first | (exfalso; omega) | refine x0C ?_ | refine spC (fun hb => ?_) fun hb => ?_ | refine aJ (fun hb => ?_) ?_ | refine taC ?_ | refine saC ?_ | exact sdV | refine aA ?_ ?_ | refine aB mixed ?_))
 refine bW (fun i : Nat => [(9, iS i)]) (fun i => [(0, .obj (Rb (hU (l.take i))))]) (fun i => i ≤ l.length ∧ ∀ j, j < i → oM l j = true) (fun i => l.length - i) 0 ⟨Nat.zero_le _, by omega⟩ (by exact bkV) ?_
 rintro i ⟨hi, hall⟩ K hK
 rcases Nat.lt_or_ge i l.length with hlt | hge
 ·have hg := getD_some (d := Cd.dflt U.event) hlt
  have hbad : oM l i = false → aX l = false := fun h => by unfold aX; rw [Fx hlt h, Bool.and_false]
  have hstep : oM l i = true → ∀ j, j < i + 1 → oM l j = true := fun h j hj => by
   rcases Nat.lt_or_ge j i with h1 | h1
   ·exact hall j h1
   ·rw [show j = i by omega]; exact h
  have hok : oM l i = (eJ (l.getD (i : Int).toNat (Cd.dflt U.event)) && (decide (i = 0) || fU (l.getD ((i : Int) - 1).toNat (Cd.dflt U.event)) (l.getD (i : Int).toNat (Cd.dflt U.event))) && !(decide ((l.getD (i : Int).toNat (Cd.dflt U.event)).kind = 1) && wL (l.take i) (l.getD (i : Int).toNat (Cd.dflt U.event)))) := by
   unfold oM evt
   rw [show ((i : Int) - 1).toNat = i - 1 by omega]; rfl
  have hd := Tk (l.take i) (l.getD (i : Int).toNat (Cd.dflt U.event))
  have hf := Kp _ (hE _ (List.mem_of_getElem? hg))
  have hc := yW (l.getD ((i : Int) - 1).toNat (Cd.dflt U.event)) (l.getD (i : Int).toNat (Cd.dflt U.event))
  have hcb : 0 ≤ Jp (l.getD ((i : Int) - 1).toNat (Cd.dflt U.event)) (l.getD (i : Int).toNat (Cd.dflt U.event)) ↔ fU (l.getD ((i : Int) - 1).toNat (Cd.dflt U.event)) (l.getD (i : Int).toNat (Cd.dflt U.event)) = false := by
   have := Ju (l.getD ((i : Int) - 1).toNat (Cd.dflt U.event)) (l.getD (i : Int).toNat (Cd.dflt U.event))
   rw [Bool.eq_iff_iff] at this
   simpa using this
  have b1 : eJ (l.getD (i : Int).toNat (Cd.dflt U.event)) = false → oM l i = false := fun h => by rw [hok, h]; rfl
  have b2 : 0 < (i : Int) → 0 ≤ Jp (l.getD ((i : Int) - 1).toNat (Cd.dflt U.event)) (l.getD (i : Int).toNat (Cd.dflt U.event)) → oM l i = false := fun h1 h2 => by
   rw [hok, decide_eq_false (show ¬ i = 0 by omega), hcb.1 h2, Bool.or_false, Bool.and_false, Bool.false_and]
  have b3 : (l.getD (i : Int).toNat (Cd.dflt U.event)).kind = 1 → wL (l.take i) (l.getD (i : Int).toNat (Cd.dflt U.event)) = true → oM l i = false := fun h1 h2 => by
   rw [hok, decide_eq_true h1, h2]; exact Bool.and_false _
  have b4 : eJ (l.getD (i : Int).toNat (Cd.dflt U.event)) = true → (¬ 0 < (i : Int) ∨ ¬ 0 ≤ Jp (l.getD ((i : Int) - 1).toNat (Cd.dflt U.event)) (l.getD (i : Int).toNat (Cd.dflt U.event))) → (¬ (l.getD (i : Int).toNat (Cd.dflt U.event)).kind = 1 ∨ wL (l.take i) (l.getD (i : Int).toNat (Cd.dflt U.event)) = false) → oM l i = true := fun h1 h2 h3 => by
   rw [hok, h1, Bool.true_and]
   have e1 : (decide (i = 0) || fU (l.getD ((i : Int) - 1).toNat (Cd.dflt U.event)) (l.getD (i : Int).toNat (Cd.dflt U.event))) = true := by
    rcases h2 with h2 | h2
    ·rw [decide_eq_true (show i = 0 by omega)]; rfl
    ·rw [hcb, Bool.not_eq_false] at h2; rw [h2, Bool.or_true]
   rw [e1, Bool.true_and]
   rcases h3 with h3 | h3
   ·rw [decide_eq_false h3]; rfl
   ·rw [h3, Bool.and_false]; rfl
  have hst := Lm hg
  have hsf := Mk hg
  by_cases hm : (l.getD (i : Int).toNat (Cd.dflt U.event)).image ∈ hU (l.take i)
  ·obtain ⟨j, hj⟩ := (pY _ (hU (l.take i)) 0 0).1 hm
   have hdt := hd.2 hm
   (repeat' ((conv => whnf); first | refine x0C (eB ?_ rfl) | (exfalso; omega) | refine cpC (hf) ?_ | refine dpC (hf) ?_ | refine cpC (hc) ?_ | refine dpC (hc) ?_ | refine bM hj ?_ | (refine hK (i + 1) [some 0] _ _ ⟨⟨by omega, hstep ?_⟩⟩ ⟨by omega⟩ (by (rw [hsf (by omega)]; exact bkV))) | refine x0C ?_ | refine spC (fun hb => ?_) fun hb => ?_ | refine aJ (fun hb => ?_) ?_ | refine taC ?_ | refine saC ?_ | exact sdV | refine aA ?_ ?_ | refine aB mixed ?_))
   all_goals first | exact (hbad (b1 (by assumption))).symm | exact (hbad (b2 (by assumption) (by assumption))).symm | exact (hbad (b3 (by assumption) (by assumption))).symm | exact b4 (by assumption) (by first | exact .inl (by assumption) | exact .inr (by assumption)) (by first | exact .inl (by assumption) | exact .inr (by assumption))
  ·have hj := (pY _ (hU (l.take i)) 0 0).2 hm
   have hdf : wL (l.take i) (l.getD (i : Int).toNat (Cd.dflt U.event)) = false := by
    cases h : wL (l.take i) (l.getD (i : Int).toNat (Cd.dflt U.event)) with
    | false => rfl
    | true => exact absurd (hd.1 h) hm
   have hput : ((mR (hU (l.take i)) 0).toArray.push ⟨.int .i64 (l.getD (i : Int).toNat (Cd.dflt U.event)).image, .bool true, (hU (l.take i)).length⟩) = (mR (hU (l.take i) ++ [(l.getD (i : Int).toNat (Cd.dflt U.event)).image]) 0).toArray := by
    rw [uX, List.push_toArray, Nat.zero_add]
   (repeat' ((conv => whnf); first | refine x0C (eB ?_ rfl) | (exfalso; omega) | refine cpC (hf) ?_ | refine dpC (hf) ?_ | refine cpC (hc) ?_ | refine dpC (hc) ?_ | refine bM hj ?_ | (refine hK (i + 1) [some 0] _ _ ⟨⟨by omega, hstep ?_⟩⟩ ⟨by omega⟩ (by (rw [hsf (by omega)]; exact bkV))) | (refine hK (i + 1) [some 0] _ _ ⟨⟨by omega, hstep ?_⟩⟩ ⟨by omega⟩ (by (rw [hst (by omega)]; unfold Rb; rw [← hput, List.length_append]; exact bkV))) | refine x0C ?_ | refine spC (fun hb => ?_) fun hb => ?_ | refine aJ (fun hb => ?_) ?_ | refine taC ?_ | refine saC ?_ | exact sdV | refine aA ?_ ?_ | refine aB mixed ?_))
   all_goals first | exact (hbad (b1 (by assumption))).symm | exact (hbad (b2 (by assumption) (by assumption))).symm | exact (hbad (b3 (by assumption) (by assumption))).symm | exact b4 (by assumption) (by first | exact .inl (by assumption) | exact .inr (by assumption)) (by first | exact .inl (by assumption) | exact .inr (by assumption))
 ·have ho := Ai i hi hall (by omega)
  unfold aX
  rw [ho, Bool.and_true]
  (repeat' ((conv => whnf); first | refine x0C (eB ?_ rfl) | (exfalso; omega) | refine x0C ?_ | refine spC (fun hb => ?_) fun hb => ?_ | refine aJ (fun hb => ?_) ?_ | refine taC ?_ | refine saC ?_ | exact sdV | refine aA ?_ ?_ | refine aB mixed ?_))
  all_goals rfl
theorem Gr (l : List aD) (hl : (l.length : Int) ≤ 1000000) : aG Tryz.prog Dc 126 [eS l] [] (.slice 0 0 7 0 l.length) [.rows U.event l] := by
 refine aC Ax aF Tryz.func126 (c := _) rfl Tryz.call126 60 ?_
 (repeat' ((conv => whnf); first | (exfalso; omega) | (subst hb; exact enC [none]) | exact enC [some 1] | refine x0C ?_ | refine spC (fun hb => ?_) fun hb => ?_ | refine aJ (fun hb => ?_) ?_ | refine taC ?_ | refine saC ?_ | exact sdV | refine aA ?_ ?_ | refine aB mixed ?_))
theorem Z2 (l : List Int) (hl : (l.length : Int) ≤ 1000000) : aG Tryz.prog Dc 92 [lS l] [] (.slice 0 0 1 0 l.length) [.rows U.int l] := by
 refine aC Ax aF Tryz.func92 (c := _) rfl Tryz.call92 60 ?_
 (repeat' ((conv => whnf); first | (exfalso; omega) | (subst hb; exact enC [none]) | exact enC [some 1] | refine x0C ?_ | refine spC (fun hb => ?_) fun hb => ?_ | refine aJ (fun hb => ?_) ?_ | refine taC ?_ | refine saC ?_ | exact sdV | refine aA ?_ ?_ | refine aB mixed ?_))
def jP (p : aD → Bool) (l : List aD) : List aD := l.filter fun e => !p e
theorem lQ (p : aD → Bool) (l : List aD) : (jP p l).length ≤ l.length := List.length_filter_le _ _
theorem K5 {p : aD → Bool} {l : List aD} {j : Nat} {e : aD} (h : l[j]? = some e) : jP p (l.take (j + 1)) = if p e then jP p (l.take j) else jP p (l.take j) ++ [e] := by
 unfold jP
 rw [List.take_add_one, h]
 cases hp : p e <;> simp [List.filter_append, hp]
theorem F4 {p : aD → Bool} {l : List aD} (h : l.any p = false) : jP p l = l := by
 unfold jP
 rw [List.filter_eq_self]
 rw [List.any_eq_false] at h
 intro e he
 simpa using h e he
def iA (p : aD → Bool) (l : List aD) (j : Nat) : List aD := jP p (l.take j) ++ l.drop (jP p (l.take j)).length
theorem F5 (p : aD → Bool) (l : List aD) {j : Nat} (hj : j ≤ l.length) : (iA p l j).length = l.length := by
 have := lQ p (l.take j)
 unfold iA
 simp only [List.length_append, List.length_drop, List.length_take] at *
 omega
theorem Fk (p : aD → Bool) (l : List aD) {j : Nat} (hj : j < l.length) : (iA p l j).getD j (U.dflt .event) = l.getD j (U.dflt .event) := by
 have := lQ p (l.take j)
 simp only [List.length_take] at this
 unfold iA
 simp only [List.getD_eq_getElem?_getD]
 rw [List.getElem?_append_right (by omega), List.getElem?_drop]
 congr 2; omega
theorem Dj {p : aD → Bool} {l : List aD} {j : Nat} (hj : j < l.length) (h : p (l.getD j (U.dflt .event)) = false) :
  (iA p l j).set (jP p (l.take j)).length (l.getD j (U.dflt .event)) = iA p l (j + 1) ∧ (jP p (l.take (j + 1))).length = (jP p (l.take j)).length + 1 := by
 have hg : l[j]? = some (l.getD j (U.dflt .event)) := by rw [List.getD_eq_getElem?_getD, List.getElem?_eq_getElem hj]; rfl
 have hk := K5 (p := p) hg
 rw [h] at hk
 simp only [Bool.false_eq_true, if_false] at hk
 have hle := lQ p (l.take j)
 simp only [List.length_take] at hle
 refine ⟨?_, by rw [hk]; simp⟩
 unfold iA
 rw [hk]
 generalize l.getD j (U.dflt .event) = v at *
 have e : (l.drop (jP p (l.take j)).length).set 0 v = v :: l.drop ((jP p (l.take j)).length + 1) := by
  rw [List.drop_eq_getElem_cons (show (jP p (l.take j)).length < l.length by omega)]; rfl
 rw [List.set_append_right _ _ (Nat.le_refl _), Nat.sub_self, e]
 simp
theorem xK {p : aD → Bool} {l : List aD} {j : Nat} (hj : j < l.length) (h : p (l.getD j (U.dflt .event)) = true) : jP p (l.take (j + 1)) = jP p (l.take j) ∧ iA p l (j + 1) = iA p l j := by
 have hg : l[j]? = some (l.getD j (U.dflt .event)) := by rw [List.getD_eq_getElem?_getD, List.getElem?_eq_getElem hj]; rfl
 have hk := K5 (p := p) hg
 rw [h] at hk
 simp only [if_true] at hk
 exact ⟨hk, by unfold iA; rw [hk]⟩
theorem K6 (p : aD → Bool) (l : List aD) : jP p (l.take l.length) = jP p l := by rw [List.take_length]
theorem X1 (p : aD → Bool) (l : List aD) : iM (iA p l l.length) (List.replicate (l.length - (jP p l).length) (U.dflt .event)) (jP p l).length (l.length - (jP p l).length) = jP p l ++ List.replicate (l.length - (jP p l).length) (U.dflt .event) := by
 have hk := lQ p l
 have hl := F5 p l (Nat.le_refl l.length)
 unfold iM
 rw [List.take_of_length_le (l := List.replicate _ _) (by simp)]
 have h1 : (iA p l l.length).take (jP p l).length = jP p l := by
  unfold iA
  rw [K6, List.take_left']
  rfl
 rw [h1, List.drop_of_length_le (by simp; omega), List.append_nil]
theorem V7 {p : aD → Bool} {l : List aD} {i : Nat} (hi : i < l.length) (h1 : p (l.getD i (U.dflt .event)) = true) (h2 : (l.take i).any p = false) : iA p l (i + 1) = l ∧ (jP p (l.take (i + 1))).length = i := by
 obtain ⟨h3, h4⟩ := xK hi h1
 have hk := F4 h2
 refine ⟨by rw [h4]; unfold iA; rw [hk, List.length_take, Nat.min_eq_left (by omega), List.take_append_drop], by rw [h3, hk, List.length_take]; omega⟩
theorem xC {f : FuncId} {caps : List (SV Cd)} (hc : Es caps) {p : aD → Bool} (l : List aD) (hl : (l.length : Int) ≤ 1000000) (hf : ∀ x ∈ l, aG Tryz.prog Dc f (evA x :: caps) [] (bS (p x)) []) :
  aG Tryz.prog Dc 99 [.slice 0 0 7 0 l.length, .fn (.func f) [] caps] [.rows U.event l] (.slice 0 0 7 0 (jP p l).length) [.rows U.event (jP p l ++ List.replicate (l.length - (jP p l).length) (U.dflt .event))] := by
 have hi := Yt hc l (by omega) hf
 have hkl := lQ p l
 cases ha : l.any p with
 | false =>
  rw [lL ha] at hi
  rw [F4 ha, Nat.sub_self, List.replicate_zero, List.append_nil]
  cases hc <;>
  ·refine aC Ax aF Tryz.func99 (c := _) rfl Tryz.call99 200 ?_
   (repeat' ((conv => whnf); first | (exfalso; omega) | refine rdC (hi) ?_ | exact enC [some 0] | refine x0C ?_ | refine spC (fun hb => ?_) fun hb => ?_ | refine aJ (fun hb => ?_) ?_ | refine taC ?_ | refine saC ?_ | exact sdV | refine aA ?_ ?_ | refine aB mixed ?_))
 | true =>
  obtain ⟨i, hi1, hi2, hi3, hi4⟩ : ∃ i : Nat, i < l.length ∧ Hw p l = i ∧ p (l.getD i (U.dflt .event)) = true ∧ (l.take i).any p = false := by
   cases hx : l.findIdx? p with
   | none =>
    rw [List.findIdx?_eq_none_iff] at hx
    obtain ⟨x, h1, h2⟩ := List.any_eq_true.1 ha
    rw [hx x h1] at h2; cases h2
   | some i =>
    obtain ⟨h1, h2, h3⟩ := List.findIdx?_eq_some_iff_getElem.1 hx
    refine ⟨i, h1, by unfold Hw; rw [hx], by rw [List.getD_eq_getElem?_getD, List.getElem?_eq_getElem h1]; exact h2, ?_⟩
    rw [List.any_eq_false]
    intro x hm
    obtain ⟨j, hj, rfl⟩ := List.getElem_of_mem hm
    simp only [List.length_take] at hj
    rw [List.getElem_take]
    have := h3 j (by omega)
    simpa using this
  rw [hi2] at hi
  obtain ⟨hs1, hs2⟩ := V7 hi1 hi3 hi4
  cases hc <;>
  ·refine aC Ax aF Tryz.func99 (c := _) rfl Tryz.call99 400 ?_
   (repeat' ((conv => whnf); first | (exfalso; omega) | refine rdC (hi) ?_ | refine x0C ?_ | refine spC (fun hb => ?_) fun hb => ?_ | refine aJ (fun hb => ?_) ?_ | refine taC ?_ | refine saC ?_ | exact sdV | refine aA ?_ ?_ | refine aB mixed ?_))
   refine bW (fun j : Nat => [(5, iS (jP p (l.take j)).length), (6, iS j)]) (fun j => [(0, .rows U.event (iA p l j))]) (fun j => j ≤ l.length) (fun j => l.length - j) (i + 1) hi1 (by (rw [hs1, hs2]; exact bkV)) ?_
   intro j hj K hK
   have hz := F5 p l hj
   have hkj := lQ p (l.take j)
   rw [List.length_take] at hkj
   rcases Nat.lt_or_ge j l.length with hlt | hge
   ·have hmg := Fk p l hlt
    have hmem : (iA p l j).getD (0 + (j : Int).toNat) (Cd.dflt U.event) ∈ l := by
     rw [Nat.zero_add, Int.toNat_natCast]
     refine (congrArg (· ∈ l) hmg).mpr ?_
     rw [List.getD_eq_getElem?_getD, List.getElem?_eq_getElem hlt]
     exact List.getElem_mem _
    have hx := hf _ hmem
    cases hp : p ((iA p l j).getD (0 + (j : Int).toNat) (Cd.dflt U.event)) with
    | true =>
     rw [hp] at hx
     have hp' : p (l.getD j (U.dflt .event)) = true := by
      rw [Nat.zero_add, Int.toNat_natCast] at hp
      rw [← hmg]; exact hp
     obtain ⟨e1, e2⟩ := xK hlt hp'
     (repeat' ((conv => whnf); first | (exfalso; omega) | refine cpC (hx) ?_ | refine dpC (hx) ?_ | refine hK (j + 1) [some 0] _ _ ⟨by omega⟩ ⟨by omega⟩ (by (dsimp only; rw [e1, e2]; exact bkV)) | refine x0C ?_ | refine spC (fun hb => ?_) fun hb => ?_ | refine aJ (fun hb => ?_) ?_ | refine taC ?_ | refine saC ?_ | exact sdV | refine aA ?_ ?_ | refine aB mixed ?_))
    | false =>
     rw [hp] at hx
     have hp' : p (l.getD j (U.dflt .event)) = false := by
      rw [Nat.zero_add, Int.toNat_natCast] at hp
      rw [← hmg]; exact hp
     obtain ⟨e1, e2⟩ := Dj hlt hp'
     have e3 : (iA p l j).set (0 + (((jP p (l.take j)).length : Nat) : Int).toNat) ((iA p l j).getD (0 + (j : Int).toNat) (Cd.dflt U.event)) = iA p l (j + 1) := by
      rw [Nat.zero_add, Nat.zero_add, Int.toNat_natCast, Int.toNat_natCast]
      refine Eq.trans ?_ e1
      exact congrArg _ hmg
     (repeat' ((conv => whnf); first | (exfalso; omega) | refine cpC (hx) ?_ | refine dpC (hx) ?_ | refine hK (j + 1) [some 0] _ _ ⟨by omega⟩ ⟨by omega⟩ (by (dsimp only; rw [← e3, e2]; exact bkV)) | refine x0C ?_ | refine spC (fun hb => ?_) fun hb => ?_ | refine aJ (fun hb => ?_) ?_ | refine taC ?_ | refine saC ?_ | exact sdV | refine aA ?_ ?_ | refine aB mixed ?_))
   ·obtain rfl : j = l.length := by omega
    have e4 : iM (iA p l l.length) (List.replicate (((l.length : Nat) : Int).toNat - (((jP p l).length : Nat) : Int).toNat) (Cd.dflt U.event)) (0 + (((jP p l).length : Nat) : Int).toNat) (((l.length : Nat) : Int).toNat - (((jP p l).length : Nat) : Int).toNat) = jP p l ++ List.replicate (l.length - (jP p l).length) (U.dflt .event) := by
     rw [Nat.zero_add, Int.toNat_natCast, Int.toNat_natCast]
     exact X1 p l
    rw [K6, ← e4]
    (repeat' ((conv => whnf); first | (exfalso; omega) | exact enC [some 0] | refine x0C ?_ | refine spC (fun hb => ?_) fun hb => ?_ | refine aJ (fun hb => ?_) ?_ | refine taC ?_ | refine saC ?_ | exact sdV | refine aA ?_ ?_ | refine aB mixed ?_))
theorem Yj (g : aK) (hg : Fu g) (e : aD) (he : jM e) : aG Tryz.prog Dc 127 [evA e, .dptr (Mq g) 0] [] (bS (!gO g e)) [] := by
 have h := Xa g hg e he
 refine aC Ax aF Tryz.func127 (c := _) rfl Tryz.call127 100 ?_
 (repeat' ((conv => whnf); first | refine x0C (eB ?_ rfl) | refine cpC (h) ?_ | refine dpC (h) ?_ | refine x0C ?_ | refine spC (fun hb => ?_) fun hb => ?_ | refine aJ (fun hb => ?_) ?_ | refine taC ?_ | refine saC ?_ | exact sdV | refine aA ?_ ?_ | refine aB mixed ?_))
 all_goals rfl
@[reducible] def bU (l : List aD) (now : Int) : SV Cd := .agg [.p (.dsl U.event l), .p (.int .i64 now)]
theorem Kh (g : aK) (l : List aD) : jP (fun e => !gO g e) l = kU g l := by simp [jP, kU]
theorem nG (g : aK) (hg : Fu g) (l : List aD) (now : Int) (hl : (l.length : Int) ≤ 1000000) (hE : ∀ e ∈ l, jM e) : aG Tryz.prog Dc 94 [bU l now, aP g] [] (eS (kU g l)) [] := by
 have h1 := Gr l hl
 have h2 := xC (f := 127) (.c1 _) l hl fun e he => Yj g hg e (hE e he)
 rw [Kh] at h2
 refine aC Ax aF Tryz.func94 (c := _) rfl Tryz.call94 100 ?_
 (repeat' ((conv => whnf); first | (exfalso; omega) | refine chC [] h1 ?_ | refine x0C ?_ | refine spC (fun hb => ?_) fun hb => ?_ | refine aJ (fun hb => ?_) ?_ | refine taC ?_ | refine saC ?_ | exact sdV | refine aA ?_ ?_ | refine aB mixed ?_))
 refine Q8 [some 0, none, some 2] [(3, .any), (8, .fn (.func 127) [] [.dptr (Mq g) 0])] [(1, .rows U.int [])] [.slice 2 0 7 0 l.length, .fn (.func 127) [] [.dptr (Mq g) 0]] (by exact bkV) (by exact snV) ?_
 (repeat' ((conv => whnf); first | (exfalso; omega) | refine chC [some 2] h2 ?_ | refine x0C ?_ | refine spC (fun hb => ?_) fun hb => ?_ | refine aJ (fun hb => ?_) ?_ | refine taC ?_ | refine saC ?_ | exact sdV | refine aA ?_ ?_ | refine aB mixed ?_))
 all_goals exact vwV
theorem Yb {l : List aD} {i k : Nat} {e d : aD} (hk : k < i) (h : l[k]? = some d) (h1 : d.kind = 1) (h2 : e.image = d.image) : wL (l.take i) e = true := by
 unfold wL
 rw [List.any_eq_true]
 refine ⟨d, ?_, by simp [h1, h2]⟩
 rw [List.mem_iff_getElem?]
 exact ⟨k, by rw [List.getElem?_take, if_pos hk]; exact h⟩
theorem Ni {l : List aD} {k : Nat} {e d : aD} (h : l[k]? = some d) (h0 : wL (l.take k) e = false) (h1 : ¬ d.kind = 1 ∨ ¬ e.image = d.image) : wL (l.take (k + 1)) e = false := by
 unfold wL at *
 rw [List.take_add_one, h, List.any_append, h0, Bool.false_or]
 rcases h1 with h1 | h1
 ·simp [h1]
 ·simp [Ne.symm h1]
theorem Nc (l : List aD) (hl : (l.length : Int) ≤ 9223372036854775807) (hE : ∀ e ∈ l, jM e) : aG Tryz.prog Dc 76 [eS l] [] (bS (uY l)) [] := by
 refine aC Ax aF Tryz.func76 (c := _) rfl Tryz.call76 400 ?_
 (repeat' ((conv => whnf); first | (exfalso; omega) | refine x0C ?_ | refine spC (fun hb => ?_) fun hb => ?_ | refine aJ (fun hb => ?_) ?_ | refine taC ?_ | refine saC ?_ | exact sdV | refine aA ?_ ?_ | refine aB mixed ?_))
 refine bW (fun i : Nat => [(3, iS i)]) (fun i => []) (fun i => i ≤ l.length ∧ ∀ j, j < i → oM l j = true) (fun i => l.length - i) 0 ⟨Nat.zero_le _, by omega⟩ (by exact bkV) ?_
 rintro i ⟨hi, hall⟩ K hK
 rcases Nat.lt_or_ge i l.length with hlt | hge
 ·have hg := getD_some (d := Cd.dflt U.event) hlt
  have hstep : oM l i = true → ∀ j, j < i + 1 → oM l j = true := fun h j hj => by
   rcases Nat.lt_or_ge j i with h1 | h1
   ·exact hall j h1
   ·rw [show j = i by omega]; exact h
  have hok : oM l i = (eJ (l.getD (i : Int).toNat (Cd.dflt U.event)) && (decide (i = 0) || fU (l.getD ((i : Int) - 1).toNat (Cd.dflt U.event)) (l.getD (i : Int).toNat (Cd.dflt U.event))) && !(decide ((l.getD (i : Int).toNat (Cd.dflt U.event)).kind = 1) && wL (l.take i) (l.getD (i : Int).toNat (Cd.dflt U.event)))) := by
   unfold oM evt
   rw [show ((i : Int) - 1).toNat = i - 1 by omega]; rfl
  have hf := Rc _ (hE _ (List.mem_of_getElem? hg))
  have hc := kL (l.getD ((i : Int) - 1).toNat (Cd.dflt U.event)) (l.getD (i : Int).toNat (Cd.dflt U.event))
  have hbad := Fx hlt
  have b1 : eJ (l.getD (i : Int).toNat (Cd.dflt U.event)) = false → oM l i = false := fun h => by rw [hok, h]; rfl
  have b2 : 0 < (i : Int) → fU (l.getD ((i : Int) - 1).toNat (Cd.dflt U.event)) (l.getD (i : Int).toNat (Cd.dflt U.event)) = false → oM l i = false := fun h1 h2 => by
   rw [hok, decide_eq_false (show ¬ i = 0 by omega), h2, Bool.or_false, Bool.and_false, Bool.false_and]
  have b3 : (l.getD (i : Int).toNat (Cd.dflt U.event)).kind = 1 → wL (l.take i) (l.getD (i : Int).toNat (Cd.dflt U.event)) = true → oM l i = false := fun h1 h2 => by
   rw [hok, decide_eq_true h1, h2]; exact Bool.and_false _
  have b4 : eJ (l.getD (i : Int).toNat (Cd.dflt U.event)) = true → (¬ 0 < (i : Int) ∨ fU (l.getD ((i : Int) - 1).toNat (Cd.dflt U.event)) (l.getD (i : Int).toNat (Cd.dflt U.event)) = true) → (¬ (l.getD (i : Int).toNat (Cd.dflt U.event)).kind = 1 ∨ wL (l.take i) (l.getD (i : Int).toNat (Cd.dflt U.event)) = false) → oM l i = true := fun h1 h2 h3 => by
   rw [hok, h1, Bool.true_and]
   have e1 : (decide (i = 0) || fU (l.getD ((i : Int) - 1).toNat (Cd.dflt U.event)) (l.getD (i : Int).toNat (Cd.dflt U.event))) = true := by
    rcases h2 with h2 | h2
    ·rw [decide_eq_true (show i = 0 by omega)]; rfl
    ·rw [h2, Bool.or_true]
   rw [e1, Bool.true_and]
   rcases h3 with h3 | h3
   ·rw [decide_eq_false h3]; rfl
   ·rw [h3, Bool.and_false]; rfl
  (repeat' ((conv => whnf); first | refine x0C (eB ?_ rfl) | (exfalso; omega) | refine cpC (hf) ?_ | refine dpC (hf) ?_ | refine cpC (hc) ?_ | refine dpC (hc) ?_ | refine x0C ?_ | refine spC (fun hb => ?_) fun hb => ?_ | refine aJ (fun hb => ?_) ?_ | refine taC ?_ | refine saC ?_ | exact sdV | refine aA ?_ ?_ | refine aB mixed ?_))
  all_goals first | exact (hbad (b1 (by assumption))).symm | exact (hbad (b2 (by assumption) (by assumption))).symm | skip
  all_goals (
   have hq : ¬ 0 < (i : Int) ∨ fU (l.getD ((i : Int) - 1).toNat (Cd.dflt U.event)) (l.getD (i : Int).toNat (Cd.dflt U.event)) = true := by first | exact .inl (by assumption) | exact .inr (by assumption)
   refine bW (fun k : Nat => [(4, iS k)]) (fun k => []) (fun k => k ≤ i ∧ (¬ (l.getD (i : Int).toNat (Cd.dflt U.event)).kind = 1 ∨ wL (l.take k) (l.getD (i : Int).toNat (Cd.dflt U.event)) = false)) (fun k => i - k) 0 ⟨Nat.zero_le _, .inr (by simp [wL])⟩ (by exact bkV) ?_
   rintro k ⟨hk, hd⟩ K' hK'
   rcases Nat.lt_or_ge k i with hkl | hkg
   ·have hgk := getD_some (d := Cd.dflt U.event) (show k < l.length by omega)
    have hda := fun h1 h2 => Yb (e := l.getD (i : Int).toNat (Cd.dflt U.event)) hkl hgk h1 h2
    have hds := fun h0 h1 => Ni (e := l.getD (i : Int).toNat (Cd.dflt U.event)) hgk h0 h1
    by_cases hk1 : (l.getD (i : Int).toNat (Cd.dflt U.event)).kind = 1
    ·have hd' := hd.resolve_left (fun h => h hk1)
     (repeat' ((conv => whnf); first | refine x0C (eB ?_ rfl) | (exfalso; omega) | refine hK' (k + 1) [] _ _ ⟨⟨by omega, .inr (hds hd' (by first | exact .inl (by assumption) | exact .inr (by assumption)))⟩⟩ ⟨by omega⟩ (by exact bkV) | refine x0C ?_ | refine spC (fun hb => ?_) fun hb => ?_ | refine aJ (fun hb => ?_) ?_ | refine taC ?_ | refine saC ?_ | exact sdV | refine aA ?_ ?_ | refine aB mixed ?_))
     all_goals exact (hbad (b3 hk1 (hda (by assumption) (by assumption)))).symm
    ·(repeat' ((conv => whnf); first | refine x0C (eB ?_ rfl) | (exfalso; omega) | refine hK' (k + 1) [] _ _ ⟨⟨by omega, .inl hk1⟩⟩ ⟨by omega⟩ (by exact bkV) | refine x0C ?_ | refine spC (fun hb => ?_) fun hb => ?_ | refine aJ (fun hb => ?_) ?_ | refine taC ?_ | refine saC ?_ | exact sdV | refine aA ?_ ?_ | refine aB mixed ?_))
   ·obtain rfl : k = i := by omega
    (repeat' ((conv => whnf); first | refine x0C (eB ?_ rfl) | (exfalso; omega) | refine hK (k + 1) [] _ _ ⟨⟨by omega, hstep (b4 (by assumption) hq hd)⟩⟩ ⟨by omega⟩ (by exact bkV) | refine x0C ?_ | refine spC (fun hb => ?_) fun hb => ?_ | refine aJ (fun hb => ?_) ?_ | refine taC ?_ | refine saC ?_ | exact sdV | refine aA ?_ ?_ | refine aB mixed ?_)))
 ·rw [Ai i hi hall (by omega)]
  (repeat' ((conv => whnf); first | refine x0C (eB ?_ rfl) | (exfalso; omega) | refine x0C ?_ | refine spC (fun hb => ?_) fun hb => ?_ | refine aJ (fun hb => ?_) ?_ | refine taC ?_ | refine saC ?_ | exact sdV | refine aA ?_ ?_ | refine aB mixed ?_))
  all_goals rfl
theorem wE (l : List aD) (hl : (l.length : Int) ≤ 9223372036854775807) (hE : ∀ e ∈ l, jM e) : aG Tryz.prog Dc 43 [eS l] [] (bS (aX l)) [] := by
 have h := Nc l hl hE
 unfold aX
 refine aC Ax aF Tryz.func43 (c := _) rfl Tryz.call43 60 ?_
 (repeat' ((conv => whnf); first | refine x0C (eB ?_ rfl) | (exfalso; omega) | refine cpC (h) ?_ | refine dpC (h) ?_ | refine x0C ?_ | refine spC (fun hb => ?_) fun hb => ?_ | refine aJ (fun hb => ?_) ?_ | refine taC ?_ | refine saC ?_ | exact sdV | refine aA ?_ ?_ | refine aB mixed ?_))
 all_goals clear h
 all_goals (first | (simp_all []; done) | (simp_all []; omega) | (simp_all []; grind))
end Go.SX
