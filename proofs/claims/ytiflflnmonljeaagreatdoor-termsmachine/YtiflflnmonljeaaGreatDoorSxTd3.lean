/-
  Walks: Td3, Td4, Td5: what single functions of the program compute.
-/
import Derived.Test.YtiflflnmonljeaaGreatDoorSxTb6
import Derived.Test.YtiflflnmonljeaaGreatDoorSxTa6
import Derived.Test.YtiflflnmonljeaaGreatDoorSxTp6
set_option linter.unusedVariables false
set_option linter.unusedSimpArgs false
namespace Go.SX
open Go.Proofs
set_option maxHeartbeats 400000000
set_option maxRecDepth 100000
theorem Zp (a b : List Int) (ha : (a.length : Int) ≤ 9223372036854775807) (hb : (b.length : Int) ≤ 9223372036854775807) : aG Tryz.prog Dc 17 [lS a, lS b] [] (bS (decide (a = b))) [] := by
 by_cases hlen : a.length = b.length
 rotate_left
 ·rw [decide_eq_false (fun e => hlen (by rw [e]))]
  refine aC Ax aF Tryz.func17 (c := _) rfl Tryz.call17 100 ?_
  (repeat' ((conv => whnf); first | refine x0C (eB ?_ rfl) | (exfalso; omega) | refine x0C ?_ | refine spC (fun hb => ?_) fun hb => ?_ | refine aJ (fun hb => ?_) ?_ | refine taC ?_ | refine saC ?_ | exact sdV | refine aA ?_ ?_ | refine aB mixed ?_))
  all_goals rfl
 ·refine aC Ax aF Tryz.func17 (c := _) rfl Tryz.call17 100 ?_
  (repeat' ((conv => whnf); first | (exfalso; omega) | refine x0C ?_ | refine spC (fun hb => ?_) fun hb => ?_ | refine aJ (fun hb => ?_) ?_ | refine taC ?_ | refine saC ?_ | exact sdV | refine aA ?_ ?_ | refine aB mixed ?_))
  refine aT [] (fun i : Nat => [(5, iS i)]) (fun _ => []) (fun i => i ≤ a.length ∧ a.take i = b.take i) (fun i => a.length - i) 0 ⟨Nat.zero_le _, by simp⟩ (by exact bkI) ?_
  rintro i ⟨hi, he⟩ K hK
  rcases Nat.lt_or_ge i a.length with hlt | hge
  ·have t1 := dW (d := Cd.dflt U.int) hlt
   have t2 := dW (d := Cd.dflt U.int) (show i < b.length by omega)
   have hs : a.getD (i : Int).toNat (Cd.dflt U.int) = b.getD (i : Int).toNat (Cd.dflt U.int) → a.take (i + 1) = b.take (i + 1) := fun h => by
    rw [t1, t2, he, show a.getD i (Cd.dflt U.int) = b.getD i (Cd.dflt U.int) from h]
   have hn : ¬ a.getD (i : Int).toNat (Cd.dflt U.int) = b.getD (i : Int).toNat (Cd.dflt U.int) → decide (a = b) = false := fun h => decide_eq_false fun e => h (by rw [e])
   (repeat' ((conv => whnf); first | refine x0C (eB ?_ rfl) | (exfalso; omega) | refine hK (i + 1) [] _ _ ⟨⟨by omega, hs (by assumption)⟩⟩ ⟨by omega⟩ (by exact bkI) | refine x0C ?_ | refine spC (fun hb => ?_) fun hb => ?_ | refine aJ (fun hb => ?_) ?_ | refine taC ?_ | refine saC ?_ | exact sdV | refine aA ?_ ?_ | refine aB mixed ?_))
   all_goals exact (hn (by assumption)).symm
  ·rw [List.take_of_length_le hge, List.take_of_length_le (by omega)] at he
   rw [decide_eq_true he]
   (repeat' ((conv => whnf); first | refine x0C (eB ?_ rfl) | (exfalso; omega) | refine x0C ?_ | refine spC (fun hb => ?_) fun hb => ?_ | refine aJ (fun hb => ?_) ?_ | refine taC ?_ | refine saC ?_ | exact sdV | refine aA ?_ ?_ | refine aB mixed ?_))
   all_goals rfl
section
variable {C : Cod} {P : Program} {D : aL C} {tab : Tab C} {Hp : List (HS C)} {ret : SV C}
theorem fzL {θ : List (Option Nat)} {c o n off len : Nat} {u : C.U} {ys xs : List (C.El u)} (h1 : aS Hp c = .rows u xs := by rfl) (h2 : o = 0 := by rfl) (h3 : n = C.n u := by rfl) (h4 : off + len ≤ xs.length := by first | (simp; done) | (simp; omega) | omega)
  (h5 : ys = (xs.drop off).take len := by (simp only [List.drop_zero]; exact (List.take_of_length_le (by first | omega | (simp; omega))).symm)) (h6 : inO θ c = false := by rfl) : oL Hp θ c o n off len u ys := ⟨xs, h1, h2, h3, h4, h5, h6⟩
theorem vwL {θ : List (Option Nat)} {l : Option (List (SV C))} (h : q0a Hp θ ret l := by first | ((repeat' (first | exact trivial | exact rfl | refine And.intro ?_ ?_ | exact fzV | exact fzL | exact fvV)); done) | fail) : Rh Hp θ ret l := ⟨h⟩
end
theorem cT (c n : Int) (hc : -9223372036854775808 ≤ c ∧ c ≤ 9223372036854775807) (h : 0 < n) : aG Tryz.prog Dc 71 [iS c, iS n] [] (iS (aI c n)) [] := by
 have e : ∀ x : Int, 0 ≤ x → x.tmod n = x % n := fun x hx => Int.tmod_eq_emod_of_nonneg hx
 unfold aI
 by_cases hc0 : c < 0
 ·rw [if_pos hc0, ← e _ (by omega)]
  refine aC Ax aF Tryz.func71 (c := _) rfl Tryz.call71 60 ?_
  (repeat' ((conv => whnf); first | refine x0C (eI ?_ rfl) | (exfalso; omega) | refine x0C ?_ | refine spC (fun hb => ?_) fun hb => ?_ | refine aJ (fun hb => ?_) ?_ | refine taC ?_ | refine saC ?_ | exact sdV | refine aA ?_ ?_ | refine aB mixed ?_))
  all_goals first | rfl | (rw [Int.zero_sub])
 ·rw [if_neg hc0, ← e _ (by omega)]
  refine aC Ax aF Tryz.func71 (c := _) rfl Tryz.call71 60 ?_
  (repeat' ((conv => whnf); first | refine x0C (eI ?_ rfl) | (exfalso; omega) | refine x0C ?_ | refine spC (fun hb => ?_) fun hb => ?_ | refine aJ (fun hb => ?_) ?_ | refine taC ?_ | refine saC ?_ | exact sdV | refine aA ?_ ?_ | refine aB mixed ?_))
  all_goals first | rfl | (rw [Int.zero_sub])
theorem gV (c n : Int) (hc : -9223372036854775808 ≤ c ∧ c ≤ 9223372036854775807) (h : 0 < n) : aG Tryz.prog Dc 40 [iS c, iS n] [] (iS (aI c n)) [] := by
 have e : ∀ x : Int, 0 ≤ x → x.tmod n = x % n := fun x hx => Int.tmod_eq_emod_of_nonneg hx
 unfold aI
 by_cases hc0 : c < 0
 ·rw [if_pos hc0, ← e _ (by omega)]
  refine aC Ax aF Tryz.func40 (c := _) rfl Tryz.call40 60 ?_
  (repeat' ((conv => whnf); first | refine x0C (eI ?_ rfl) | (exfalso; omega) | refine x0C ?_ | refine spC (fun hb => ?_) fun hb => ?_ | refine aJ (fun hb => ?_) ?_ | refine taC ?_ | refine saC ?_ | exact sdV | refine aA ?_ ?_ | refine aB mixed ?_))
  all_goals first | rfl | (rw [Int.zero_sub])
 ·rw [if_neg hc0, ← e _ (by omega)]
  refine aC Ax aF Tryz.func40 (c := _) rfl Tryz.call40 60 ?_
  (repeat' ((conv => whnf); first | refine x0C (eI ?_ rfl) | (exfalso; omega) | refine x0C ?_ | refine spC (fun hb => ?_) fun hb => ?_ | refine aJ (fun hb => ?_) ?_ | refine taC ?_ | refine saC ?_ | exact sdV | refine aA ?_ ?_ | refine aB mixed ?_))
  all_goals first | rfl | (rw [Int.zero_sub])
theorem q0o (c n : Int) (hc : -9223372036854775808 ≤ c ∧ c ≤ 9223372036854775807) (h : 0 < n) : aG Tryz.prog Dc 7 [iS c, iS n] [] (iS (aI c n)) [] := by
 have e : ∀ x : Int, 0 ≤ x → x.tmod n = x % n := fun x hx => Int.tmod_eq_emod_of_nonneg hx
 unfold aI
 by_cases hc0 : c < 0
 ·rw [if_pos hc0, ← e _ (by omega)]
  refine aC Ax aF Tryz.func7 (c := _) rfl Tryz.call7 60 ?_
  (repeat' ((conv => whnf); first | refine x0C (eI ?_ rfl) | (exfalso; omega) | refine x0C ?_ | refine spC (fun hb => ?_) fun hb => ?_ | refine aJ (fun hb => ?_) ?_ | refine taC ?_ | refine saC ?_ | exact sdV | refine aA ?_ ?_ | refine aB mixed ?_))
  all_goals first | rfl | (rw [Int.zero_sub])
 ·rw [if_neg hc0, ← e _ (by omega)]
  refine aC Ax aF Tryz.func7 (c := _) rfl Tryz.call7 60 ?_
  (repeat' ((conv => whnf); first | refine x0C (eI ?_ rfl) | (exfalso; omega) | refine x0C ?_ | refine spC (fun hb => ?_) fun hb => ?_ | refine aJ (fun hb => ?_) ?_ | refine taC ?_ | refine saC ?_ | exact sdV | refine aA ?_ ?_ | refine aB mixed ?_))
  all_goals first | rfl | (rw [Int.zero_sub])
def I64 (c : Int) : Prop := -9223372036854775808 ≤ c ∧ c ≤ 9223372036854775807
@[reducible] def a5A (x : A5) : SV Cd := .agg [iS x.a, iS x.b, iS x.c, iS x.d, iS x.e]
structure S1 (x : A5) : Prop where
 a : I64 x.a
 b : I64 x.b
 c : I64 x.c
 d : I64 x.d
 e : I64 x.e
theorem iJ {c n : Int} (h : -9223372036854775808 ≤ c ∧ c ≤ 9223372036854775807) (hn : 1 < n) : -9223372036854775808 ≤ c.tdiv n ∧ c.tdiv n ≤ 9223372036854775807 := by
 rcases Int.le_total 0 c with h0 | h0
 ·rw [Int.tdiv_eq_ediv_of_nonneg h0]
  have := Int.ediv_nonneg h0 (show 0 ≤ n by omega)
  have := Int.ediv_le_self n h0
  omega
 ·have e : c.tdiv n = -((-c) / n) := by
   have := Int.tdiv_eq_ediv_of_nonneg (a := -c) (b := n) (by omega)
   rw [← this, Int.neg_tdiv, Int.neg_neg]
  rw [e]
  have h1 := Int.ediv_nonneg (show 0 ≤ -c by omega) (show 0 ≤ n by omega)
  have h2 := Int.ediv_le_self n (show 0 ≤ -c by omega)
  omega
theorem Vc (x : A5) (hx : S1 x) : aG Tryz.prog Dc 72 [a5A x] [] (aP (sA x)) [] := by
 obtain ⟨ha, hb', hc, hd, he⟩ := hx
 unfold I64 at *
 have hda := iJ (n := 48) ha (by omega)
 have hdb := iJ (n := 24) hb' (by omega)
 have hde := iJ (n := 40) he (by omega)
 have p1 := cT (x.b.tdiv 24) 3 hdb (by omega)
 have p2 := cT (x.a.tdiv 48) 3 hda (by omega)
 have p3 := cT x.a 48 ha (by omega)
 have p4 := cT x.b 24 hb' (by omega)
 have p5 := cT x.c 3 hc (by omega)
 have p6 := cT x.c 48 hc (by omega)
 have p7 := cT x.c 3000 hc (by omega)
 have p8 := cT x.d 5000 hd (by omega)
 have p9 := cT x.e 40 he (by omega)
 have p10 := cT (x.e.tdiv 40) 51 hde (by omega)
 have p11 := cT x.d 2 hd (by omega)
 have b1 := aN (c := x.b.tdiv 24) (n := 3) (by omega)
 have b2 := aN (c := x.a.tdiv 48) (n := 3) (by omega)
 have b3 := aN (c := x.a) (n := 48) (by omega)
 have b4 := aN (c := x.b) (n := 24) (by omega)
 have b6 := aN (c := x.c) (n := 48) (by omega)
 have b7 := aN (c := x.c) (n := 3000) (by omega)
 have b8 := aN (c := x.d) (n := 5000) (by omega)
 have b9 := aN (c := x.e) (n := 40) (by omega)
 have b10 := aN (c := x.e.tdiv 40) (n := 51) (by omega)
 refine aC Ax aF Tryz.func72 (c := _) rfl Tryz.call72 400 ?_
 (repeat' ((conv => whnf); first | (exfalso; omega) | refine x0C ?_ | refine spC (fun hb => ?_) fun hb => ?_ | refine aJ (fun hb => ?_) ?_ | refine taC ?_ | refine saC ?_ | exact sdV | refine aA ?_ ?_ | refine aB mixed ?_))
 refine bW (fun y : Nat => [(4, iS y)]) (fun y => [(2, .rows U.int (jJ x (aI (x.a.tdiv 48) 3 + 1).toNat y))]) (fun y => (y : Int) ≤ aI (x.b.tdiv 24) 3 + 1) (fun y => (aI (x.b.tdiv 24) 3 + 1).toNat - y) 0 (by omega) (by exact bkI) ?_
 intro y hy K hK
 have hyl := O0 x (aI (x.a.tdiv 48) 3 + 1).toNat y
 rcases Int.lt_or_le (aI (x.b.tdiv 24) 3) y with hge | hlt
 ·have hye : (aI (x.b.tdiv 24) 3 + 1).toNat = y := by omega
  unfold sA qQ
  rw [hye]
  generalize jJ x (aI (x.a.tdiv 48) 3 + 1).toNat y = R at *
  by_cases h5 : aI x.c 3 = 0
  ·rw [if_pos h5]
   have hol := zC R (aI x.b 24).toNat (aI x.c 48)
   unfold Md at hol ⊢
   rw [← Nat.zero_add (aI x.b 24).toNat] at hol ⊢
   (repeat' ((conv => whnf); first | (exfalso; omega) | refine cpC (p1) ?_ | refine dpC (p1) ?_ | refine cpC (p2) ?_ | refine dpC (p2) ?_ | refine cpC (p3) ?_ | refine dpC (p3) ?_ | refine cpC (p4) ?_ | refine dpC (p4) ?_ | refine cpC (p5) ?_ | refine dpC (p5) ?_ | refine cpC (p6) ?_ | refine dpC (p6) ?_ | refine cpC (p7) ?_ | refine dpC (p7) ?_ | refine cpC (p8) ?_ | refine dpC (p8) ?_ | refine cpC (p9) ?_ | refine dpC (p9) ?_ | refine cpC (p10) ?_ | refine dpC (p10) ?_ | refine cpC (p11) ?_ | refine dpC (p11) ?_ | refine x0C ?_ | refine spC (fun hb => ?_) fun hb => ?_ | refine aJ (fun hb => ?_) ?_ | refine taC ?_ | refine saC ?_ | exact sdV | refine aA ?_ ?_ | refine aB mixed ?_))
   all_goals exact vwL
  ·rw [if_neg h5]
   (repeat' ((conv => whnf); first | (exfalso; omega) | refine cpC (p1) ?_ | refine dpC (p1) ?_ | refine cpC (p2) ?_ | refine dpC (p2) ?_ | refine cpC (p3) ?_ | refine dpC (p3) ?_ | refine cpC (p4) ?_ | refine dpC (p4) ?_ | refine cpC (p5) ?_ | refine dpC (p5) ?_ | refine cpC (p6) ?_ | refine dpC (p6) ?_ | refine cpC (p7) ?_ | refine dpC (p7) ?_ | refine cpC (p8) ?_ | refine dpC (p8) ?_ | refine cpC (p9) ?_ | refine dpC (p9) ?_ | refine cpC (p10) ?_ | refine dpC (p10) ?_ | refine cpC (p11) ?_ | refine dpC (p11) ?_ | refine x0C ?_ | refine spC (fun hb => ?_) fun hb => ?_ | refine aJ (fun hb => ?_) ?_ | refine taC ?_ | refine saC ?_ | exact sdV | refine aA ?_ ?_ | refine aB mixed ?_))
   all_goals exact vwL
 ·(repeat' ((conv => whnf); first | (exfalso; omega) | refine cpC (p1) ?_ | refine dpC (p1) ?_ | refine x0C ?_ | refine spC (fun hb => ?_) fun hb => ?_ | refine aJ (fun hb => ?_) ?_ | refine taC ?_ | refine saC ?_ | exact sdV | refine aA ?_ ?_ | refine aB mixed ?_))
  refine bW (fun k : Nat => [(5, iS k)]) (fun k => [(2, .rows U.int (rW x y k (jJ x (aI (x.a.tdiv 48) 3 + 1).toNat y)))]) (fun k => (k : Int) ≤ aI (x.a.tdiv 48) 3 + 1) (fun k => (aI (x.a.tdiv 48) 3 + 1).toNat - k) 0 (by omega) (by exact bkI) ?_
  intro k hk K2 hK2
  have hkl := tC x y k (jJ x (aI (x.a.tdiv 48) 3 + 1).toNat y)
  rw [hyl] at hkl
  rcases Int.lt_or_le (aI (x.a.tdiv 48) 3) k with hge2 | hlt2
  ·have hke : (aI (x.a.tdiv 48) 3 + 1).toNat = k := by omega
   have hs := qL x (aI (x.a.tdiv 48) 3 + 1).toNat y
   rw [show rW x y k (jJ x (aI (x.a.tdiv 48) 3 + 1).toNat y) = jJ x (aI (x.a.tdiv 48) 3 + 1).toNat (y + 1) by rw [hs]; rw [hke]]
   (repeat' ((conv => whnf); first | (exfalso; omega) | refine cpC (p2) ?_ | refine dpC (p2) ?_ | refine hK (y + 1) [some 0, some 1, some 2, some 3] _ _ ⟨by omega⟩ ⟨by omega⟩ (by exact bkI) | refine x0C ?_ | refine spC (fun hb => ?_) fun hb => ?_ | refine aJ (fun hb => ?_) ?_ | refine taC ?_ | refine saC ?_ | exact sdV | refine aA ?_ ?_ | refine aB mixed ?_))
  ·have ht : (aI x.a 48 + (k : Int)).tmod 48 = (aI x.a 48 + (k : Int)) % 48 := Int.tmod_eq_emod_of_nonneg (by omega)
   have ht2 : 0 ≤ (aI x.a 48 + (k : Int)).tmod 48 ∧ (aI x.a 48 + (k : Int)).tmod 48 < 48 := by rw [ht]; omega
   have hs := pW x y k (jJ x (aI (x.a.tdiv 48) 3 + 1).toNat y)
   generalize rW x y k (jJ x (aI (x.a.tdiv 48) 3 + 1).toNat y) = R at *
   have hm : 0 ≤ min 23 (aI x.b 24 + (y : Int)) ∧ min 23 (aI x.b 24 + (y : Int)) < 24 := by omega
   have e1 : R.set (0 + (min 23 (aI x.b 24 + (y : Int))).toNat) (bL .or .i64 (R.getD (0 + (min 23 (aI x.b 24 + (y : Int))).toNat) (Cd.dflt U.int)) (iT .i64 1 ((aI x.a 48 + (k : Int)).tmod 48))) = rW x y (k + 1) (jJ x (aI (x.a.tdiv 48) 3 + 1).toNat y) := by
    rw [hs, Nat.zero_add]; rfl
   (repeat' ((conv => whnf); first | (exfalso; omega) | refine cpC (p2) ?_ | refine dpC (p2) ?_ | refine cpC (p3) ?_ | refine dpC (p3) ?_ | refine cpC (p4) ?_ | refine dpC (p4) ?_ | refine hK2 (k + 1) [some 0, some 1, some 2, some 3] _ _ ⟨by omega⟩ ⟨by omega⟩ (by exact bkI) | refine x0C ?_ | refine spC (fun hb => ?_) fun hb => ?_ | refine aJ (fun hb => ?_) ?_ | refine taC ?_ | refine saC ?_ | exact sdV | refine aA ?_ ?_ | refine aB mixed ?_))
@[reducible] def a5S (x : List A5) : SV Cd := .p (.dsl U.arr5 x)
theorem Di {x : List A5} {i : Int} (h0 : 0 ≤ i) (h : i < x.length) : y5 x i = x.getD i.toNat (Cd.dflt U.arr5) := if_pos h
theorem Qu {x : List A5} {i : Int} (h : ¬ i < x.length) : y5 x i = Dh := if_neg h
theorem Vd {x : List A5} (hx : ∀ y ∈ x, S1 y) {i : Int} (h0 : 0 ≤ i) : S1 (y5 x i) := by
 by_cases h : i < x.length
 ·rw [Di h0 h]
  refine hx _ ?_
  rw [List.getD_eq_getElem?_getD, List.getElem?_eq_getElem (by omega)]
  exact List.getElem_mem _
 ·rw [Qu h]
  have : I64 0 := by unfold I64; omega
  exact ⟨this, this, this, this, this⟩
theorem Ml {w : World} {E : Env} {a b c d e : Int} {vs : List Value} (h : DenA Dc w E [.agg [.arr U.int 5 [a, b, c, d, e]]] vs) : DenA Dc w E [.agg [iS a, iS b, iS c, iS d, iS e]] vs := by
 simp only [DenA, Den, DenC] at h ⊢
 obtain ⟨v, v2, rfl, ⟨cs, rfl, _, v1, v3, hv, hp, rfl⟩, rfl⟩ := h
 refine ⟨_, _, rfl, ⟨cs, rfl, ?_⟩, rfl⟩
 rw [List.append_nil] at hv
 rw [hv]
 obtain ⟨hl, hd⟩ := hp
 match v1, hl with
 | [x0, x1, x2, x3, x4], _ =>
  have g := fun (j : Nat) pv v h1 h2 => hd j pv v h1 h2
  have e0 := g 0 _ _ rfl rfl
  have e1 := g 1 _ _ rfl rfl
  have e2 := g 2 _ _ rfl rfl
  have e3 := g 3 _ _ rfl rfl
  have e4 := g 4 _ _ rfl rfl
  exact ⟨x0, _, rfl, e0.oneCell, e0, x1, _, rfl, e1.oneCell, e1, x2, _, rfl, e2.oneCell, e2, x3, _, rfl, e3.oneCell, e3, x4, _, rfl, e4.oneCell, e4, rfl⟩
theorem We : aG Tryz.prog Dc 72 [.agg [.arr U.int 5 (List.replicate 5 (Cd.dflt U.int))]] [] (aP (sA Dh)) [] := by
 have z : I64 0 := by unfold I64; omega
 have h := Vc Dh ⟨z, z, z, z, z⟩
 exact ⟨h.enter, fun w E hm vs hs hd => h.calls w E hm vs hs (Ml (a := 0) (b := 0) (c := 0) (d := 0) (e := 0) hd)⟩
theorem W2 (x : List A5) (hx : ∀ y ∈ x, S1 y) (hxl : (x.length : Int) ≤ 9223372036854775807) (deep at_ most : Int) (h1 : 0 ≤ at_ ∧ at_ ≤ 1000) (h3 : 1 ≤ most ∧ most ≤ 9) (hdeep : 1 ≤ deep ∧ deep ≤ 4)
  (hk : deep = 4 ∨ most < 2 ∨ (x.length : Int) ≤ at_ + 1 ∨ (5 ≤ 1 + aI ((y5 x at_).a.tdiv 144) 6 ∧ most < 3) ∨ aI ((y5 x at_).a.tdiv 144) 6 = 0) :
  aG Tryz.prog Dc 38 [a5S x, iS at_, iS deep, iS most] [] (.tuple [aP (sA (y5 x at_)), iS 1, iS 1]) [] := by
 have hy := Vd hx h1.1
 have hs := Vc (y5 x at_) hy
 have hp := cT ((y5 x at_).a.tdiv 144) 6 (iJ hy.a (by omega)) (by omega)
 have hb2 := aN (c := (y5 x at_).a.tdiv 144) (n := 6) (by omega)
 have hya := hy.a
 have htd := iJ (n := 144) hya (by omega)
 unfold I64 at hya
 by_cases hc : at_ < x.length
 ·rw [Di h1.1 hc] at *
  refine aC Ax aF Tryz.func38 (c := _) rfl Tryz.call38 400 ?_
  (repeat' ((conv => whnf); first | (exfalso; omega) | refine cpC (hs) ?_ | refine dpC (hs) ?_ | refine cpC (hp) ?_ | refine dpC (hp) ?_ | refine x0C ?_ | refine spC (fun hb => ?_) fun hb => ?_ | refine aJ (fun hb => ?_) ?_ | refine taC ?_ | refine saC ?_ | exact sdV | refine aA ?_ ?_ | refine aB mixed ?_))
  all_goals exact vwV
 ·rw [Qu hc] at *
  have hp0 : aG Tryz.prog Dc 71 [iS (Int.tdiv ((List.replicate 5 (Cd.dflt U.int)).getD (Int.toNat 0) (Cd.dflt U.int)) 144), iS 6] [] (iS (aI (Dh.a.tdiv 144) 6)) [] := hp
  have hr0 : Ks ((144 : Int) ≠ 0 ∧ InR IntKind.i64 (Int.tdiv ((List.replicate 5 (Cd.dflt U.int)).getD (Int.toNat 0) (Cd.dflt U.int)) 144)) := ⟨by decide, by rfl⟩
  refine aC Ax aF Tryz.func38 (c := _) rfl Tryz.call38 400 ?_
  (repeat' ((conv => whnf); first | (exfalso; omega) | exact hr0 | refine cpC (We) ?_ | refine dpC (We) ?_ | refine cpC (hp0) ?_ | refine dpC (hp0) ?_ | refine x0C ?_ | refine spC (fun hb => ?_) fun hb => ?_ | refine aJ (fun hb => ?_) ?_ | refine taC ?_ | refine saC ?_ | exact sdV | refine aA ?_ ?_ | refine aB mixed ?_))
  all_goals exact vwV
structure q05 (x : List A5) (at_ : Int) : Prop where
 y : S1 (x.getD at_.toNat (Cd.dflt U.arr5))
 z : S1 (x.getD (at_ + 1).toNat (Cd.dflt U.arr5))
theorem Pq {x : List A5} (hx : ∀ y ∈ x, S1 y) {at_ : Int} (h1 : 0 ≤ at_) (h2 : at_ + 1 < x.length) : q05 x at_ := by
 have e1 := Vd hx h1
 have e2 := Vd hx (i := at_ + 1) (by omega)
 rw [Di h1 (by omega)] at e1
 rw [Di (by omega) h2] at e2
 exact ⟨e1, e2⟩
theorem U0 (x : List A5) (hx : ∀ y ∈ x, S1 y) (hxl : (x.length : Int) ≤ 9223372036854775807) (deep at_ most : Int) (h1 : 0 ≤ at_ ∧ at_ ≤ 1000) (h3 : 1 ≤ most ∧ most ≤ 9) (hdeep : 1 ≤ deep ∧ deep ≤ 3)
    (h4 : 2 ≤ most) (h5 : at_ + 1 < x.length) (K : Int) (hK : 2 ≤ K ∧ K ≤ 4) (hk : 1 + aI ((x.getD at_.toNat (Cd.dflt U.arr5)).a.tdiv 144) 6 = K) (g : aK)
    (hg : g = if K = 2 then ⟨1 + aI ((x.getD at_.toNat (Cd.dflt U.arr5)).a.tdiv 144) 6, [], 0, 0, 1 + aI (x.getD at_.toNat (Cd.dflt U.arr5)).b 8, 0, false, 0, 0, 1 + aI (x.getD at_.toNat (Cd.dflt U.arr5)).c 3000, [], [sA (x.getD (at_ + 1).toNat (Cd.dflt U.arr5))]⟩
      else if K = 3 then ⟨1 + aI ((x.getD at_.toNat (Cd.dflt U.arr5)).a.tdiv 144) 6, [], aI (x.getD at_.toNat (Cd.dflt U.arr5)).e 3000, 0, 0, 0, false, 1 + aI (x.getD at_.toNat (Cd.dflt U.arr5)).b 4, 1 + aI (x.getD at_.toNat (Cd.dflt U.arr5)).c 4, aI (x.getD at_.toNat (Cd.dflt U.arr5)).d (1440 * (1 + aI (x.getD at_.toNat (Cd.dflt U.arr5)).b 4) + 1), [], [sA (x.getD (at_ + 1).toNat (Cd.dflt U.arr5))]⟩
      else ⟨1 + aI ((x.getD at_.toNat (Cd.dflt U.arr5)).a.tdiv 144) 6, [], 0, 0, 0, 0, false, 0, 0, aI (x.getD at_.toNat (Cd.dflt U.arr5)).b 3000, [], [sA (x.getD (at_ + 1).toNat (Cd.dflt U.arr5))]⟩) :
    aG Tryz.prog Dc 38 [a5S x, iS at_, iS deep, iS most] [] (.tuple [aP g, iS 2, iS 2]) [] := by
  obtain ⟨hy, hz⟩ := Pq hx h1.1 h5
  have hs := Vc _ hz
  have htd := iJ (n := 144) hy.a (by omega)
  have hp := cT ((x.getD at_.toNat (Cd.dflt U.arr5)).a.tdiv 144) 6 htd (by omega)
  have hb2 := aN (c := (x.getD at_.toNat (Cd.dflt U.arr5)).a.tdiv 144) (n := 6) (by omega)
  have hya := hy.a
  unfold I64 at hya
  have q1 := cT (x.getD at_.toNat (Cd.dflt U.arr5)).b 8 hy.b (by omega)
  have q2 := cT (x.getD at_.toNat (Cd.dflt U.arr5)).c 3000 hy.c (by omega)
  have q3 := cT (x.getD at_.toNat (Cd.dflt U.arr5)).b 4 hy.b (by omega)
  have q4 := cT (x.getD at_.toNat (Cd.dflt U.arr5)).c 4 hy.c (by omega)
  have r1 := aN (c := (x.getD at_.toNat (Cd.dflt U.arr5)).b) (n := 8) (by omega)
  have r2 := aN (c := (x.getD at_.toNat (Cd.dflt U.arr5)).c) (n := 3000) (by omega)
  have r3 := aN (c := (x.getD at_.toNat (Cd.dflt U.arr5)).b) (n := 4) (by omega)
  have r4 := aN (c := (x.getD at_.toNat (Cd.dflt U.arr5)).c) (n := 4) (by omega)
  have q5 := cT (x.getD at_.toNat (Cd.dflt U.arr5)).d (1440 * (1 + aI (x.getD at_.toNat (Cd.dflt U.arr5)).b 4) + 1) hy.d (by omega)
  have q6 := cT (x.getD at_.toNat (Cd.dflt U.arr5)).e 3000 hy.e (by omega)
  have q7 := cT (x.getD at_.toNat (Cd.dflt U.arr5)).b 3000 hy.b (by omega)
  rcases (show K = 2 ∨ K = 3 ∨ K = 4 by omega) with rfl | rfl | rfl
  · rw [if_pos rfl] at hg
    subst hg
    refine aC Ax aF Tryz.func38 (c := _) rfl Tryz.call38 400 ?_
    (repeat' ((conv => whnf); first | (exfalso; omega) | refine cpC (hs) ?_ | refine dpC (hs) ?_ | refine cpC (hp) ?_ | refine dpC (hp) ?_ | refine cpC (q1) ?_ | refine dpC (q1) ?_ | refine cpC (q2) ?_ | refine dpC (q2) ?_ | refine x0C ?_ | refine spC (fun hb => ?_) fun hb => ?_ | refine aJ (fun hb => ?_) ?_ | refine taC ?_ | refine saC ?_ | exact sdV | refine aA ?_ ?_ | refine aB mixed ?_))
    all_goals exact vwV
  · rw [if_neg (by omega), if_pos rfl] at hg
    subst hg
    refine aC Ax aF Tryz.func38 (c := _) rfl Tryz.call38 400 ?_
    (repeat' ((conv => whnf); first | (exfalso; omega) | refine cpC (hs) ?_ | refine dpC (hs) ?_ | refine cpC (hp) ?_ | refine dpC (hp) ?_ | refine cpC (q3) ?_ | refine dpC (q3) ?_ | refine cpC (q4) ?_ | refine dpC (q4) ?_ | refine cpC (q5) ?_ | refine dpC (q5) ?_ | refine cpC (q6) ?_ | refine dpC (q6) ?_ | refine x0C ?_ | refine spC (fun hb => ?_) fun hb => ?_ | refine aJ (fun hb => ?_) ?_ | refine taC ?_ | refine saC ?_ | exact sdV | refine aA ?_ ?_ | refine aB mixed ?_))
    all_goals exact vwV
  · rw [if_neg (by omega), if_neg (by omega)] at hg
    subst hg
    refine aC Ax aF Tryz.func38 (c := _) rfl Tryz.call38 400 ?_
    (repeat' ((conv => whnf); first | (exfalso; omega) | refine cpC (hs) ?_ | refine dpC (hs) ?_ | refine cpC (hp) ?_ | refine dpC (hp) ?_ | refine cpC (q7) ?_ | refine dpC (q7) ?_ | refine x0C ?_ | refine spC (fun hb => ?_) fun hb => ?_ | refine aJ (fun hb => ?_) ?_ | refine taC ?_ | refine saC ?_ | exact sdV | refine aA ?_ ?_ | refine aB mixed ?_))
    all_goals exact vwV
end Go.SX
