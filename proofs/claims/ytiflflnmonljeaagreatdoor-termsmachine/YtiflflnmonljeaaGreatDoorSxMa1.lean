/-
  Walks: Ma1, Ma2, Mb2, Mb3, Mb4, Mb5, Mb6, Mb7, Mb8: what single functions of the program compute.
-/
import Derived.Test.YtiflflnmonljeaaGreatDoorSxV6
import Derived.Test.YtiflflnmonljeaaGreatDoorSxVm
import Derived.Test.YtiflflnmonljeaaGreatDoorSxTp6
set_option linter.unusedVariables false
set_option linter.unusedSimpArgs false
namespace Go.SX
open Go.Proofs
set_option maxHeartbeats 400000000
set_option maxRecDepth 100000
def Th (n : Int) (B : List Nd) (st : Int) (D : Obj) : Prop := ∃ es clk, D = .map es clk ∧ F3 n B st es.toList
@[reducible] def Nl : List (SV Cd) := [.ptr 3 0, .ptr 4 0, .ptr 5 0, .ptr 6 0, .ptr 7 0]
@[reducible] def Zb : SV Cd := .fn (.func 116) [] Nl
@[reducible] def Tu (n : Int) (K : Obj) (B : List Nd) (D : Obj) (st : Int) : List (HS Cd) := [.vart none [iS n, .slice 8 0 3 0 B.length, .mapp 1], .obj K, .obj D, .vart none [iS st], .vart none [iS (-3 - st)], .vart none [.mapp 2], .vart none [.ptr 0 0], .vart none [Zb], .rows U.node B]
@[reducible] def Uz (n : Int) (K : Obj) (B : List Nd) (D : Obj) (st : Int) : List (HS Cd) := [.vart none [iS n, .slice 9 0 3 0 B.length, .mapp 1], .obj K, .obj D, .vart none [iS st], .vart none [iS (-3 - st)], .vart none [.mapp 2], .vart none [.ptr 0 0], .vart none [Zb], .dead, .rows U.node B]
theorem sM (st : Int) (a b : Bool) : opS st a b = opS st b a := by unfold opS; split <;> cases a <;> cases b <;> rfl
theorem Ny (st : Int) (a : Bool) : opS st a a = a := by unfold opS; split <;> cases a <;> rfl
theorem yD {st : Int} (hst : st = -1 ∨ st = -2) (σ : Int → Bool) (B : List Nd) (b : Bool) : opS st (cM σ B st) b = cM σ B st := by
 rw [cN (by omega)]
 rcases hst with rfl | rfl
 ·rfl
 ·unfold opS; simp
theorem Aa {st : Int} (hst : st = -1 ∨ st = -2) (σ : Int → Bool) (B : List Nd) (b : Bool) : opS st (cM σ B (-3 - st)) b = b := by
 rw [cN (by omega)]
 rcases hst with rfl | rfl
 ·unfold opS; simp
 ·unfold opS; simp
theorem Ix {n : Int} {B : List Nd} {e p : Int} (hp : 0 ≤ p) : (if e < (mX n B p).ev then p else (mX n B p).no) = noS n B e p := by
 have hn : ¬ p < 0 := by omega
 simp only [mX, noS, cD, hn, if_false, or_false, gt_iff_lt]
theorem Bc {n : Int} {B : List Nd} {e p : Int} (hp : 0 ≤ p) : (if e < (mX n B p).ev then p else (mX n B p).yes) = Cj n B e p := by
 have hn : ¬ p < 0 := by omega
 simp only [mX, Cj, cD, hn, if_false, or_false, gt_iff_lt]
theorem Z6 {n : Int} {B : List Nd} {p : Int} (hp : 0 ≤ p) : (mX n B p).ev = cD n B p := by
 unfold mX cD
 rw [if_neg (by omega), if_neg (by omega)]
theorem Xn (n : Nat) (hn : n ≤ 16) (st : Int) (hst : st = -1 ∨ st = -2) : ∀ (m : Nat) {K D : Obj} {B : List Nd} (p q : Int), WFN n B → aU K B → Th n B st D → St B.length p → St B.length q → (n : Int) - min (cD n B p) (cD n B q) < m → B.length + 131072 * m ≤ 1000000000000 →
  ∃ B' K' D' s, yY n B (min (cD n B p) (cD n B q)) (fun σ => opS st (cM σ B p) (cM σ B q)) B' s ∧ Kr B B' s ∧ aU K' B' ∧ Th n B' st D' ∧
   aG Tryz.prog Dc 116 ([iS p, iS q] ++ Nl) (Tu n K B D st) (iS s) (Uz n K' B' D' st) := by
 intro m
 induction m with
 | zero =>
  intro K D B p q hB hK hD hp hq hm hl
  have h1 := Ac hB hp
  have h2 := Ac hB hq
  omega
 | succ m ih =>
  intro K D B p q hB hK hD hp hq hm hl
  rw [Nat.mul_succ] at hl
  have t1 := Ac hB hp
  have t2 := Ac hB hq
  have hp1 := hp.1
  have hq1 := hq.1
  have same : ∀ s, St B.length s → min (cD n B p) (cD n B q) ≤ cD n B s → (∀ σ, cM σ B s = opS st (cM σ B p) (cM σ B q)) → aG Tryz.prog Dc 116 ([iS p, iS q] ++ Nl) (Tu n K B D st) (iS s) (Uz n K B D st) → ∃ B' K' D' s, yY n B (min (cD n B p) (cD n B q)) (fun σ => opS st (cM σ B p) (cM σ B q)) B' s ∧ Kr B B' s ∧ aU K' B' ∧ Th n B' st D' ∧
   aG Tryz.prog Dc 116 ([iS p, iS q] ++ Nl) (Tu n K B D st) (iS s) (Uz n K' B' D' st) := fun s h1 h2 h3 h4 => ⟨B, K, D, s, ⟨hB, List.prefix_refl _, h1, h2, h3⟩, Z4 _ _, hK, hD, h4⟩
  by_cases c1 : p = st ∨ q = st
  ·refine same st ⟨by omega, by omega⟩ (by rw [kZ (show st < 0 by omega)]; omega) (fun σ => ?_) ?_
   ·rcases c1 with rfl | rfl
    ·exact (yD hst σ B _).symm
    ·rw [sM]; exact (yD hst σ B _).symm
   ·refine aC Ax aF Tryz.func116 (c := _) rfl Tryz.call116 300 ?_
    (repeat' ((conv => whnf); first | (exfalso; omega) | exact enC [some 0, some 1, some 2, some 3, some 4, some 5, some 6, some 7, none, some 8] | refine x0C ?_ | refine spC (fun hb => ?_) fun hb => ?_ | refine aJ (fun hb => ?_) ?_ | refine taC ?_ | refine saC ?_ | exact sdV | refine aA ?_ ?_ | refine aB mixed ?_))
  by_cases c2 : p = -3 - st ∨ p = q
  ·refine same q hq (by omega) (fun σ => ?_) ?_
   ·rcases c2 with rfl | rfl
    ·exact (Aa hst σ B _).symm
    ·exact (Ny st _).symm
   ·refine aC Ax aF Tryz.func116 (c := _) rfl Tryz.call116 300 ?_
    (repeat' ((conv => whnf); first | (exfalso; omega) | exact enC [some 0, some 1, some 2, some 3, some 4, some 5, some 6, some 7, none, some 8] | refine x0C ?_ | refine spC (fun hb => ?_) fun hb => ?_ | refine aJ (fun hb => ?_) ?_ | refine taC ?_ | refine saC ?_ | exact sdV | refine aA ?_ ?_ | refine aB mixed ?_))
  by_cases c3 : q = -3 - st
  ·refine same p hp (by omega) (fun σ => ?_) ?_
   ·subst c3
    rw [sM]; exact (Aa hst σ B _).symm
   ·refine aC Ax aF Tryz.func116 (c := _) rfl Tryz.call116 300 ?_
    (repeat' ((conv => whnf); first | (exfalso; omega) | exact enC [some 0, some 1, some 2, some 3, some 4, some 5, some 6, some 7, none, some 8] | refine x0C ?_ | refine spC (fun hb => ?_) fun hb => ?_ | refine aJ (fun hb => ?_) ?_ | refine taC ?_ | refine saC ?_ | exact sdV | refine aA ?_ ?_ | refine aB mixed ?_))
  have hp0 : 0 ≤ p := by omega
  have hq0 : 0 ≤ q := by omega
  obtain ⟨ds, dk, rfl, hDD⟩ := hD
  have hmm : (min p q = p ∧ max p q = q) ∨ (min p q = q ∧ max p q = p) := by omega
  rcases Be hDD (min p q) (max p q) with hk | ⟨i, s, hk, hs1, hs2, hs3⟩
  rotate_left
  ·refine same s hs1 ?_ (fun σ => ?_) ?_
   ·rcases hmm with ⟨h1, h2⟩ | ⟨h1, h2⟩ <;> rw [h1, h2] at hs2 <;> omega
   ·have := hs3 σ
    rcases hmm with ⟨h1, h2⟩ | ⟨h1, h2⟩ <;> rw [h1, h2] at this
    ·exact this
    ·rw [this]; exact sM st _ _
   ·refine aC Ax aF Tryz.func116 (c := _) rfl Tryz.call116 300 ?_
    (repeat' ((conv => whnf); first | (exfalso; omega) | refine bM hk ?_ | exact enC [some 0, some 1, some 2, some 3, some 4, some 5, some 6, some 7, none, some 8] | refine x0C ?_ | refine spC (fun hb => ?_) fun hb => ?_ | refine aJ (fun hb => ?_) ?_ | refine taC ?_ | refine saC ?_ | exact sdV | refine aA ?_ ?_ | refine aB mixed ?_))
  have hlp := Yg n (K := K) p hp
  have hlq := Yg n (K := K) q hq
  have xt := Z6 (n := n) (B := B) hp0
  have yt := Z6 (n := n) (B := B) hq0
  have htp : cD n B p < n := by
   have hlt : p.toNat < B.length := by have := hp.2; omega
   have := (hB.ok _ _ (List.getElem?_eq_getElem hlt)).2.1
   unfold cD; rw [if_neg (by omega), List.getD_eq_getElem?_getD, List.getElem?_eq_getElem hlt]; exact this
  obtain ⟨e, he⟩ : ∃ e, e = min (cD n B p) (cD n B q) := ⟨_, rfl⟩
  rw [← he] at hm ⊢
  have e0 : 0 ≤ e := by
   have h1 : 0 ≤ cD n B p := by
    have hlt : p.toNat < B.length := by have := hp.2; omega
    have := (hB.ok _ _ (List.getElem?_eq_getElem hlt)).1
    unfold cD; rw [if_neg (by omega), List.getD_eq_getElem?_getD, List.getElem?_eq_getElem hlt]; exact this
   have h2 : 0 ≤ cD n B q := by
    have hlt : q.toNat < B.length := by have := hq.2; omega
    have := (hB.ok _ _ (List.getElem?_eq_getElem hlt)).1
    unfold cD; rw [if_neg (by omega), List.getD_eq_getElem?_getD, List.getElem?_eq_getElem hlt]; exact this
   omega
  obtain ⟨a1, a2, a3, a4, _⟩ := zD hB hp (e := e) (by omega) (by omega)
  obtain ⟨b1, b2, b3, b4, _⟩ := zD hB hq (e := e) (by omega) (by omega)
  have hu1 : (n : Int) - min (cD n B (noS n B e p)) (cD n B (noS n B e q)) < m := by omega
  have hu2 : B.length + 131072 * m ≤ 1000000000000 := by omega
  obtain ⟨B1, K1, D1, s0, r0, n0, k0, d0, m0⟩ := ih (noS n B e p) (noS n B e q) hB hK ⟨ds, dk, rfl, hDD⟩ a1 b1 hu1 hu2
  have hpow : 2 ^ n ≤ 65536 := Nat.pow_le_pow_right (by omega) hn
  have l1 := tL r0.wf r0.pre n0
  have a2' := a2.mono (cP r0.pre)
  have b2' := b2.mono (cP r0.pre)
  obtain ⟨B2, K2, D2, s1, r1, n1, k1, d1, m1⟩ := ih (Cj n B e p) (Cj n B e q) r0.wf k0 d0 a2' b2' (by rw [cY r0.pre a2.2, cY r0.pre b2.2]; omega) (by omega)
  have l2 := tL r1.wf r1.pre n1
  obtain ⟨B3, K3, s, hN, k3, m3⟩ := Np n k1 e s0 s1 (by omega)
  have hs0 := r0.st.mono (cP r1.pre)
  have rN := hN.res r1.wf ⟨e0, by omega⟩ hs0 r1.st (by rw [cY r1.pre r0.st.2]; have := r0.top; omega) (by have := r1.top; rw [cY r0.pre a2.2, cY r0.pre b2.2] at this; omega)
  obtain ⟨ds2, dk2, rfl, hD2⟩ := d1
  have hD3 := hD2.pre rN.pre
  obtain ⟨r, hr⟩ : ∃ r, kK (Co 2) (eL [min p q, max p q]) ds2.toList 0 = some r := by
   rcases Be hD3 (min p q) (max p q) with h | ⟨i, s, h, _⟩
   ·exact ⟨_, h⟩
   ·exact ⟨_, h⟩
  have rJ : yY n B e (fun σ => opS st (cM σ B p) (cM σ B q)) B3 s := Ja hB hp hq (by omega) (by omega) (by omega) (r0.weaken (by omega) fun _ => rfl) (r1.weaken (by rw [cY r0.pre a2.2, cY r0.pre b2.2]; omega) fun _ => rfl) rN
  refine ⟨B3, K3, putO ds2 dk2 (.agg (eL [min p q, max p q]).toArray) (.int .i64 s) r, s, rJ, hN.new r1.pre n0 n1, k3, ?_, ?_⟩
  ·obtain ⟨es', clk', h1, h2⟩ := Il (es := ds2) (clk := dk2) (kv := .agg (eL [min p q, max p q]).toArray) (vv := .int .i64 s) r
   refine ⟨es', clk', h1, Kz hD3 h2 ?_ ?_ rJ.st ?_ fun σ => ?_⟩
   ·rcases hmm with ⟨h1, h2⟩ | ⟨h1, h2⟩ <;> rw [h1]
    ·exact hp.mono (cP rJ.pre)
    ·exact hq.mono (cP rJ.pre)
   ·rcases hmm with ⟨h1, h2⟩ | ⟨h1, h2⟩ <;> rw [h2]
    ·exact hq.mono (cP rJ.pre)
    ·exact hp.mono (cP rJ.pre)
   ·have := rJ.top
    rcases hmm with ⟨h1, h2⟩ | ⟨h1, h2⟩ <;> rw [h1, h2, cY rJ.pre hp.2, cY rJ.pre hq.2] <;> omega
   ·have := rJ.sem σ
    rw [this]
    rcases hmm with ⟨h1, h2⟩ | ⟨h1, h2⟩ <;> rw [h1, h2, bY rJ.pre hp.2, bY rJ.pre hq.2]
    exact sM st _ _
  ·rw [← Ix (n := n) (B := B) (e := e) hp0, ← Ix (n := n) (B := B) (e := e) hq0] at m0
   rw [← Bc (n := n) (B := B) (e := e) hp0, ← Bc (n := n) (B := B) (e := e) hq0] at m1
   rw [← xt, ← yt] at he
   generalize mX n B p = x at *
   generalize mX n B q = y at *
   subst he
   clear ih same hDD hD2 hD3 rJ rN r0 r1 n0 n1 k0 k1 k3 hN hB hK
   by_cases hx : min x.ev y.ev < x.ev <;> by_cases hy : min x.ev y.ev < y.ev
   ·exfalso; omega
   all_goals (
    simp only [hx, hy, if_true, if_false] at m0 m1
    refine aC Ax aF Tryz.func116 (c := _) rfl Tryz.call116 300 ?_
    (repeat' ((conv => whnf); first | (exfalso; omega) | refine bM hk ?_ | refine bM hr ?_ | refine dcm [some 0, some 1, some 8] [0, 1, 8] hlp ?_ | refine dcm [some 0, some 1, some 8] [0, 1, 8] hlq ?_ | refine dcm [some 0, some 1, some 2, some 3, some 4, some 5, some 6, some 7, some 8] [3, 4, 5, 6, 7] m0 ?_ | refine dcm [some 0, some 1, some 2, some 3, some 4, some 5, some 6, some 7, some 12] [3, 4, 5, 6, 7] m1 ?_ | refine dxC ?_ | (refine bZ [some 0, some 1, some 13] m3 rfl rfl ⟨rfl, rfl, rfl, trivial⟩ ?_) | exact enC [some 0, some 1, some 2, some 3, some 4, some 5, some 6, some 7, some 8, some 14] | refine x0C ?_ | refine spC (fun hb => ?_) fun hb => ?_ | refine aJ (fun hb => ?_) ?_ | refine taC ?_ | refine saC ?_ | exact sdV | refine aA ?_ ?_ | refine aB mixed ?_)))
theorem q1n (n : Nat) (hn : n ≤ 16) {K : Obj} {B : List Nd} (p q : Int) (hB : WFN n B) (hK : aU K B) (hp : St B.length p) (hq : St B.length q) (hl : B.length ≤ 999000000000) :
  ∃ B' K' s, yY n B (min (cD n B p) (cD n B q)) (fun σ => opS (-1) (cM σ B p) (cM σ B q)) B' s ∧ Kr B B' s ∧ aU K' B' ∧
   aG Tryz.prog Dc 55 [.ptr 0 0, iS p, iS q] (bdH n K B) (iS s) (bdD n K' B') := by
 have e1 := Ay hB p
 have e2 := Ay hB q
 obtain ⟨B', K', D', s, h1, h2, h3, _, h4⟩ := Xn n hn (-1) (by omega) 17 (D := .map #[] 0) p q hB hK ⟨#[], 0, rfl, Bi⟩ hp hq (by omega) (by omega)
 refine ⟨B', K', s, h1, h2, h3, ?_⟩
 refine aC Ax aF Tryz.func55 (c := _) rfl Tryz.call55 100 ?_
 (repeat' ((conv => whnf); first | (exfalso; omega) | (refine U8 Ax aF Tryz.func87 (c := _) rfl Tryz.call87 200 ?_) | refine chC [some 0, some 1, some 6, some 4, some 5, some 7, some 3, some 8, some 2] h4 ?_ | exact enC [some 0, some 1, some 2, some 9] | refine x0C ?_ | refine spC (fun hb => ?_) fun hb => ?_ | refine aJ (fun hb => ?_) ?_ | refine taC ?_ | refine saC ?_ | exact sdV | refine aA ?_ ?_ | refine aB mixed ?_))
theorem mor (n : Nat) (hn : n ≤ 16) {K : Obj} {B : List Nd} (p q : Int) (hB : WFN n B) (hK : aU K B) (hp : St B.length p) (hq : St B.length q) (hl : B.length ≤ 999000000000) :
  ∃ B' K' s, yY n B (min (cD n B p) (cD n B q)) (fun σ => opS (-2) (cM σ B p) (cM σ B q)) B' s ∧ Kr B B' s ∧ aU K' B' ∧
   aG Tryz.prog Dc 51 [.ptr 0 0, iS p, iS q] (bdH n K B) (iS s) (bdD n K' B') := by
 have e1 := Ay hB p
 have e2 := Ay hB q
 obtain ⟨B', K', D', s, h1, h2, h3, _, h4⟩ := Xn n hn (-2) (by omega) 17 (D := .map #[] 0) p q hB hK ⟨#[], 0, rfl, Bi⟩ hp hq (by omega) (by omega)
 refine ⟨B', K', s, h1, h2, h3, ?_⟩
 refine aC Ax aF Tryz.func51 (c := _) rfl Tryz.call51 100 ?_
 (repeat' ((conv => whnf); first | (exfalso; omega) | (refine U8 Ax aF Tryz.func87 (c := _) rfl Tryz.call87 200 ?_) | refine chC [some 0, some 1, some 6, some 4, some 5, some 7, some 3, some 8, some 2] h4 ?_ | exact enC [some 0, some 1, some 2, some 9] | refine x0C ?_ | refine spC (fun hb => ?_) fun hb => ?_ | refine aJ (fun hb => ?_) ?_ | refine taC ?_ | refine saC ?_ | exact sdV | refine aA ?_ ?_ | refine aB mixed ?_))
structure CR (n : Nat) (B : List Nd) (G : Nat) (f : (Int → Bool) → Bool) (B' : List Nd) (K' : Obj) (s : Int) : Prop where
 wf : WFN n B'
 pre : B <+: B'
 st : St B'.length s
 sem : ∀ σ, cM σ B' s = f σ
 len : B'.length ≤ B.length + G
 known : aU K' B'
theorem CR.weaken {n : Nat} {B : List Nd} {G G' : Nat} {f g : (Int → Bool) → Bool} {B' : List Nd} {K' : Obj} {s : Int} (h : CR n B G f B' K' s) (hG : G ≤ G') (hf : ∀ σ, f σ = g σ) : CR n B G' g B' K' s := ⟨h.wf, h.pre, h.st, fun σ => (h.sem σ).trans (hf σ), Nat.le_trans h.len (by omega), h.known⟩
theorem CR.after {n : Nat} {B B1 : List Nd} {G G1 : Nat} {f g : (Int → Bool) → Bool} {B' : List Nd} {K1 K' : Obj} {s s1 : Int} (h : CR n B1 G f B' K' s) (h1 : CR n B G1 g B1 K1 s1) : CR n B (G1 + G) f B' K' s := ⟨h.wf, h1.pre.trans h.pre, h.st, h.sem, by have := h.len; have := h1.len; omega, h.known⟩
theorem CR.old {n : Nat} {B B1 : List Nd} {G G1 : Nat} {f g : (Int → Bool) → Bool} {B' : List Nd} {K1 K' : Obj} {s s1 : Int} (h : CR n B1 G f B' K' s) (h1 : CR n B G1 g B1 K1 s1) : St B'.length s1 ∧ ∀ σ, cM σ B' s1 = g σ := ⟨h1.st.mono (cP h.pre), fun σ => by rw [bY h.pre h1.st.2, h1.sem]⟩
theorem Hu (n : Nat) {K : Obj} {B : List Nd} (hB : WFN n B) (hK : aU K B) (e : Int) (he : 0 ≤ e ∧ e < n) (hl : B.length ≤ 998000000000) :
  ∃ B' K' s, CR n B 1 (fun σ => σ e) B' K' s ∧ aG Tryz.prog Dc 27 [.ptr 0 0, iS e] (bdH n K B) (iS s) (bdD n K' B') := by
 obtain ⟨B', K', s, h1, h2, h3⟩ := Sr n hK e (by omega)
 have hr := h1.res hB he ⟨by omega, by omega⟩ ⟨by omega, by omega⟩ (by rw [kZ (by omega)]; exact he.2) (by rw [kZ (by omega)]; exact he.2)
 refine ⟨B', K', s, ⟨hr.wf, hr.pre, hr.st, fun σ => ?_, h1.len, h2⟩, h3⟩
 rw [hr.sem σ, cN (by omega), cN (by omega)]
 cases σ e <;> rfl
theorem Zc (n : Nat) (hn : n ≤ 16) {K : Obj} {B : List Nd} (hB : WFN n B) (hK : aU K B) (p q : Int) (hp : St B.length p) (hq : St B.length q) (hl : B.length ≤ 998000000000) :
  ∃ B' K' s, CR n B 65536 (fun σ => opS (-1) (cM σ B p) (cM σ B q)) B' K' s ∧ aG Tryz.prog Dc 55 [.ptr 0 0, iS p, iS q] (bdH n K B) (iS s) (bdD n K' B') := by
 obtain ⟨B', K', s, h1, h2, h3, h4⟩ := q1n n hn p q hB hK hp hq (by omega)
 have hpow : 2 ^ n ≤ 65536 := Nat.pow_le_pow_right (by omega) hn
 have := tL h1.wf h1.pre h2
 exact ⟨B', K', s, ⟨h1.wf, h1.pre, h1.st, h1.sem, by omega, h3⟩, h4⟩
theorem cor (n : Nat) (hn : n ≤ 16) {K : Obj} {B : List Nd} (hB : WFN n B) (hK : aU K B) (p q : Int) (hp : St B.length p) (hq : St B.length q) (hl : B.length ≤ 998000000000) :
  ∃ B' K' s, CR n B 65536 (fun σ => opS (-2) (cM σ B p) (cM σ B q)) B' K' s ∧ aG Tryz.prog Dc 51 [.ptr 0 0, iS p, iS q] (bdH n K B) (iS s) (bdD n K' B') := by
 obtain ⟨B', K', s, h1, h2, h3, h4⟩ := mor n hn p q hB hK hp hq (by omega)
 have hpow : 2 ^ n ≤ 65536 := Nat.pow_le_pow_right (by omega) hn
 have := tL h1.wf h1.pre h2
 exact ⟨B', K', s, ⟨h1.wf, h1.pre, h1.st, h1.sem, by omega, h3⟩, h4⟩
theorem wU (a b : Bool) : opS (-2) a b = (a || b) := rfl
theorem C8 (a b : Bool) : opS (-1) a b = (a && b) := rfl
def Fb (l : List aD) (within : Int) (i k : Nat) : Bool := decide ((evL l k).kind = 2) && decide ((evL l k).image = (evL l i).image) && inB ((evL l k).at_ - (evL l i).at_) 0 within
abbrev BS3 := List Nd × Obj × Int
theorem iF (p : Nat → Bool) (k : Nat) : (List.range (k + 1)).any p = ((List.range k).any p || p k) := by rw [List.range_succ, List.any_append]; simp
theorem Do (n : Nat) (hn : n ≤ 16) {K : Obj} {B : List Nd} (hB : WFN n B) (hK : aU K B) (hl : B.length ≤ 997000000000) (l : List aD) (hln : l.length = n) (hE : ∀ e ∈ l, 0 ≤ e.at_ ∧ e.at_ ≤ 1000000) (i : Nat) (hi : i < l.length) (within : Int) :
    ∃ B' K' s, CR n B 1048592 (fun σ => Kq l (fun j => σ j) within i) B' K' s ∧ aG Tryz.prog Dc 56 [.ptr 2 0, iS i, iS within] (cpH n K B l) (iS s) (cpD n K' B' l) := by
  have hst : St B.length (-1) := ⟨by omega, by omega⟩
  obtain ⟨f, hf0, hfP, hfR⟩ := dP (n := l.length) (P := fun k (a : BS3) => CR n B (k * 65537) (fun σ => (List.range k).any fun j => Fb l within i j && σ j) a.1 a.2.1 a.2.2)
    (R := fun k (a b : BS3) => if Fb l within i k then ∃ B1 K1 s1, aG Tryz.prog Dc 27 [.ptr 0 0, iS k] (bdH n a.2.1 a.1) (iS s1) (bdD n K1 B1) ∧ aG Tryz.prog Dc 51 [.ptr 0 0, iS a.2.2, iS s1] (bdH n K1 B1) (iS b.2.2) (bdD n b.2.1 b.1) else b = a)
    (B, K, -1) ⟨hB, List.prefix_refl _, hst, fun σ => cN (s := -1) (by omega), by simp, hK⟩ (fun k a hk h => by
      by_cases hd : Fb l within i k = true
      · have hlen := h.len
        obtain ⟨B1, K1, s1, c1, m1⟩ := Hu n h.wf h.known k ⟨by omega, by omega⟩ (by omega)
        obtain ⟨o1, o2⟩ := c1.old h
        have hlen1 := c1.len
        obtain ⟨B2, K2, s2, c2, m2⟩ := cor n hn c1.wf c1.known a.2.2 s1 o1 c1.st (by omega)
        refine ⟨(B2, K2, s2), ((c2.after c1).after h).weaken (by rw [Nat.add_mul]; omega) fun σ => ?_, ?_⟩
        · rw [wU, o2, c1.sem, iF, hd, Bool.true_and]
        · rw [if_pos hd]; exact ⟨B1, K1, s1, m1, m2⟩
      · rw [Bool.not_eq_true] at hd
        refine ⟨a, h.weaken (by rw [Nat.add_mul]; omega) fun σ => ?_, by rw [hd]; rfl⟩
        rw [iF, hd, Bool.false_and, Bool.or_false])
  have hend := hfP l.length (Nat.le_refl _)
  refine ⟨(f l.length).1, (f l.length).2.1, (f l.length).2.2, hend.weaken (by have := Nat.mul_le_mul_right 65537 (show l.length ≤ 16 by omega); omega) fun σ => rfl, ?_⟩
  have hK0 : (f 0).2.1 = K := by rw [hf0]
  have hB0 : (f 0).1 = B := by rw [hf0]
  have hs0 : (f 0).2.2 = -1 := by rw [hf0]
  rw [← hK0, ← hB0]
  refine aC Ax aF Tryz.func56 (c := _) rfl Tryz.call56 300 ?_
  (repeat' ((conv => whnf); first | (exfalso; omega) | refine x0C ?_ | refine spC (fun hb => ?_) fun hb => ?_ | refine aJ (fun hb => ?_) ?_ | refine taC ?_ | refine saC ?_ | exact sdV | refine aA ?_ ?_ | refine aB mixed ?_))
  refine aT [some 0, some 1, some 2, none, some 3] (fun k : Nat => [(7, iS (f k).2.2), (16, iS k)]) (fun k => [(0, .vart none [iS n, .slice 4 0 3 0 (f k).1.length, .mapp 1]), (1, .obj (f k).2.1), (3, .dead), (4, .rows U.node (f k).1)]) (fun k => k ≤ l.length) (fun k => l.length - k) 0 (Nat.zero_le _) (by exact bkI) ?_
  intro k hk KK hKK
  rcases Nat.lt_or_ge k l.length with hlt | hge
  · have hR := hfR k hlt
    have b1 := hE _ (List.mem_of_getElem? (getD_some (d := Cd.dflt U.event) hlt))
    have b2 := hE _ (List.mem_of_getElem? (getD_some (d := Cd.dflt U.event) hi))
    have hin := min_ ((l.getD (k : Int).toNat (Cd.dflt U.event)).at_ - (l.getD (i : Int).toNat (Cd.dflt U.event)).at_) 0 within
    have hd : Fb l within i k = (decide ((l.getD (k : Int).toNat (Cd.dflt U.event)).kind = 2) && decide ((l.getD (k : Int).toNat (Cd.dflt U.event)).image = (l.getD (i : Int).toNat (Cd.dflt U.event)).image) && inB ((l.getD (k : Int).toNat (Cd.dflt U.event)).at_ - (l.getD (i : Int).toNat (Cd.dflt U.event)).at_) 0 within) := by
      rw [Int.toNat_natCast, Int.toNat_natCast]; rfl
    have skip : Fb l within i k = false → f (k + 1) = f k := fun h => by rw [h] at hR; exact hR
    by_cases a1 : (l.getD (k : Int).toNat (Cd.dflt U.event)).kind = 2
    rotate_left
    · have e := skip (by rw [hd, decide_eq_false a1]; rfl)
      clear hR hfR hfP hend skip hd
      (repeat' ((conv => whnf); first | (exfalso; omega) | refine hKK (k + 1) [some 0, some 1, some 2, some 3, some 4] _ _ ⟨by omega⟩ ⟨by omega⟩ (by (rw [e]; exact bkI)) | refine x0C ?_ | refine spC (fun hb => ?_) fun hb => ?_ | refine aJ (fun hb => ?_) ?_ | refine taC ?_ | refine saC ?_ | exact sdV | refine aA ?_ ?_ | refine aB mixed ?_))
    by_cases a2 : (l.getD (k : Int).toNat (Cd.dflt U.event)).image = (l.getD (i : Int).toNat (Cd.dflt U.event)).image
    rotate_left
    · have e := skip (by rw [hd, decide_eq_false a2, Bool.and_false]; rfl)
      clear hR hfR hfP hend skip hd
      (repeat' ((conv => whnf); first | (exfalso; omega) | refine hKK (k + 1) [some 0, some 1, some 2, some 3, some 4] _ _ ⟨by omega⟩ ⟨by omega⟩ (by (rw [e]; exact bkI)) | refine x0C ?_ | refine spC (fun hb => ?_) fun hb => ?_ | refine aJ (fun hb => ?_) ?_ | refine taC ?_ | refine saC ?_ | exact sdV | refine aA ?_ ?_ | refine aB mixed ?_))
    cases a3 : inB ((l.getD (k : Int).toNat (Cd.dflt U.event)).at_ - (l.getD (i : Int).toNat (Cd.dflt U.event)).at_) 0 within with
    | false =>
      have e := skip (by rw [hd, a3, Bool.and_false])
      rw [a3] at hin
      clear hR hfR hfP hend skip hd
      (repeat' ((conv => whnf); first | (exfalso; omega) | refine cpC (hin) ?_ | refine dpC (hin) ?_ | refine hKK (k + 1) [some 0, some 1, some 2, some 3, some 4] _ _ ⟨by omega⟩ ⟨by omega⟩ (by (rw [e]; exact bkI)) | refine x0C ?_ | refine spC (fun hb => ?_) fun hb => ?_ | refine aJ (fun hb => ?_) ?_ | refine taC ?_ | refine saC ?_ | exact sdV | refine aA ?_ ?_ | refine aB mixed ?_))
    | true =>
      rw [if_pos (by rw [hd, a3, decide_eq_true a1, decide_eq_true a2]; rfl)] at hR
      rw [a3] at hin
      obtain ⟨B1, K1, s1, m1, m2⟩ := hR
      clear hfR hfP hend skip hd
      (repeat' ((conv => whnf); first | (exfalso; omega) | refine cpC (hin) ?_ | refine dpC (hin) ?_ | refine dxC ?_ | (refine bZ [some 0, some 1, some 4] m1 rfl rfl ⟨rfl, rfl, rfl, trivial⟩ ?_) | (refine bZ [some 0, some 1, some 7] m2 rfl rfl ⟨rfl, rfl, rfl, trivial⟩ ?_) | refine hKK (k + 1) [some 0, some 1, some 2, some 3, some 8] _ _ ⟨by omega⟩ ⟨by omega⟩ (by exact bkI) | refine x0C ?_ | refine spC (fun hb => ?_) fun hb => ?_ | refine aJ (fun hb => ?_) ?_ | refine taC ?_ | refine saC ?_ | exact sdV | refine aA ?_ ?_ | refine aB mixed ?_))
  · have hkl : k = l.length := by omega
    subst hkl
    (repeat' ((conv => whnf); first | (exfalso; omega) | exact enC [some 0, some 1, some 2, some 3, some 4] | refine x0C ?_ | refine spC (fun hb => ?_) fun hb => ?_ | refine aJ (fun hb => ?_) ?_ | refine taC ?_ | refine saC ?_ | exact sdV | refine aA ?_ ?_ | refine aB mixed ?_))
@[reducible] def Qj (g : aK) : List (SV Cd) := [iS g.kind, lS g.rows, iS g.from_, iS g.to_, iS g.low, iS g.high, bS g.clear, iS g.days, iS g.times, iS g.within, lS g.cents, .p (.dsl U.goal g.kids)]
@[reducible] def xY : SV Cd := .fn (.func 27) [.ptr 0 0] []
@[reducible] def Vj : SV Cd := .fn (.func 54) [] [.ptr 4 0, .ptr 5 0, .ptr 6 0]
@[reducible] def c1H (n : Int) (K : Obj) (B : List Nd) (l : List aD) (g : aK) : List (HS Cd) := [.vart none [iS n, .slice 3 0 3 0 B.length, .mapp 1], .obj K, .vart none [.ptr 0 0, eS l], .rows U.node B, .vart none [.ptr 2 0], .vart none [xY], .vart none (Qj g)]
@[reducible] def c1D (n : Int) (K : Obj) (B : List Nd) (l : List aD) (g : aK) : List (HS Cd) := [.vart none [iS n, .slice 7 0 3 0 B.length, .mapp 1], .obj K, .vart none [.ptr 0 0, eS l], .dead, .vart none [.ptr 2 0], .vart none [xY], .vart none (Qj g), .rows U.node B]
theorem q12 (n : Nat) {K : Obj} {B : List Nd} (hB : WFN n B) (hK : aU K B) (l : List aD) (e : Int) (he : 0 ≤ e ∧ e < n) (hl : B.length ≤ 996000000000) :
  ∃ B' K' s, CR n B 1114129 (fun σ => σ e) B' K' s ∧ aG Tryz.prog Dc 27 [.ptr 0 0, iS e] (cpH n K B l) (iS s) (cpD n K' B' l) := by
 obtain ⟨B', K', s, h1, h2, h3⟩ := Np n hK e (-1) (-2) (by omega)
 have hr := h1.res hB he ⟨by omega, by omega⟩ ⟨by omega, by omega⟩ (by rw [kZ (by omega)]; exact he.2) (by rw [kZ (by omega)]; exact he.2)
 refine ⟨B', K', s, ⟨hr.wf, hr.pre, hr.st, fun σ => ?_, by have := h1.len; omega, h2⟩, ?_⟩
 ·rw [hr.sem σ, cN (by omega), cN (by omega)]
  cases σ e <;> rfl
 ·refine aC Ax aF Tryz.func27 (c := _) rfl Tryz.call27 100 ?_
  (repeat' ((conv => whnf); first | (exfalso; omega) | refine chC [some 0, some 1, some 3] h3 ?_ | exact enC [some 0, some 1, some 2, some 3, some 4] | refine x0C ?_ | refine spC (fun hb => ?_) fun hb => ?_ | refine aJ (fun hb => ?_) ?_ | refine taC ?_ | refine saC ?_ | exact sdV | refine aA ?_ ?_ | refine aB mixed ?_))
theorem q13 (n : Nat) (hn : n ≤ 16) {K : Obj} {B : List Nd} (hB : WFN n B) (hK : aU K B) (l : List aD) (hln : l.length = n) (hE : ∀ e ∈ l, 0 ≤ e.at_ ∧ e.at_ ≤ 1000000) (g : aK) (i : Nat) (hi : i < l.length) (hl : B.length ≤ 996000000000) :
  ∃ B' K' s, CR n B 1114129 (fun σ => σ i && Kq l (fun j => σ j) g.within i) B' K' s ∧ aG Tryz.prog Dc 54 [iS i, .ptr 4 0, .ptr 5 0, .ptr 6 0] (c1H n K B l g) (iS s) (c1D n K' B' l g) := by
 obtain ⟨B1, K1, s1, h1, m1⟩ := Hu n hB hK i ⟨by omega, by omega⟩ (by omega)
 have g1 := h1.len
 obtain ⟨B2, K2, s2, h2, m2⟩ := Do n hn h1.wf h1.known (by omega) l hln hE i hi g.within
 have g2 := h2.len
 obtain ⟨o1, o2⟩ := h2.old h1
 obtain ⟨B3, K3, s3, h3, m3⟩ := Zc n hn h2.wf h2.known s1 s2 o1 h2.st (by omega)
 refine ⟨B3, K3, s3, ((h3.after h2).after h1).weaken (by omega) fun σ => ?_, ?_⟩
 ·rw [C8, o2, h2.sem]
 ·refine aC Ax aF Tryz.func54 (c := _) rfl Tryz.call54 100 ?_
  (repeat' ((conv => whnf); first | (exfalso; omega) | refine dxC ?_ | refine dcm [some 0, some 1, some 3] [] m1 ?_ | refine dcm [some 0, some 1, some 2, some 7] [2] m2 ?_ | refine dcm [some 0, some 1, some 8] [] m3 ?_ | exact enC [some 0, some 1, some 2, some 3, some 4, some 5, some 6, some 9] | refine x0C ?_ | refine spC (fun hb => ?_) fun hb => ?_ | refine aJ (fun hb => ?_) ?_ | refine taC ?_ | refine saC ?_ | exact sdV | refine aA ?_ ?_ | refine aB mixed ?_))
theorem Jk (n : Nat) (hn : n ≤ 16) (S : List Nat) (hS : S.length ≤ 16) (G : Nat) (hG : G ≤ 20000000) (sp : Nat → (Int → Bool) → Bool) (Q : Obj → List Nd → Nat → Obj → List Nd → Int → Prop)
  (hc : ∀ (K : Obj) (B : List Nd) (i : Nat), WFN n B → aU K B → i ∈ S → B.length ≤ 996000000000 → ∃ B' K' s, CR n B G (sp i) B' K' s ∧ Q K B i K' B' s)
  {K : Obj} {B : List Nd} (hB : WFN n B) (hK : aU K B) (hl : B.length ≤ 995000000000) :
  ∃ f : Nat → BS3, f 0 = (B, K, -1) ∧ (∀ i, i ≤ S.length → CR n B (i * (G + 65536)) (fun σ => (S.take i).any fun j => sp j σ) (f i).1 (f i).2.1 (f i).2.2) ∧
   ∀ i, i < S.length → ∃ B1 K1 s1, Q (f i).2.1 (f i).1 (aY S i) K1 B1 s1 ∧ aG Tryz.prog Dc 51 [.ptr 0 0, iS (f i).2.2, iS s1] (bdH n K1 B1) (iS (f (i + 1)).2.2) (bdD n (f (i + 1)).2.1 (f (i + 1)).1) := by
 have hst : St B.length (-1) := ⟨by omega, by omega⟩
 refine dP (n := S.length) (P := fun i (a : BS3) => CR n B (i * (G + 65536)) (fun σ => (S.take i).any fun j => sp j σ) a.1 a.2.1 a.2.2)
  (R := fun i (a b : BS3) => ∃ B1 K1 s1, Q a.2.1 a.1 (aY S i) K1 B1 s1 ∧ aG Tryz.prog Dc 51 [.ptr 0 0, iS a.2.2, iS s1] (bdH n K1 B1) (iS b.2.2) (bdD n b.2.1 b.1))
  (B, K, -1) ⟨hB, List.prefix_refl _, hst, fun σ => cN (s := -1) (by omega), by simp, hK⟩ fun i a hi h => ?_
 have hm : aY S i ∈ S := by
  rw [cG (List.getElem?_eq_getElem hi)]; exact List.getElem_mem _
 have hlen := h.len
 have hbd : i * (G + 65536) ≤ 321048576 := Nat.le_trans (Nat.mul_le_mul (show i ≤ 16 by omega) (show G + 65536 ≤ 20065536 by omega)) (Nat.le_of_eq (by simp))
 have hlen2 : a.1.length ≤ B.length + 321048576 := Nat.le_trans hlen (Nat.add_le_add_left hbd _)
 clear hlen hbd
 obtain ⟨B1, K1, s1, c1, m1⟩ := hc a.2.1 a.1 (aY S i) h.wf h.known hm (by omega)
 obtain ⟨o1, o2⟩ := c1.old h
 have hlen1 := c1.len
 obtain ⟨B2, K2, s2, c2, m2⟩ := cor n hn c1.wf c1.known a.2.2 s1 o1 c1.st (by omega)
 refine ⟨(B2, K2, s2), ((c2.after c1).after h).weaken (by rw [Nat.succ_mul]; exact Nat.le_refl _) fun σ => ?_, B1, K1, s1, m1, m2⟩
 rw [wU, o2, c1.sem, oQ hi, List.any_append]
 simp
theorem lY (g : aK) (l : List aD) : (cC g l).length ≤ l.length := by
 unfold cC
 exact Nat.le_trans (List.length_filter_le _ _) (by simp)
@[reducible] def hC0 (n : Int) (l : List aD) (w : aK) (K : Obj) (B : List Nd) : List (HS Cd) := cpH n K B l
@[reducible] def hC1 (n : Int) (l : List aD) (w : aK) (K : Obj) (B : List Nd) : List (HS Cd) := c1H n K B l w
@[reducible] def dC0 (n : Int) (l : List aD) (w : aK) (K : Obj) (B : List Nd) : List (HS Cd) := cpD n K B l
@[reducible] def dC1 (n : Int) (l : List aD) (w : aK) (K : Obj) (B : List Nd) : List (HS Cd) := c1D n K B l w
@[reducible] def aC0 (i : Int) : List (SV Cd) := [.ptr 0 0, iS i]
@[reducible] def aC1 (i : Int) : List (SV Cd) := [iS i, .ptr 4 0, .ptr 5 0, .ptr 6 0]
@[reducible] def fC0 : Nat := 27
@[reducible] def fC1 : Nat := 54
def sC0 (l : List aD) (w : aK) (i : Nat) (σ : Int → Bool) : Bool := σ i
def sC1 (l : List aD) (w : aK) (i : Nat) (σ : Int → Bool) : Bool := σ i && Kq l (fun j => σ j) w.within i
@[reducible] def orV : SV Cd := .fn (.func 51) [.ptr 0 0] []
theorem cC0 (n : Nat) (hn : n ≤ 16) (l : List aD) (hln : l.length = n) (hE : ∀ e ∈ l, 0 ≤ e.at_ ∧ e.at_ ≤ 1000000) (w : aK) {K : Obj} {B : List Nd} (hB : WFN n B) (hK : aU K B) (i : Nat) (hi : i < l.length) (hl : B.length ≤ 996000000000) :
  ∃ B' K' s, CR n B 1114129 (sC0 l w i) B' K' s ∧ aG Tryz.prog Dc fC0 (aC0 i) (hC0 n l w K B) (iS s) (dC0 n l w K' B') := q12 n hB hK l i ⟨by omega, by omega⟩ hl
theorem cC1 (n : Nat) (hn : n ≤ 16) (l : List aD) (hln : l.length = n) (hE : ∀ e ∈ l, 0 ≤ e.at_ ∧ e.at_ ≤ 1000000) (w : aK) {K : Obj} {B : List Nd} (hB : WFN n B) (hK : aU K B) (i : Nat) (hi : i < l.length) (hl : B.length ≤ 996000000000) :
  ∃ B' K' s, CR n B 1114129 (sC1 l w i) B' K' s ∧ aG Tryz.prog Dc fC1 (aC1 i) (hC1 n l w K B) (iS s) (dC1 n l w K' B') := q13 n hn hB hK l hln hE w i hi hl
theorem Dg {S : List Nat} {i : Nat} (h : i < S.length) : (S.map Int.ofNat).getD (i : Int).toNat (Cd.dflt U.int) = (aY S i : Nat) := by
 rw [Int.toNat_natCast]
 unfold aY
 rw [List.getD_eq_getElem?_getD, List.getD_eq_getElem?_getD, List.getElem?_map, List.getElem?_eq_getElem h]; rfl
theorem Xi (n : Nat) (hn : n ≤ 16) (l : List aD) (hln : l.length = n) (hE : ∀ e ∈ l, 0 ≤ e.at_ ∧ e.at_ ≤ 1000000) (w : aK) {K : Obj} {B : List Nd} (hB : WFN n B) (hK : aU K B) (hl : B.length ≤ 995000000000) (S : List Nat) (hS : S.length ≤ 16) (hSl : ∀ i ∈ S, i < l.length) :
  ∃ B' K' s, CR n B 20000000 (fun σ => S.any fun i => sC0 l w i σ) B' K' s ∧ aG Tryz.prog Dc 49 [.p (.dsl U.int (S.map Int.ofNat)), iS (-1), orV, xY] (hC0 n l w K B) (iS s) (dC0 n l w K' B') := by
 obtain ⟨f, hf0, hfP, hfR⟩ := Jk n hn S hS 1114129 (by omega) (sC0 l w) (fun K B i K' B' s => aG Tryz.prog Dc fC0 (aC0 i) (hC0 n l w K B) (iS s) (dC0 n l w K' B'))
  (fun K B i h1 h2 h3 h4 => cC0 n hn l hln hE w h1 h2 i (hSl i h3) h4) hB hK hl
 have hend := hfP _ (Nat.le_refl _)
 rw [List.take_length] at hend
 refine ⟨_, _, _, hend.weaken (Nat.le_trans (Nat.mul_le_mul_right _ hS) (by omega)) fun σ => rfl, ?_⟩
 have hK0 : (f 0).2.1 = K := by rw [hf0]
 have hB0 : (f 0).1 = B := by rw [hf0]
 have hs0 : (f 0).2.2 = -1 := by rw [hf0]
 rw [← hK0, ← hB0]
 have hz : (S.map Int.ofNat).length = S.length := List.length_map ..
 refine aC Ax aF Tryz.func49 (c := _) rfl Tryz.call49 300 ?_
 (repeat' ((conv => whnf); first | (exfalso; omega) | refine x0C ?_ | refine spC (fun hb => ?_) fun hb => ?_ | refine aJ (fun hb => ?_) ?_ | refine taC ?_ | refine saC ?_ | exact sdV | refine aA ?_ ?_ | refine aB mixed ?_))
 refine aT [some 0, some 1, some 2, none, some 3] (fun i : Nat => [(1, iS (f i).2.2), (13, iS i)]) (fun i => [(0, .vart none [iS n, .slice 4 0 3 0 (f i).1.length, .mapp 1]), (1, .obj (f i).2.1), (3, .dead), (4, .rows U.node (f i).1)]) (fun i => i ≤ S.length) (fun i => S.length - i) 0 (Nat.zero_le _) (by exact bkI) ?_
 intro i hi KK hKK
 rcases Nat.lt_or_ge i S.length with hlt | hge
 ·obtain ⟨B1, K1, s1, m1, m2⟩ := hfR i hlt
  rw [← Dg hlt] at m1
  clear hfR hfP hend
  (repeat' ((conv => whnf); first | (exfalso; omega) | refine dxC ?_ | refine chC [some 0, some 1, some 2, some 4] m1 ?_ | refine chC [some 0, some 1, some 5] m2 ?_ | refine hKK (i + 1) [some 0, some 1, some 2, some 3, some 6] _ _ ⟨by omega⟩ ⟨by omega⟩ (by exact bkI) | refine x0C ?_ | refine spC (fun hb => ?_) fun hb => ?_ | refine aJ (fun hb => ?_) ?_ | refine taC ?_ | refine saC ?_ | exact sdV | refine aA ?_ ?_ | refine aB mixed ?_))
 ·have hiS : i = S.length := by omega
  subst hiS
  (repeat' ((conv => whnf); first | (exfalso; omega) | exact enC [some 0, some 1, some 2, some 3, some 4] | refine x0C ?_ | refine spC (fun hb => ?_) fun hb => ?_ | refine aJ (fun hb => ?_) ?_ | refine taC ?_ | refine saC ?_ | exact sdV | refine aA ?_ ?_ | refine aB mixed ?_))
theorem Wu (n : Nat) (hn : n ≤ 16) (l : List aD) (hln : l.length = n) (hE : ∀ e ∈ l, 0 ≤ e.at_ ∧ e.at_ ≤ 1000000) (w : aK) {K : Obj} {B : List Nd} (hB : WFN n B) (hK : aU K B) (hl : B.length ≤ 995000000000) (S : List Nat) (hS : S.length ≤ 16) (hSl : ∀ i ∈ S, i < l.length) :
  ∃ B' K' s, CR n B 20000000 (fun σ => S.any fun i => sC1 l w i σ) B' K' s ∧ aG Tryz.prog Dc 49 [.p (.dsl U.int (S.map Int.ofNat)), iS (-1), orV, Vj] (hC1 n l w K B) (iS s) (dC1 n l w K' B') := by
 obtain ⟨f, hf0, hfP, hfR⟩ := Jk n hn S hS 1114129 (by omega) (sC1 l w) (fun K B i K' B' s => aG Tryz.prog Dc fC1 (aC1 i) (hC1 n l w K B) (iS s) (dC1 n l w K' B'))
  (fun K B i h1 h2 h3 h4 => cC1 n hn l hln hE w h1 h2 i (hSl i h3) h4) hB hK hl
 have hend := hfP _ (Nat.le_refl _)
 rw [List.take_length] at hend
 refine ⟨_, _, _, hend.weaken (Nat.le_trans (Nat.mul_le_mul_right _ hS) (by omega)) fun σ => rfl, ?_⟩
 have hK0 : (f 0).2.1 = K := by rw [hf0]
 have hB0 : (f 0).1 = B := by rw [hf0]
 have hs0 : (f 0).2.2 = -1 := by rw [hf0]
 rw [← hK0, ← hB0]
 have hz : (S.map Int.ofNat).length = S.length := List.length_map ..
 refine aC Ax aF Tryz.func49 (c := _) rfl Tryz.call49 300 ?_
 (repeat' ((conv => whnf); first | (exfalso; omega) | refine x0C ?_ | refine spC (fun hb => ?_) fun hb => ?_ | refine aJ (fun hb => ?_) ?_ | refine taC ?_ | refine saC ?_ | exact sdV | refine aA ?_ ?_ | refine aB mixed ?_))
 refine aT [some 0, some 1, some 2, none, some 4, some 5, some 6, some 3] (fun i : Nat => [(1, iS (f i).2.2), (13, iS i)]) (fun i => [(0, .vart none [iS n, .slice 7 0 3 0 (f i).1.length, .mapp 1]), (1, .obj (f i).2.1), (3, .dead), (7, .rows U.node (f i).1)]) (fun i => i ≤ S.length) (fun i => S.length - i) 0 (Nat.zero_le _) (by exact bkI) ?_
 intro i hi KK hKK
 rcases Nat.lt_or_ge i S.length with hlt | hge
 ·obtain ⟨B1, K1, s1, m1, m2⟩ := hfR i hlt
  rw [← Dg hlt] at m1
  clear hfR hfP hend
  (repeat' ((conv => whnf); first | (exfalso; omega) | refine dxC ?_ | refine chC [some 0, some 1, some 2, some 7, some 4, some 5, some 6] m1 ?_ | refine chC [some 0, some 1, some 8] m2 ?_ | refine hKK (i + 1) [some 0, some 1, some 2, some 3, some 4, some 5, some 6, some 9] _ _ ⟨by omega⟩ ⟨by omega⟩ (by exact bkI) | refine x0C ?_ | refine spC (fun hb => ?_) fun hb => ?_ | refine aJ (fun hb => ?_) ?_ | refine taC ?_ | refine saC ?_ | exact sdV | refine aA ?_ ?_ | refine aB mixed ?_))
 ·have hiS : i = S.length := by omega
  subst hiS
  (repeat' ((conv => whnf); first | (exfalso; omega) | exact enC [some 0, some 1, some 2, some 3, some 4, some 5, some 6, some 7] | refine x0C ?_ | refine spC (fun hb => ?_) fun hb => ?_ | refine aJ (fun hb => ?_) ?_ | refine taC ?_ | refine saC ?_ | exact sdV | refine aA ?_ ?_ | refine aB mixed ?_))
def wC0 (l : List aD) (w : aK) (σ : Int → Bool) (i : Nat) : Bool := σ i
def wC1 (l : List aD) (w : aK) (σ : Int → Bool) (i : Nat) : Bool := σ i && Kq l (fun j => σ j) w.within i
theorem q0y (n : Nat) (hn : n ≤ 16) (l : List aD) (hln : l.length = n) (hE : ∀ e ∈ l, 0 ≤ e.at_ ∧ e.at_ ≤ 1000000) (hL : ∀ e ∈ l, jM e) (w : aK) {K : Obj} {B : List Nd} (hB : WFN n B) (hK : aU K B) (hl : B.length ≤ 994000000000) (g : aK) (hk : g.kind = 1) (hg : (g.rows.length : Int) ≤ 9223372036854775807) :
  ∃ B' K' s, CR n B 20000000 (fun σ => lE g l (wC0 l w σ)) B' K' s ∧ aG Tryz.prog Dc 26 [.ptr 2 0, aP g, xY] (hC0 n l w K B) (iS s) (dC0 n l w K' B') := by
 have hsl := lY g l
 obtain ⟨B', K', s, h1, h2⟩ := Xi n hn l hln hE w hB hK (by omega) (cC g l) (by omega) fun i h => lM h
 refine ⟨B', K', s, h1.weaken (Nat.le_refl _) fun σ => by unfold lE; rw [if_pos hk]; rfl, ?_⟩
 have hsu : aG Tryz.prog Dc 50 [.ptr 2 0, aP g] (cpH n K B l) (.p (.dsl U.int ((cC g l).map Int.ofNat))) (cpH n K B l) := qV n K B l (by omega) hL g hg
 refine aC Ax aF Tryz.func26 (c := _) rfl Tryz.call26 300 ?_
 (repeat' ((conv => whnf); first | (exfalso; omega) | refine dxC ?_ | refine dcm [some 0, some 1, some 2, some 3] [0, 1, 2, 3] hsu ?_ | refine dcm [some 0, some 1, some 2, some 3] [2] h2 ?_ | exact enC [some 0, some 1, some 2, some 3, some 7] | refine x0C ?_ | refine spC (fun hb => ?_) fun hb => ?_ | refine aJ (fun hb => ?_) ?_ | refine taC ?_ | refine saC ?_ | exact sdV | refine aA ?_ ?_ | refine aB mixed ?_))
theorem q08 (n : Nat) (hn : n ≤ 16) (l : List aD) (hln : l.length = n) (hE : ∀ e ∈ l, 0 ≤ e.at_ ∧ e.at_ ≤ 1000000) (hL : ∀ e ∈ l, jM e) (w : aK) {K : Obj} {B : List Nd} (hB : WFN n B) (hK : aU K B) (hl : B.length ≤ 994000000000) (g : aK) (hk : g.kind = 1) (hg : (g.rows.length : Int) ≤ 9223372036854775807) :
  ∃ B' K' s, CR n B 20000000 (fun σ => lE g l (wC1 l w σ)) B' K' s ∧ aG Tryz.prog Dc 26 [.ptr 2 0, aP g, Vj] (hC1 n l w K B) (iS s) (dC1 n l w K' B') := by
 have hsl := lY g l
 obtain ⟨B', K', s, h1, h2⟩ := Wu n hn l hln hE w hB hK (by omega) (cC g l) (by omega) fun i h => lM h
 refine ⟨B', K', s, h1.weaken (Nat.le_refl _) fun σ => by unfold lE; rw [if_pos hk]; rfl, ?_⟩
 have hsu : aG Tryz.prog Dc 50 [.ptr 2 0, aP g] (cpH n K B l) (.p (.dsl U.int ((cC g l).map Int.ofNat))) (cpH n K B l) := qV n K B l (by omega) hL g hg
 refine aC Ax aF Tryz.func26 (c := _) rfl Tryz.call26 300 ?_
 (repeat' ((conv => whnf); first | (exfalso; omega) | refine dxC ?_ | refine dcm [some 0, some 1, some 2, some 3] [0, 1, 2, 3] hsu ?_ | refine dcm [some 0, some 1, some 2, some 3, some 4, some 5, some 6] [2, 4, 5, 6] h2 ?_ | exact enC [some 0, some 1, some 2, some 3, some 4, some 5, some 6, some 10] | refine x0C ?_ | refine spC (fun hb => ?_) fun hb => ?_ | refine aJ (fun hb => ?_) ?_ | refine taC ?_ | refine saC ?_ | exact sdV | refine aA ?_ ?_ | refine aB mixed ?_))
theorem xB (n : Nat) (hn : n ≤ 16) (S : List Nat) (hS : S.length ≤ 16) (pf : Nat → Nat → Bool) (sp : Nat → (Int → Bool) → Bool) (Q : Obj → List Nd → Nat → Obj → List Nd → Int → Prop)
    (hc : ∀ (K : Obj) (B : List Nd) (i : Nat), WFN n B → aU K B → i ∈ S → B.length ≤ 996000000000 → ∃ B' K' s, CR n B 1114129 (sp i) B' K' s ∧ Q K B i K' B' s)
    {K : Obj} {B : List Nd} (hB : WFN n B) (hK : aU K B) (hl : B.length ≤ 995000000000) :
    ∃ f : Nat → BS3, f 0 = (B, K, -1) ∧ (∀ k, k ≤ S.length → CR n B (k * 37749280) (fun σ => (List.range k).any fun k => (List.range k).any fun j => pf j k && (sp (aY S j) σ && sp (aY S k) σ)) (f k).1 (f k).2.1 (f k).2.2) ∧
      ∀ k, k < S.length → ∃ g : Nat → BS3, g 0 = f k ∧ g k = f (k + 1) ∧ ∀ j, j < k → if pf j k then ∃ B1 K1 s1 B2 K2 s2 B3 K3 s3, Q (g j).2.1 (g j).1 (aY S j) K1 B1 s1 ∧ Q K1 B1 (aY S k) K2 B2 s2 ∧
        aG Tryz.prog Dc 55 [.ptr 0 0, iS s1, iS s2] (bdH n K2 B2) (iS s3) (bdD n K3 B3) ∧ aG Tryz.prog Dc 51 [.ptr 0 0, iS (g j).2.2, iS s3] (bdH n K3 B3) (iS (g (j + 1)).2.2) (bdD n (g (j + 1)).2.1 (g (j + 1)).1) else g (j + 1) = g j := by
  have hst : St B.length (-1) := ⟨by omega, by omega⟩
  have hm : ∀ i, i < S.length → aY S i ∈ S := fun i hi => by rw [cG (List.getElem?_eq_getElem hi)]; exact List.getElem_mem _
  refine dP (n := S.length) (P := fun k (a : BS3) => CR n B (k * 37749280) (fun σ => (List.range k).any fun k => (List.range k).any fun j => pf j k && (sp (aY S j) σ && sp (aY S k) σ)) a.1 a.2.1 a.2.2)
    (R := fun k (a b : BS3) => ∃ g : Nat → BS3, g 0 = a ∧ g k = b ∧ ∀ j, j < k → if pf j k then ∃ B1 K1 s1 B2 K2 s2 B3 K3 s3, Q (g j).2.1 (g j).1 (aY S j) K1 B1 s1 ∧ Q K1 B1 (aY S k) K2 B2 s2 ∧
        aG Tryz.prog Dc 55 [.ptr 0 0, iS s1, iS s2] (bdH n K2 B2) (iS s3) (bdD n K3 B3) ∧ aG Tryz.prog Dc 51 [.ptr 0 0, iS (g j).2.2, iS s3] (bdH n K3 B3) (iS (g (j + 1)).2.2) (bdD n (g (j + 1)).2.1 (g (j + 1)).1) else g (j + 1) = g j)
    (B, K, -1) ⟨hB, List.prefix_refl _, hst, fun σ => cN (s := -1) (by omega), by simp, hK⟩ fun k a hk h => ?_
  obtain ⟨g, g0, gP, gR⟩ := dP (n := k) (P := fun j (b : BS3) => CR n B (k * 37749280 + j * 2359330) (fun σ => ((List.range k).any fun k => (List.range k).any fun j => pf j k && (sp (aY S j) σ && sp (aY S k) σ)) || (List.range j).any fun j => pf j k && (sp (aY S j) σ && sp (aY S k) σ)) b.1 b.2.1 b.2.2)
    (R := fun j (a b : BS3) => if pf j k then ∃ B1 K1 s1 B2 K2 s2 B3 K3 s3, Q a.2.1 a.1 (aY S j) K1 B1 s1 ∧ Q K1 B1 (aY S k) K2 B2 s2 ∧
        aG Tryz.prog Dc 55 [.ptr 0 0, iS s1, iS s2] (bdH n K2 B2) (iS s3) (bdD n K3 B3) ∧ aG Tryz.prog Dc 51 [.ptr 0 0, iS a.2.2, iS s3] (bdH n K3 B3) (iS b.2.2) (bdD n b.2.1 b.1) else b = a)
    a (h.weaken (by omega) fun σ => by simp) (fun j b hj hb => by
      by_cases hp : pf j k = true
      · have hlen := hb.len
        obtain ⟨B1, K1, s1, c1, m1⟩ := hc b.2.1 b.1 (aY S j) hb.wf hb.known (hm j (by omega)) (by omega)
        have l1 := c1.len
        obtain ⟨B2, K2, s2, c2, m2⟩ := hc K1 B1 (aY S k) c1.wf c1.known (hm k hk) (by omega)
        have l2 := c2.len
        obtain ⟨p1, p2⟩ := c2.old c1
        obtain ⟨B3, K3, s3, c3, m3⟩ := Zc n hn c2.wf c2.known s1 s2 p1 c2.st (by omega)
        have l3 := c3.len
        obtain ⟨q1, q2⟩ := ((c3.after c2).after c1).old hb
        obtain ⟨B4, K4, s4, c4, m4⟩ := cor n hn c3.wf c3.known b.2.2 s3 q1 c3.st (by omega)
        refine ⟨(B4, K4, s4), ((((c4.after c3).after c2).after c1).after hb).weaken (by rw [Nat.succ_mul]; omega) fun σ => ?_, ?_⟩
        · rw [wU, q2, c3.sem, C8, p2, c2.sem, iF (k := j), hp, Bool.true_and, Bool.or_assoc]
        · rw [if_pos hp]; exact ⟨B1, K1, s1, B2, K2, s2, B3, K3, s3, m1, m2, m3, m4⟩
      · rw [Bool.not_eq_true] at hp
        refine ⟨b, hb.weaken (by rw [Nat.succ_mul]; omega) fun σ => ?_, by rw [hp]; rfl⟩
        rw [iF (k := j), hp, Bool.false_and, Bool.or_false])
  refine ⟨g k, (gP k (Nat.le_refl _)).weaken (by rw [Nat.succ_mul]; omega) fun σ => ?_, g, g0, rfl, gR⟩
  rw [iF (k := k)]
theorem Wn (n : Nat) (hn : n ≤ 16) (l : List aD) (hln : l.length = n) (hE : ∀ e ∈ l, 0 ≤ e.at_ ∧ e.at_ ≤ 1000000) (hlk : ∀ e ∈ l, -4 ≤ e.look ∧ e.look ≤ 4) (hL : ∀ e ∈ l, jM e) (w : aK) {K : Obj} {B : List Nd} (hB : WFN n B) (hK : aU K B) (hl : B.length ≤ 994000000000) (g : aK) (hk : (g.kids.length : Int) = 1) (hg : ((eC g.kids).rows.length : Int) ≤ 9223372036854775807) :
  ∃ B' K' s, CR n B 604000000 (fun σ => Ik g l (cC (eC g.kids) l) (wC0 l w σ)) B' K' s ∧ aG Tryz.prog Dc 52 [.ptr 2 0, aP g, xY] (hC0 n l w K B) (iS s) (dC0 n l w K' B') := by
 have hsl := lY (eC g.kids) l
 have hSl : ∀ i ∈ cC (eC g.kids) l, i < l.length := fun i h => lM h
 have hsu : aG Tryz.prog Dc 50 [.ptr 2 0, aP (g.kids.getD (Int.toNat 0) (Cd.dflt U.goal))] (cpH n K B l) (.p (.dsl U.int ((cC (eC g.kids) l).map Int.ofNat))) (cpH n K B l) := qV n K B l (by omega) hL (eC g.kids) hg
 generalize hS : cC (eC g.kids) l = S at *
 obtain ⟨f, hf0, hfP, hfR⟩ := xB n hn S (by omega) (fun j k => pfC g (evL l (aY S j)) (evL l (aY S k))) (sC0 l w) (fun K B i K' B' s => aG Tryz.prog Dc fC0 (aC0 i) (hC0 n l w K B) (iS s) (dC0 n l w K' B'))
  (fun K B i h1 h2 h3 h4 => cC0 n hn l hln hE w h1 h2 i (hSl i h3) h4) hB hK (by omega)
 refine ⟨_, _, _, (hfP _ (Nat.le_refl _)).weaken (by omega) fun σ => rfl, ?_⟩
 have hK0 : (f 0).2.1 = K := by rw [hf0]
 have hB0 : (f 0).1 = B := by rw [hf0]
 have hs0 : (f 0).2.2 = -1 := by rw [hf0]
 rw [← hK0, ← hB0] at hsu ⊢
 have hz : (S.map Int.ofNat).length = S.length := List.length_map ..
 refine aC Ax aF Tryz.func52 (c := _) rfl Tryz.call52 400 ?_
 (repeat' ((conv => whnf); first | (exfalso; omega) | refine chC [some 0, some 1, some 2, some 3] hsu ?_ | refine x0C ?_ | refine spC (fun hb => ?_) fun hb => ?_ | refine aJ (fun hb => ?_) ?_ | refine taC ?_ | refine saC ?_ | exact sdV | refine aA ?_ ?_ | refine aB mixed ?_))
 refine aT [some 0, some 1, some 2, none, some 4, some 3] (fun k : Nat => [(8, iS (f k).2.2), (23, iS k)]) (fun k => [(0, .vart none [iS n, .slice 5 0 3 0 (f k).1.length, .mapp 1]), (1, .obj (f k).2.1), (3, .dead), (5, .rows U.node (f k).1)]) (fun k => k ≤ S.length) (fun k => S.length - k) 0 (Nat.zero_le _) (by exact bkI) ?_
 intro k hk KK hKK
 rcases Nat.lt_or_ge k S.length with hlt | hge
 ·obtain ⟨q, hq0, hqk, hqR⟩ := hfR k hlt
  have hDl : (List.drop (Int.toNat 0) (List.take (k : Int).toNat (S.map Int.ofNat))).length = k := by
   rw [show Int.toNat 0 = 0 from rfl, List.drop_zero, List.length_take, Int.toNat_natCast, hz]; omega
  have hDg : ∀ j, j < k → (List.drop (Int.toNat 0) (List.take (k : Int).toNat (S.map Int.ofNat))).getD (j : Int).toNat (Cd.dflt U.int) = (aY S j : Nat) := fun j hj => by
   rw [← Dg (show j < S.length by omega), show Int.toNat 0 = 0 from rfl, List.drop_zero, Int.toNat_natCast, Int.toNat_natCast, List.getD_eq_getElem?_getD, List.getD_eq_getElem?_getD, List.getElem?_take, if_pos hj]
  have hZk := Dg hlt
  have hNl : ∀ j, j < S.length → aY S j < l.length := fun j hj => hSl _ (by rw [cG (List.getElem?_eq_getElem hj)]; exact List.getElem_mem _)
  have hbk := hNl k hlt
  (repeat' ((conv => whnf); first | (exfalso; omega) | refine x0C ?_ | refine spC (fun hb => ?_) fun hb => ?_ | refine aJ (fun hb => ?_) ?_ | refine taC ?_ | refine saC ?_ | exact sdV | refine aA ?_ ?_ | refine aB mixed ?_))
  rw [← hq0]
  refine aT [some 0, some 1, some 2, some 3, some 4, some 5] (fun j : Nat => [(8, iS (q j).2.2), (32, iS j)]) (fun j => [(0, .vart none [iS n, .slice 5 0 3 0 (q j).1.length, .mapp 1]), (1, .obj (q j).2.1), (5, .rows U.node (q j).1)]) (fun j => j ≤ k) (fun j => k - j) 0 (Nat.zero_le _) (by exact bkI) ?_
  intro j hj K2 hK2
  rcases Nat.lt_or_ge j k with hjk | hjk
  ·have hR := hqR j hjk
   have hXj := hDg j hjk
   have hbj := hNl j (by omega)
   have ea : l.getD (Int.toNat ((List.drop (Int.toNat 0) (List.take (k : Int).toNat (S.map Int.ofNat))).getD (j : Int).toNat (Cd.dflt U.int))) (Cd.dflt U.event) = evL l (aY S j) := by rw [hXj, Int.toNat_natCast]; rfl
   have eb : l.getD (Int.toNat ((S.map Int.ofNat).getD (k : Int).toNat (Cd.dflt U.int))) (Cd.dflt U.event) = evL l (aY S k) := by rw [hZk, Int.toNat_natCast]; rfl
   have ma : evL l (aY S j) ∈ l := by unfold evL; rw [List.getD_eq_getElem?_getD, List.getElem?_eq_getElem hbj]; exact List.getElem_mem _
   have mb : evL l (aY S k) ∈ l := by unfold evL; rw [List.getD_eq_getElem?_getD, List.getElem?_eq_getElem hbk]; exact List.getElem_mem _
   have ba := hE _ ma
   have bb := hE _ mb
   have la := hlk _ ma
   have lb := hlk _ mb
   unfold pfC Da at hR
   rw [← ea] at ba la hR
   rw [← eb] at bb lb hR
   clear ma mb
   by_cases p1 : g.low ≤ max ((l.getD (Int.toNat ((List.drop (Int.toNat 0) (List.take (k : Int).toNat (S.map Int.ofNat))).getD (j : Int).toNat (Cd.dflt U.int))) (Cd.dflt U.event)).look - (l.getD (Int.toNat ((S.map Int.ofNat).getD (k : Int).toNat (Cd.dflt U.int))) (Cd.dflt U.event)).look) ((l.getD (Int.toNat ((S.map Int.ofNat).getD (k : Int).toNat (Cd.dflt U.int))) (Cd.dflt U.event)).look - (l.getD (Int.toNat ((List.drop (Int.toNat 0) (List.take (k : Int).toNat (S.map Int.ofNat))).getD (j : Int).toNat (Cd.dflt U.int))) (Cd.dflt U.event)).look)
   rotate_left
   ·have e : q (j + 1) = q j := by rw [decide_eq_false p1] at hR; exact hR
    clear hR hqR hfR hfP hE hlk
    (repeat' ((conv => whnf); first | (exfalso; omega) | refine hK2 (j + 1) [some 0, some 1, some 2, some 3, some 4, some 5] _ _ ⟨by omega⟩ ⟨by omega⟩ (by (rw [e]; exact bkI)) | refine x0C ?_ | refine spC (fun hb => ?_) fun hb => ?_ | refine aJ (fun hb => ?_) ?_ | refine taC ?_ | refine saC ?_ | exact sdV | refine aA ?_ ?_ | refine aB mixed ?_))
   by_cases p2 : (l.getD (Int.toNat ((S.map Int.ofNat).getD (k : Int).toNat (Cd.dflt U.int))) (Cd.dflt U.event)).at_ - (l.getD (Int.toNat ((List.drop (Int.toNat 0) (List.take (k : Int).toNat (S.map Int.ofNat))).getD (j : Int).toNat (Cd.dflt U.int))) (Cd.dflt U.event)).at_ ≤ g.within
   rotate_left
   ·have e : q (j + 1) = q j := by rw [decide_eq_true p1, decide_eq_false p2] at hR; exact hR
    clear hR hqR hfR hfP hE hlk
    (repeat' ((conv => whnf); first | (exfalso; omega) | refine hK2 (j + 1) [some 0, some 1, some 2, some 3, some 4, some 5] _ _ ⟨by omega⟩ ⟨by omega⟩ (by (rw [e]; exact bkI)) | refine x0C ?_ | refine spC (fun hb => ?_) fun hb => ?_ | refine aJ (fun hb => ?_) ?_ | refine taC ?_ | refine saC ?_ | exact sdV | refine aA ?_ ?_ | refine aB mixed ?_))
   rw [decide_eq_true p1, decide_eq_true p2] at hR
   obtain ⟨B1, K1, s1, B2, K2', s2, B3, K3, s3, m1, m2, m3, m4⟩ := hR
   rw [← hXj] at m1
   rw [← hZk] at m2
   clear hqR hfR hfP hE hlk
   (repeat' ((conv => whnf); first | (exfalso; omega) | refine dxC ?_ | refine dcm [some 0, some 1, some 2, some 5] [2] m1 ?_ | refine dcm [some 0, some 1, some 2, some 8] [2] m2 ?_ | refine dcm [some 0, some 1, some 9] [] m3 ?_ | refine dcm [some 0, some 1, some 10] [] m4 ?_ | refine hK2 (j + 1) [some 0, some 1, some 2, some 3, some 4, some 11] _ _ ⟨by omega⟩ ⟨by omega⟩ (by exact bkI) | refine x0C ?_ | refine spC (fun hb => ?_) fun hb => ?_ | refine aJ (fun hb => ?_) ?_ | refine taC ?_ | refine saC ?_ | exact sdV | refine aA ?_ ?_ | refine aB mixed ?_))
  ·have hjk2 : j = k := by omega
   subst hjk2
   (repeat' ((conv => whnf); first | (exfalso; omega) | refine hKK (j + 1) [some 0, some 1, some 2, some 3, some 4, some 5] _ _ ⟨by omega⟩ ⟨by omega⟩ (by (rw [← hqk]; exact bkI)) | refine x0C ?_ | refine spC (fun hb => ?_) fun hb => ?_ | refine aJ (fun hb => ?_) ?_ | refine taC ?_ | refine saC ?_ | exact sdV | refine aA ?_ ?_ | refine aB mixed ?_))
 ·have hkS : k = S.length := by omega
  subst hkS
  (repeat' ((conv => whnf); first | (exfalso; omega) | exact enC [some 0, some 1, some 2, some 3, some 5] | refine x0C ?_ | refine spC (fun hb => ?_) fun hb => ?_ | refine aJ (fun hb => ?_) ?_ | refine taC ?_ | refine saC ?_ | exact sdV | refine aA ?_ ?_ | refine aB mixed ?_))
theorem Wt (n : Nat) (hn : n ≤ 16) (l : List aD) (hln : l.length = n) (hE : ∀ e ∈ l, 0 ≤ e.at_ ∧ e.at_ ≤ 1000000) (hlk : ∀ e ∈ l, -4 ≤ e.look ∧ e.look ≤ 4) (hL : ∀ e ∈ l, jM e) (w : aK) {K : Obj} {B : List Nd} (hB : WFN n B) (hK : aU K B) (hl : B.length ≤ 994000000000) (g : aK) (hk : (g.kids.length : Int) = 1) (hg : ((eC g.kids).rows.length : Int) ≤ 9223372036854775807) :
  ∃ B' K' s, CR n B 604000000 (fun σ => Ik g l (cC (eC g.kids) l) (wC1 l w σ)) B' K' s ∧ aG Tryz.prog Dc 52 [.ptr 2 0, aP g, Vj] (hC1 n l w K B) (iS s) (dC1 n l w K' B') := by
 have hsl := lY (eC g.kids) l
 have hSl : ∀ i ∈ cC (eC g.kids) l, i < l.length := fun i h => lM h
 have hsu : aG Tryz.prog Dc 50 [.ptr 2 0, aP (g.kids.getD (Int.toNat 0) (Cd.dflt U.goal))] (cpH n K B l) (.p (.dsl U.int ((cC (eC g.kids) l).map Int.ofNat))) (cpH n K B l) := qV n K B l (by omega) hL (eC g.kids) hg
 generalize hS : cC (eC g.kids) l = S at *
 obtain ⟨f, hf0, hfP, hfR⟩ := xB n hn S (by omega) (fun j k => pfC g (evL l (aY S j)) (evL l (aY S k))) (sC1 l w) (fun K B i K' B' s => aG Tryz.prog Dc fC1 (aC1 i) (hC1 n l w K B) (iS s) (dC1 n l w K' B'))
  (fun K B i h1 h2 h3 h4 => cC1 n hn l hln hE w h1 h2 i (hSl i h3) h4) hB hK (by omega)
 refine ⟨_, _, _, (hfP _ (Nat.le_refl _)).weaken (by omega) fun σ => rfl, ?_⟩
 have hK0 : (f 0).2.1 = K := by rw [hf0]
 have hB0 : (f 0).1 = B := by rw [hf0]
 have hs0 : (f 0).2.2 = -1 := by rw [hf0]
 rw [← hK0, ← hB0] at hsu ⊢
 have hz : (S.map Int.ofNat).length = S.length := List.length_map ..
 refine aC Ax aF Tryz.func52 (c := _) rfl Tryz.call52 400 ?_
 (repeat' ((conv => whnf); first | (exfalso; omega) | refine chC [some 0, some 1, some 2, some 3] hsu ?_ | refine x0C ?_ | refine spC (fun hb => ?_) fun hb => ?_ | refine aJ (fun hb => ?_) ?_ | refine taC ?_ | refine saC ?_ | exact sdV | refine aA ?_ ?_ | refine aB mixed ?_))
 refine aT [some 0, some 1, some 2, none, some 4, some 5, some 6, some 7, some 3] (fun k : Nat => [(8, iS (f k).2.2), (23, iS k)]) (fun k => [(0, .vart none [iS n, .slice 8 0 3 0 (f k).1.length, .mapp 1]), (1, .obj (f k).2.1), (3, .dead), (8, .rows U.node (f k).1)]) (fun k => k ≤ S.length) (fun k => S.length - k) 0 (Nat.zero_le _) (by exact bkI) ?_
 intro k hk KK hKK
 rcases Nat.lt_or_ge k S.length with hlt | hge
 ·obtain ⟨q, hq0, hqk, hqR⟩ := hfR k hlt
  have hDl : (List.drop (Int.toNat 0) (List.take (k : Int).toNat (S.map Int.ofNat))).length = k := by
   rw [show Int.toNat 0 = 0 from rfl, List.drop_zero, List.length_take, Int.toNat_natCast, hz]; omega
  have hDg : ∀ j, j < k → (List.drop (Int.toNat 0) (List.take (k : Int).toNat (S.map Int.ofNat))).getD (j : Int).toNat (Cd.dflt U.int) = (aY S j : Nat) := fun j hj => by
   rw [← Dg (show j < S.length by omega), show Int.toNat 0 = 0 from rfl, List.drop_zero, Int.toNat_natCast, Int.toNat_natCast, List.getD_eq_getElem?_getD, List.getD_eq_getElem?_getD, List.getElem?_take, if_pos hj]
  have hZk := Dg hlt
  have hNl : ∀ j, j < S.length → aY S j < l.length := fun j hj => hSl _ (by rw [cG (List.getElem?_eq_getElem hj)]; exact List.getElem_mem _)
  have hbk := hNl k hlt
  (repeat' ((conv => whnf); first | (exfalso; omega) | refine x0C ?_ | refine spC (fun hb => ?_) fun hb => ?_ | refine aJ (fun hb => ?_) ?_ | refine taC ?_ | refine saC ?_ | exact sdV | refine aA ?_ ?_ | refine aB mixed ?_))
  rw [← hq0]
  refine aT [some 0, some 1, some 2, some 3, some 4, some 5, some 6, some 7, some 8] (fun j : Nat => [(8, iS (q j).2.2), (32, iS j)]) (fun j => [(0, .vart none [iS n, .slice 8 0 3 0 (q j).1.length, .mapp 1]), (1, .obj (q j).2.1), (8, .rows U.node (q j).1)]) (fun j => j ≤ k) (fun j => k - j) 0 (Nat.zero_le _) (by exact bkI) ?_
  intro j hj K2 hK2
  rcases Nat.lt_or_ge j k with hjk | hjk
  ·have hR := hqR j hjk
   have hXj := hDg j hjk
   have hbj := hNl j (by omega)
   have ea : l.getD (Int.toNat ((List.drop (Int.toNat 0) (List.take (k : Int).toNat (S.map Int.ofNat))).getD (j : Int).toNat (Cd.dflt U.int))) (Cd.dflt U.event) = evL l (aY S j) := by rw [hXj, Int.toNat_natCast]; rfl
   have eb : l.getD (Int.toNat ((S.map Int.ofNat).getD (k : Int).toNat (Cd.dflt U.int))) (Cd.dflt U.event) = evL l (aY S k) := by rw [hZk, Int.toNat_natCast]; rfl
   have ma : evL l (aY S j) ∈ l := by unfold evL; rw [List.getD_eq_getElem?_getD, List.getElem?_eq_getElem hbj]; exact List.getElem_mem _
   have mb : evL l (aY S k) ∈ l := by unfold evL; rw [List.getD_eq_getElem?_getD, List.getElem?_eq_getElem hbk]; exact List.getElem_mem _
   have ba := hE _ ma
   have bb := hE _ mb
   have la := hlk _ ma
   have lb := hlk _ mb
   unfold pfC Da at hR
   rw [← ea] at ba la hR
   rw [← eb] at bb lb hR
   clear ma mb
   by_cases p1 : g.low ≤ max ((l.getD (Int.toNat ((List.drop (Int.toNat 0) (List.take (k : Int).toNat (S.map Int.ofNat))).getD (j : Int).toNat (Cd.dflt U.int))) (Cd.dflt U.event)).look - (l.getD (Int.toNat ((S.map Int.ofNat).getD (k : Int).toNat (Cd.dflt U.int))) (Cd.dflt U.event)).look) ((l.getD (Int.toNat ((S.map Int.ofNat).getD (k : Int).toNat (Cd.dflt U.int))) (Cd.dflt U.event)).look - (l.getD (Int.toNat ((List.drop (Int.toNat 0) (List.take (k : Int).toNat (S.map Int.ofNat))).getD (j : Int).toNat (Cd.dflt U.int))) (Cd.dflt U.event)).look)
   rotate_left
   ·have e : q (j + 1) = q j := by rw [decide_eq_false p1] at hR; exact hR
    clear hR hqR hfR hfP hE hlk
    (repeat' ((conv => whnf); first | (exfalso; omega) | refine hK2 (j + 1) [some 0, some 1, some 2, some 3, some 4, some 5, some 6, some 7, some 8] _ _ ⟨by omega⟩ ⟨by omega⟩ (by (rw [e]; exact bkI)) | refine x0C ?_ | refine spC (fun hb => ?_) fun hb => ?_ | refine aJ (fun hb => ?_) ?_ | refine taC ?_ | refine saC ?_ | exact sdV | refine aA ?_ ?_ | refine aB mixed ?_))
   by_cases p2 : (l.getD (Int.toNat ((S.map Int.ofNat).getD (k : Int).toNat (Cd.dflt U.int))) (Cd.dflt U.event)).at_ - (l.getD (Int.toNat ((List.drop (Int.toNat 0) (List.take (k : Int).toNat (S.map Int.ofNat))).getD (j : Int).toNat (Cd.dflt U.int))) (Cd.dflt U.event)).at_ ≤ g.within
   rotate_left
   ·have e : q (j + 1) = q j := by rw [decide_eq_true p1, decide_eq_false p2] at hR; exact hR
    clear hR hqR hfR hfP hE hlk
    (repeat' ((conv => whnf); first | (exfalso; omega) | refine hK2 (j + 1) [some 0, some 1, some 2, some 3, some 4, some 5, some 6, some 7, some 8] _ _ ⟨by omega⟩ ⟨by omega⟩ (by (rw [e]; exact bkI)) | refine x0C ?_ | refine spC (fun hb => ?_) fun hb => ?_ | refine aJ (fun hb => ?_) ?_ | refine taC ?_ | refine saC ?_ | exact sdV | refine aA ?_ ?_ | refine aB mixed ?_))
   rw [decide_eq_true p1, decide_eq_true p2] at hR
   obtain ⟨B1, K1, s1, B2, K2', s2, B3, K3, s3, m1, m2, m3, m4⟩ := hR
   rw [← hXj] at m1
   rw [← hZk] at m2
   clear hqR hfR hfP hE hlk
   (repeat' ((conv => whnf); first | (exfalso; omega) | refine dxC ?_ | refine dcm [some 0, some 1, some 2, some 8, some 4, some 5, some 6] [2, 4, 5, 6] m1 ?_ | refine dcm [some 0, some 1, some 2, some 11, some 4, some 5, some 6] [2, 4, 5, 6] m2 ?_ | refine dcm [some 0, some 1, some 12] [] m3 ?_ | refine dcm [some 0, some 1, some 13] [] m4 ?_ | refine hK2 (j + 1) [some 0, some 1, some 2, some 3, some 4, some 5, some 6, some 7, some 14] _ _ ⟨by omega⟩ ⟨by omega⟩ (by exact bkI) | refine x0C ?_ | refine spC (fun hb => ?_) fun hb => ?_ | refine aJ (fun hb => ?_) ?_ | refine taC ?_ | refine saC ?_ | exact sdV | refine aA ?_ ?_ | refine aB mixed ?_))
  ·have hjk2 : j = k := by omega
   subst hjk2
   (repeat' ((conv => whnf); first | (exfalso; omega) | refine hKK (j + 1) [some 0, some 1, some 2, some 3, some 4, some 5, some 6, some 7, some 8] _ _ ⟨by omega⟩ ⟨by omega⟩ (by (rw [← hqk]; exact bkI)) | refine x0C ?_ | refine spC (fun hb => ?_) fun hb => ?_ | refine aJ (fun hb => ?_) ?_ | refine taC ?_ | refine saC ?_ | exact sdV | refine aA ?_ ?_ | refine aB mixed ?_))
 ·have hkS : k = S.length := by omega
  subst hkS
  (repeat' ((conv => whnf); first | (exfalso; omega) | exact enC [some 0, some 1, some 2, some 3, some 4, some 5, some 6, some 8] | refine x0C ?_ | refine spC (fun hb => ?_) fun hb => ?_ | refine aJ (fun hb => ?_) ?_ | refine taC ?_ | refine saC ?_ | exact sdV | refine aA ?_ ?_ | refine aB mixed ?_))
def Nh (M : Obj) (S : List Nat) (k : Nat) (e : Nat → Int) : Prop := ∃ es clk, M = .map es clk ∧ eW es.toList ∧ (∀ j, j < k → ∃ p, fI (aY S j) es.toList 0 = some (some (p, .int .i64 (e j)))) ∧ ∀ j, k ≤ j → j < S.length → fI (aY S j) es.toList 0 = some none
def upE (e : Nat → Int) (k : Nat) (v : Int) : Nat → Int := fun j => if j = k then v else e j
def Va (S : List Nat) : Prop := ∀ i j, i < j → j < S.length → aY S i < aY S j
theorem N0 (g : aK) (l : List aD) : Va (cC g l) := fun i j h hj => zE h (by rw [List.getElem?_eq_getElem (show i < (cC g l).length by omega)]; rw [cG (List.getElem?_eq_getElem (show i < (cC g l).length by omega))]) (by rw [List.getElem?_eq_getElem hj]; rw [cG (List.getElem?_eq_getElem hj)])
theorem Iy {S : List Nat} (hA : Va S) {i j : Nat} (hi : i < S.length) (hj : j < S.length) (h : i ≠ j) : ((aY S i : Nat) : Int) ≠ (aY S j : Nat) := by
 rcases Nat.lt_or_gt_of_ne h with h | h
 ·have := hA i j h hj; omega
 ·have := hA j i h hi; omega
theorem Bp (S : List Nat) (e : Nat → Int) : Nh (.map #[] 0) S 0 e := ⟨#[], 0, rfl, fun e h => by simp at h, fun j h => by omega, fun j _ _ => rfl⟩
theorem C4 {S : List Nat} (hA : Va S) {es : Array MapEntry} {clk k : Nat} {e : Nat → Int} (h1 : eW es.toList) (h2 : ∀ j, j < k → ∃ p, fI (aY S j) es.toList 0 = some (some (p, .int .i64 (e j)))) (h3 : ∀ j, k ≤ j → j < S.length → fI (aY S j) es.toList 0 = some none) (hk : k < S.length) (v : Int) :
  Nh (.map (es.push ⟨.int .i64 (aY S k : Nat), .int .i64 v, clk⟩) (clk + 1)) S (k + 1) (upE e k v) := by
 have hp : ∀ j : Nat, _ := fun j => C3 (x := ⟨.int .i64 (aY S k : Nat), .int .i64 v, clk⟩) rfl (aY S j : Nat) es.toList 0 h1
 refine ⟨_, _, rfl, ?_, fun j hj => ?_, fun j hj hjl => ?_⟩
 ·intro x hx
  simp only [Array.toList_push, List.mem_append, List.mem_singleton] at hx
  rcases hx with hx | rfl
  ·exact h1 x hx
  ·exact ⟨_, rfl⟩
 ·rw [Array.toList_push]
  by_cases ej : j = k
  ·subst ej
   have := (hp j).1 (h3 j (Nat.le_refl _) hk)
   rw [if_pos rfl] at this
   exact ⟨0 + es.toList.length, by rw [this]; unfold upE; rw [if_pos rfl]⟩
  ·obtain ⟨p, hq⟩ := h2 j (by omega)
   refine ⟨p, ?_⟩
   rw [(hp j).2 _ hq]
   unfold upE; rw [if_neg ej]
 ·rw [Array.toList_push, (hp j).1 (h3 j (by omega) hjl), if_neg (Iy hA hjl hk (by omega))]
theorem Kl {S : List Nat} (hA : Va S) {es : Array MapEntry} {clk k : Nat} {e : Nat → Int} (h1 : eW es.toList) (h2 : ∀ j, j < k → ∃ p, fI (aY S j) es.toList 0 = some (some (p, .int .i64 (e j)))) (h3 : ∀ j, k ≤ j → j < S.length → fI (aY S j) es.toList 0 = some none) (hk : k < S.length) (v u : Int) :
  ∃ p, fI (aY S k) (es.push ⟨.int .i64 (aY S k : Nat), .int .i64 u, clk⟩).toList 0 = some (some (p, .int .i64 u)) ∧ Nh (putO (es.push ⟨.int .i64 (aY S k : Nat), .int .i64 u, clk⟩) (clk + 1) (.int .i64 (aY S k : Nat)) (.int .i64 v) (some (p, .int .i64 u))) S (k + 1) (upE e k v) := by
 obtain ⟨es', clk', e1, g1, g2, g3⟩ := C4 hA (clk := clk) h1 h2 h3 hk u
 injection e1 with e1 e2
 subst e1
 obtain ⟨p, hp⟩ := g2 k (by omega)
 rw [show upE e k u k = u by unfold upE; rw [if_pos rfl]] at hp
 refine ⟨p, hp, ?_⟩
 obtain ⟨i1, i2, i3⟩ := Gu (vv := .int .i64 v) _ 0 p _ g1 (by rw [Nat.zero_add]; exact hp)
 refine ⟨_, _, rfl, by rw [Array.toList_modify]; exact i1, fun j hj => ?_, fun j hj hjl => ?_⟩
 ·rw [Array.toList_modify]
  by_cases ej : j = k
  ·subst ej
   exact ⟨0 + p, by rw [i2]; unfold upE; rw [if_pos rfl]⟩
  ·obtain ⟨q, hq⟩ := g2 j hj
   rw [i3 _ (Iy hA (by omega) hk ej)]
   refine ⟨q, hq.trans ?_⟩
   unfold upE; rw [if_neg ej, if_neg ej]
 ·rw [Array.toList_modify, i3 _ (Iy hA hjl hk (by omega))]
  exact g3 j hj hjl
abbrev ES := List Nd × Obj × Obj × (Nat → Int)
structure EvP (n : Nat) (B : List Nd) (S : List Nat) (G k : Nat) (sp : Nat → (Int → Bool) → Bool) (a : ES) : Prop where
 wf : WFN n a.1
 pre : B <+: a.1
 len : a.1.length ≤ B.length + G
 known : aU a.2.1 a.1
 ends : Nh a.2.2.1 S k a.2.2.2
 st : ∀ j, j < k → St a.1.length (a.2.2.2 j)
 sem : ∀ j, j < k → ∀ σ, cM σ a.1 (a.2.2.2 j) = sp j σ
theorem Ak (n : Nat) (hn : n ≤ 16) (S : List Nat) (hS : S.length ≤ 16) (hA : Va S) (cs : Nat → (Int → Bool) → Bool) (Q : Obj → List Nd → Nat → Obj → List Nd → Int → Prop) (hc : ∀ (K : Obj) (B : List Nd) (i : Nat), WFN n B → aU K B → i ∈ S → B.length ≤ 996000000000 → ∃ B' K' s, CR n B 1114129 (cs i) B' K' s ∧ Q K B i K' B' s) (bg : Nat → Bool) {K : Obj} {B : List Nd} (hB : WFN n B) (hK : aU K B) (hl : B.length ≤ 994000000000) :
  ∃ f : Nat → ES, f 0 = (B, K, .map #[] 0, fun _ => 0) ∧ (∀ k, k ≤ S.length → EvP n B S (k * 1114129) k (fun j σ => bg j && cs (aY S j) σ) (f k)) ∧
   ∀ k, k < S.length → ∃ es clk, (f k).2.2.1 = .map es clk ∧ fI (aY S k) es.toList 0 = some none ∧ if bg k then ∃ p s, fI (aY S k) (es.push ⟨.int .i64 (aY S k : Nat), .int .i64 (-1), clk⟩).toList 0 = some (some (p, .int .i64 (-1))) ∧ Q (f k).2.1 (f k).1 (aY S k) (f (k + 1)).2.1 (f (k + 1)).1 s ∧
     (f (k + 1)).2.2.1 = putO (es.push ⟨.int .i64 (aY S k : Nat), .int .i64 (-1), clk⟩) (clk + 1) (.int .i64 (aY S k : Nat)) (.int .i64 s) (some (p, .int .i64 (-1)))
    else (f (k + 1)).1 = (f k).1 ∧ (f (k + 1)).2.1 = (f k).2.1 ∧ (f (k + 1)).2.2.1 = .map (es.push ⟨.int .i64 (aY S k : Nat), .int .i64 (-1), clk⟩) (clk + 1) := by
 refine dP (n := S.length) (P := fun k (a : ES) => EvP n B S (k * 1114129) k (fun j σ => bg j && cs (aY S j) σ) a)
  (R := fun k (a b : ES) => ∃ es clk, a.2.2.1 = .map es clk ∧ fI (aY S k) es.toList 0 = some none ∧ if bg k then ∃ p s, fI (aY S k) (es.push ⟨.int .i64 (aY S k : Nat), .int .i64 (-1), clk⟩).toList 0 = some (some (p, .int .i64 (-1))) ∧ Q a.2.1 a.1 (aY S k) b.2.1 b.1 s ∧
     b.2.2.1 = putO (es.push ⟨.int .i64 (aY S k : Nat), .int .i64 (-1), clk⟩) (clk + 1) (.int .i64 (aY S k : Nat)) (.int .i64 s) (some (p, .int .i64 (-1)))
    else b.1 = a.1 ∧ b.2.1 = a.2.1 ∧ b.2.2.1 = .map (es.push ⟨.int .i64 (aY S k : Nat), .int .i64 (-1), clk⟩) (clk + 1))
  (B, K, .map #[] 0, fun _ => 0) ⟨hB, List.prefix_refl _, by simp, hK, Bp S _, fun j h => by omega, fun j h => by omega⟩ fun k a hk h => ?_
 have hm : aY S k ∈ S := by rw [cG (List.getElem?_eq_getElem hk)]; exact List.getElem_mem _
 obtain ⟨B1, K1, M1, e1⟩ := a
 obtain ⟨h1, h2, h3, h4, ⟨es, clk, h5, h6, h7, h8⟩, h9, h10⟩ := h
 dsimp only at h1 h2 h3 h4 h5 h6 h7 h8 h9 h10
 subst h5
 have hlen : B1.length ≤ B.length + 17826064 := Nat.le_trans h3 (Nat.add_le_add_left (Nat.le_trans (Nat.mul_le_mul_right _ (show k ≤ 16 by omega)) (Nat.le_of_eq (by simp))) _)
 cases hb : bg k with
 | true =>
  obtain ⟨B2, K2, s, c, q⟩ := hc K1 B1 (aY S k) h1 h4 hm (by omega)
  obtain ⟨p, p1, p2⟩ := Kl hA (clk := clk) h6 h7 h8 hk s (-1)
  refine ⟨(B2, K2, _, upE e1 k s), ⟨c.wf, h2.trans c.pre, ?_, c.known, p2, fun j hj => ?_, fun j hj σ => ?_⟩, es, clk, rfl, h8 k (Nat.le_refl _) hk, ?_⟩
  ·show B2.length ≤ B.length + (k + 1) * 1114129
   rw [Nat.succ_mul]
   exact Nat.le_trans c.len (by rw [← Nat.add_assoc]; exact Nat.add_le_add_right h3 _)
  ·dsimp only
   unfold upE
   split
   ·exact c.st
   ·exact (h9 j (by omega)).mono (cP c.pre)
  ·dsimp only
   unfold upE
   split
   ·rename_i e; subst e; rw [c.sem, hb]; rfl
   ·rw [bY c.pre (h9 j (by omega)).2, h10 j (by omega)]
  ·rw [if_pos rfl]; exact ⟨p, s, p1, q, rfl⟩
 | false =>
  refine ⟨(B1, K1, _, upE e1 k (-1)), ⟨h1, h2, ?_, h4, C4 hA (clk := clk) h6 h7 h8 hk (-1), fun j hj => ?_, fun j hj σ => ?_⟩, es, clk, rfl, h8 k (Nat.le_refl _) hk, ?_⟩
  ·exact Nat.le_trans h3 (Nat.add_le_add_left (Nat.mul_le_mul_right _ (Nat.le_succ k)) _)
  ·dsimp only
   unfold upE
   split
   ·exact ⟨by omega, by omega⟩
   ·exact h9 j (by omega)
  ·dsimp only
   unfold upE
   split
   ·rename_i e; subst e; rw [cN (by omega), hb]; rfl
   ·exact h10 j (by omega) σ
  ·exact ⟨rfl, rfl, rfl⟩
theorem Lp (n : Nat) (hn : n ≤ 16) (S : List Nat) (hS : S.length ≤ 16) (hA : Va S) (cs : Nat → (Int → Bool) → Bool) (Q : Obj → List Nd → Nat → Obj → List Nd → Int → Prop) (hc : ∀ (K : Obj) (B : List Nd) (i : Nat), WFN n B → aU K B → i ∈ S → B.length ≤ 996000000000 → ∃ B' K' s, CR n B 1114129 (cs i) B' K' s ∧ Q K B i K' B' s) (fw : Nat → Nat → Bool) {B : List Nd} {G : Nat} (hG : G ≤ 400000000) (hl : B.length ≤ 994000000000) (sp : Nat → (Int → Bool) → Bool) (a : ES) (h : EvP n B S G S.length sp a) :
    ∃ f : Nat → ES, f 0 = (a.1, a.2.1, .map #[] 0, fun _ => 0) ∧ (∀ k, k ≤ S.length → EvP n B S (G + k * 2228241) k (fun j σ => ((List.range j).any fun i => fw i j && sp i σ) && cs (aY S j) σ) (f k)) ∧
      ∀ k, k < S.length → ∃ q : Nat → BS3, q 0 = ((f k).1, (f k).2.1, -1) ∧ (∀ j, j < k → if fw j k then aG Tryz.prog Dc 51 [.ptr 0 0, iS (q j).2.2, iS (a.2.2.2 j)] (bdH n (q j).2.1 (q j).1) (iS (q (j + 1)).2.2) (bdD n (q (j + 1)).2.1 (q (j + 1)).1) else q (j + 1) = q j) ∧
        ∃ B1 K1 s1 s es clk, Q (q k).2.1 (q k).1 (aY S k) K1 B1 s1 ∧ aG Tryz.prog Dc 55 [.ptr 0 0, iS (q k).2.2, iS s1] (bdH n K1 B1) (iS s) (bdD n (f (k + 1)).2.1 (f (k + 1)).1) ∧ (f k).2.2.1 = .map es clk ∧ fI (aY S k) es.toList 0 = some none ∧ (f (k + 1)).2.2.1 = .map (es.push ⟨.int .i64 (aY S k : Nat), .int .i64 s, clk⟩) (clk + 1) := by
  obtain ⟨Ba, Ka, Ma, ea⟩ := a
  obtain ⟨a1, a2, a3, a4, a5, a6, a7⟩ := h
  dsimp only at a1 a2 a3 a4 a5 a6 a7 ⊢
  refine dP (n := S.length) (P := fun k (b : ES) => EvP n B S (G + k * 2228241) k (fun j σ => ((List.range j).any fun i => fw i j && sp i σ) && cs (aY S j) σ) b ∧ Ba <+: b.1)
    (R := fun k (a b : ES) => ∃ q : Nat → BS3, q 0 = (a.1, a.2.1, -1) ∧ (∀ j, j < k → if fw j k then aG Tryz.prog Dc 51 [.ptr 0 0, iS (q j).2.2, iS (ea j)] (bdH n (q j).2.1 (q j).1) (iS (q (j + 1)).2.2) (bdD n (q (j + 1)).2.1 (q (j + 1)).1) else q (j + 1) = q j) ∧
        ∃ B1 K1 s1 s es clk, Q (q k).2.1 (q k).1 (aY S k) K1 B1 s1 ∧ aG Tryz.prog Dc 55 [.ptr 0 0, iS (q k).2.2, iS s1] (bdH n K1 B1) (iS s) (bdD n b.2.1 b.1) ∧ a.2.2.1 = .map es clk ∧ fI (aY S k) es.toList 0 = some none ∧ b.2.2.1 = .map (es.push ⟨.int .i64 (aY S k : Nat), .int .i64 s, clk⟩) (clk + 1))
    (Ba, Ka, .map #[] 0, fun _ => 0) ⟨⟨a1, a2, by dsimp only; omega, a4, Bp S _, fun j h => by omega, fun j h => by omega⟩, List.prefix_refl _⟩ (fun k b hk hb => ?_) |>.imp fun f ⟨f0, fP, fR⟩ => ⟨f0, fun k hk => (fP k hk).1, fR⟩
  obtain ⟨hb, hpa⟩ := hb
  have hm : aY S k ∈ S := by rw [cG (List.getElem?_eq_getElem hk)]; exact List.getElem_mem _
  obtain ⟨B1, K1, M1, e1⟩ := b
  obtain ⟨h1, h2, h3, h4, ⟨es, clk, h5, h6, h7, h8⟩, h9, h10⟩ := hb
  dsimp only at h1 h2 h3 h4 h5 h6 h7 h8 h9 h10 hpa
  subst h5
  have hlen : B1.length ≤ B.length + 435651856 := Nat.le_trans h3 (Nat.add_le_add_left (Nat.le_trans (Nat.add_le_add hG (Nat.mul_le_mul_right _ (show k ≤ 16 by omega))) (show 400000000 + 16 * 2228241 ≤ 435651856 by simp)) _)
  have hst : St B1.length (-1) := ⟨by omega, by omega⟩
  obtain ⟨q, q0, qP, qR⟩ := dP (n := k) (P := fun j (c : BS3) => CR n B1 (j * 65536) (fun σ => (List.range j).any fun i => fw i k && sp i σ) c.1 c.2.1 c.2.2)
    (R := fun j (c d : BS3) => if fw j k then aG Tryz.prog Dc 51 [.ptr 0 0, iS c.2.2, iS (ea j)] (bdH n c.2.1 c.1) (iS d.2.2) (bdD n d.2.1 d.1) else d = c)
    (B1, K1, -1) ⟨h1, List.prefix_refl _, hst, fun σ => cN (s := -1) (by omega), by simp, h4⟩ (fun j c hj hcc => by
      have hcl : c.1.length ≤ B1.length + 1048576 := Nat.le_trans hcc.len (Nat.add_le_add_left (Nat.le_trans (Nat.mul_le_mul_right _ (show j ≤ 16 by omega)) (Nat.le_of_eq (by simp))) _)
      by_cases hf : fw j k = true
      · obtain ⟨B2, K2, s2, c2, m2⟩ := cor n hn hcc.wf hcc.known c.2.2 (ea j) hcc.st ((a6 j (by omega)).mono (Nat.le_trans (cP hpa) (cP hcc.pre))) (by omega)
        refine ⟨(B2, K2, s2), (c2.after hcc).weaken (by rw [Nat.succ_mul]; exact Nat.le_refl _) fun σ => ?_, by rw [if_pos hf]; exact m2⟩
        rw [wU, hcc.sem, iF (k := j), hf, Bool.true_and, bY (hpa.trans hcc.pre) (a6 j (by omega)).2, a7 j (by omega)]
      · rw [Bool.not_eq_true] at hf
        refine ⟨c, hcc.weaken (by rw [Nat.succ_mul]; omega) fun σ => ?_, by rw [hf]; rfl⟩
        rw [iF (k := j), hf, Bool.false_and, Bool.or_false])
  have hq := qP k (Nat.le_refl _)
  have hql : (q k).1.length ≤ B1.length + 1048576 := Nat.le_trans hq.len (Nat.add_le_add_left (Nat.le_trans (Nat.mul_le_mul_right _ (show k ≤ 16 by omega)) (Nat.le_of_eq (by simp))) _)
  obtain ⟨B2, K2, s2, c2, m2⟩ := hc (q k).2.1 (q k).1 (aY S k) hq.wf hq.known hm (by omega)
  obtain ⟨o1, o2⟩ := c2.old hq
  have l2 := c2.len
  obtain ⟨B3, K3, s3, c3, m3⟩ := Zc n hn c2.wf c2.known (q k).2.2 s2 o1 c2.st (by omega)
  have l3 := c3.len
  have hpre : B1 <+: B3 := hq.pre.trans (c2.pre.trans c3.pre)
  refine ⟨(B3, K3, _, upE e1 k s3), ⟨⟨c3.wf, h2.trans hpre, ?_, c3.known, C4 hA (clk := clk) h6 h7 h8 hk s3, fun j hj => ?_, fun j hj σ => ?_⟩, hpa.trans hpre⟩, q, q0, qR, B2, K2, s2, s3, es, clk, m2, m3, rfl, h8 k (Nat.le_refl _) hk, rfl⟩
  · show B3.length ≤ B.length + (G + (k + 1) * 2228241)
    rw [Nat.succ_mul, ← Nat.add_assoc G, ← Nat.add_assoc]
    have hx : B3.length ≤ B1.length + 2228241 := by omega
    exact Nat.le_trans hx (Nat.add_le_add_right h3 _)
  · dsimp only
    unfold upE
    split
    · exact c3.st
    · exact (h9 j (by omega)).mono (cP hpre)
  · dsimp only
    unfold upE
    split
    · rename_i e; subst e; rw [c3.sem, C8, o2, c2.sem]
    · rw [bY hpre (h9 j (by omega)).2, h10 j (by omega)]
end Go.SX
namespace Go.SX
open Go.Proofs
set_option linter.unusedSectionVars false
set_option maxHeartbeats 400000000
set_option maxRecDepth 100000
theorem EvP.weaken {n : Nat} {B : List Nd} {S : List Nat} {G G' k : Nat} {f g : Nat → (Int → Bool) → Bool} {a : ES} (h : EvP n B S G k f a) (hG : G ≤ G') (hf : ∀ j, j < k → ∀ σ, f j σ = g j σ) : EvP n B S G' k g a := ⟨h.wf, h.pre, Nat.le_trans h.len (by omega), h.known, h.ends, h.st, fun j hj σ => (h.sem j hj σ).trans (hf j hj σ)⟩
def spE (bg : Nat → Bool) (fw : Nat → Nat → Bool) (cs : Nat → (Int → Bool) → Bool) (S : List Nat) : Nat → Nat → (Int → Bool) → Bool
 | 0, j, σ => bg j && cs (aY S j) σ
 | t + 1, j, σ => ((List.range j).any fun i => fw i j && spE bg fw cs S t i σ) && cs (aY S j) σ
theorem G5 (n : Nat) (hn : n ≤ 16) (S : List Nat) (hS : S.length ≤ 16) (hA : Va S) (cs : Nat → (Int → Bool) → Bool) (Q : Obj → List Nd → Nat → Obj → List Nd → Int → Prop) (hc : ∀ (K : Obj) (B : List Nd) (i : Nat), WFN n B → aU K B → i ∈ S → B.length ≤ 996000000000 → ∃ B' K' s, CR n B 1114129 (cs i) B' K' s ∧ Q K B i K' B' s) (bg : Nat → Bool) (fw : Nat → Nat → Bool) (T : Nat) (hT : T ≤ 5) {B : List Nd} (hl : B.length ≤ 994000000000) (a : ES) (h : EvP n B S 17826064 S.length (fun j σ => bg j && cs (aY S j) σ) a) :
  ∃ F : Nat → ES, F 0 = a ∧ (∀ t, t ≤ T → EvP n B S (17826064 + t * 35651856) S.length (spE bg fw cs S t) (F t)) ∧
   ∀ t, t < T → ∃ f : Nat → ES, f 0 = ((F t).1, (F t).2.1, .map #[] 0, fun _ => 0) ∧ f S.length = F (t + 1) ∧
   ∀ k, k < S.length → ∃ q : Nat → BS3, q 0 = ((f k).1, (f k).2.1, -1) ∧ (∀ j, j < k → if fw j k then aG Tryz.prog Dc 51 [.ptr 0 0, iS (q j).2.2, iS ((F t).2.2.2 j)] (bdH n (q j).2.1 (q j).1) (iS (q (j + 1)).2.2) (bdD n (q (j + 1)).2.1 (q (j + 1)).1) else q (j + 1) = q j) ∧
    ∃ B1 K1 s1 s es clk, Q (q k).2.1 (q k).1 (aY S k) K1 B1 s1 ∧ aG Tryz.prog Dc 55 [.ptr 0 0, iS (q k).2.2, iS s1] (bdH n K1 B1) (iS s) (bdD n (f (k + 1)).2.1 (f (k + 1)).1) ∧ (f k).2.2.1 = .map es clk ∧ fI (aY S k) es.toList 0 = some none ∧ (f (k + 1)).2.2.1 = .map (es.push ⟨.int .i64 (aY S k : Nat), .int .i64 s, clk⟩) (clk + 1) := by
 refine dP (n := T) (P := fun t (a : ES) => EvP n B S (17826064 + t * 35651856) S.length (spE bg fw cs S t) a) (R := fun t (a b : ES) => ∃ f : Nat → ES, f 0 = (a.1, a.2.1, .map #[] 0, fun _ => 0) ∧ f S.length = b ∧
   ∀ k, k < S.length → ∃ q : Nat → BS3, q 0 = ((f k).1, (f k).2.1, -1) ∧ (∀ j, j < k → if fw j k then aG Tryz.prog Dc 51 [.ptr 0 0, iS (q j).2.2, iS (a.2.2.2 j)] (bdH n (q j).2.1 (q j).1) (iS (q (j + 1)).2.2) (bdD n (q (j + 1)).2.1 (q (j + 1)).1) else q (j + 1) = q j) ∧
    ∃ B1 K1 s1 s es clk, Q (q k).2.1 (q k).1 (aY S k) K1 B1 s1 ∧ aG Tryz.prog Dc 55 [.ptr 0 0, iS (q k).2.2, iS s1] (bdH n K1 B1) (iS s) (bdD n (f (k + 1)).2.1 (f (k + 1)).1) ∧ (f k).2.2.1 = .map es clk ∧ fI (aY S k) es.toList 0 = some none ∧ (f (k + 1)).2.2.1 = .map (es.push ⟨.int .i64 (aY S k : Nat), .int .i64 s, clk⟩) (clk + 1))
  a (h.weaken (by omega) fun j _ σ => rfl) fun t b ht hb => ?_
 have hG : 17826064 + t * 35651856 ≤ 400000000 := Nat.le_trans (Nat.add_le_add_left (Nat.mul_le_mul_right _ (show t ≤ 5 by omega)) _) (show 17826064 + 5 * 35651856 ≤ 400000000 by simp)
 obtain ⟨f, f0, fP, fR⟩ := Lp n hn S hS hA cs Q hc fw hG hl _ b hb
 refine ⟨f S.length, (fP _ (Nat.le_refl _)).weaken ?_ fun j _ σ => rfl, f, f0, rfl, fR⟩
 rw [Nat.succ_mul, ← Nat.add_assoc]
 exact Nat.add_le_add_left (Nat.le_trans (Nat.mul_le_mul_right _ hS) (Nat.le_of_eq (by simp))) _
theorem So (n : Nat) (hn : n ≤ 16) (S : List Nat) (hS : S.length ≤ 16) {B : List Nd} (hl : B.length ≤ 994000000000) (sp : Nat → (Int → Bool) → Bool) (a : ES) (h : EvP n B S 196085344 S.length sp a) :
    ∃ q : Nat → BS3, q 0 = (a.1, a.2.1, -1) ∧ CR n B 198000000 (fun σ => (List.range S.length).any fun i => sp i σ) (q S.length).1 (q S.length).2.1 (q S.length).2.2 ∧
      ∀ j, j < S.length → aG Tryz.prog Dc 51 [.ptr 0 0, iS (q j).2.2, iS (a.2.2.2 j)] (bdH n (q j).2.1 (q j).1) (iS (q (j + 1)).2.2) (bdD n (q (j + 1)).2.1 (q (j + 1)).1) := by
  obtain ⟨Ba, Ka, Ma, ea⟩ := a
  obtain ⟨a1, a2, a3, a4, a5, a6, a7⟩ := h
  dsimp only at a1 a2 a3 a4 a5 a6 a7 ⊢
  have hst : St Ba.length (-1) := ⟨by omega, by omega⟩
  obtain ⟨q, q0, qP, qR⟩ := dP (n := S.length) (P := fun j (c : BS3) => CR n Ba (j * 65536) (fun σ => (List.range j).any fun i => sp i σ) c.1 c.2.1 c.2.2)
    (R := fun j (c d : BS3) => aG Tryz.prog Dc 51 [.ptr 0 0, iS c.2.2, iS (ea j)] (bdH n c.2.1 c.1) (iS d.2.2) (bdD n d.2.1 d.1))
    (Ba, Ka, -1) ⟨a1, List.prefix_refl _, hst, fun σ => cN (s := -1) (by omega), by simp, a4⟩ (fun j c hj hcc => by
      have hcl : c.1.length ≤ Ba.length + 1048576 := Nat.le_trans hcc.len (Nat.add_le_add_left (Nat.le_trans (Nat.mul_le_mul_right _ (show j ≤ 16 by omega)) (Nat.le_of_eq (by simp))) _)
      obtain ⟨B2, K2, s2, c2, m2⟩ := cor n hn hcc.wf hcc.known c.2.2 (ea j) hcc.st ((a6 j (by omega)).mono (cP hcc.pre)) (by omega)
      refine ⟨(B2, K2, s2), (c2.after hcc).weaken (by rw [Nat.succ_mul]; exact Nat.le_refl _) fun σ => ?_, m2⟩
      rw [wU, hcc.sem, iF (k := j), bY hcc.pre (a6 j (by omega)).2, a7 j (by omega)])
  have hq := qP _ (Nat.le_refl _)
  have hql : (q S.length).1.length ≤ Ba.length + 1048576 := Nat.le_trans hq.len (Nat.add_le_add_left (Nat.le_trans (Nat.mul_le_mul_right _ hS) (Nat.le_of_eq (by simp))) _)
  exact ⟨q, q0, ⟨hq.wf, a2.trans hq.pre, hq.st, hq.sem, by omega, hq.known⟩, qR⟩
@[reducible] def eH (n : Int) (K : Obj) (B : List Nd) (M : Obj) : List (HS Cd) := [.vart none [iS n, .slice 2 0 3 0 B.length, .mapp 1], .obj K, .rows U.node B, .vart none [.mapp 4], .obj M]
@[reducible] def eD (n : Int) (K : Obj) (B : List Nd) (M : Obj) : List (HS Cd) := [.vart none [iS n, .slice 5 0 3 0 B.length, .mapp 1], .obj K, .dead, .vart none [.mapp 4], .obj M, .rows U.node B]
@[reducible] def q1m : SV Cd := .fn (.func 88) [] [.ptr 3 0]
theorem q14 {es : Array MapEntry} {clk : Nat} {i v : Int} {p : Nat} (h : fI i es.toList 0 = some (some (p, .int .i64 v))) : aG Tryz.prog Dc 88 [iS i, .ptr 0 0] [.vart none [.mapp 1], .obj (.map es clk)] (iS v) [.vart none [.mapp 1], .obj (.map es clk)] := by
 refine aC Ax aF Tryz.func88 (c := _) rfl Tryz.call88 100 ?_
 (repeat' ((conv => whnf); first | (exfalso; omega) | refine bM h ?_ | exact enC [some 0, some 1] | refine x0C ?_ | refine spC (fun hb => ?_) fun hb => ?_ | refine aJ (fun hb => ?_) ?_ | refine taC ?_ | refine saC ?_ | exact sdV | refine aA ?_ ?_ | refine aB mixed ?_))
theorem Qp (n : Nat) (hn : n ≤ 16) (S : List Nat) (hS : S.length ≤ 16) {B : List Nd} (hl : B.length ≤ 994000000000) (sp : Nat → (Int → Bool) → Bool) (a : ES) (h : EvP n B S 196085344 S.length sp a) :
  ∃ B' K' s, CR n B 198000000 (fun σ => (List.range S.length).any fun i => sp i σ) B' K' s ∧ aG Tryz.prog Dc 49 [.p (.dsl U.int (S.map Int.ofNat)), iS (-1), orV, q1m] (eH n a.2.1 a.1 a.2.2.1) (iS s) (eD n K' B' a.2.2.1) := by
 obtain ⟨f, hf0, hfP, hfR⟩ := So n hn S hS hl sp a h
 obtain ⟨es, clk, hM, g1, g2, g3⟩ := h.ends
 refine ⟨_, _, _, hfP, ?_⟩
 have hK0 : (f 0).2.1 = a.2.1 := by rw [hf0]
 have hB0 : (f 0).1 = a.1 := by rw [hf0]
 have hs0 : (f 0).2.2 = -1 := by rw [hf0]
 rw [← hK0, ← hB0, hM]
 have hz : (S.map Int.ofNat).length = S.length := List.length_map ..
 refine aC Ax aF Tryz.func49 (c := _) rfl Tryz.call49 300 ?_
 (repeat' ((conv => whnf); first | (exfalso; omega) | refine x0C ?_ | refine spC (fun hb => ?_) fun hb => ?_ | refine aJ (fun hb => ?_) ?_ | refine taC ?_ | refine saC ?_ | exact sdV | refine aA ?_ ?_ | refine aB mixed ?_))
 refine aT [some 0, some 1, none, some 3, some 4, some 2] (fun i : Nat => [(1, iS (f i).2.2), (13, iS i)]) (fun i => [(0, .vart none [iS n, .slice 5 0 3 0 (f i).1.length, .mapp 1]), (1, .obj (f i).2.1), (2, .dead), (5, .rows U.node (f i).1)]) (fun i => i ≤ S.length) (fun i => S.length - i) 0 (Nat.zero_le _) (by exact bkI) ?_
 intro i hi KK hKK
 rcases Nat.lt_or_ge i S.length with hlt | hge
 ·have m2 := hfR i hlt
  obtain ⟨p, hp⟩ := g2 i hlt
  rw [← Dg hlt] at hp
  have m1 := q14 (clk := clk) hp
  clear hfR hfP g1 g2 g3
  (repeat' ((conv => whnf); first | (exfalso; omega) | refine chC [some 3, some 4] m1 ?_ | refine chC [some 0, some 1, some 5] m2 ?_ | refine hKK (i + 1) [some 0, some 1, some 2, some 3, some 4, some 6] _ _ ⟨by omega⟩ ⟨by omega⟩ (by exact bkI) | refine x0C ?_ | refine spC (fun hb => ?_) fun hb => ?_ | refine aJ (fun hb => ?_) ?_ | refine taC ?_ | refine saC ?_ | exact sdV | refine aA ?_ ?_ | refine aB mixed ?_))
 ·have hiS : i = S.length := by omega
  subst hiS
  (repeat' ((conv => whnf); first | (exfalso; omega) | exact enC [some 0, some 1, some 2, some 3, some 4, some 5] | refine x0C ?_ | refine spC (fun hb => ?_) fun hb => ?_ | refine aJ (fun hb => ?_) ?_ | refine taC ?_ | refine saC ?_ | exact sdV | refine aA ?_ ?_ | refine aB mixed ?_))
end Go.SX
