/-
  Plain law: the events that integers determine; valid events, and a part of them.
-/
import Derived.Test.YtijedffphgckmaaGreatDoorSxUb9
set_option linter.unusedVariables false
set_option linter.unusedSimpArgs false
namespace Go.SX
mutual
def q51 : q06 → List q06
 | ⟨kind, rows, from_, to_, low, high, clear, days, times, within, cents, kids⟩ =>
  if kind = 1 then [⟨kind, rows, from_, to_, low, high, clear, days, times, within, cents, kids⟩] else seesL kids
def seesL : List q06 → List q06
 | [] => []
 | k :: l => q51 k ++ seesL l
end
theorem q8v (g : q06) : q51 g = if g.kind = 1 then [g] else seesL g.kids := by cases g; rw [q51]
theorem ql1 : ∀ (l : List q06) (k : q06), seesL (l ++ [k]) = seesL l ++ q51 k
 | [], k => by simp [seesL]
 | x :: l, k => by rw [List.cons_append, seesL, seesL, ql1 l k, List.append_assoc]
mutual
theorem z48 : ∀ (g : q06) (d n : Int), q2j g d = some n → ((q51 g).length : Int) ≤ n ∧ ∀ s ∈ q51 g, okB s = true ∧ s.kind = 1
 | ⟨kind, rows, from_, to_, low, high, clear, days, times, within, cents, kids⟩, d, n, hs => by
  have hL := seesL_ok kids
  obtain ⟨hok, hd, m, hm, rfl⟩ := z2x hs
  have h0 := qg3 hm
  rw [q8v]
  split
  ·rename_i e
   refine ⟨by simp; omega, fun s hs => ?_⟩
   rw [List.mem_singleton.1 hs]
   exact ⟨hok, e⟩
  ·obtain ⟨h1, h2⟩ := hL (d + 1) m hm
   refine ⟨?_, h2⟩
   show ((seesL kids).length : Int) ≤ 1 + m
   omega
theorem seesL_ok : ∀ (l : List q06) (d n : Int), sizeL l d = some n → ((seesL l).length : Int) ≤ n ∧ ∀ s ∈ seesL l, okB s = true ∧ s.kind = 1
 | [], d, n, hs => by
  rw [sizeL] at hs; injection hs with hs
  exact ⟨by simp [seesL]; omega, fun s h => by simp [seesL] at h⟩
 | k :: l, d, n, hs => by
  rw [sizeL] at hs
  split at hs
  ·cases hs
  ·rename_i m hm
   split at hs
   ·cases hs
   ·rename_i q hq
    injection hs with hs
    obtain ⟨h1, h2⟩ := z48 k d m hm
    obtain ⟨h3, h4⟩ := seesL_ok l d q hq
    rw [seesL]
    refine ⟨by rw [List.length_append]; omega, fun s hs' => ?_⟩
    rcases List.mem_append.1 hs' with h | h
    ·exact h2 s h
    ·exact h4 s h
end
def q7h (g : q06) : List q06 := if q2r g then q51 g else []
structure y88 (s : q06) : Prop where
 rl : s.rows.length = 24
 rows : ∀ r ∈ s.rows, 0 ≤ r ∧ r ≤ 281474976710655
 fr : 0 ≤ s.from_ ∧ s.from_ ≤ 1000000
 to : s.from_ + 1 ≤ s.to_ ∧ s.to_ ≤ 1000000
 low : 0 ≤ s.low ∧ s.low ≤ 90
 high : s.low ≤ s.high ∧ s.high ≤ 90
theorem y79 {s : q06} (h : okB s = true) (hk : s.kind = 1) : y88 s := by
 have := (zp3 h).2.1
 unfold qp5 at this
 rw [if_pos hk] at this
 simp only [Bool.and_eq_true, q0f] at this
 have ha := this.1.1.1.1.1
 unfold q29 at ha
 simp only [Bool.and_eq_true, decide_eq_true_eq, List.all_eq_true] at ha
 exact ⟨by omega, fun r hr => by have := ha.2 r hr; unfold qp9 at this; exact (q0f _ _ _).1 this, by omega, by omega, by omega, by omega⟩
theorem zc0 (g : q06) : (q7h g).length ≤ 12 ∧ ∀ s ∈ q7h g, y88 s := by
 unfold q7h
 split
 ·rename_i h
  unfold q2r at h
  split at h
  ·cases h
  ·rename_i n hn
   obtain ⟨h1, h2⟩ := z48 g 1 n hn
   have : n ≤ 12 := by simpa using h
   exact ⟨by omega, fun s hs => y79 (h2 s hs).1 (h2 s hs).2⟩
 ·exact ⟨by simp, fun s hs => by cases hs⟩
end Go.SX
namespace Go.SX
open Go.Proofs
set_option maxHeartbeats 400000000
set_option maxRecDepth 100000
@[reducible] def a5S (x : List A5) : SV Cd := .p (.dsl U.arr5 x)
theorem zi3 {x : List A5} {i : Int} (h0 : 0 ≤ i) (h : i < x.length) : y5 x i = x.getD i.toNat (Cd.dflt U.arr5) := if_pos h
theorem y2t {x : List A5} {i : Int} (h : ¬ i < x.length) : y5 x i = zg0 := if_neg h
theorem y60 {x : List A5} (hx : ∀ y ∈ x, z41 y) {i : Int} (h0 : 0 ≤ i) : z41 (y5 x i) := by
 by_cases h : i < x.length
 ·rw [zi3 h0 h]
  refine hx _ ?_
  rw [List.getD_eq_getElem?_getD, List.getElem?_eq_getElem (by omega)]
  exact List.getElem_mem _
 ·rw [y2t h]
  have : I64 0 := by unfold I64; omega
  exact ⟨this, this, this, this, this⟩
theorem y0g {w : World} {E : Env} {a b c d e : Int} {vs : List Value} (h : DenA Dc w E [.agg [.arr U.int 5 [a, b, c, d, e]]] vs) : DenA Dc w E [.agg [iS a, iS b, iS c, iS d, iS e]] vs := by
 simp only [DenA, Den, DenC] at h ⊢
 obtain ⟨v, v2, rfl, ⟨cs, rfl, _, v1, v3, hv, hp, rfl⟩, rfl⟩ := h
 refine ⟨_, _, rfl, ⟨cs, rfl, ?_⟩, rfl⟩
 rw [List.append_nil] at hv
 rw [hv]
 obtain ⟨hl, hd⟩ := hp
 match v1, hl with
 | [x0, x1, x2, x3, x4], _ =>
  have g := fun (j : Nat) pv v h1 h2 => hd j pv v h1 h2
  have e0 := g 0 _ _ rfl rfl
  have e1 := g 1 _ _ rfl rfl
  have e2 := g 2 _ _ rfl rfl
  have e3 := g 3 _ _ rfl rfl
  have e4 := g 4 _ _ rfl rfl
  exact ⟨x0, _, rfl, e0.oneCell, e0, x1, _, rfl, e1.oneCell, e1, x2, _, rfl, e2.oneCell, e2, x3, _, rfl, e3.oneCell, e3, x4, _, rfl, e4.oneCell, e4, rfl⟩
theorem ya5 : q07 Tryz.prog Dc 85 [.agg [.arr U.int 5 (List.replicate 5 (Cd.dflt U.int))]] [] (q0m (z0q zg0)) [] := by
  have z : I64 0 := by unfold I64; omega
  have h := y9q zg0 ⟨z, z, z, z, z⟩
  exact ⟨h.enter, fun w E hm vs hs hd => h.calls w E hm vs hs (y0g (a := 0) (b := 0) (c := 0) (d := 0) (e := 0) hd)⟩
theorem zn0 {C : Cod} {P : Program} {D : q09 C} {f : FuncId} {args : List (SV C)} {ret ret' : SV C} {H1 : List (HS C)} (hM : q07 P D f args [] ret H1) (θ : List (Option Nat)) (h : y6d H1 θ [ret] [ret']) (hv : qf9 H1 θ [] 0) : q07 P D f args [] ret' [] := by
 refine ⟨hM.enter, fun w E hm vs hs hd => (hM.calls w E hm vs hs hd).mono ?_⟩
 rintro e w' ⟨v, E', rfl, h1, h2, h3⟩
 obtain ⟨g1, g2, g3⟩ := q59 h2 h3 hv
 refine ⟨v, _, rfl, ?_, g2, g3⟩
 have hh := h.h
 simp only [ViewL] at hh
 exact q7i h2 g1 _ _ _ hh.1 h1
@[reducible] def y0x (g : q06) : SV Cd := .agg [iS g.kind, lS g.rows, iS g.from_, iS g.to_, iS g.low, iS g.high, bS g.clear, iS g.days, iS g.times, iS g.within, lS g.cents, .slice 0 0 12 0 g.kids.length]
def MGo (args : List (SV Cd)) (g : q06) (u c : Int) : Prop := q07 Tryz.prog Dc 60 args [] (.tuple [q0m g, iS u, iS c]) [] ∧ (g.kids ≠ [] → q07 Tryz.prog Dc 60 args [] (.tuple [y0x g, iS u, iS c]) [.rows U.goal g.kids])
theorem y82 {args : List (SV Cd)} {g : q06} {u c : Int} (h : q07 Tryz.prog Dc 60 args [] (.tuple [y0x g, iS u, iS c]) [.rows U.goal g.kids]) : MGo args g u c :=
 ⟨zn0 h [] (by exact snV) ⟨trivial, rfl, rfl⟩, fun _ => h⟩
theorem z8z (x : List A5) (hx : ∀ y ∈ x, z41 y) (hxl : (x.length : Int) ≤ 9223372036854775807) (deep at_ most : Int) (h1 : 0 ≤ at_ ∧ at_ ≤ 1000) (h3 : 1 ≤ most ∧ most ≤ 9) (hdeep : 1 ≤ deep ∧ deep ≤ 4)
  (hk : deep = 4 ∨ most < 2 ∨ (x.length : Int) ≤ at_ + 1 ∨ (5 ≤ 1 + q0e ((y5 x at_).a.tdiv 144) 6 ∧ most < 3) ∨ q0e ((y5 x at_).a.tdiv 144) 6 = 0) :
  MGo [a5S x, iS at_, iS deep, iS most] (z0q (y5 x at_)) 1 1 := by
 refine ⟨?_, fun h => absurd rfl h⟩
 have hy := y60 hx h1.1
 have hs := y9q (y5 x at_) hy
 have hp := q25 ((y5 x at_).a.tdiv 144) 6 (q8j hy.a (by omega)) (by omega)
 have hb2 := q0g (c := (y5 x at_).a.tdiv 144) (n := 6) (by omega)
 have hya := hy.a
 have htd := q8j (n := 144) hya (by omega)
 unfold I64 at hya
 by_cases hc : at_ < x.length
 ·rw [zi3 h1.1 hc] at *
  refine q00 Ax q03 Tryz.func60 (c := _) rfl Tryz.call60 400 ?_
  (repeat' ((conv => whnf); first | (exfalso; omega) | refine cpC (hs) ?_ | refine cpC (hp) ?_ | refine x0C ?_ | refine spC (fun hb => ?_) fun hb => ?_ | refine saC ?_))
  all_goals exact vwV
 ·rw [y2t hc] at *
  have hp0 : q07 Tryz.prog Dc 36 [iS (Int.tdiv ((List.replicate 5 (Cd.dflt U.int)).getD (Int.toNat 0) (Cd.dflt U.int)) 144), iS 6] [] (iS (q0e (zg0.a.tdiv 144) 6)) [] := hp
  have hr0 : zk7 ((144 : Int) ≠ 0 ∧ InR IntKind.i64 (Int.tdiv ((List.replicate 5 (Cd.dflt U.int)).getD (Int.toNat 0) (Cd.dflt U.int)) 144)) := ⟨by decide, by rfl⟩
  refine q00 Ax q03 Tryz.func60 (c := _) rfl Tryz.call60 400 ?_
  (repeat' ((conv => whnf); first | (exfalso; omega) | refine cpC (ya5) ?_ | refine cpC (hp0) ?_ | refine x0C ?_ | refine spC (fun hb => ?_) fun hb => ?_ | refine saC ?_))
  all_goals exact vwV
structure yc2 (x : List A5) (at_ : Int) : Prop where
 y : z41 (x.getD at_.toNat (Cd.dflt U.arr5))
 z : z41 (x.getD (at_ + 1).toNat (Cd.dflt U.arr5))
theorem y3c {x : List A5} (hx : ∀ y ∈ x, z41 y) {at_ : Int} (h1 : 0 ≤ at_) (h2 : at_ + 1 < x.length) : yc2 x at_ := by
 have e1 := y60 hx h1
 have e2 := y60 hx (i := at_ + 1) (by omega)
 rw [zi3 h1 (by omega)] at e1
 rw [zi3 (by omega) h2] at e2
 exact ⟨e1, e2⟩
theorem z7v (x : List A5) (hx : ∀ y ∈ x, z41 y) (hxl : (x.length : Int) ≤ 9223372036854775807) (deep at_ most : Int) (h1 : 0 ≤ at_ ∧ at_ ≤ 1000) (h3 : 1 ≤ most ∧ most ≤ 9) (hdeep : 1 ≤ deep ∧ deep ≤ 3)
  (h4 : 2 ≤ most) (h5 : at_ + 1 < x.length) (K : Int) (hK : 2 ≤ K ∧ K ≤ 4) (hk : 1 + q0e ((x.getD at_.toNat (Cd.dflt U.arr5)).a.tdiv 144) 6 = K) (g : q06)
  (hg : g = if K = 2 then ⟨1 + q0e ((x.getD at_.toNat (Cd.dflt U.arr5)).a.tdiv 144) 6, [], 0, 0, 1 + q0e (x.getD at_.toNat (Cd.dflt U.arr5)).b 8, 0, false, 0, 0, 1 + q0e (x.getD at_.toNat (Cd.dflt U.arr5)).c 3000, [], [z0q (x.getD (at_ + 1).toNat (Cd.dflt U.arr5))]⟩
   else if K = 3 then ⟨1 + q0e ((x.getD at_.toNat (Cd.dflt U.arr5)).a.tdiv 144) 6, [], q0e (x.getD at_.toNat (Cd.dflt U.arr5)).e 3000, 0, 0, 0, false, 1 + q0e (x.getD at_.toNat (Cd.dflt U.arr5)).b 4, 1 + q0e (x.getD at_.toNat (Cd.dflt U.arr5)).c 4, q0e (x.getD at_.toNat (Cd.dflt U.arr5)).d (1440 * (1 + q0e (x.getD at_.toNat (Cd.dflt U.arr5)).b 4) + 1), [], [z0q (x.getD (at_ + 1).toNat (Cd.dflt U.arr5))]⟩
   else ⟨1 + q0e ((x.getD at_.toNat (Cd.dflt U.arr5)).a.tdiv 144) 6, [], 0, 0, 0, 0, false, 0, 0, q0e (x.getD at_.toNat (Cd.dflt U.arr5)).b 3000, [], [z0q (x.getD (at_ + 1).toNat (Cd.dflt U.arr5))]⟩) :
  MGo [a5S x, iS at_, iS deep, iS most] g 2 2 := by
 refine y82 ?_
 obtain ⟨hy, hz⟩ := y3c hx h1.1 h5
 have hs := y9q _ hz
 have htd := q8j (n := 144) hy.a (by omega)
 have hp := q25 ((x.getD at_.toNat (Cd.dflt U.arr5)).a.tdiv 144) 6 htd (by omega)
 have hb2 := q0g (c := (x.getD at_.toNat (Cd.dflt U.arr5)).a.tdiv 144) (n := 6) (by omega)
 have hya := hy.a
 unfold I64 at hya
 have q1 := q25 (x.getD at_.toNat (Cd.dflt U.arr5)).b 8 hy.b (by omega)
 have q2 := q25 (x.getD at_.toNat (Cd.dflt U.arr5)).c 3000 hy.c (by omega)
 have q3 := q25 (x.getD at_.toNat (Cd.dflt U.arr5)).b 4 hy.b (by omega)
 have q4 := q25 (x.getD at_.toNat (Cd.dflt U.arr5)).c 4 hy.c (by omega)
 have r1 := q0g (c := (x.getD at_.toNat (Cd.dflt U.arr5)).b) (n := 8) (by omega)
 have r2 := q0g (c := (x.getD at_.toNat (Cd.dflt U.arr5)).c) (n := 3000) (by omega)
 have r3 := q0g (c := (x.getD at_.toNat (Cd.dflt U.arr5)).b) (n := 4) (by omega)
 have r4 := q0g (c := (x.getD at_.toNat (Cd.dflt U.arr5)).c) (n := 4) (by omega)
 have q5 := q25 (x.getD at_.toNat (Cd.dflt U.arr5)).d (1440 * (1 + q0e (x.getD at_.toNat (Cd.dflt U.arr5)).b 4) + 1) hy.d (by omega)
 have q6 := q25 (x.getD at_.toNat (Cd.dflt U.arr5)).e 3000 hy.e (by omega)
 have q7 := q25 (x.getD at_.toNat (Cd.dflt U.arr5)).b 3000 hy.b (by omega)
 rcases (show K = 2 ∨ K = 3 ∨ K = 4 by omega) with rfl | rfl | rfl
 ·rw [if_pos rfl] at hg
  subst hg
  refine q00 Ax q03 Tryz.func60 (c := _) rfl Tryz.call60 400 ?_
  (repeat' ((conv => whnf); first | (exfalso; omega) | refine dpC (hs) ?_ | refine cpC (hp) ?_ | refine dpC (q1) ?_ | refine dpC (q2) ?_ | (refine q08 [some 3] (.inr rfl) ?_ ?_ rfl rfl; (focus exact vwV); exact hsV) | refine spC (fun hb => ?_) fun hb => ?_ | refine taC ?_ | refine saC ?_ | refine q02 mixed ?_))
 ·rw [if_neg (by omega), if_pos rfl] at hg
  subst hg
  refine q00 Ax q03 Tryz.func60 (c := _) rfl Tryz.call60 400 ?_
  (repeat' ((conv => whnf); first | (exfalso; omega) | refine dpC (hs) ?_ | refine cpC (hp) ?_ | refine dpC (q3) ?_ | refine dpC (q4) ?_ | refine cpC (q5) ?_ | refine cpC (q6) ?_ | (refine q08 [some 3] (.inr rfl) ?_ ?_ rfl rfl; (focus exact vwV); exact hsV) | refine spC (fun hb => ?_) fun hb => ?_ | refine taC ?_ | refine saC ?_ | refine q02 mixed ?_))
 ·rw [if_neg (by omega), if_neg (by omega)] at hg
  subst hg
  refine q00 Ax q03 Tryz.func60 (c := _) rfl Tryz.call60 400 ?_
  (repeat' ((conv => whnf); first | (exfalso; omega) | refine dpC (hs) ?_ | refine cpC (hp) ?_ | refine dpC (q7) ?_ | (refine q08 [some 3] (.inr rfl) ?_ ?_ rfl rfl; (focus exact vwV); exact hsV) | refine spC (fun hb => ?_) fun hb => ?_ | refine taC ?_ | refine saC ?_ | refine q02 mixed ?_))
end Go.SX
