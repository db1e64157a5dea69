/-
  Walks: Ud3, Oq8, Ue0, Uf2, Uf5, Oq9, Or1, Or2, Or3: what single functions of the program compute.
-/
import Derived.Test.YtijedffphgckmaaGreatDoorSxTa7
import Derived.Test.YtijedffphgckmaaGreatDoorSxUa5
import Derived.ChangeMaps
set_option linter.unusedVariables false
set_option linter.unusedSimpArgs false
namespace Go.SX
open Go.Proofs
set_option maxHeartbeats 4000000
set_option maxRecDepth 100000
theorem gall_see : GAll seeEx := by
 rw [GAll_iff]; exact ⟨⟨by decide, by decide, by decide⟩, by simp [seeEx, GAllL]⟩
theorem gall_zero : GAll zeroO.goal := by
 rw [GAll_iff]; exact ⟨⟨by decide, by decide, by decide⟩, by show GAllL []; simp [GAllL]⟩
theorem oshotsEx : Meets Tryz.prog Dc 22 [goalA seeEx] [] (gsS [seeEx]) [] :=
 oshots _ _ _ _ _ _ _ _ _ _ (by decide) (by have := valid_meets seeEx gall_see; rw [ex_valid] at this; exact this)
theorem lsane : Meets Tryz.prog Dc 10 [] [] (bS true) [] := by
 have h1 : Meets Tryz.prog Dc 14 [ordA oEx] [] (.tuple [wS wantW, iS 0]) [] := by have := oprint oEx gall_see; rw [ex_print] at this; exact this
 have h2 : Meets Tryz.prog Dc 25 [wS wantW] [] (.tuple [ordA oEx, iS 29, iS 0]) [] := by have := oparse wantW (by decide); unfold retP at this; rw [ex_parse] at this; exact this
 have h3 : Meets Tryz.prog Dc 25 [wS bad1] [] (.tuple [ordA zeroO, iS 3, iS 130]) [] := by have := oparse bad1 (by decide); unfold retP at this; rw [ex_bad1] at this; exact this
 have h4 : Meets Tryz.prog Dc 25 [wS bad2] [] (.tuple [ordA zeroO, iS 12, iS 130]) [] := by have := oparse bad2 (by decide); unfold retP at this; rw [ex_bad2] at this; exact this
 have h5 : Meets Tryz.prog Dc 25 [wS bad3] [] (.tuple [ordA zeroO, iS 4, iS 130]) [] := by have := oparse bad3 (by decide); unfold retP at this; rw [ex_bad3] at this; exact this
 have h6 : Meets Tryz.prog Dc 21 [ordA oEx, ordA oEx] [] (bS true) [] := by have := rsameO oEx oEx gall_see gall_see; rw [ex_same] at this; exact this
 have h7 := ktok wantW (by decide)
 have h7l := ex_tok
 have h8 : Meets Tryz.prog Dc 22 [goalA seeEx] [] (gsS [seeEx]) [] := oshotsEx
 have h9 : Meets Tryz.prog Dc 16 [ordA oEx] [] (bS true) [] := by have := ovalid oEx gall_see; rw [ex_ord] at this; exact this
 have h10 : Meets Tryz.prog Dc 16 [ordA zeroO] [] (bS false) [] := by have := ovalid zeroO gall_zero; rw [ex_ord0] at this; exact this
 have h11 : Meets Tryz.prog Dc 18 [goalA seeEx] [] (bS true) [] := by have := valid_meets seeEx gall_see; rw [ex_valid] at this; exact this
 have h12 : Meets Tryz.prog Dc 18 [goalA zeroO.goal] [] (bS false) [] := by have := valid_meets zeroO.goal gall_zero; rw [show validG zeroO.goal = false from ex_goal0] at this; exact this
 have h13 : Meets Tryz.prog Dc 20 [ordA oEx, ordA oEx] [] (bS true) [] := by have := osame oEx oEx gall_see; rw [ex_same] at this; exact this
 have h14 : Meets Tryz.prog Dc 20 [ordA oEx, ordA zeroO] [] (bS false) [] := by have := osame oEx zeroO gall_see; rw [ex_same0] at this; exact this
 have z10 : Meets Tryz.prog Dc 16 [.agg ordZ] [] (bS false) [] := mviewC h10 (by exact snV)
 have z12 : Meets Tryz.prog Dc 18 [kindA 0] [] (bS false) [] := mviewC h12 (by exact snV)
 have z14 : Meets Tryz.prog Dc 20 [ordA oEx, .agg ordZ] [] (bS false) [] := mviewC h14 (by exact snV)
 generalize tokensW wantW = tk at *
 refine meets_of_gx Ax tab_ok Tryz.func10 (c := _) rfl Tryz.call10 900 ?_
 (repeat' ((conv => whnf); first | refine cpC (lsee) ?_ | refine dpC (lsee) ?_ | refine cpC (h1) ?_ | refine dpC (h1) ?_ | refine cpC (h2) ?_ | refine dpC (h2) ?_ | refine cpC (h3) ?_ | refine dpC (h3) ?_ | refine cpC (h4) ?_ | refine dpC (h4) ?_ | refine cpC (h5) ?_ | refine dpC (h5) ?_ | refine cpC (h6) ?_ | refine dpC (h6) ?_ | refine cpC (h7) ?_ | refine dpC (h7) ?_ | refine cpC (h8) ?_ | refine dpC (h8) ?_ | refine cpC (h9) ?_ | refine dpC (h9) ?_ | refine cpC (z10) ?_ | refine dpC (z10) ?_ | refine cpC (h11) ?_ | refine dpC (h11) ?_ | refine cpC (z12) ?_ | refine dpC (z12) ?_ | refine cpC (h13) ?_ | refine dpC (h13) ?_ | refine cpC (z14) ?_ | refine dpC (z14) ?_ | (exfalso; omega) | (refine end_fn [] (.inr rfl) ?_ ?_ rfl rfl; (focus exact vwV); exact hsV) | refine x0C ?_ | refine spC (fun hb => ?_) fun hb => ?_ | refine nilC (fun hb => ?_) ?_ | refine taC ?_ | refine saC ?_ | exact sdV | refine side_and ?_ ?_ | refine drawX_of mixed ?_))
end Go.SX

/-
 Plain: the words of an order's text are those that were written.
-/
namespace Go.SX
def NB (l : List Wd) : Prop := ∀ w ∈ l, (32 : UInt8) ∉ w
theorem NB.nil : NB [] := fun w h => by cases h
theorem NB.cons {w : Wd} {l : List Wd} (h : (32 : UInt8) ∉ w) (hl : NB l) : NB (w :: l) := fun x hx => by
 rcases List.mem_cons.1 hx with rfl | hx
 ·exact h
 ·exact hl x hx
theorem NB.app {a b : List Wd} (h : NB a) (h' : NB b) : NB (a ++ b) := fun x hx => by
 rcases List.mem_append.1 hx with hx | hx
 ·exact h x hx
 ·exact h' x hx
theorem splitW_app : ∀ (w t : Wd), (32 : UInt8) ∉ w → splitW (w ++ 32 :: t) = w :: splitW t
 | [], t, _ => by rw [List.nil_append, splitW, if_pos rfl]
 | c :: w, t, h => by
  have hc : c ≠ 32 := fun e => h (by simp [e])
  rw [List.cons_append, splitW, if_neg hc, splitW_app w t (fun h2 => h (List.mem_cons_of_mem _ h2))]
theorem splitW_self : ∀ w : Wd, (32 : UInt8) ∉ w → splitW w = [w]
 | [], _ => rfl
 | c :: w, h => by
  have hc : c ≠ 32 := fun e => h (by simp [e])
  rw [splitW, if_neg hc, splitW_self w (fun h2 => h (List.mem_cons_of_mem _ h2))]
theorem itoaF_nb : ∀ f n : Nat, (32 : UInt8) ∉ itoaF f n
 | 0, n => by simp [itoaF]
 | f + 1, n => by
  have hd : ∀ k : Nat, k < 10 → (32 : UInt8) ≠ UInt8.ofNat (48 + k) := by decide
  unfold itoaF
  split
  ·rename_i h
   simp only [List.mem_singleton]
   exact hd n h
  ·simp only [List.mem_append, List.mem_singleton, not_or]
   exact ⟨itoaF_nb f _, hd _ (Nat.mod_lt _ (by omega))⟩
theorem itoaW_nb (n : Int) : (32 : UInt8) ∉ itoaW n := by
 unfold itoaW
 split
 ·simp only [List.mem_cons, not_or]; exact ⟨by decide, itoaF_nb _ _⟩
 ·exact itoaF_nb _ _
/-- the words ahead of the goal -/
def frontW (o : Order) : List Wd := [w_order, itoaW o.id, w_by, itoaW o.owner, w_for, itoaW o.price, w_group, if o.group < 0 then w_none else itoaW o.group, if o.urgent then w_urgent else w_plain, w_known, itoaW o.known, w_due, itoaW o.due, w_colon]
theorem orderW_eq (o : Order) : orderW o = frontW o ++ goalW o.goal ++ [w_dot] := rfl
end Go.SX

namespace Go.SX
open Go.Proofs
set_option maxHeartbeats 4000000
set_option maxRecDepth 100000
def madeS (l : List Int) (y : List A5) : Order := ⟨pickS (l.getD 0 0) 20, pickS (l.getD 1 0) 5, goalS y, pickS (l.getD 2 0) 100000, pickS (l.getD 3 0) 5 - 1, decide (pickS (l.getD 4 0) 3 = 0), pickS (l.getD 5 0) 3000, pickS (l.getD 5 0) 3000 + 1 + pickS (l.getD 6 0) 9000⟩
theorem made_ord (l : List Int) (y : List A5) : ordB (madeS l y) = true := by
 rw [ordB_iff]
 have h := goal_valid y
 have h0 := pickS_bd (c := l.getD 0 0) (n := 20) (by omega)
 have h1 := pickS_bd (c := l.getD 1 0) (n := 5) (by omega)
 have h2 := pickS_bd (c := l.getD 2 0) (n := 100000) (by omega)
 have h3 := pickS_bd (c := l.getD 3 0) (n := 5) (by omega)
 have h5 := pickS_bd (c := l.getD 5 0) (n := 3000) (by omega)
 have h6 := pickS_bd (c := l.getD 6 0) (n := 9000) (by omega)
 unfold madeS
 exact ⟨by dsimp only; omega, by dsimp only; omega, by dsimp only; omega, by dsimp only; omega, by dsimp only; omega, by dsimp only; omega, h⟩
@[reducible] def a7A (l : List Int) : SV Cd := .agg [.arr U.int 7 l]
theorem lmade (l : List Int) (hl : l.length = 7) (hz : ∀ z ∈ l, I64 z) (y : List A5) (hy : ∀ z ∈ y, A5OK z) (hyl : (y.length : Int) ≤ 9223372036854775807) : Meets Tryz.prog Dc 11 [a7A l, a5S y] [] (ordA (madeS l y)) [] := by
 have hg := rGoal y hy hyl
 have hI : ∀ k, k < 7 → I64 (l.getD k 0) := fun k hk => hz _ (List.mem_of_getElem? (getD_some (d := (0 : Int)) (by omega)))
 have p0 := pick13 (l.getD 0 0) 20 (hI 0 (by omega)) (by omega)
 have p1 := pick13 (l.getD 1 0) 5 (hI 1 (by omega)) (by omega)
 have p2 := pick13 (l.getD 2 0) 100000 (hI 2 (by omega)) (by omega)
 have p3 := pick13 (l.getD 3 0) 5 (hI 3 (by omega)) (by omega)
 have p4 := pick13 (l.getD 4 0) 3 (hI 4 (by omega)) (by omega)
 have p5 := pick13 (l.getD 5 0) 3000 (hI 5 (by omega)) (by omega)
 have p6 := pick13 (l.getD 6 0) 9000 (hI 6 (by omega)) (by omega)
 have h3 := pickS_bd (c := l.getD 3 0) (n := 5) (by omega)
 have h5 := pickS_bd (c := l.getD 5 0) (n := 3000) (by omega)
 have h6 := pickS_bd (c := l.getD 6 0) (n := 9000) (by omega)
 unfold madeS
 clear hI hz
 refine meets_of_gx Ax tab_ok Tryz.func11 (c := _) rfl Tryz.call11 300 ?_
 (repeat' ((conv => whnf); first | (exfalso; omega) | refine cpC (p0) ?_ | refine dpC (p0) ?_ | refine cpC (p1) ?_ | refine dpC (p1) ?_ | refine cpC (p2) ?_ | refine dpC (p2) ?_ | refine cpC (p3) ?_ | refine dpC (p3) ?_ | refine cpC (p4) ?_ | refine dpC (p4) ?_ | refine cpC (p5) ?_ | refine dpC (p5) ?_ | refine cpC (p6) ?_ | refine dpC (p6) ?_ | refine cpC (hg) ?_ | refine dpC (hg) ?_ | (refine end_fn [] (.inr rfl) ?_ ?_ rfl rfl; (focus exact vwV); exact hsV) | refine x0C ?_ | refine spC (fun hb => ?_) fun hb => ?_ | refine nilC (fun hb => ?_) ?_ | refine taC ?_ | refine saC ?_ | exact sdV | refine side_and ?_ ?_ | refine drawX_of mixed ?_))
end Go.SX

namespace Go.SX
open Go.Proofs Go.Proofs.YtijedffphgckmaaGreatDoor Go.ChangeShapes Go.WideShapes Go.ChangeAt Go.RowKit
set_option maxHeartbeats 4000000
set_option maxRecDepth 100000
variable {H : Type} {enc : TypeId × Value → H} {W : World} {r : Reach} {b0' : Nat} {v : Value} {d : DataW H} {ps : List MemPlace}
/-- seven integers -/
theorem arg7 (ho : Value.okWide Tryz.prog W r b0' 22 v) (h : DataW.Trod enc Tryz.prog W 0 (fun _ => true) true 22 v d ps) : ∃ l : List Int, Den Dc W (En W) (a7A l) v ∧ l.length = 7 ∧ ∀ z ∈ l, I64 z := by
 have hut := Tryz.underlying22
 simp only [Value.okWide, hut] at ho
 obtain ⟨cs, rfl, _⟩ := ho
 obtain ⟨fuel, hx⟩ := h
 obtain ⟨zs, hlen, hcs, hz⟩ := trod_array_ints Tryz.underlying22 (by kernel_rfl) (by kernel_rfl) hx
 have hcs : cs.toList = zs.map (Value.int .i64) := hcs
 refine ⟨zs, ?_, hlen, fun z h => (hz z h).h⟩
 simp only [a7A, Den]
 refine ⟨cs, rfl, ?_⟩
 simp only [DenC]
 have e : ∀ l : List Int, l.flatMap (Dc.enc U.int) = l.map (PV.int .i64) := fun l => by
  induction l with
  | nil => rfl
  | cons a l ih => rw [List.flatMap_cons, ih]; rfl
 exact ⟨hlen, cs.toList, [], by simp, by rw [hcs, e]; exact pdenL_ints Dc W (En W).F zs, rfl⟩
end Go.SX

namespace Go.SX
open Go.Proofs Go.Proofs.YtijedffphgckmaaGreatDoor Go.ChangeShapes Go.WideShapes Go.ChangeAt Go.RowKit
set_option maxHeartbeats 4000000
set_option maxRecDepth 100000
variable {H : Type} {enc : TypeId × Value → H} {W : World} {r : Reach} {b0' : Nat} {v : Value} {d : DataW H} {ps : List MemPlace}
theorem argStr (ho : Value.okWide Tryz.prog W r b0' 9 v) (h : DataW.Trod enc Tryz.prog W 0 (fun _ => true) true 9 v d ps) : ∃ s : Wd, Den Dc W (En W) (wS s) v ∧ (s.length : Int) ≤ 9223372036854775807 := by
 obtain ⟨s, rfl, _, _, hs⟩ := Go.ChangeMaps.open_string Tryz.underlying9 ho h
 have hm : maxLen = 9223372036854775807 := rfl
 refine ⟨s.data.toList, by simp only [wS, Den]; exact .str _, ?_⟩
 have : s.data.toList.length = s.size := Array.length_toList
 omega
end Go.SX

/-
 Plain: the words of the parts of an order's goal stand in its words, one behind the other.
-/
namespace Go.SX
/-- from P on, the words of the goals stand in W, one behind the other, and a word is behind them -/
def Parts (W : List Wd) : Nat → List Goal → Prop
 | P, [] => P < W.length
 | P, k :: l => ∃ p, P ≤ p ∧ (W.drop p).take (goalW k).length = goalW k ∧ Parts W (p + (goalW k).length) l
theorem Parts.mono {W : List Wd} : ∀ (l : List Goal) {P Q : Nat}, Q ≤ P → Parts W P l → Parts W Q l
 | [], P, Q, h, h1 => by unfold Parts at *; omega
 | k :: l, P, Q, h, ⟨p, h1, h2, h3⟩ => ⟨p, by omega, h2, h3⟩
theorem Parts.lt {W : List Wd} : ∀ (l : List Goal) {P : Nat}, Parts W P l → P < W.length
 | [], P, h => h
 | k :: l, P, ⟨p, h1, h2, h3⟩ => by have := Parts.lt l h3; omega
end Go.SX

/-
 Plain: numbers and words are read as they are written; parted texts are joined again.
-/
namespace Go.SX
/-! numbers -/
theorem parse_app : ∀ (l : List UInt8) (acc v : Nat) (r : List UInt8), Go.Lib.parseUint10 acc l = .ok v → Go.Lib.parseUint10 acc (l ++ r) = Go.Lib.parseUint10 v r
 | [], acc, v, r, h => by simp only [Go.Lib.parseUint10] at h; injection h with h; subst h; rfl
 | c :: l, acc, v, r, h => by
  simp only [Go.Lib.parseUint10, List.cons_append] at h ⊢
  split at h
  ·rename_i hc
   rw [if_pos hc]
   split at h
   ·cases h
   ·rename_i h1
    rw [if_neg h1]
    split at h
    ·cases h
    ·rename_i h2
     rw [if_neg h2]
     exact parse_app l _ v r h
  ·cases h
theorem digit_nat {k : Nat} (h : k < 10) : (UInt8.ofNat (48 + k)).toNat = 48 + k := by
 rw [UInt8.toNat_ofNat']; omega
theorem parse_itoaF : ∀ (f u : Nat), u < 10 ^ (f + 1) → u < 1000000000000000 → Go.Lib.parseUint10 0 (itoaF (f + 1) u) = .ok u ∧ itoaF (f + 1) u ≠ [] ∧ ∃ c r, itoaF (f + 1) u = c :: r ∧ c.toNat ≠ 43 ∧ c.toNat ≠ 45
 | f, u, h, hb => by
  by_cases h10 : u < 10
  ·have e : itoaF (f + 1) u = [UInt8.ofNat (48 + u)] := by rw [itoaF, if_pos h10]
   rw [e]
   refine ⟨?_, by simp, _, _, rfl, ?_, ?_⟩
   ·simp only [Go.Lib.parseUint10]
    rw [digit_nat h10, if_pos (by omega), if_neg (by omega), if_neg (by omega)]
    congr 1; omega
   ·rw [digit_nat h10]; omega
   ·rw [digit_nat h10]; omega
  ·cases f with
   | zero => omega
   | succ f =>
    have e : itoaF (f + 1 + 1) u = itoaF (f + 1) (u / 10) ++ [UInt8.ofNat (48 + u % 10)] := by rw [itoaF, if_neg h10]
    obtain ⟨h1, h2, c, r, h3, h4, h5⟩ := parse_itoaF f (u / 10) (by rw [Nat.pow_succ] at h; omega) (by omega)
    rw [e]
    refine ⟨?_, by simp, c, r ++ [UInt8.ofNat (48 + u % 10)], by rw [h3]; rfl, h4, h5⟩
    rw [parse_app _ _ _ _ h1]
    simp only [Go.Lib.parseUint10]
    rw [digit_nat (Nat.mod_lt _ (by omega)), if_pos (by omega), if_neg (by omega), if_neg (by omega)]
    congr 1; omega
theorem numW_itoa {n : Int} (h0 : 0 ≤ n) (h1 : n ≤ 1000000000000) : numW (itoaW n) = some n := by
 have e : itoaW n = itoaF 20 n.toNat := by unfold itoaW; rw [if_neg (by omega)]
 obtain ⟨p1, p2, c, r, p3, p4, p5⟩ := parse_itoaF 19 n.toNat (by omega) (by omega)
 have ha : Go.Lib.atoiAll (itoaW n) = .ok n := by
  rw [e]
  rw [p3] at p1 p2 ⊢
  unfold Go.Lib.atoiAll
  simp only
  rw [if_neg (by omega)]
  unfold Go.Lib.parseMag
  rw [if_neg p2, p1]
  simp only
  rw [if_neg (by omega), if_neg (by omega), if_neg p5]
  congr 1; omega
 unfold numW
 rw [ha]
 simp
theorem numW_some {w : Wd} {n : Int} (h : numW w = some n) : itoaW n = w := by
 unfold numW at h
 split at h
 ·split at h
  ·injection h with h; subst h; assumption
  ·cases h
 ·cases h
theorem numW_blank : numW [32] = none := by decide
/-! words at a place -/
theorem peek_out {ws : List Wd} {a : Int} {w : Wd} (h : peekW ws a = w) (hw : w ≠ [32]) (h0 : 0 ≤ a) (h1 : a ≤ ws.length) : a < ws.length ∧ ws.drop a.toNat = w :: ws.drop (a + 1).toNat := by
 rcases Int.lt_or_eq_of_le h1 with h2 | h2
 ·refine ⟨h2, ?_⟩
  unfold peekW at h
  rw [if_neg (by omega)] at h
  have h3 : a.toNat < ws.length := by omega
  rw [List.drop_eq_getElem_cons h3]
  rw [List.getD_eq_getElem?_getD, List.getElem?_eq_getElem h3] at h
  rw [show (a + 1).toNat = a.toNat + 1 by omega, ← h]; rfl
 ·unfold peekW at h
  rw [if_pos h2] at h
  exact absurd h.symm hw
/-! what is read stands there -/
/-- from a to a' the words l stand -/
structure Reads (ws : List Wd) (a : Int) (l : List Wd) (a' : Int) : Prop where
 lo : 0 ≤ a
 hi : a' ≤ ws.length
 len : a' = a + l.length
 eq : ws.drop a.toNat = l ++ ws.drop a'.toNat
theorem Reads.app {ws l l' : List Wd} {a b c : Int} (h : Reads ws a l b) (h' : Reads ws b l' c) : Reads ws a (l ++ l') c :=
 ⟨h.lo, h'.hi, by rw [h'.len, h.len, List.length_append]; omega, by rw [h.eq, h'.eq, List.append_assoc]⟩
theorem Reads.nil {ws : List Wd} {a : Int} (h : 0 ≤ a) (h' : a ≤ ws.length) : Reads ws a [] a := ⟨h, h', by simp, rfl⟩
theorem Reads.one {ws : List Wd} {a : Int} {w : Wd} (h0 : 0 ≤ a) (h1 : a ≤ ws.length) (h : peekW ws a = w) (hw : w ≠ [32]) : Reads ws a [w] (a + 1) := by
 obtain ⟨h2, h3⟩ := peek_out h hw h0 h1
 exact ⟨h0, by omega, by simp, h3⟩
theorem Reads.lo' {ws l : List Wd} {a b : Int} (h : Reads ws a l b) : 0 ≤ b := by have := h.lo; have := h.len; omega
theorem must_ok {ws : List Wd} : ∀ (l : List Wd) {a m a' m' : Int} {u : Unit}, (∀ s ∈ l, s ≠ [32]) → 0 ≤ a → a ≤ ws.length → mustW ws l a m = .ok u a' m' → Reads ws a l a' ∧ m' = m
 | [], a, m, a', m', u, _, h0, h1, h => by
  rw [mustW] at h; injection h with _ e1 e2; subst e1 e2; exact ⟨.nil h0 h1, rfl⟩
 | w :: l, a, m, a', m', u, hl, h0, h1, h => by
  rw [mustW] at h
  split at h
  ·rename_i e
   have r1 := Reads.one h0 h1 e (hl w (by simp))
   obtain ⟨r2, e2⟩ := must_ok l (fun s hs => hl s (List.mem_cons_of_mem _ hs)) r1.lo' r1.hi h
   exact ⟨r1.app r2, e2⟩
  ·cases h
theorem num_ok {ws : List Wd} {a m a' m' n lo hi : Int} (h0 : 0 ≤ a) (h1 : a ≤ ws.length) (h : numP ws lo hi a m = .ok n a' m') : Reads ws a [itoaW n] a' ∧ m' = m ∧ lo ≤ n ∧ n ≤ hi := by
 unfold numP at h
 split at h
 ·rename_i k hk
  split at h
  ·rename_i hb
   injection h with e1 e2 e3
   subst e1 e2 e3
   have hw := numW_some hk
   refine ⟨.one h0 h1 hw.symm fun e => ?_, rfl, hb.1, hb.2⟩
   have := itoaW_nb k
   rw [e] at this
   exact this (by simp)
  ·cases h
 ·cases h
theorem word_ok {ws : List Wd} {s t : Wd} {a m a' m' : Int} {b : Bool} (hs : s ≠ [32]) (ht : t ≠ [32]) (h0 : 0 ≤ a) (h1 : a ≤ ws.length) (h : wordP ws s t a m = .ok b a' m') : Reads ws a [if b then s else t] a' ∧ m' = m := by
 unfold wordP at h
 split at h
 ·rename_i e
  injection h with e1 e2 e3; subst e1 e2 e3
  exact ⟨.one h0 h1 e hs, rfl⟩
 ·split at h
  ·rename_i e
   injection h with e1 e2 e3; subst e1 e2 e3
   exact ⟨.one h0 h1 e ht, rfl⟩
  ·cases h
theorem bind_ok {α β : Type} {x : Rs α} {k : α → Int → Int → Rs β} {z : β} {a m : Int} (h : x.bind k = .ok z a m) : ∃ y b n, x = .ok y b n ∧ k y b n = .ok z a m := by
 cases x with
 | ok y b n => exact ⟨y, b, n, rfl, h⟩
 | no b n => cases h
/-! texts -/
theorem joinTail_split : ∀ s : Wd, ∃ w l, splitW s = w :: l ∧ w ++ Go.Lib.joinTail [32] l = s
 | [] => ⟨[], [], rfl, rfl⟩
 | c :: s => by
  obtain ⟨w, l, h1, h2⟩ := joinTail_split s
  rw [splitW]
  split
  ·rename_i e
   subst e
   rw [h1]
   exact ⟨[], w :: l, rfl, by show [32] ++ (w ++ Go.Lib.joinTail [32] l) = _; rw [h2]; rfl⟩
  ·rw [h1]
   exact ⟨c :: w, l, rfl, by rw [List.cons_append, h2]⟩
theorem join_split (s : Wd) : joinW (splitW s) = s := by
 obtain ⟨w, l, h1, h2⟩ := joinTail_split s
 rw [h1]
 unfold joinW
 rw [Go.Lib.join_cons]
 exact h2
theorem join_tokens (s : Wd) : joinW (tokensW s) = s := by
 unfold tokensW
 split
 ·rename_i h; rw [h]; exact Go.Lib.join_nil _
 ·exact join_split s
end Go.SX

/-
 Plain: the runs of an area are read as they are written, and what is read is written so.
-/
namespace Go.SX
/-! the runs of a row -/
abbrev Run := Nat × Nat
/-- runs from c on, apart -/
def RC : Nat → List Run → Prop
 | _, [] => True
 | c, p :: l => c ≤ p.1 ∧ p.1 ≤ p.2 ∧ p.2 ≤ 47 ∧ RC (p.2 + 2) l
def mk (p : Run) : Nat := 2 ^ p.1 * (2 ^ (p.2 - p.1 + 1) - 1)
def val : List Run → Nat
 | [] => 0
 | p :: l => mk p + val l
theorem RC.mono : ∀ {l : List Run} {c d : Nat}, d ≤ c → RC c l → RC d l
 | [], _, _, _, _ => trivial
 | p :: l, c, d, h, h1 => ⟨by have := h1.1; omega, h1.2.1, h1.2.2.1, h1.2.2.2⟩
theorem tz_mul : ∀ (x f m : Nat), x < f → m % 2 = 1 → tzF f (2 ^ x * m) = x
 | 0, f + 1, m, _, h => by unfold tzF; rw [Nat.pow_zero, Nat.one_mul, if_pos h]
 | x + 1, f + 1, m, hf, h => by
  have e : 2 ^ (x + 1) * m = 2 * (2 ^ x * m) := by rw [Nat.pow_succ, Nat.mul_comm (2 ^ x) 2, Nat.mul_assoc]
  unfold tzF
  rw [e, if_neg (by omega), Nat.mul_div_cancel_left _ (by omega), tz_mul x f m (by omega) h]; omega
theorem to_ones : ∀ (t f q : Nat), t < f → toF f (2 ^ t - 1 + 2 ^ (t + 1) * q) = t
 | 0, f + 1, q, _ => by unfold toF; rw [if_neg (by simp)]
 | t + 1, f + 1, q, hf => by
  have e : 2 ^ (t + 1) = 2 * 2 ^ t := by rw [Nat.pow_succ, Nat.mul_comm]
  have e2 : 2 ^ (t + 1 + 1) * q = 2 * (2 ^ (t + 1) * q) := by rw [Nat.pow_succ 2 (t + 1), Nat.mul_comm (2 ^ (t + 1)) 2, Nat.mul_assoc]
  have hp := Nat.two_pow_pos t
  unfold toF
  rw [e2, if_pos (by omega), show (2 ^ (t + 1) - 1 + 2 * (2 ^ (t + 1) * q)) / 2 = 2 ^ t - 1 + 2 ^ (t + 1) * q by omega, to_ones t f q (by omega)]; omega
theorem val_dvd : ∀ {l : List Run} {c : Nat}, RC c l → 2 ^ c ∣ val l
 | [], c, _ => Nat.dvd_zero _
 | p :: l, c, h => by
  unfold val mk
  exact Nat.dvd_add (Nat.dvd_trans (Nat.pow_dvd_pow 2 h.1) ⟨_, rfl⟩) (Nat.dvd_trans (Nat.pow_dvd_pow 2 (show c ≤ p.2 + 2 by have := h.1; have := h.2.1; omega)) (val_dvd h.2.2.2))
theorem mk_add {p : Run} (h : p.1 ≤ p.2) : mk p + 2 ^ p.1 = 2 ^ (p.2 + 1) := by
 unfold mk
 have h1 := Nat.two_pow_pos (p.2 - p.1 + 1)
 have h2 : 2 ^ p.1 * (2 ^ (p.2 - p.1 + 1) - 1) + 2 ^ p.1 * 1 = 2 ^ p.1 * 2 ^ (p.2 - p.1 + 1) := by rw [← Nat.mul_add]; congr 1; omega
 rw [← Nat.pow_add, show p.1 + (p.2 - p.1 + 1) = p.2 + 1 by omega] at h2
 omega
theorem val_lt48 {l : List Run} {c : Nat} (h : RC c l) : val l < 2 ^ 48 := by
 induction l generalizing c with
 | nil => show 0 < 2 ^ 48; omega
 | cons p l ih =>
  cases l with
  | nil =>
   have h1 := mk_add h.2.1
   have h2 : 2 ^ (p.2 + 1) ≤ 2 ^ 48 := Nat.pow_le_pow_right (by omega) (by have := h.2.2.1; omega)
   have h3 := Nat.two_pow_pos p.1
   show mk p + 0 < 2 ^ 48
   omega
  | cons q l =>
   have h1 := mk_add h.2.1
   have h2 := mk_add h.2.2.2.2.1
   obtain ⟨k, hk⟩ := val_dvd (l := q :: l) (c := p.2 + 2) h.2.2.2
   have h3 := ih h.2.2.2
   have h4 : p.2 + 2 ≤ 47 := by have := h.2.2.2.1; have := h.2.2.2.2.1; have := h.2.2.2.2.2.1; omega
   have h5 : 2 ^ (p.2 + 2) ∣ 2 ^ 48 := Nat.pow_dvd_pow 2 (by omega)
   obtain ⟨j, hj⟩ := h5
   have h6 : 2 ^ (p.2 + 1) < 2 ^ (p.2 + 2) := Nat.pow_lt_pow_right (by omega) (by omega)
   have h7 : k + 1 ≤ j := by
    rw [hk, hj] at h3
    exact Nat.lt_of_mul_lt_mul_left h3
   have h8 := Nat.mul_le_mul_left (2 ^ (p.2 + 2)) h7
   rw [Nat.mul_add, ← hk, ← hj] at h8
   show mk p + val (q :: l) < 2 ^ 48
   have := Nat.two_pow_pos p.1
   omega
/-- the first run of a row -/
theorem run_first {p : Run} {l : List Run} {c : Nat} (h : RC c (p :: l)) : runAt (val (p :: l)) = p ∧ stepR (val (p :: l)) = val l ∧ val (p :: l) ≠ 0 := by
 obtain ⟨q, hq⟩ := val_dvd h.2.2.2
 obtain ⟨x, z⟩ := p
 have hxz : x ≤ z := h.2.1
 have hz : z ≤ 47 := h.2.2.1
 obtain ⟨t, ht⟩ : ∃ t, z = x + t := ⟨z - x, by omega⟩
 subst ht
 have hm : val ((x, x + t) :: l) = 2 ^ x * (2 ^ (t + 1) - 1 + 2 ^ (t + 1 + 1) * q) := by
  show 2 ^ x * (2 ^ (x + t - x + 1) - 1) + val l = _
  rw [show x + t - x + 1 = t + 1 by omega, Nat.mul_add, hq]
  congr 1
  rw [← Nat.mul_assoc, ← Nat.pow_add]
  congr 2
 have h1 : 2 ^ (t + 1) = 2 * 2 ^ t := by rw [Nat.pow_succ, Nat.mul_comm]
 have h2 : 2 ^ (t + 1 + 1) * q = 2 * (2 ^ (t + 1) * q) := by rw [Nat.pow_succ 2 (t + 1), Nat.mul_comm (2 ^ (t + 1)) 2, Nat.mul_assoc]
 have hp := Nat.two_pow_pos t
 have hodd : (2 ^ (t + 1) - 1 + 2 ^ (t + 1 + 1) * q) % 2 = 1 := by omega
 have htz : tzF 64 (val ((x, x + t) :: l)) = x := by rw [hm]; exact tz_mul x 64 _ (by omega) hodd
 have hlen : runLen (val ((x, x + t) :: l)) = x + (t + 1) := by
  unfold runLen
  rw [htz, hm, Nat.mul_div_cancel_left _ (Nat.two_pow_pos x), to_ones (t + 1) 64 q (by omega)]
 refine ⟨?_, ?_, ?_⟩
 ·unfold runAt; rw [htz, hlen]; rfl
 ·unfold stepR
  have hdd : ∀ N : Nat, N / 2 ^ (x + (t + 1)) = N / 2 ^ x / 2 ^ (t + 1) := fun N => by rw [Nat.pow_add, Nat.div_div_eq_div_mul]
  rw [hlen, hm, hdd, Nat.mul_div_cancel_left _ (Nat.two_pow_pos x)]
  have h5 : (2 ^ (t + 1) - 1 + 2 ^ (t + 1 + 1) * q) / 2 ^ (t + 1) = 2 * q := by
   rw [show 2 ^ (t + 1 + 1) * q = 2 ^ (t + 1) * (2 * q) by rw [Nat.pow_succ 2 (t + 1), Nat.mul_assoc], Nat.add_mul_div_left _ _ (Nat.two_pow_pos _), Nat.div_eq_of_lt (by omega), Nat.zero_add]
  rw [h5, hq]
  show 2 * q * 2 ^ (x + (t + 1)) = 2 ^ ((x + (t + 1)) + 1) * q
  rw [Nat.pow_succ 2 (x + (t + 1)), Nat.mul_assoc, Nat.mul_comm]; simp only [Nat.mul_assoc, Nat.mul_comm, Nat.mul_left_comm]
 ·rw [hm]
  exact Nat.mul_ne_zero (by have := Nat.two_pow_pos x; omega) (by omega)
theorem runs_val : ∀ (f : Nat) (l : List Run) (c : Nat), RC c l → val l ≤ f → runsF f (val l) = l
 | 0, l, c, h, hf => by
  cases l with
  | nil => rfl
  | cons p l => have := (run_first h).2.2; omega
 | f + 1, l, c, h, hf => by
  cases l with
  | nil => rfl
  | cons p l =>
   obtain ⟨h1, h2, h3⟩ := run_first h
   have h4 := stepR_lt h3 (Nat.lt_trans (val_lt48 h) (by omega))
   rw [runsF_succ, if_neg h3, h1, h2, runs_val f l _ h.2.2.2 (by omega)]
theorem runsN_val {l : List Run} {c : Nat} (h : RC c l) : runsN (val l) = l := runs_val _ l c h (Nat.le_refl _)
theorem toF_max : ∀ (f m : Nat), toF f m < f → m / 2 ^ toF f m % 2 = 0
 | 0, m, h => by omega
 | f + 1, m, h => by
  unfold toF at h ⊢
  split
  ·rename_i h1
   rw [if_pos h1] at h
   have ih := toF_max f (m / 2) (by omega)
   rw [Nat.pow_add, Nat.pow_one, ← Nat.div_div_eq_div_mul]; exact ih
  ·simp; omega
/-- every row has its runs -/
theorem val_ex : ∀ (b n : Nat), n ≤ b → n < 2 ^ 48 → ∀ c, 2 ^ c ∣ n → ∃ l, RC c l ∧ val l = n
 | b, n, hb, h, c, hc => by
  by_cases h0 : n = 0
  ·exact ⟨[], trivial, h0.symm⟩
  ·cases b with
   | zero => omega
   | succ b =>
    have h64 : n < 2 ^ 64 := by omega
    obtain ⟨a1, a2, a3⟩ := tzF_spec 64 n h0 h64
    have hs := stepR_lt h0 h64
    obtain ⟨l1, l2⟩ := runLen_le h0 h
    have ht := toF_spec 64 (n / 2 ^ tzF 64 n)
    have hmx := toF_max 64 (n / 2 ^ tzF 64 n) (by unfold runLen at l2; omega)
    have hdef : runLen n = tzF 64 n + toF 64 (n / 2 ^ tzF 64 n) := rfl
    have hq : n / 2 ^ runLen n = n / 2 ^ tzF 64 n / 2 ^ toF 64 (n / 2 ^ tzF 64 n) := by rw [hdef, Nat.pow_add, Nat.div_div_eq_div_mul]
    have hsd : 2 ^ (runLen n + 1) ∣ stepR n := by
     unfold stepR
     rw [hq, Nat.pow_succ, Nat.mul_comm]
     exact Nat.mul_dvd_mul (Nat.dvd_of_mod_eq_zero hmx) (Nat.dvd_refl _)
    obtain ⟨l, hl1, hl2⟩ := val_ex b (stepR n) (by omega) (by omega) (runLen n + 1) hsd
    have hcx : c ≤ tzF 64 n := by
     rcases Nat.lt_or_ge (tzF 64 n) c with h4 | h4
     ·exfalso
      obtain ⟨q, hq⟩ := Nat.dvd_trans (Nat.pow_dvd_pow 2 (show tzF 64 n + 1 ≤ c by omega)) hc
      have h5 : n / 2 ^ tzF 64 n = 2 * q := Nat.div_eq_of_eq_mul_right (Nat.two_pow_pos _) (by rw [← Nat.mul_assoc, ← Nat.pow_succ]; exact hq)
      omega
     ·exact h4
    refine ⟨(tzF 64 n, runLen n - 1) :: l, ⟨hcx, by show tzF 64 n ≤ runLen n - 1; omega, by show runLen n - 1 ≤ 47; omega, by show RC (runLen n - 1 + 2) l; rw [show runLen n - 1 + 2 = runLen n + 1 by omega]; exact hl1⟩, ?_⟩
    show 2 ^ tzF 64 n * (2 ^ (runLen n - 1 - tzF 64 n + 1) - 1) + val l = n
    rw [hl2, show runLen n - 1 - tzF 64 n + 1 = toF 64 (n / 2 ^ tzF 64 n) by omega, ← ht]
    have e1 := Nat.div_add_mod (n / 2 ^ tzF 64 n) (2 ^ toF 64 (n / 2 ^ tzF 64 n))
    have e2 := Nat.div_add_mod n (2 ^ tzF 64 n)
    rw [a1, Nat.add_zero] at e2
    have e3 : stepR n = 2 ^ tzF 64 n * (2 ^ toF 64 (n / 2 ^ tzF 64 n) * (n / 2 ^ tzF 64 n / 2 ^ toF 64 (n / 2 ^ tzF 64 n))) := by
     unfold stepR
     rw [hq, hdef, Nat.pow_add, Nat.mul_comm, Nat.mul_assoc]
    rw [e3, ← Nat.mul_add, Nat.add_comm, e1, e2]
theorem runsN_rc {n : Nat} (h : n < 2 ^ 48) : RC 0 (runsN n) ∧ val (runsN n) = n := by
 obtain ⟨l, h1, h2⟩ := val_ex n n (Nat.le_refl _) h 0 ⟨n, by simp⟩
 have := runsN_val h1
 rw [h2] at this
 rw [this]
 exact ⟨h1, h2⟩
/-! the runs of an area -/
def flatR : Nat → List (List Run) → List (Nat × Run)
 | _, [] => []
 | y, l :: ls => l.map (fun p => (y, p)) ++ flatR (y + 1) ls
def wordsR (L : List (Nat × Run)) : List Wd := L.flatMap fun p => runW p.1 p.2
/-- runs in their order, from a place on -/
def Chain : Nat → Nat → List (Nat × Run) → Prop
 | _, _, [] => True
 | y, c, p :: L => y ≤ p.1 ∧ p.1 ≤ 23 ∧ (p.1 = y → c ≤ p.2.1) ∧ p.2.1 ≤ p.2.2 ∧ p.2.2 ≤ 47 ∧ Chain p.1 (p.2.2 + 2) L
def orRun (rows : List Int) (p : Nat × Run) : List Int := rows.set p.1 (bitop .or .i64 (rows.getD p.1 0) (maskW p.2.1 p.2.2))
def build (rows : List Int) (L : List (Nat × Run)) : List Int := L.foldl orRun rows
theorem flatR_nil : ∀ (n y : Nat), flatR y (List.replicate n []) = []
 | 0, y => rfl
 | n + 1, y => by rw [List.replicate_succ, flatR, flatR_nil n (y + 1)]; rfl
theorem flatR_app : ∀ (a b : List (List Run)) (y : Nat), flatR y (a ++ b) = flatR y a ++ flatR (y + a.length) b
 | [], b, y => rfl
 | l :: a, b, y => by
  rw [List.cons_append, flatR, flatR, flatR_app a b (y + 1), List.append_assoc, List.length_cons]
  rw [show y + 1 + a.length = y + (a.length + 1) by omega]
theorem wordsR_rows : ∀ (rows : List Int) (y : Nat), rowsW y rows = wordsR (flatR y (rows.map fun r => runsN r.toNat))
 | [], y => rfl
 | r :: rows, y => by
  rw [rowsW, List.map_cons, flatR, wordsR_rows rows (y + 1)]
  unfold wordsR
  rw [List.flatMap_append, List.flatMap_map]
  rfl
theorem Chain.up : ∀ {L : List (Nat × Run)} {y z c d : Nat}, y < z → Chain z c L → Chain y d L
 | [], y, z, c, d, h, h1 => trivial
 | p :: L, y, z, c, d, h, h1 => ⟨by have := h1.1; omega, h1.2.1, fun e => by have := h1.1; omega, h1.2.2.2.1, h1.2.2.2.2.1, h1.2.2.2.2.2⟩
theorem chain_ex : ∀ (L : List (Nat × Run)) (y c : Nat), y ≤ 23 → Chain y c L → ∃ l ls, RC c l ∧ (∀ k ∈ ls, RC 0 k) ∧ y + 1 + ls.length = 24 ∧ L = l.map (fun p => (y, p)) ++ flatR (y + 1) ls
 | [], y, c, hy, _ => ⟨[], List.replicate (23 - y) [], trivial, fun k hk => by rw [(List.mem_replicate.1 hk).2]; trivial, by simp; omega, by rw [flatR_nil]; rfl⟩
 | (r, p) :: L, y, c, hy, h => by
  obtain ⟨l, ls, h1, h2, h3, h4⟩ := chain_ex L r (p.2 + 2) h.2.1 h.2.2.2.2.2
  rcases Nat.lt_or_eq_of_le h.1 with hr | hr
  ·have hr : y < r := hr
   refine ⟨[], List.replicate (r - y - 1) [] ++ ((p :: l) :: ls), trivial, ?_, ?_, ?_⟩
   ·intro k hk
    rcases List.mem_append.1 hk with hk | hk
    ·rw [(List.mem_replicate.1 hk).2]; trivial
    ·rcases List.mem_cons.1 hk with rfl | hk
     ·exact ⟨Nat.zero_le _, h.2.2.2.1, h.2.2.2.2.1, h1⟩
     ·exact h2 k hk
   ·simp; omega
   ·rw [flatR_app, flatR_nil, List.length_replicate, show y + 1 + (r - y - 1) = r by omega, flatR, h4]; rfl
  ·have hr : y = r := hr
   subst hr
   exact ⟨p :: l, ls, ⟨h.2.2.1 rfl, h.2.2.2.1, h.2.2.2.2.1, h1⟩, h2, h3, by rw [h4]; rfl⟩
/-! what they make -/
theorem mask_nat {p : Run} (h : p.1 ≤ p.2) : maskW p.1 p.2 = (mk p : Int) := by
 unfold maskW mk
 rw [show ((p.2 : Int) - p.1 + 1).toNat = p.2 - p.1 + 1 by omega, show ((p.1 : Nat) : Int).toNat = p.1 from rfl]
 have := Nat.two_pow_pos (p.2 - p.1 + 1)
 rw [Int.natCast_mul, Int.natCast_sub (by omega), Int.natCast_pow, Int.natCast_pow, Int.mul_comm]
 rfl
theorem mk_lt {p : Run} (h : p.1 ≤ p.2) (h' : p.2 ≤ 47) : mk p < 2 ^ 48 := by
 have h1 := mk_add h
 have h2 : 2 ^ (p.2 + 1) ≤ 2 ^ 48 := Nat.pow_le_pow_right (by omega) (by omega)
 have := Nat.two_pow_pos p.1
 omega
theorem or_run {p : Run} (h : p.1 ≤ p.2) (h' : p.2 ≤ 47) {v : Nat} (hv : v < 2 ^ p.1) : bitop .or .i64 (v : Int) (maskW p.1 p.2) = ((v + mk p : Nat) : Int) := by
 have h1 : v < 2 ^ 48 := Nat.lt_of_lt_of_le hv (Nat.pow_le_pow_right (by omega) (by omega))
 rw [mask_nat h, or_nat h1 (mk_lt h h')]
 congr 1
 rw [Nat.or_comm]
 unfold mk
 rw [← Nat.two_pow_add_eq_or_of_lt hv, Nat.add_comm]
theorem build_row : ∀ (l : List Run) (y c v : Nat) (pre post : List Int), RC c l → v < 2 ^ c → pre.length = y → build (pre ++ (v : Int) :: post) (l.map fun p => (y, p)) = pre ++ ((v + val l : Nat) : Int) :: post
 | [], y, c, v, pre, post, _, _, _ => rfl
 | p :: l, y, c, v, pre, post, h, hv, hy => by
  subst hy
  have hv1 : v < 2 ^ p.1 := Nat.lt_of_lt_of_le hv (Nat.pow_le_pow_right (by omega) h.1)
  have e : orRun (pre ++ (v : Int) :: post) (pre.length, p) = pre ++ ((v + mk p : Nat) : Int) :: post := by
   unfold orRun
   simp only
   rw [show (pre ++ (v : Int) :: post).getD pre.length 0 = (v : Int) by simp [List.getD_eq_getElem?_getD], or_run h.2.1 h.2.2.1 hv1]
   simp
  show build (orRun (pre ++ (v : Int) :: post) (pre.length, p)) (l.map fun p => (pre.length, p)) = _
  rw [e, build_row l pre.length (p.2 + 2) (v + mk p) pre post h.2.2.2 ?_ rfl]
  ·rw [val]; congr 3; omega
  ·have h1 := mk_add h.2.1
   have h2 : 2 ^ (p.2 + 1) ≤ 2 ^ (p.2 + 2) := Nat.pow_le_pow_right (by omega) (by omega)
   omega
theorem build_app (rows : List Int) (a b : List (Nat × Run)) : build rows (a ++ b) = build (build rows a) b := List.foldl_append ..
theorem build_flat : ∀ (ls : List (List Run)) (y : Nat) (pre : List Int), (∀ l ∈ ls, RC 0 l) → pre.length = y → build (pre ++ List.replicate ls.length 0) (flatR y ls) = pre ++ ls.map fun l => (val l : Int)
 | [], y, pre, _, _ => by simp [build, flatR]
 | l :: ls, y, pre, h, hy => by
  rw [flatR, build_app, List.length_cons, List.replicate_succ]
  have h1 := build_row l y 0 0 pre (List.replicate ls.length 0) (h l (by simp)) (by simp) hy
  rw [show ((0 : Nat) : Int) = 0 from rfl] at h1
  rw [h1, Nat.zero_add]
  have h2 := build_flat ls (y + 1) (pre ++ [(val l : Int)]) (fun k hk => h k (List.mem_cons_of_mem _ hk)) (by simp [hy])
  rw [List.append_assoc] at h2
  rw [show pre ++ (val l : Int) :: List.replicate ls.length 0 = pre ++ ([(val l : Int)] ++ List.replicate ls.length 0) from rfl, h2]
  simp
theorem val_pos {l : List Run} (h : RC 0 l) (hl : l ≠ []) : val l ≠ 0 := by
 cases l with
 | nil => exact absurd rfl hl
 | cons p l => exact (run_first h).2.2
theorem area_read {L : List (Nat × Run)} (h : Chain 0 0 L) : rowsW 0 (build (List.replicate 24 0) L) = wordsR L ∧ areaB (build (List.replicate 24 0) L) = true ∧ (L ≠ [] → (build (List.replicate 24 0) L).any (fun r => decide (r ≠ 0)) = true) := by
 obtain ⟨l, ls, h1, h2, h3, h4⟩ := chain_ex L 0 0 (by omega) h
 have h0 : ∀ k ∈ l :: ls, RC 0 k := fun k hk => by
  rcases List.mem_cons.1 hk with rfl | hk
  ·exact h1
  ·exact h2 k hk
 have e : L = flatR 0 (l :: ls) := h4
 have hlen : (l :: ls).length = 24 := by rw [List.length_cons]; omega
 have hb := build_flat (l :: ls) 0 [] h0 rfl
 rw [hlen, List.nil_append, List.nil_append, ← e] at hb
 rw [hb]
 refine ⟨?_, ?_, ?_⟩
 ·rw [wordsR_rows, List.map_map, e]
  congr 2
  refine Eq.trans (b := (l :: ls).map id) (List.map_congr_left fun k hk => ?_) (List.map_id _)
  show runsN ((val k : Nat) : Int).toNat = k
  exact runsN_val (h0 k hk)
 ·simp only [areaB, Bool.and_eq_true, decide_eq_true_eq, List.all_eq_true]
  refine ⟨by rw [List.length_map, hlen]; rfl, fun r hr => ?_⟩
  obtain ⟨k, hk, rfl⟩ := List.mem_map.1 hr
  have := val_lt48 (h0 k hk)
  exact (inB_iff _ _ _).2 ⟨by omega, by omega⟩
 ·intro hL
  rw [List.any_eq_true]
  have : ∃ k ∈ l :: ls, k ≠ [] := by
   apply Classical.byContradiction
   intro hn
   apply hL
   have hn : ∀ k ∈ l :: ls, k = [] := fun k hk => Classical.byContradiction fun h => hn ⟨k, hk, h⟩
   rw [e, List.eq_replicate_of_mem hn, flatR_nil]
  obtain ⟨k, hk, hne⟩ := this
  refine ⟨_, List.mem_map_of_mem hk, ?_⟩
  have := val_pos (h0 k hk) hne
  simp; omega
end Go.SX

/-
 Plain: goals are read as they are written.
-/
namespace Go.SX
theorem area_ok {ws : List Wd} : ∀ (fuel y c : Nat) (rows rows' : List Int) (a m a' m' : Int), 0 ≤ a → a ≤ ws.length → areaP ws fuel y c rows a m = .ok rows' a' m' → ∃ L, Chain y c L ∧ (L = [] → 48 ≤ c) ∧ Reads ws a (wordsR L) a' ∧ m' = m ∧ rows' = build rows L
 | 0, y, c, rows, rows', a, m, a', m', h0, h1, h => by rw [areaP] at h; cases h
 | fuel + 1, y, c, rows, rows', a, m, a', m', h0, h1, h => by
  rw [areaP] at h
  split at h
  ·rename_i hc
   injection h with e1 e2 e3
   subst e1 e2 e3
   exact ⟨[], trivial, fun _ => by omega, .nil h0 h1, rfl, rfl⟩
  ·rename_i hc
   replace h := bind_ok h
   obtain ⟨_, a1, m1, h2, h⟩ := h
   obtain ⟨r1, rfl⟩ := must_ok [w_at] (by decide) h0 h1 h2
   replace h := bind_ok h
   obtain ⟨row, a2, m2, h2, h⟩ := h
   obtain ⟨r2, rfl, b1, b2⟩ := num_ok r1.lo' r1.hi h2
   replace h := bind_ok h
   obtain ⟨x, a3, m3, h2, h⟩ := h
   obtain ⟨r3, rfl, b3, b4⟩ := num_ok r2.lo' r2.hi h2
   replace h := bind_ok h
   obtain ⟨z, a4, m4, h2, h⟩ := h
   obtain ⟨r4, rfl, b5, b6⟩ := num_ok r3.lo' r3.hi h2
   have hrow : (y : Int) ≤ row := by split at b1 <;> omega
   obtain ⟨row, rfl⟩ := Int.eq_ofNat_of_zero_le (show 0 ≤ row by omega)
   have hx : 0 ≤ x := by split at b3 <;> omega
   obtain ⟨x, rfl⟩ := Int.eq_ofNat_of_zero_le hx
   obtain ⟨z, rfl⟩ := Int.eq_ofNat_of_zero_le (show 0 ≤ z by omega)
   have hcx : row = y → c ≤ x := fun e => by
    subst e
    have h48 : ¬ (48 : Int) ≤ c := fun h => by rw [if_pos h] at b1; omega
    rw [if_neg h48, if_neg (by omega)] at b3
    omega
   have rr := (r1.app (r2.app (r3.app r4)))
   split at h
   ·obtain ⟨L, k1, k2, k3, k4, k5⟩ := area_ok fuel row (z + 2) _ rows' a4 _ a' m' r4.lo' r4.hi h
    refine ⟨(row, (x, z)) :: L, ⟨by show y ≤ row; omega, by show row ≤ 23; omega, hcx, by show x ≤ z; omega, by show z ≤ 47; omega, k1⟩, (by simp), ?_, k4, k5⟩
    have := rr.app k3
    exact this
   ·injection h with e1 e2 e3
    subst e1 e2 e3
    refine ⟨[(row, (x, z))], ⟨by show y ≤ row; omega, by show row ≤ 23; omega, hcx, by show x ≤ z; omega, by show z ≤ 47; omega, trivial⟩, (by simp), ?_, rfl, rfl⟩
    exact rr
/-! see -/
theorem plain_one {g : Goal} (h : OkG g) (hk : g.kind = 2 ∨ g.kind = 3 ∨ g.kind = 4) : ∃ k, g.kids = [k] ∧ k.kind ≤ lastK g.kind ∧ g = (if g.kind = 2 then ⟨2, [], 0, 0, g.low, 0, false, 0, 0, g.within, [], [k]⟩ else if g.kind = 3 then ⟨3, [], g.from_, 0, 0, 0, false, g.days, g.times, g.within, [], [k]⟩ else ⟨4, [], 0, 0, 0, 0, false, 0, 0, g.within, [], [k]⟩) := by
 have h1 := plainB_iff.1 h.plain
 obtain ⟨k1, k2⟩ := h.one hk
 have h3 := h.parts
 simp only [partsB, Bool.and_eq_true, Bool.or_eq_true, decide_eq_true_eq, Bool.not_eq_true', List.any_eq_false] at h3
 obtain ⟨⟨⟨_, _⟩, h4⟩, h5⟩ := h3
 have hr : g.rows = [] := by
  rcases h4 with h4 | h4
  ·omega
  ·exact List.eq_nil_of_length_eq_zero (by omega)
 unfold restG at h1
 obtain ⟨k, hk1⟩ : ∃ k, g.kids = [k] := by
  match hg : g.kids, k1 with
  | [k], _ => exact ⟨k, rfl⟩
 have h6 := h5 k (by rw [hk1]; simp)
 refine ⟨k, hk1, by simpa using h6, ?_⟩
 rw [if_neg (by omega)] at h1
 cases g
 simp only at *
 subst hr hk1 k2
 rcases hk with hk | hk | hk <;> subst hk <;> simp at h1 ⊢ <;> simp [h1]
end Go.SX
