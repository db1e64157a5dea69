/-
  Walks: Ug5, Ui0, Ui1, Ui2: what single functions of the program compute.
-/
import Derived.Test.YtijedffphgckmaaGreatDoorSxUh8
import Derived.Test.YtijedffphgckmaaGreatDoorSxOr4
import Derived.Test.YtijedffphgckmaaGreatDoorSxUd3
set_option linter.unusedVariables false
set_option linter.unusedSimpArgs false
namespace Go.SX
open Go.Proofs
set_option maxHeartbeats 4000000
set_option maxRecDepth 100000
theorem joinW_snoc (l : List Wd) (i : Nat) (h : i < l.length) : joinW (l.take (i + 1)) = joinW (l.take i) ++ (if i = 0 then [] else [32]) ++ l.getD (i : Int).toNat (Cd.dflt U.str) := by
 rw [take_getD (d := Cd.dflt U.str) h]
 show joinW (l.take i ++ [l.getD i (Cd.dflt U.str)]) = joinW (l.take i) ++ _ ++ l.getD i (Cd.dflt U.str)
 cases i with
 | zero =>
  rw [List.take_zero, List.nil_append, if_pos rfl]
  unfold joinW
  rw [Go.Lib.join_nil, Go.Lib.join_cons]
  show _ ++ Go.Lib.joinTail [32] [] = _
  unfold Go.Lib.joinTail
  simp
 | succ i =>
  rw [if_neg (by omega)]
  cases l with
  | nil => simp at h
  | cons w l =>
   rw [List.take_succ_cons]
   unfold joinW
   rw [List.cons_append, Go.Lib.join_cons, Go.Lib.join_cons, joinTail_app, List.append_assoc, List.append_assoc]
   congr 2
   unfold Go.Lib.joinTail
   simp
theorem rfjoin (l : List Wd) (hsh : Sh l) (hl : l.length ≤ 1000) : Meets Tryz.prog Dc 31 [wsS l] [] (wS (joinW l)) [] := by
 have hlen : ∀ i, (joinW (l.take i)).length ≤ 22000 := fun i => by
  have := joinW_len (l := l.take i) (fun w hw => hsh w (List.mem_of_mem_take hw))
  rw [List.length_take] at this
  omega
 have hs := joinW_snoc l
 have h0 : joinW (l.take 0) = [] := by rw [List.take_zero]; exact Go.Lib.join_nil _
 have hw : ∀ i, i < l.length → (l.getD (i : Int).toNat (Cd.dflt U.str)).length ≤ 21 := fun i h => hsh _ (List.mem_of_getElem? (getD_some (d := Cd.dflt U.str) h))
 generalize hJ : (fun i => joinW (l.take i)) = J
 have e : ∀ i, joinW (l.take i) = J i := fun i => by rw [← hJ]
 have hall : joinW l = J l.length := by rw [← e, List.take_length]
 simp only [e] at hlen hs h0
 rw [hall]
 clear hall e hJ hsh
 refine meets_of_gx Ax tab_ok Tryz.func31 (c := _) rfl Tryz.call31 100 ?_
 (repeat' ((conv => whnf); first | (exfalso; omega) | refine x0C ?_ | refine spC (fun hb => ?_) fun hb => ?_ | refine nilC (fun hb => ?_) ?_ | refine taC ?_ | refine saC ?_ | exact sdV | refine side_and ?_ ?_ | refine drawX_of mixed ?_))
 refine loop_up (fun q : Nat × Wd => [(3, wS q.2), (4, iS q.1)]) (fun _ => []) (fun q => q.1 ≤ l.length ∧ q.2 = J q.1) (fun q => l.length - q.1) (0, []) ⟨Nat.zero_le _, h0.symm⟩ (by exact bkI) ?_
 rintro ⟨i, B⟩ ⟨hi, hB⟩ K hK
 dsimp only at hi hB hK ⊢
 have hBl := hlen i
 rw [← hB] at hBl
 rcases Nat.lt_or_ge i l.length with hlt | hge
 ·have hsi := hs i hlt
  have hwi := hw i hlt
  rw [← hB] at hsi
  clear hs hw hlen
  rcases Nat.eq_zero_or_pos i with hi0 | hi0
  ·rw [if_pos hi0, List.append_nil] at hsi
   (repeat' ((conv => whnf); first | (exfalso; omega) | refine hK (i + 1, B ++ l.getD (i : Int).toNat (Cd.dflt U.str)) [] _ _ ⟨⟨by dsimp only; omega, hsi.symm⟩⟩ ⟨by dsimp only; omega⟩ (by exact bkI) | refine x0C ?_ | refine spC (fun hb => ?_) fun hb => ?_ | refine nilC (fun hb => ?_) ?_ | refine taC ?_ | refine saC ?_ | exact sdV | refine side_and ?_ ?_ | refine drawX_of mixed ?_))
  ·rw [if_neg (by omega)] at hsi
   have hX : (B ++ (⟨#[32]⟩ : ByteArray).data.toList).length = B.length + 1 := by simp
   (repeat' ((conv => whnf); first | (exfalso; omega) | refine hK (i + 1, B ++ [32] ++ l.getD (i : Int).toNat (Cd.dflt U.str)) [] _ _ ⟨⟨by dsimp only; omega, hsi.symm⟩⟩ ⟨by dsimp only; omega⟩ (by exact bkI) | refine x0C ?_ | refine spC (fun hb => ?_) fun hb => ?_ | refine nilC (fun hb => ?_) ?_ | refine taC ?_ | refine saC ?_ | exact sdV | refine side_and ?_ ?_ | refine drawX_of mixed ?_))
 ·have hil : i = l.length := by omega
  rw [← hil, ← hB]
  (repeat' ((conv => whnf); first | (exfalso; omega) | (refine end_fn [] (.inr rfl) ?_ ?_ rfl rfl; (focus exact vwV); exact hsV) | refine x0C ?_ | refine spC (fun hb => ?_) fun hb => ?_ | refine nilC (fun hb => ?_) ?_ | refine taC ?_ | refine saC ?_ | exact sdV | refine side_and ?_ ?_ | refine drawX_of mixed ?_))
/-- the reference's Parse, as the program's -/
theorem rparse (s : Wd) (hs : s.length ≤ 1000000) : Meets Tryz.prog Dc 26 [wS s] [] (retP s) [] := by
 have := xparse s hs
 rw [parse_same] at this
 unfold retP
 exact this
theorem parse_gall (s : Wd) : GAll (parseS s).1.goal := by
 obtain ⟨q, n, e, h⟩ : ∃ q n e, parseS s = (q, n, e) := ⟨_, _, _, rfl⟩
 rw [h]
 by_cases he : e = 0
 ·obtain ⟨h1, _⟩ := print_parse h he
  exact valid_gall ((ordB_iff q).1 h1).goal
 ·rw [(parse_bad h he).1]; exact gall_zero
structure A3OK (x : A3) : Prop where
 a : I64 x.a
 b : I64 x.b
 c : I64 x.c
@[reducible] def a3S (l : List A3) : SV Cd := .p (.dsl U.arr3 l)
theorem Sh.tk {l : List Wd} (h : Sh l) (n : Nat) : Sh (l.take n) := fun w hw => h w (List.mem_of_mem_take hw)
theorem Sh.dr {l : List Wd} (h : Sh l) (n : Nat) : Sh (l.drop n) := fun w hw => h w (List.mem_of_mem_drop hw)
theorem Sh.gd {l : List Wd} (h : Sh l) (i : Nat) : (l.getD i (Cd.dflt U.str)).length ≤ 21 := by
 rw [List.getD_eq_getElem?_getD]
 cases hg : l[i]? with
 | none => show (Cd.dflt U.str).length ≤ 21; decide
 | some w => exact h w (List.mem_of_getElem? hg)
theorem lwordsR (l : List Int) (hl : l.length = 7) (hz : ∀ z ∈ l, I64 z) (y : List A5) (hy : ∀ z ∈ y, A5OK z) (hyl : (y.length : Int) ≤ 9223372036854775807) (z : List A3) (hz3 : ∀ x ∈ z, A3OK x) (hzl : (z.length : Int) ≤ 9223372036854775807) (word : Wd) (hwl : (word.length : Int) ≤ 9223372036854775807) : Meets Tryz.prog Dc 4 [a7A l, a5S y, a3S z, wS word] [] (bS true) [] := by
 have hs := lsane
 have hm := lmade l hl hz y hy hyl
 have ho := made_ord l y
 obtain ⟨hw1, hw2⟩ := made_len (o := madeS l y) (y := y) rfl
 generalize madeS l y = o at *
 have hL := orderW_len o
 have hwd := rfwords o ho
 have hsh := orderW_sh o
 generalize hW : orderW o = W at *
 refine meets_of_gx Ax tab_ok Tryz.func4 (c := _) rfl Tryz.call4 900 ?_
 (repeat' ((conv => whnf); first | refine cpC (hs) ?_ | refine cpC (hm) ?_ | (refine callh [] hwd rfl rfl trivial ?_)))
 conv => whnf
 refine loop_upT [some 0, some 1] (fun q : Nat × List Wd => [(9, .slice 1 0 1 0 q.2.length), (10, iS q.1), (25, .any)]) (fun q => [(1, .rows U.str q.2)]) (fun q => q.1 ≤ 4 ∧ q.2.length ≤ 555 + q.1 ∧ Sh q.2) (fun q => 4 - q.1) (0, W) ⟨Nat.zero_le _, hw1, hsh⟩ (by exact bkI) ?_
 have hwd12 : (List.drop (Int.toNat 0) (List.take (min (word.length : Int) 12).toNat word)).length ≤ 21 := by rw [List.length_drop, List.length_take]; omega
 have hlit : Sh [[48], [49, 53], [50, 51], [50, 52], [52, 55], [52, 56], [57, 48], [57, 49], [45, 49], [48, 48], [49, 48, 48, 48, 48, 48, 48], [49, 48, 48, 48, 48, 48, 49], [44], [41], [40], [46], w_see, w_all, w_any, w_pair] := by unfold Sh; decide
 rintro ⟨i, L⟩ ⟨hi, hLl, hLs⟩ K hK
 dsimp only at hi hLl hLs hK ⊢
 by_cases hgo : i < z.length ∧ i < 4 ∧ 0 < L.length
 ·obtain ⟨g1, g2, g3⟩ := hgo
  have hz := hz3 _ (List.mem_of_getElem? (getD_some (d := Cd.dflt U.arr3) g1))
  have p1 := pickL (z.getD (i : Int).toNat (Cd.dflt U.arr3)).a L.length hz.a (by omega)
  have p2 := pickL (z.getD (i : Int).toNat (Cd.dflt U.arr3)).b L.length hz.b (by omega)
  have p3 := pickL (z.getD (i : Int).toNat (Cd.dflt U.arr3)).c 5 hz.c (by omega)
  have p4 := pickL (z.getD (i : Int).toNat (Cd.dflt U.arr3)).b 20 hz.b (by omega)
  have b1 := pickS_bd (c := (z.getD (i : Int).toNat (Cd.dflt U.arr3)).a) (n := L.length) (by omega)
  have b2 := pickS_bd (c := (z.getD (i : Int).toNat (Cd.dflt U.arr3)).b) (n := L.length) (by omega)
  have b3 := pickS_bd (c := (z.getD (i : Int).toNat (Cd.dflt U.arr3)).c) (n := 5) (by omega)
  have b4 := pickS_bd (c := (z.getD (i : Int).toNat (Cd.dflt U.arr3)).b) (n := 20) (by omega)
  have hk : pickS (z.getD (i : Int).toNat (Cd.dflt U.arr3)).c 5 = 0 ∨ pickS (z.getD (i : Int).toNat (Cd.dflt U.arr3)).c 5 = 1 ∨ pickS (z.getD (i : Int).toNat (Cd.dflt U.arr3)).c 5 = 2 ∨ pickS (z.getD (i : Int).toNat (Cd.dflt U.arr3)).c 5 = 3 ∨ pickS (z.getD (i : Int).toNat (Cd.dflt U.arr3)).c 5 = 4 := by omega
  generalize pickS (z.getD (i : Int).toNat (Cd.dflt U.arr3)).a L.length = pa at *
  generalize pickS (z.getD (i : Int).toNat (Cd.dflt U.arr3)).b L.length = pb at *
  generalize pickS (z.getD (i : Int).toNat (Cd.dflt U.arr3)).b 20 = pd at *
  generalize pickS (z.getD (i : Int).toNat (Cd.dflt U.arr3)).c 5 = pc at *
  rcases hk with rfl | rfl | rfl | rfl | rfl
  ·(repeat' ((conv => whnf); first | (exfalso; omega) | refine cpC (p1) ?_ | refine cpC (p2) ?_ | refine cpC (p3) ?_ | (refine ⟨?_⟩; (repeat' (first | refine And.intro ?_ ?_ | omega | rfl | (dsimp only [srcSide]; omega) | (simp; done) | (simp; omega) | (simp [srcSide]; omega))); done) | refine hK (i + 1, _) [some 0, some 6] _ _ ?_ ?_ (by exact bkW) | refine spC (fun hb => ?_) fun hb => ?_ | refine saC ?_))
   all_goals refine ⟨⟨by dsimp only; omega, (by dsimp only; simp; omega), ?_⟩⟩
   all_goals dsimp only
   all_goals (repeat' (first | exact hLs | exact Sh.nil | exact hLs.gd _ | exact hwd12 | exact hlit.gd _ | refine Sh.app ?_ ?_ | refine Sh.tk ?_ _ | refine Sh.dr ?_ _ | refine Sh.cons ?_ ?_))
  ·(repeat' ((conv => whnf); first | (exfalso; omega) | refine cpC (p1) ?_ | refine cpC (p3) ?_ | (refine ⟨?_⟩; (repeat' (first | refine And.intro ?_ ?_ | omega | rfl | (dsimp only [srcSide]; omega) | (simp; done) | (simp; omega) | (simp [srcSide]; omega))); done) | refine hK (i + 1, _) [some 0, some 6] _ _ ?_ ?_ (by exact bkW) | refine spC (fun hb => ?_) fun hb => ?_ | refine saC ?_))
   all_goals refine ⟨⟨by dsimp only; omega, (by dsimp only; simp; omega), ?_⟩⟩
   all_goals dsimp only
   all_goals (repeat' (first | exact hLs | exact Sh.nil | exact hLs.gd _ | exact hwd12 | exact hlit.gd _ | refine Sh.app ?_ ?_ | refine Sh.tk ?_ _ | refine Sh.dr ?_ _ | refine Sh.cons ?_ ?_))
  ·(repeat' ((conv => whnf); first | (exfalso; omega) | refine cpC (p1) ?_ | refine cpC (p3) ?_ | (refine ⟨?_⟩; (repeat' (first | refine And.intro ?_ ?_ | omega | rfl | (dsimp only [srcSide]; omega) | (simp; done) | (simp; omega) | (simp [srcSide]; omega))); done) | refine hK (i + 1, _) [some 0, some 6] _ _ ?_ ?_ (by exact bkW) | refine spC (fun hb => ?_) fun hb => ?_ | refine taC ?_ | refine saC ?_ | refine drawX_of mixed ?_))
   all_goals refine ⟨⟨by dsimp only; omega, (by dsimp only; simp; omega), ?_⟩⟩
   all_goals dsimp only
   all_goals (repeat' (first | exact hLs | exact Sh.nil | exact hLs.gd _ | exact hwd12 | exact hlit.gd _ | refine Sh.app ?_ ?_ | refine Sh.tk ?_ _ | refine Sh.dr ?_ _ | refine Sh.cons ?_ ?_))
  ·(repeat' ((conv => whnf); first | (exfalso; omega) | refine cpC (p1) ?_ | refine cpC (p3) ?_ | refine cpC (p4) ?_ | (refine ⟨?_⟩; (repeat' (first | refine And.intro ?_ ?_ | omega | rfl | (dsimp only [srcSide]; omega) | (simp; done) | (simp; omega) | (simp [srcSide]; omega))); done) | refine hK (i + 1, _) [some 0, some 7] _ _ ?_ ?_ (by exact bkW) | refine spC (fun hb => ?_) fun hb => ?_ | refine saC ?_))
   all_goals refine ⟨⟨by dsimp only; omega, (by dsimp only; simp; omega), ?_⟩⟩
   all_goals dsimp only
   all_goals (repeat' (first | exact hLs | exact Sh.nil | exact hLs.gd _ | exact hwd12 | exact hlit.gd _ | refine Sh.app ?_ ?_ | refine Sh.tk ?_ _ | refine Sh.dr ?_ _ | refine Sh.cons ?_ ?_))
  ·(repeat' ((conv => whnf); first | (exfalso; omega) | refine cpC (p1) ?_ | refine cpC (p3) ?_ | (refine ⟨?_⟩; (repeat' (first | refine And.intro ?_ ?_ | omega | rfl | (dsimp only [srcSide]; omega) | (simp; done) | (simp; omega) | (simp [srcSide]; omega))); done) | refine hK (i + 1, _) [some 0, some 4] _ _ ?_ ?_ (by exact bkW) | refine spC (fun hb => ?_) fun hb => ?_ | refine saC ?_))
   all_goals refine ⟨⟨by dsimp only; omega, (by dsimp only; simp; omega), ?_⟩⟩
   all_goals dsimp only
   all_goals (repeat' (first | exact hLs | exact Sh.nil | exact hLs.gd _ | exact hwd12 | exact hlit.gd _ | refine Sh.app ?_ ?_ | refine Sh.tk ?_ _ | refine Sh.dr ?_ _ | refine Sh.cons ?_ ?_))
 ·have hj := rfjoin (List.take L.length (List.drop 0 L)) ((hLs.dr 0).tk L.length) (by rw [List.length_take, List.length_drop]; omega)
  have hjl := joinW_len ((hLs.dr 0).tk L.length)
  rw [List.length_take, List.length_drop] at hjl
  generalize joinW (List.take L.length (List.drop 0 L)) = t at *
  have hpa := oparse t (by omega)
  have hpb := rparse t (by omega)
  have hg := parse_gall t
  unfold retP at hpa hpb
  have hsm := rsameO (parseS t).1 (parseS t).1 hg hg
  rw [(sameO_iff _ _).2 rfl] at hsm
  generalize parseS t = x at *
  obtain ⟨q, n, e⟩ := x
  dsimp only at hpa hpb hsm
  (repeat' ((conv => whnf); first | (exfalso; omega) | (refine rdC hj ?_) | refine cpC (hpa) ?_ | refine cpC (hpb) ?_ | refine cpC (hsm) ?_ | (refine end_fn [] (.inr rfl) ?_ ?_ rfl rfl; (focus exact vwV); exact hsV) | refine spC (fun hb => ?_) fun hb => ?_))
end Go.SX

namespace Go.SX
open Go.Proofs Go.Proofs.YtijedffphgckmaaGreatDoor Go.ChangeShapes Go.WideShapes Go.ChangeAt Go.RowKit
set_option maxHeartbeats 4000000
set_option maxRecDepth 100000
variable {H : Type} {enc : TypeId × Value → H} {W : World}
theorem rarr3 : ReadsAs (C := Cd) Dc enc Tryz.prog W 55 U.arr3 A3OK := by
 refine ⟨by kernel_rfl, fun fuel cs x h => ?_⟩
 obtain ⟨zs, hlen, rfl, hz⟩ := trod_array_ints Tryz.underlying55 (by kernel_rfl) (by kernel_rfl) h
 match zs, hlen, hz with
 | [a, b, c], _, hz => exact ⟨⟨a, b, c⟩, pdenL_ints Dc W (Old W) [a, b, c], ⟨(hz a (by simp)).h, (hz b (by simp)).h, (hz c (by simp)).h⟩⟩
end Go.SX
