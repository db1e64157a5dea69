/-
  Walks: Ud3, Oq8, Ue0, Uf2, Ud4, Oq9, Or1, Or2, Or7: what single functions of the program compute.
-/
import Derived.Test.YtijedffphgckmaaGreatDoorSxTa7
import Derived.Test.YtijedffphgckmaaGreatDoorSxUa5
import Derived.Test.YtijedffphgckmaaGreatDoorSxUb9
import Derived.Test.YtijedffphgckmaaGreatDoorSxTq0
set_option linter.unusedVariables false
set_option linter.unusedSimpArgs false
namespace Go.SX
open Go.Proofs
set_option maxHeartbeats 4000000
set_option maxRecDepth 100000
theorem gall_see : GAll seeEx := by
  rw [GAll_iff]; exact ⟨⟨by decide, by decide, by decide⟩, by simp [seeEx, GAllL]⟩
theorem gall_zero : GAll zeroO.goal := by
  rw [GAll_iff]; exact ⟨⟨by decide, by decide, by decide⟩, by show GAllL []; simp [GAllL]⟩
theorem oshotsEx : Meets Tryz.prog Dc 22 [goalA seeEx] [] (gsS [seeEx]) [] :=
  oshots _ _ _ _ _ _ _ _ _ _ (by decide) (by have := valid_meets seeEx gall_see; rw [ex_valid] at this; exact this)
theorem lsane : Meets Tryz.prog Dc 10 [] [] (bS true) [] := by
  have h1 : Meets Tryz.prog Dc 14 [ordA oEx] [] (.tuple [wS wantW, iS 0]) [] := by have := oprint oEx gall_see; rw [ex_print] at this; exact this
  have h2 : Meets Tryz.prog Dc 25 [wS wantW] [] (.tuple [ordA oEx, iS 29, iS 0]) [] := by have := oparse wantW (by decide); unfold retP at this; rw [ex_parse] at this; exact this
  have h3 : Meets Tryz.prog Dc 25 [wS bad1] [] (.tuple [ordA zeroO, iS 3, iS 130]) [] := by have := oparse bad1 (by decide); unfold retP at this; rw [ex_bad1] at this; exact this
  have h4 : Meets Tryz.prog Dc 25 [wS bad2] [] (.tuple [ordA zeroO, iS 12, iS 130]) [] := by have := oparse bad2 (by decide); unfold retP at this; rw [ex_bad2] at this; exact this
  have h5 : Meets Tryz.prog Dc 25 [wS bad3] [] (.tuple [ordA zeroO, iS 4, iS 130]) [] := by have := oparse bad3 (by decide); unfold retP at this; rw [ex_bad3] at this; exact this
  have h6 : Meets Tryz.prog Dc 21 [ordA oEx, ordA oEx] [] (bS true) [] := by have := rsameO oEx oEx gall_see gall_see; rw [ex_same] at this; exact this
  have h7 := ktok wantW (by decide)
  have h7l := ex_tok
  have h8 : Meets Tryz.prog Dc 22 [goalA seeEx] [] (gsS [seeEx]) [] := oshotsEx
  have h9 : Meets Tryz.prog Dc 16 [ordA oEx] [] (bS true) [] := by have := ovalid oEx gall_see; rw [ex_ord] at this; exact this
  have h10 : Meets Tryz.prog Dc 16 [ordA zeroO] [] (bS false) [] := by have := ovalid zeroO gall_zero; rw [ex_ord0] at this; exact this
  have h11 : Meets Tryz.prog Dc 18 [goalA seeEx] [] (bS true) [] := by have := valid_meets seeEx gall_see; rw [ex_valid] at this; exact this
  have h12 : Meets Tryz.prog Dc 18 [goalA zeroO.goal] [] (bS false) [] := by have := valid_meets zeroO.goal gall_zero; rw [show validG zeroO.goal = false from ex_goal0] at this; exact this
  have h13 : Meets Tryz.prog Dc 20 [ordA oEx, ordA oEx] [] (bS true) [] := by have := osame oEx oEx gall_see; rw [ex_same] at this; exact this
  have h14 : Meets Tryz.prog Dc 20 [ordA oEx, ordA zeroO] [] (bS false) [] := by have := osame oEx zeroO gall_see; rw [ex_same0] at this; exact this
  have z10 : Meets Tryz.prog Dc 16 [.agg ordZ] [] (bS false) [] := mviewC h10 (by exact snV)
  have z12 : Meets Tryz.prog Dc 18 [kindA 0] [] (bS false) [] := mviewC h12 (by exact snV)
  have z14 : Meets Tryz.prog Dc 20 [ordA oEx, .agg ordZ] [] (bS false) [] := mviewC h14 (by exact snV)
  generalize tokensW wantW = tk at *
  refine meets_of_gx Ax tab_ok Tryz.func10 (c := _) rfl Tryz.call10 900 ?_
  (repeat' ((conv => whnf); first | refine cpC (lsee) ?_ | refine dpC (lsee) ?_ | refine cpC (h1) ?_ | refine dpC (h1) ?_ | refine cpC (h2) ?_ | refine dpC (h2) ?_ | refine cpC (h3) ?_ | refine dpC (h3) ?_ | refine cpC (h4) ?_ | refine dpC (h4) ?_ | refine cpC (h5) ?_ | refine dpC (h5) ?_ | refine cpC (h6) ?_ | refine dpC (h6) ?_ | refine cpC (h7) ?_ | refine dpC (h7) ?_ | refine cpC (h8) ?_ | refine dpC (h8) ?_ | refine cpC (h9) ?_ | refine dpC (h9) ?_ | refine cpC (z10) ?_ | refine dpC (z10) ?_ | refine cpC (h11) ?_ | refine dpC (h11) ?_ | refine cpC (z12) ?_ | refine dpC (z12) ?_ | refine cpC (h13) ?_ | refine dpC (h13) ?_ | refine cpC (z14) ?_ | refine dpC (z14) ?_ | (exfalso; omega) | (refine end_fn [] (.inr rfl) ?_ ?_ rfl rfl; (focus exact vwV); exact hsV) | refine x0C ?_ | refine spC (fun hb => ?_) fun hb => ?_ | refine nilC (fun hb => ?_) ?_ | refine taC ?_ | refine saC ?_ | exact sdV | refine side_and ?_ ?_ | refine drawX_of mixed ?_))
end Go.SX

/-
  Plain: the words of an order's text are those that were written.
-/
namespace Go.SX
def NB (l : List Wd) : Prop := ∀ w ∈ l, (32 : UInt8) ∉ w
theorem NB.nil : NB [] := fun w h => by cases h
theorem NB.cons {w : Wd} {l : List Wd} (h : (32 : UInt8) ∉ w) (hl : NB l) : NB (w :: l) := fun x hx => by
  rcases List.mem_cons.1 hx with rfl | hx
  · exact h
  · exact hl x hx
theorem NB.app {a b : List Wd} (h : NB a) (h' : NB b) : NB (a ++ b) := fun x hx => by
  rcases List.mem_append.1 hx with hx | hx
  · exact h x hx
  · exact h' x hx
theorem splitW_app : ∀ (w t : Wd), (32 : UInt8) ∉ w → splitW (w ++ 32 :: t) = w :: splitW t
  | [], t, _ => by rw [List.nil_append, splitW, if_pos rfl]
  | c :: w, t, h => by
    have hc : c ≠ 32 := fun e => h (by simp [e])
    rw [List.cons_append, splitW, if_neg hc, splitW_app w t (fun h2 => h (List.mem_cons_of_mem _ h2))]
theorem splitW_self : ∀ w : Wd, (32 : UInt8) ∉ w → splitW w = [w]
  | [], _ => rfl
  | c :: w, h => by
    have hc : c ≠ 32 := fun e => h (by simp [e])
    rw [splitW, if_neg hc, splitW_self w (fun h2 => h (List.mem_cons_of_mem _ h2))]
theorem splitW_joinTail : ∀ (l : List Wd) (w : Wd), NB (w :: l) → splitW (w ++ Go.Lib.joinTail [32] l) = w :: l
  | [], w, h => by
    show splitW (w ++ []) = [w]
    rw [List.append_nil]
    exact splitW_self w (h w (by simp))
  | x :: l, w, h => by
    show splitW (w ++ 32 :: (x ++ Go.Lib.joinTail [32] l)) = _
    rw [splitW_app w _ (h w (by simp)), splitW_joinTail l x fun y hy => h y (List.mem_cons_of_mem _ hy)]
theorem itoaF_nb : ∀ f n : Nat, (32 : UInt8) ∉ itoaF f n
  | 0, n => by simp [itoaF]
  | f + 1, n => by
    have hd : ∀ k : Nat, k < 10 → (32 : UInt8) ≠ UInt8.ofNat (48 + k) := by decide
    unfold itoaF
    split
    · rename_i h
      simp only [List.mem_singleton]
      exact hd n h
    · simp only [List.mem_append, List.mem_singleton, not_or]
      exact ⟨itoaF_nb f _, hd _ (Nat.mod_lt _ (by omega))⟩
theorem itoaW_nb (n : Int) : (32 : UInt8) ∉ itoaW n := by
  unfold itoaW
  split
  · simp only [List.mem_cons, not_or]; exact ⟨by decide, itoaF_nb _ _⟩
  · exact itoaF_nb _ _
theorem runW_nb (y : Nat) (p : Nat × Nat) : NB (runW y p) := .cons (by decide) (.cons (itoaW_nb _) (.cons (itoaW_nb _) (.cons (itoaW_nb _) .nil)))
theorem flat_nb {α : Type} (f : α → List Wd) (h : ∀ a, NB (f a)) : ∀ l : List α, NB (l.flatMap f)
  | [] => .nil
  | a :: l => by rw [List.flatMap_cons]; exact (h a).app (flat_nb f h l)
theorem rowsW_nb : ∀ (y : Nat) (l : List Int), NB (rowsW y l)
  | _, [] => .nil
  | y, r :: l => (flat_nb _ (runW_nb y) _).app (rowsW_nb (y + 1) l)
theorem seeW_nb (g : Goal) : NB (seeW g) := by
  unfold seeW
  refine .app (.cons (by decide) (rowsW_nb _ _)) (.cons (by decide) (.cons (itoaW_nb _) (.cons (by decide) (.cons (itoaW_nb _) (.cons (by decide) (.cons (itoaW_nb _) (.cons (by decide) (.cons (itoaW_nb _) (.cons ?_ .nil)))))))))
  split <;> decide
theorem headW_nb (g : Goal) : NB (headW g) := by
  unfold headW
  split
  · exact .cons (by decide) (.cons (by decide) (.cons (itoaW_nb _) (.cons (by decide) (.cons (itoaW_nb _) (.cons (by decide) .nil)))))
  · split
    · exact .cons (by decide) (.cons (itoaW_nb _) (.cons (by decide) (.cons (itoaW_nb _) (.cons (by decide) (.cons (by decide) (.cons (itoaW_nb _) (.cons (by decide) (.cons (itoaW_nb _) (.cons (by decide) .nil)))))))))
    · exact .cons (by decide) (.cons (by decide) (.cons (itoaW_nb _) (.cons (by decide) .nil)))
mutual
theorem goalW_nb : ∀ g : Goal, NB (goalW g)
  | ⟨kind, rows, from_, to_, low, high, clear, days, times, within, cents, kids⟩ => by
    rw [goalW]
    split
    · exact seeW_nb _
    · split
      · exact (headW_nb _).app (firstW_nb kids)
      · refine .app (.app (.cons ?_ (.cons (by decide) .nil)) (kidsW_nb _ _ _ kids)) (.cons (by decide) .nil)
        split <;> decide
theorem firstW_nb : ∀ l : List Goal, NB (firstW l)
  | [] => .nil
  | k :: _ => by rw [firstW]; exact goalW_nb k
theorem kidsW_nb : ∀ (any first : Bool) (cents : List Int) (l : List Goal), NB (kidsW any first cents l)
  | _, _, _, [] => by rw [kidsW]; exact .nil
  | any, first, cents, k :: l => by
    rw [kidsW]
    refine .app (.app (.app ?_ ?_) (goalW_nb k)) (kidsW_nb _ _ _ l)
    · split
      · exact .nil
      · exact .cons (by decide) .nil
    · split
      · exact .cons (itoaW_nb _) .nil
      · exact .nil
end
/-- the words ahead of the goal -/
def frontW (o : Order) : List Wd := [w_order, itoaW o.id, w_by, itoaW o.owner, w_for, itoaW o.price, w_group, if o.group < 0 then w_none else itoaW o.group, if o.urgent then w_urgent else w_plain, w_known, itoaW o.known, w_due, itoaW o.due, w_colon]
theorem frontW_len (o : Order) : (frontW o).length = 14 := rfl
theorem orderW_eq (o : Order) : orderW o = frontW o ++ goalW o.goal ++ [w_dot] := rfl
theorem frontW_nb (o : Order) : NB (frontW o) := by
  unfold frontW
  refine .cons (by decide) (.cons (itoaW_nb _) (.cons (by decide) (.cons (itoaW_nb _) (.cons (by decide) (.cons (itoaW_nb _) (.cons (by decide) (.cons ?_ (.cons ?_ (.cons (by decide) (.cons (itoaW_nb _) (.cons (by decide) (.cons (itoaW_nb _) (.cons (by decide) .nil)))))))))))))
  · split
    · decide
    · exact itoaW_nb _
  · split <;> decide
theorem orderW_nb (o : Order) : NB (orderW o) := by
  rw [orderW_eq]
  exact .app (.app (frontW_nb o) (goalW_nb _)) (.cons (by decide) .nil)
theorem tokens_join (o : Order) : tokensW (joinW (orderW o)) = orderW o := by
  have hnb := orderW_nb o
  obtain ⟨l, hl⟩ : ∃ l, orderW o = w_order :: l := ⟨_, rfl⟩
  rw [hl] at hnb ⊢
  have e : joinW (w_order :: l) = w_order ++ Go.Lib.joinTail [32] l := Go.Lib.join_cons _ _ _
  have hne : joinW (w_order :: l) ≠ [] := by rw [e]; simp
  unfold tokensW
  rw [if_neg hne, e, splitW_joinTail l _ hnb]
end Go.SX

namespace Go.SX
open Go.Proofs
set_option maxHeartbeats 4000000
set_option maxRecDepth 100000
theorem lstrings (a b : List Wd) (ha : (a.length : Int) ≤ 1000000) (hb : (b.length : Int) ≤ 1000000) : Meets Tryz.prog Dc 27 [wsS a, wsS b] [] (bS (decide (a = b))) [] := by
  by_cases hlen : a.length = b.length
  rotate_left
  · rw [decide_eq_false (fun e => hlen (by rw [e]))]
    refine meets_of_gx Ax tab_ok Tryz.func27 (c := _) rfl Tryz.call27 100 ?_
    (repeat' ((conv => whnf); first | refine x0C (eB ?_ rfl) | (exfalso; omega) | refine x0C ?_ | refine spC (fun hb => ?_) fun hb => ?_ | refine nilC (fun hb => ?_) ?_ | refine taC ?_ | refine saC ?_ | exact sdV | refine side_and ?_ ?_ | refine drawX_of mixed ?_))
    all_goals rfl
  · refine meets_of_gx Ax tab_ok Tryz.func27 (c := _) rfl Tryz.call27 100 ?_
    (repeat' ((conv => whnf); first | (exfalso; omega) | refine x0C ?_ | refine spC (fun hb => ?_) fun hb => ?_ | refine nilC (fun hb => ?_) ?_ | refine taC ?_ | refine saC ?_ | exact sdV | refine side_and ?_ ?_ | refine drawX_of mixed ?_))
    refine loop_up (fun i : Nat => [(5, iS i)]) (fun _ => []) (fun i => i ≤ a.length ∧ a.take i = b.take i) (fun i => a.length - i) 0 ⟨Nat.zero_le _, by simp⟩ (by exact bkI) ?_
    rintro i ⟨hi, he⟩ K hK
    rcases Nat.lt_or_ge i a.length with hlt | hge
    · have t1 := take_getD (d := Cd.dflt U.str) hlt
      have t2 := take_getD (d := Cd.dflt U.str) (show i < b.length by omega)
      have hs : a.getD (i : Int).toNat (Cd.dflt U.str) = b.getD (i : Int).toNat (Cd.dflt U.str) → a.take (i + 1) = b.take (i + 1) := fun h => by
        rw [t1, t2, he, show a.getD i (Cd.dflt U.str) = b.getD i (Cd.dflt U.str) from h]
      have hn : ¬ a.getD (i : Int).toNat (Cd.dflt U.str) = b.getD (i : Int).toNat (Cd.dflt U.str) → decide (a = b) = false := fun h => decide_eq_false fun e => h (by rw [e])
      (repeat' ((conv => whnf); first | refine x0C (eB ?_ rfl) | (exfalso; omega) | refine hK (i + 1) [] _ _ ⟨⟨by omega, hs (by assumption)⟩⟩ ⟨by omega⟩ (by exact bkI) | refine x0C ?_ | refine spC (fun hb => ?_) fun hb => ?_ | refine nilC (fun hb => ?_) ?_ | refine taC ?_ | refine saC ?_ | exact sdV | refine side_and ?_ ?_ | refine drawX_of mixed ?_))
      all_goals exact (hn (by assumption)).symm
    · rw [List.take_of_length_le hge, List.take_of_length_le (by omega)] at he
      rw [decide_eq_true he]
      (repeat' ((conv => whnf); first | refine x0C (eB ?_ rfl) | (exfalso; omega) | refine x0C ?_ | refine spC (fun hb => ?_) fun hb => ?_ | refine nilC (fun hb => ?_) ?_ | refine taC ?_ | refine saC ?_ | exact sdV | refine side_and ?_ ?_ | refine drawX_of mixed ?_))
      all_goals rfl
def madeS (l : List Int) (y : List A5) : Order := ⟨pickS (l.getD 0 0) 20, pickS (l.getD 1 0) 5, goalS y, pickS (l.getD 2 0) 100000, pickS (l.getD 3 0) 5 - 1, decide (pickS (l.getD 4 0) 3 = 0), pickS (l.getD 5 0) 3000, pickS (l.getD 5 0) 3000 + 1 + pickS (l.getD 6 0) 9000⟩
theorem made_ord (l : List Int) (y : List A5) : ordB (madeS l y) = true := by
  rw [ordB_iff]
  have h := goal_valid y
  have h0 := pickS_bd (c := l.getD 0 0) (n := 20) (by omega)
  have h1 := pickS_bd (c := l.getD 1 0) (n := 5) (by omega)
  have h2 := pickS_bd (c := l.getD 2 0) (n := 100000) (by omega)
  have h3 := pickS_bd (c := l.getD 3 0) (n := 5) (by omega)
  have h5 := pickS_bd (c := l.getD 5 0) (n := 3000) (by omega)
  have h6 := pickS_bd (c := l.getD 6 0) (n := 9000) (by omega)
  unfold madeS
  exact ⟨by dsimp only; omega, by dsimp only; omega, by dsimp only; omega, by dsimp only; omega, by dsimp only; omega, by dsimp only; omega, h⟩
@[reducible] def a7A (l : List Int) : SV Cd := .agg [.arr U.int 7 l]
theorem lmade (l : List Int) (hl : l.length = 7) (hz : ∀ z ∈ l, I64 z) (y : List A5) (hy : ∀ z ∈ y, A5OK z) (hyl : (y.length : Int) ≤ 9223372036854775807) : Meets Tryz.prog Dc 11 [a7A l, a5S y] [] (ordA (madeS l y)) [] := by
  have hg := rGoal y hy hyl
  have hI : ∀ k, k < 7 → I64 (l.getD k 0) := fun k hk => hz _ (List.mem_of_getElem? (getD_some (d := (0 : Int)) (by omega)))
  have p0 := pick13 (l.getD 0 0) 20 (hI 0 (by omega)) (by omega)
  have p1 := pick13 (l.getD 1 0) 5 (hI 1 (by omega)) (by omega)
  have p2 := pick13 (l.getD 2 0) 100000 (hI 2 (by omega)) (by omega)
  have p3 := pick13 (l.getD 3 0) 5 (hI 3 (by omega)) (by omega)
  have p4 := pick13 (l.getD 4 0) 3 (hI 4 (by omega)) (by omega)
  have p5 := pick13 (l.getD 5 0) 3000 (hI 5 (by omega)) (by omega)
  have p6 := pick13 (l.getD 6 0) 9000 (hI 6 (by omega)) (by omega)
  have h3 := pickS_bd (c := l.getD 3 0) (n := 5) (by omega)
  have h5 := pickS_bd (c := l.getD 5 0) (n := 3000) (by omega)
  have h6 := pickS_bd (c := l.getD 6 0) (n := 9000) (by omega)
  unfold madeS
  clear hI hz
  refine meets_of_gx Ax tab_ok Tryz.func11 (c := _) rfl Tryz.call11 300 ?_
  (repeat' ((conv => whnf); first | (exfalso; omega) | refine cpC (p0) ?_ | refine dpC (p0) ?_ | refine cpC (p1) ?_ | refine dpC (p1) ?_ | refine cpC (p2) ?_ | refine dpC (p2) ?_ | refine cpC (p3) ?_ | refine dpC (p3) ?_ | refine cpC (p4) ?_ | refine dpC (p4) ?_ | refine cpC (p5) ?_ | refine dpC (p5) ?_ | refine cpC (p6) ?_ | refine dpC (p6) ?_ | refine cpC (hg) ?_ | refine dpC (hg) ?_ | (refine end_fn [] (.inr rfl) ?_ ?_ rfl rfl; (focus exact vwV); exact hsV) | refine x0C ?_ | refine spC (fun hb => ?_) fun hb => ?_ | refine nilC (fun hb => ?_) ?_ | refine taC ?_ | refine saC ?_ | exact sdV | refine side_and ?_ ?_ | refine drawX_of mixed ?_))
end Go.SX

namespace Go.SX
open Go.Proofs Go.Proofs.YtijedffphgckmaaGreatDoor Go.ChangeShapes Go.WideShapes Go.ChangeAt Go.RowKit
set_option maxHeartbeats 4000000
set_option maxRecDepth 100000
variable {H : Type} {enc : TypeId × Value → H} {W : World} {r : Reach} {b0' : Nat} {v : Value} {d : DataW H} {ps : List MemPlace}
/-- seven integers -/
theorem arg7 (ho : Value.okWide Tryz.prog W r b0' 22 v) (h : DataW.Trod enc Tryz.prog W 0 (fun _ => true) true 22 v d ps) : ∃ l : List Int, Den Dc W (En W) (a7A l) v ∧ l.length = 7 ∧ ∀ z ∈ l, I64 z := by
  have hut := Tryz.underlying22
  simp only [Value.okWide, hut] at ho
  obtain ⟨cs, rfl, _⟩ := ho
  obtain ⟨fuel, hx⟩ := h
  obtain ⟨zs, hlen, hcs, hz⟩ := trod_array_ints Tryz.underlying22 (by kernel_rfl) (by kernel_rfl) hx
  have hcs : cs.toList = zs.map (Value.int .i64) := hcs
  refine ⟨zs, ?_, hlen, fun z h => (hz z h).h⟩
  simp only [a7A, Den]
  refine ⟨cs, rfl, ?_⟩
  simp only [DenC]
  have e : ∀ l : List Int, l.flatMap (Dc.enc U.int) = l.map (PV.int .i64) := fun l => by
    induction l with
    | nil => rfl
    | cons a l ih => rw [List.flatMap_cons, ih]; rfl
  exact ⟨hlen, cs.toList, [], by simp, by rw [hcs, e]; exact pdenL_ints Dc W (En W).F zs, rfl⟩
end Go.SX

namespace Go.SX
open Go.Proofs
set_option maxHeartbeats 4000000
set_option maxRecDepth 100000
mutual
theorem size_gall : ∀ (g : Goal) (d n : Int), sizeG g d = some n → GAll g
  | ⟨kind, rows, from_, to_, low, high, clear, days, times, within, cents, kids⟩, d, n, hs => by
    have hL := sizeL_gall kids
    obtain ⟨hok, hd, m, hm, rfl⟩ := size_ok hs
    rw [GAll_iff]
    refine ⟨?_, hL _ _ hm⟩
    unfold okB at hok
    simp only [Bool.and_eq_true] at hok
    obtain ⟨⟨⟨h1, h2⟩, h3⟩, h4⟩ := hok
    unfold partsB at h4
    simp only [Bool.and_eq_true, Bool.or_eq_true, decide_eq_true_eq] at h4
    obtain ⟨⟨⟨h5, h6⟩, h7⟩, h8⟩ := h4
    have hk : (kids.length : Int) ≤ 4 := by
      unfold manyB at h5
      split at h5
      · simp only [decide_eq_true_eq] at h5; (try dsimp only at h5); omega
      · split at h5
        · rw [inB_iff] at h5; exact h5.2
        · simp only [decide_eq_true_eq] at h5; (try dsimp only at h5); omega
    have hc : (cents.length : Int) ≤ 4 := by
      unfold centsB at h6
      split at h6
      · simp only [Bool.and_eq_true, decide_eq_true_eq] at h6; (try dsimp only at h6); omega
      · simp only [decide_eq_true_eq] at h6; (try dsimp only at h6); omega
    have hr : (rows.length : Int) ≤ 24 := by
      rcases h7 with h7 | h7
      · unfold limB at h3
        rw [if_pos h7] at h3
        simp only [Bool.and_eq_true] at h3
        have ha := h3.1.1.1.1.1
        unfold areaB at ha
        simp only [Bool.and_eq_true, decide_eq_true_eq] at ha
        try dsimp only at ha
        omega
      · (try dsimp only at h7); omega
    exact ⟨by dsimp only; omega, by dsimp only; omega, by dsimp only; omega⟩
theorem sizeL_gall : ∀ (l : List Goal) (d n : Int), sizeL l d = some n → GAllL l
  | [], d, n, hs => by rw [GAllL]; trivial
  | k :: l, d, n, hs => by
    rw [sizeL] at hs
    rw [GAllL]
    split at hs
    · cases hs
    · rename_i m hm
      split at hs
      · cases hs
      · rename_i q hq
        exact ⟨size_gall k d m hm, sizeL_gall l d q hq⟩
end
theorem valid_gall {g : Goal} (h : validG g = true) : GAll g := by
  unfold validG at h
  split at h
  · cases h
  · rename_i n hn
    exact size_gall g 1 n hn
end Go.SX

/-
  Plain: the words of the parts of an order's goal stand in its words, one behind the other.
-/
namespace Go.SX
/-- from P on, the words of the goals stand in W, one behind the other, and a word is behind them -/
def Parts (W : List Wd) : Nat → List Goal → Prop
  | P, [] => P < W.length
  | P, k :: l => ∃ p, P ≤ p ∧ (W.drop p).take (goalW k).length = goalW k ∧ Parts W (p + (goalW k).length) l
theorem Parts.mono {W : List Wd} : ∀ (l : List Goal) {P Q : Nat}, Q ≤ P → Parts W P l → Parts W Q l
  | [], P, Q, h, h1 => by unfold Parts at *; omega
  | k :: l, P, Q, h, ⟨p, h1, h2, h3⟩ => ⟨p, by omega, h2, h3⟩
theorem Parts.lt {W : List Wd} : ∀ (l : List Goal) {P : Nat}, Parts W P l → P < W.length
  | [], P, h => h
  | k :: l, P, ⟨p, h1, h2, h3⟩ => by have := Parts.lt l h3; omega
theorem parts_kids (c : Wd) : ∀ (l : List Goal) (any first : Bool) (cents : List Int) (A B : List Wd), Parts (A ++ kidsW any first cents l ++ (c :: B)) A.length l
  | [], any, first, cents, A, B => by
    unfold Parts
    rw [kidsW]; simp
  | k :: l, any, first, cents, A, B => by
    rw [kidsW]
    obtain ⟨X, hX⟩ : ∃ X, X = (if first then [] else [w_comma]) ++ (if any then [itoaW (cents.headD 0)] else []) := ⟨_, rfl⟩
    rw [← hX]
    have e : A ++ (X ++ goalW k ++ kidsW any false cents.tail l) ++ (c :: B) = (A ++ X ++ goalW k) ++ kidsW any false cents.tail l ++ (c :: B) := by simp only [List.append_assoc]
    rw [e]
    refine ⟨(A ++ X).length, by simp, ?_, ?_⟩
    · rw [show A ++ X ++ goalW k ++ kidsW any false cents.tail l ++ (c :: B) = (A ++ X) ++ (goalW k ++ (kidsW any false cents.tail l ++ (c :: B))) by simp only [List.append_assoc]]
      rw [List.drop_left, List.take_left]
    · have := parts_kids c l any false cents.tail (A ++ X ++ goalW k) B
      rw [show (A ++ X).length + (goalW k).length = (A ++ X ++ goalW k).length by simp only [List.length_append]]
      exact this
theorem parts_order (o : Order) (h : validG o.goal = true) : Parts (orderW o) 14 o.goal.kids := by
  obtain ⟨a1, a2, a3⟩ := (valid_law o.goal).1 h
  rw [allOK_eq, Bool.and_eq_true] at a1
  have hO := okG a1.1
  rw [orderW_eq]
  have hf := frontW_len o
  cases hg : o.goal with
  | mk kind rows from_ to_ low high clear days times within cents kids =>
    rw [hg] at hO
    show Parts _ 14 kids
    rw [goalW]
    by_cases h1 : kind = 1
    · rw [if_pos h1]
      have hk : kids = [] := (hO.see h1).2.2.2.2.2.1
      subst hk
      unfold Parts
      simp only [List.length_append, List.length_cons]
      omega
    · rw [if_neg h1]
      by_cases h2 : kind = 2 ∨ kind = 3 ∨ kind = 4
      · rw [if_pos h2]
        obtain ⟨k1, _⟩ := hO.one h2
        obtain ⟨k, rfl⟩ : ∃ k, kids = [k] := by
          match kids, k1 with
          | [k], _ => exact ⟨k, rfl⟩
        rw [firstW]
        refine ⟨(frontW o ++ headW ⟨kind, rows, from_, to_, low, high, clear, days, times, within, cents, [k]⟩).length, by simp only [List.length_append]; omega, ?_, ?_⟩
        · rw [show frontW o ++ (headW ⟨kind, rows, from_, to_, low, high, clear, days, times, within, cents, [k]⟩ ++ goalW k) ++ [w_dot] = (frontW o ++ headW ⟨kind, rows, from_, to_, low, high, clear, days, times, within, cents, [k]⟩) ++ (goalW k ++ [w_dot]) by simp only [List.append_assoc]]
          rw [List.drop_left, List.take_left]
        · unfold Parts
          simp only [List.length_append, List.length_cons]
          omega
      · rw [if_neg h2]
        have := parts_kids w_close kids (decide (kind = 6)) true cents (frontW o ++ [if kind = 5 then w_all else w_any, w_open]) [w_dot]
        refine Parts.mono kids (P := (frontW o ++ [if kind = 5 then w_all else w_any, w_open]).length) (by simp only [List.length_append]; omega) ?_
        simpa only [List.append_assoc, List.cons_append, List.nil_append] using this
end Go.SX

/-
  Plain: numbers and words are read as they are written; parted texts are joined again.
-/
namespace Go.SX
/-! numbers -/
/-! words at a place -/
theorem peek_out {ws : List Wd} {a : Int} {w : Wd} (h : peekW ws a = w) (hw : w ≠ [32]) (h0 : 0 ≤ a) (h1 : a ≤ ws.length) : a < ws.length ∧ ws.drop a.toNat = w :: ws.drop (a + 1).toNat := by
  rcases Int.lt_or_eq_of_le h1 with h2 | h2
  · refine ⟨h2, ?_⟩
    unfold peekW at h
    rw [if_neg (by omega)] at h
    have h3 : a.toNat < ws.length := by omega
    rw [List.drop_eq_getElem_cons h3]
    rw [List.getD_eq_getElem?_getD, List.getElem?_eq_getElem h3] at h
    rw [show (a + 1).toNat = a.toNat + 1 by omega, ← h]; rfl
  · unfold peekW at h
    rw [if_pos h2] at h
    exact absurd h.symm hw
/-! what is read stands there -/
/-- from a to a' the words l stand -/
structure Reads (ws : List Wd) (a : Int) (l : List Wd) (a' : Int) : Prop where
  lo : 0 ≤ a
  hi : a' ≤ ws.length
  len : a' = a + l.length
  eq : ws.drop a.toNat = l ++ ws.drop a'.toNat
theorem Reads.app {ws l l' : List Wd} {a b c : Int} (h : Reads ws a l b) (h' : Reads ws b l' c) : Reads ws a (l ++ l') c :=
  ⟨h.lo, h'.hi, by rw [h'.len, h.len, List.length_append]; omega, by rw [h.eq, h'.eq, List.append_assoc]⟩
theorem Reads.nil {ws : List Wd} {a : Int} (h : 0 ≤ a) (h' : a ≤ ws.length) : Reads ws a [] a := ⟨h, h', by simp, rfl⟩
theorem Reads.one {ws : List Wd} {a : Int} {w : Wd} (h0 : 0 ≤ a) (h1 : a ≤ ws.length) (h : peekW ws a = w) (hw : w ≠ [32]) : Reads ws a [w] (a + 1) := by
  obtain ⟨h2, h3⟩ := peek_out h hw h0 h1
  exact ⟨h0, by omega, by simp, h3⟩
/-! texts -/
end Go.SX

/-
  Plain: the runs of an area are read as they are written, and what is read is written so.
-/
namespace Go.SX
/-! the runs of a row -/
abbrev Run := Nat × Nat
/-- runs from c on, apart -/
def RC : Nat → List Run → Prop
  | _, [] => True
  | c, p :: l => c ≤ p.1 ∧ p.1 ≤ p.2 ∧ p.2 ≤ 47 ∧ RC (p.2 + 2) l
def mk (p : Run) : Nat := 2 ^ p.1 * (2 ^ (p.2 - p.1 + 1) - 1)
def val : List Run → Nat
  | [] => 0
  | p :: l => mk p + val l
theorem RC.mono : ∀ {l : List Run} {c d : Nat}, d ≤ c → RC c l → RC d l
  | [], _, _, _, _ => trivial
  | p :: l, c, d, h, h1 => ⟨by have := h1.1; omega, h1.2.1, h1.2.2.1, h1.2.2.2⟩
theorem tz_mul : ∀ (x f m : Nat), x < f → m % 2 = 1 → tzF f (2 ^ x * m) = x
  | 0, f + 1, m, _, h => by unfold tzF; rw [Nat.pow_zero, Nat.one_mul, if_pos h]
  | x + 1, f + 1, m, hf, h => by
    have e : 2 ^ (x + 1) * m = 2 * (2 ^ x * m) := by rw [Nat.pow_succ, Nat.mul_comm (2 ^ x) 2, Nat.mul_assoc]
    unfold tzF
    rw [e, if_neg (by omega), Nat.mul_div_cancel_left _ (by omega), tz_mul x f m (by omega) h]; omega
theorem to_ones : ∀ (t f q : Nat), t < f → toF f (2 ^ t - 1 + 2 ^ (t + 1) * q) = t
  | 0, f + 1, q, _ => by unfold toF; rw [if_neg (by simp)]
  | t + 1, f + 1, q, hf => by
    have e : 2 ^ (t + 1) = 2 * 2 ^ t := by rw [Nat.pow_succ, Nat.mul_comm]
    have e2 : 2 ^ (t + 1 + 1) * q = 2 * (2 ^ (t + 1) * q) := by rw [Nat.pow_succ 2 (t + 1), Nat.mul_comm (2 ^ (t + 1)) 2, Nat.mul_assoc]
    have hp := Nat.two_pow_pos t
    unfold toF
    rw [e2, if_pos (by omega), show (2 ^ (t + 1) - 1 + 2 * (2 ^ (t + 1) * q)) / 2 = 2 ^ t - 1 + 2 ^ (t + 1) * q by omega, to_ones t f q (by omega)]; omega
theorem val_dvd : ∀ {l : List Run} {c : Nat}, RC c l → 2 ^ c ∣ val l
  | [], c, _ => Nat.dvd_zero _
  | p :: l, c, h => by
    unfold val mk
    exact Nat.dvd_add (Nat.dvd_trans (Nat.pow_dvd_pow 2 h.1) ⟨_, rfl⟩) (Nat.dvd_trans (Nat.pow_dvd_pow 2 (show c ≤ p.2 + 2 by have := h.1; have := h.2.1; omega)) (val_dvd h.2.2.2))
theorem mk_add {p : Run} (h : p.1 ≤ p.2) : mk p + 2 ^ p.1 = 2 ^ (p.2 + 1) := by
  unfold mk
  have h1 := Nat.two_pow_pos (p.2 - p.1 + 1)
  have h2 : 2 ^ p.1 * (2 ^ (p.2 - p.1 + 1) - 1) + 2 ^ p.1 * 1 = 2 ^ p.1 * 2 ^ (p.2 - p.1 + 1) := by rw [← Nat.mul_add]; congr 1; omega
  rw [← Nat.pow_add, show p.1 + (p.2 - p.1 + 1) = p.2 + 1 by omega] at h2
  omega
theorem val_lt48 {l : List Run} {c : Nat} (h : RC c l) : val l < 2 ^ 48 := by
  induction l generalizing c with
  | nil => show 0 < 2 ^ 48; omega
  | cons p l ih =>
    cases l with
    | nil =>
      have h1 := mk_add h.2.1
      have h2 : 2 ^ (p.2 + 1) ≤ 2 ^ 48 := Nat.pow_le_pow_right (by omega) (by have := h.2.2.1; omega)
      have h3 := Nat.two_pow_pos p.1
      show mk p + 0 < 2 ^ 48
      omega
    | cons q l =>
      have h1 := mk_add h.2.1
      have h2 := mk_add h.2.2.2.2.1
      obtain ⟨k, hk⟩ := val_dvd (l := q :: l) (c := p.2 + 2) h.2.2.2
      have h3 := ih h.2.2.2
      have h4 : p.2 + 2 ≤ 47 := by have := h.2.2.2.1; have := h.2.2.2.2.1; have := h.2.2.2.2.2.1; omega
      have h5 : 2 ^ (p.2 + 2) ∣ 2 ^ 48 := Nat.pow_dvd_pow 2 (by omega)
      obtain ⟨j, hj⟩ := h5
      have h6 : 2 ^ (p.2 + 1) < 2 ^ (p.2 + 2) := Nat.pow_lt_pow_right (by omega) (by omega)
      have h7 : k + 1 ≤ j := by
        rw [hk, hj] at h3
        exact Nat.lt_of_mul_lt_mul_left h3
      have h8 := Nat.mul_le_mul_left (2 ^ (p.2 + 2)) h7
      rw [Nat.mul_add, ← hk, ← hj] at h8
      show mk p + val (q :: l) < 2 ^ 48
      have := Nat.two_pow_pos p.1
      omega
/-- the first run of a row -/
theorem run_first {p : Run} {l : List Run} {c : Nat} (h : RC c (p :: l)) : runAt (val (p :: l)) = p ∧ stepR (val (p :: l)) = val l ∧ val (p :: l) ≠ 0 := by
  obtain ⟨q, hq⟩ := val_dvd h.2.2.2
  obtain ⟨x, z⟩ := p
  have hxz : x ≤ z := h.2.1
  have hz : z ≤ 47 := h.2.2.1
  obtain ⟨t, ht⟩ : ∃ t, z = x + t := ⟨z - x, by omega⟩
  subst ht
  have hm : val ((x, x + t) :: l) = 2 ^ x * (2 ^ (t + 1) - 1 + 2 ^ (t + 1 + 1) * q) := by
    show 2 ^ x * (2 ^ (x + t - x + 1) - 1) + val l = _
    rw [show x + t - x + 1 = t + 1 by omega, Nat.mul_add, hq]
    congr 1
    rw [← Nat.mul_assoc, ← Nat.pow_add]
    congr 2
  have h1 : 2 ^ (t + 1) = 2 * 2 ^ t := by rw [Nat.pow_succ, Nat.mul_comm]
  have h2 : 2 ^ (t + 1 + 1) * q = 2 * (2 ^ (t + 1) * q) := by rw [Nat.pow_succ 2 (t + 1), Nat.mul_comm (2 ^ (t + 1)) 2, Nat.mul_assoc]
  have hp := Nat.two_pow_pos t
  have hodd : (2 ^ (t + 1) - 1 + 2 ^ (t + 1 + 1) * q) % 2 = 1 := by omega
  have htz : tzF 64 (val ((x, x + t) :: l)) = x := by rw [hm]; exact tz_mul x 64 _ (by omega) hodd
  have hlen : runLen (val ((x, x + t) :: l)) = x + (t + 1) := by
    unfold runLen
    rw [htz, hm, Nat.mul_div_cancel_left _ (Nat.two_pow_pos x), to_ones (t + 1) 64 q (by omega)]
  refine ⟨?_, ?_, ?_⟩
  · unfold runAt; rw [htz, hlen]; rfl
  · unfold stepR
    have hdd : ∀ N : Nat, N / 2 ^ (x + (t + 1)) = N / 2 ^ x / 2 ^ (t + 1) := fun N => by rw [Nat.pow_add, Nat.div_div_eq_div_mul]
    rw [hlen, hm, hdd, Nat.mul_div_cancel_left _ (Nat.two_pow_pos x)]
    have h5 : (2 ^ (t + 1) - 1 + 2 ^ (t + 1 + 1) * q) / 2 ^ (t + 1) = 2 * q := by
      rw [show 2 ^ (t + 1 + 1) * q = 2 ^ (t + 1) * (2 * q) by rw [Nat.pow_succ 2 (t + 1), Nat.mul_assoc], Nat.add_mul_div_left _ _ (Nat.two_pow_pos _), Nat.div_eq_of_lt (by omega), Nat.zero_add]
    rw [h5, hq]
    show 2 * q * 2 ^ (x + (t + 1)) = 2 ^ ((x + (t + 1)) + 1) * q
    rw [Nat.pow_succ 2 (x + (t + 1)), Nat.mul_assoc, Nat.mul_comm]; simp only [Nat.mul_assoc, Nat.mul_comm, Nat.mul_left_comm]
  · rw [hm]
    exact Nat.mul_ne_zero (by have := Nat.two_pow_pos x; omega) (by omega)
theorem runs_val : ∀ (f : Nat) (l : List Run) (c : Nat), RC c l → val l ≤ f → runsF f (val l) = l
  | 0, l, c, h, hf => by
    cases l with
    | nil => rfl
    | cons p l => have := (run_first h).2.2; omega
  | f + 1, l, c, h, hf => by
    cases l with
    | nil => rfl
    | cons p l =>
      obtain ⟨h1, h2, h3⟩ := run_first h
      have h4 := stepR_lt h3 (Nat.lt_trans (val_lt48 h) (by omega))
      rw [runsF_succ, if_neg h3, h1, h2, runs_val f l _ h.2.2.2 (by omega)]
theorem runsN_val {l : List Run} {c : Nat} (h : RC c l) : runsN (val l) = l := runs_val _ l c h (Nat.le_refl _)
theorem toF_max : ∀ (f m : Nat), toF f m < f → m / 2 ^ toF f m % 2 = 0
  | 0, m, h => by omega
  | f + 1, m, h => by
    unfold toF at h ⊢
    split
    · rename_i h1
      rw [if_pos h1] at h
      have ih := toF_max f (m / 2) (by omega)
      rw [Nat.pow_add, Nat.pow_one, ← Nat.div_div_eq_div_mul]; exact ih
    · simp; omega
/-- every row has its runs -/
theorem val_ex : ∀ (b n : Nat), n ≤ b → n < 2 ^ 48 → ∀ c, 2 ^ c ∣ n → ∃ l, RC c l ∧ val l = n
  | b, n, hb, h, c, hc => by
    by_cases h0 : n = 0
    · exact ⟨[], trivial, h0.symm⟩
    · cases b with
      | zero => omega
      | succ b =>
        have h64 : n < 2 ^ 64 := by omega
        obtain ⟨a1, a2, a3⟩ := tzF_spec 64 n h0 h64
        have hs := stepR_lt h0 h64
        obtain ⟨l1, l2⟩ := runLen_le h0 h
        have ht := toF_spec 64 (n / 2 ^ tzF 64 n)
        have hmx := toF_max 64 (n / 2 ^ tzF 64 n) (by unfold runLen at l2; omega)
        have hdef : runLen n = tzF 64 n + toF 64 (n / 2 ^ tzF 64 n) := rfl
        have hq : n / 2 ^ runLen n = n / 2 ^ tzF 64 n / 2 ^ toF 64 (n / 2 ^ tzF 64 n) := by rw [hdef, Nat.pow_add, Nat.div_div_eq_div_mul]
        have hsd : 2 ^ (runLen n + 1) ∣ stepR n := by
          unfold stepR
          rw [hq, Nat.pow_succ, Nat.mul_comm]
          exact Nat.mul_dvd_mul (Nat.dvd_of_mod_eq_zero hmx) (Nat.dvd_refl _)
        obtain ⟨l, hl1, hl2⟩ := val_ex b (stepR n) (by omega) (by omega) (runLen n + 1) hsd
        have hcx : c ≤ tzF 64 n := by
          rcases Nat.lt_or_ge (tzF 64 n) c with h4 | h4
          · exfalso
            obtain ⟨q, hq⟩ := Nat.dvd_trans (Nat.pow_dvd_pow 2 (show tzF 64 n + 1 ≤ c by omega)) hc
            have h5 : n / 2 ^ tzF 64 n = 2 * q := Nat.div_eq_of_eq_mul_right (Nat.two_pow_pos _) (by rw [← Nat.mul_assoc, ← Nat.pow_succ]; exact hq)
            omega
          · exact h4
        refine ⟨(tzF 64 n, runLen n - 1) :: l, ⟨hcx, by show tzF 64 n ≤ runLen n - 1; omega, by show runLen n - 1 ≤ 47; omega, by show RC (runLen n - 1 + 2) l; rw [show runLen n - 1 + 2 = runLen n + 1 by omega]; exact hl1⟩, ?_⟩
        show 2 ^ tzF 64 n * (2 ^ (runLen n - 1 - tzF 64 n + 1) - 1) + val l = n
        rw [hl2, show runLen n - 1 - tzF 64 n + 1 = toF 64 (n / 2 ^ tzF 64 n) by omega, ← ht]
        have e1 := Nat.div_add_mod (n / 2 ^ tzF 64 n) (2 ^ toF 64 (n / 2 ^ tzF 64 n))
        have e2 := Nat.div_add_mod n (2 ^ tzF 64 n)
        rw [a1, Nat.add_zero] at e2
        have e3 : stepR n = 2 ^ tzF 64 n * (2 ^ toF 64 (n / 2 ^ tzF 64 n) * (n / 2 ^ tzF 64 n / 2 ^ toF 64 (n / 2 ^ tzF 64 n))) := by
          unfold stepR
          rw [hq, hdef, Nat.pow_add, Nat.mul_comm, Nat.mul_assoc]
        rw [e3, ← Nat.mul_add, Nat.add_comm, e1, e2]
theorem runsN_rc {n : Nat} (h : n < 2 ^ 48) : RC 0 (runsN n) ∧ val (runsN n) = n := by
  obtain ⟨l, h1, h2⟩ := val_ex n n (Nat.le_refl _) h 0 ⟨n, by simp⟩
  have := runsN_val h1
  rw [h2] at this
  rw [this]
  exact ⟨h1, h2⟩
/-! the runs of an area -/
/-- runs in their order, from a place on -/
def Chain : Nat → Nat → List (Nat × Run) → Prop
  | _, _, [] => True
  | y, c, p :: L => y ≤ p.1 ∧ p.1 ≤ 23 ∧ (p.1 = y → c ≤ p.2.1) ∧ p.2.1 ≤ p.2.2 ∧ p.2.2 ≤ 47 ∧ Chain p.1 (p.2.2 + 2) L
def orRun (rows : List Int) (p : Nat × Run) : List Int := rows.set p.1 (bitop .or .i64 (rows.getD p.1 0) (maskW p.2.1 p.2.2))
def build (rows : List Int) (L : List (Nat × Run)) : List Int := L.foldl orRun rows
theorem Chain.up : ∀ {L : List (Nat × Run)} {y z c d : Nat}, y < z → Chain z c L → Chain y d L
  | [], y, z, c, d, h, h1 => trivial
  | p :: L, y, z, c, d, h, h1 => ⟨by have := h1.1; omega, h1.2.1, fun e => by have := h1.1; omega, h1.2.2.2.1, h1.2.2.2.2.1, h1.2.2.2.2.2⟩
/-! what they make -/
end Go.SX

/-
  Plain: the orders that integers determine have short texts.
-/
namespace Go.SX
def pcF : Nat → Nat → Nat
  | 0, _ => 0
  | f + 1, n => n % 2 + pcF f (n / 2)
theorem pcF_zero : ∀ f, pcF f 0 = 0
  | 0 => rfl
  | f + 1 => by rw [pcF]; simp [pcF_zero f]
theorem pcF_or : ∀ (f n k : Nat), pcF f (n ||| 2 ^ k) ≤ pcF f n + 1
  | 0, n, k => by simp [pcF]
  | f + 1, n, 0 => by
    have e : (n ||| 2 ^ 0) / 2 = n / 2 := by rw [Nat.or_div_two]; simp
    rw [pcF, pcF, e]
    have := Nat.mod_lt (n ||| 2 ^ 0) (show 0 < 2 by omega)
    omega
  | f + 1, n, k + 1 => by
    have hp : 2 ^ (k + 1) = 2 * 2 ^ k := by rw [Nat.pow_succ, Nat.mul_comm]
    have e : (n ||| 2 ^ (k + 1)) / 2 = n / 2 ||| 2 ^ k := by rw [Nat.or_div_two, hp, Nat.mul_div_cancel_left _ (by omega)]
    have e2 : (n ||| 2 ^ (k + 1)) % 2 = n % 2 := by
      have h1 := Nat.testBit_or n (2 ^ (k + 1)) 0
      rw [Nat.testBit_two_pow, Nat.testBit_zero, Nat.testBit_zero, show decide (k + 1 = 0) = false from rfl, Bool.or_false, decide_eq_decide] at h1
      have h3 := Nat.mod_two_eq_zero_or_one n
      have h4 := Nat.mod_two_eq_zero_or_one (n ||| 2 ^ (k + 1))
      generalize (n ||| 2 ^ (k + 1)) = N at *
      omega
    rw [pcF, pcF, e, e2]
    have := pcF_or f (n / 2) k
    omega
theorem pc_runs : ∀ (f c : Nat) (l : List Run) (N : Nat), RC c l → (∀ q ∈ l, N.testBit q.1 = true) → c + f = 48 → l.length ≤ pcF f (N / 2 ^ c)
  | f, c, [], N, _, _, _ => by simp
  | 0, c, p :: l, N, h, _, hc => by have := h.1; have := h.2.1; have := h.2.2.1; omega
  | f + 1, c, p :: l, N, h, hN, hc => by
    have e : N / 2 ^ c / 2 = N / 2 ^ (c + 1) := by rw [Nat.pow_succ, Nat.div_div_eq_div_mul]
    rw [pcF, e]
    rcases Nat.lt_or_eq_of_le h.1 with h1 | h1
    · have := pc_runs f (c + 1) (p :: l) N ⟨h1, h.2.1, h.2.2.1, h.2.2.2⟩ hN (by omega)
      omega
    · have hb := hN p (by simp)
      rw [← h1, Nat.testBit_eq_decide_div_mod_eq] at hb
      have hb : N / 2 ^ c % 2 = 1 := by simpa using hb
      have := pc_runs f (c + 1) l N (h.2.2.2.mono (by have := h.2.1; omega)) (fun q hq => hN q (List.mem_cons_of_mem _ hq)) (by omega)
      rw [List.length_cons]; omega
theorem val_bit : ∀ {l : List Run} {c : Nat}, RC c l → ∀ q ∈ l, (val l).testBit q.1 = true
  | [], c, _, q, hq => by cases hq
  | p :: l, c, h, q, hq => by
    obtain ⟨k, hk⟩ := val_dvd h.2.2.2
    have h1 := mk_add h.2.1
    have h2 : 2 ^ (p.2 + 1) ≤ 2 ^ (p.2 + 2) := Nat.pow_le_pow_right (by omega) (by omega)
    have h3 := Nat.two_pow_pos p.1
    have hlt : mk p < 2 ^ (p.2 + 2) := by omega
    have e : val (p :: l) = 2 ^ (p.2 + 2) * k + mk p := by rw [val, hk, Nat.add_comm]
    rcases List.mem_cons.1 hq with rfl | hq
    · rw [e, Nat.testBit_two_pow_mul_add _ hlt, if_pos (by have := h.2.1; omega)]
      unfold mk
      rw [Nat.testBit_two_pow_mul]
      simp
    · have ih := val_bit h.2.2.2 q hq
      have hq2 : p.2 + 2 ≤ q.1 := by
        have : ∀ {l : List Run} {c : Nat}, RC c l → ∀ q ∈ l, c ≤ q.1 := by
          intro l
          induction l with
          | nil => intro c _ q hq; cases hq
          | cons a l ih =>
            intro c h q hq
            rcases List.mem_cons.1 hq with rfl | hq
            · exact h.1
            · have := ih h.2.2.2 q hq; have := h.1; have := h.2.1; omega
        exact this h.2.2.2 q hq
      rw [hk, Nat.testBit_two_pow_mul] at ih
      rw [e, Nat.testBit_two_pow_mul_add _ hlt, if_neg (by omega)]
      simp only [Bool.and_eq_true] at ih
      exact ih.2
theorem runs_pc {n : Nat} (h : n < 2 ^ 48) : (runsN n).length ≤ pcF 48 n := by
  obtain ⟨h1, h2⟩ := runsN_rc h
  have := pc_runs 48 0 (runsN n) n h1 (fun q hq => by have := val_bit h1 q hq; rwa [h2] at this) rfl
  simpa using this
/-! rows -/
def pcL : List Int → Nat
  | [] => 0
  | r :: l => pcF 48 r.toNat + pcL l
theorem rowsW_pc : ∀ (y : Nat) (l : List Int), (∀ r ∈ l, 0 ≤ r ∧ r ≤ 281474976710655) → (rowsW y l).length ≤ 4 * pcL l
  | y, [], _ => by simp [rowsW]
  | y, r :: l, h => by
    have h1 := h r (by simp)
    have h2 := rowsW_pc (y + 1) l fun x hx => h x (List.mem_cons_of_mem _ hx)
    have h3 := runs_pc (n := r.toNat) (by omega)
    rw [rowsW, List.length_append, show runsF r.toNat r.toNat = runsN r.toNat from rfl, flat_run_len, pcL]
    omega
def sumL (f : Int → Nat) : List Int → Nat
  | [] => 0
  | r :: l => f r + sumL f l
theorem sumL_set (f : Int → Nat) (k : Nat) (v : Int) : ∀ (l : List Int) (y : Nat), f v ≤ f (l.getD y 0) + k → sumL f (l.set y v) ≤ sumL f l + k
  | [], y, _ => by simp [sumL]
  | r :: l, 0, h => by
    rw [List.getD_cons_zero] at h
    rw [List.set_cons_zero, sumL, sumL]
    omega
  | r :: l, y + 1, h => by
    rw [List.getD_cons_succ] at h
    have := sumL_set f k v l y h
    rw [List.set_cons_succ, sumL, sumL]
    omega
theorem pcL_sum : ∀ l : List Int, pcL l = sumL (fun r => pcF 48 r.toNat) l
  | [] => rfl
  | r :: l => by rw [pcL, sumL, pcL_sum l]
theorem pcL_set (l : List Int) (y : Nat) (v : Int) (k : Nat) (h : pcF 48 v.toNat ≤ pcF 48 (l.getD y 0).toNat + k) : pcL (l.set y v) ≤ pcL l + k := by
  rw [pcL_sum, pcL_sum]
  exact sumL_set (fun r => pcF 48 r.toNat) k v l y h
theorem orAt_pc {rows : List Int} (h : RowsOK rows) {y : Nat} (hy : y < 24) {x : Int} (hx : 0 ≤ x ∧ x < 48) : pcL (orAt rows y x) ≤ pcL rows + 1 := by
  have hg : rows.getD y 0 ∈ rows := by
    rw [List.getD_eq_getElem?_getD, List.getElem?_eq_getElem (by rw [h.len]; exact hy)]
    exact List.getElem_mem _
  have hb := h.ok _ hg
  unfold orAt
  refine pcL_set rows y _ 1 ?_
  generalize rows.getD y 0 = a at hb ⊢
  obtain ⟨n, rfl⟩ : ∃ n : Nat, a = n := ⟨a.toNat, by omega⟩
  obtain ⟨k, rfl⟩ : ∃ k : Nat, x = k := ⟨x.toNat, by omega⟩
  have hk : k < 48 := by omega
  rw [shl_one hk, or_nat (by omega) (Nat.pow_lt_pow_right (by omega) hk)]
  exact pcF_or 48 n k
theorem cellS_pc (x : A5) (y k : Nat) {rows : List Int} (h : RowsOK rows) : pcL (cellS x y k rows) ≤ pcL rows + 1 := by
  have b1 := pickS_bd (c := x.b) (n := 24) (by omega)
  have b2 := pickS_bd (c := x.a) (n := 48) (by omega)
  unfold cellS
  refine orAt_pc h (by omega) ?_
  rw [Int.tmod_eq_emod_of_nonneg (by omega)]
  omega
theorem rowsK_pc (x : A5) (y : Nat) : ∀ (k : Nat) (r : List Int), RowsOK r → pcL (rowsK x y k r) ≤ pcL r + k
  | 0, r, h => Nat.le_refl _
  | k + 1, r, h => by
    rw [rowsK_succ]
    have := cellS_pc x y k (rowsK_ok x y k r h).1
    have := rowsK_pc x y k r h
    omega
theorem pcL_zero : ∀ n, pcL (List.replicate n 0) = 0
  | 0 => rfl
  | n + 1 => by rw [List.replicate_succ, pcL, pcL_zero n]; simp [pcF_zero]
theorem rowsY_pc (x : A5) (n : Nat) (hn : 0 < n) : ∀ y : Nat, pcL (rowsY x n y) ≤ y * n
  | 0 => by
    show pcL (List.replicate 24 0) ≤ _
    rw [pcL_zero]; omega
  | y + 1 => by
    rw [rowsY_succ]
    have := rowsK_pc x y n _ (rowsY_ok x n hn y).1
    have := rowsY_pc x n hn y
    rw [Nat.succ_mul]; omega
theorem seeRows_pc (x : A5) : pcL (seeRows x) ≤ 10 := by
  have b1 := pickS_bd (c := x.b.tdiv 24) (n := 3) (by omega)
  have b2 := pickS_bd (c := x.a.tdiv 48) (n := 3) (by omega)
  have b3 := pickS_bd (c := x.b) (n := 24) (by omega)
  have b4 := pickS_bd (c := x.c) (n := 48) (by omega)
  obtain ⟨n, hn⟩ : ∃ n, (pickS (x.a.tdiv 48) 3 + 1).toNat = n := ⟨_, rfl⟩
  obtain ⟨y, hy⟩ : ∃ y, (pickS (x.b.tdiv 24) 3 + 1).toNat = y := ⟨_, rfl⟩
  have h := rowsY_ok x n (by omega) y
  have hp := rowsY_pc x n (by omega) y
  have hm : y * n ≤ 3 * 3 := Nat.mul_le_mul (by omega) (by omega)
  unfold seeRows
  rw [hn, hy]
  split
  · have := orAt_pc h.1 (y := (pickS x.b 24).toNat) (by omega) (x := pickS x.c 48) (by omega)
    omega
  · omega
theorem seeS_len (x : A5) : (seeW (seeS x)).length ≤ 50 := by
  have h1 := rowsW_pc 0 (seeRows x) (seeRows_ok x).1.ok
  have h2 := seeRows_pc x
  have : (seeS x).rows = seeRows x := rfl
  simp only [seeW, this, List.length_append, List.length_cons, List.length_nil]
  omega
/-! goals -/
theorem kidsN_sees {rec : Int → Int → Goal × Int × Int} (hr : ∀ a m, ∀ s ∈ seesG (rec a m).1, ∃ x, s = seeS x) (y : A5) (at_ most : Int) : ∀ i, ∀ s ∈ seesL (kidsN rec y at_ most i).kids, ∃ x, s = seeS x
  | 0, s, h => by simp [kidsN, seesL] at h
  | i + 1, s, h => by
    simp only [kidsN] at h
    rw [seesL_snoc] at h
    rcases List.mem_append.1 h with h | h
    · exact kidsN_sees hr y at_ most i s h
    · exact hr _ _ s h
theorem sees_one (z : A5) : seesG (seeS z) = [seeS z] := by rw [seesG_eq]; exact if_pos rfl
theorem goals_sees : ∀ (j : Nat) (x : List A5) (at_ most : Int), ∀ s ∈ seesG (goalsS j x at_ most).1, ∃ z, s = seeS z
  | 0, x, at_, most, s, h => by
    rw [goalsS] at h
    replace h : s ∈ seesG (seeS (y5 x at_)) := h
    rw [sees_one] at h
    exact ⟨_, List.mem_singleton.1 h⟩
  | j + 1, x, at_, most, s, h => by
    have one : ∀ z : A5, s ∈ seesG (seeS z) → ∃ z, s = seeS z := fun z h => by
      rw [sees_one] at h
      exact ⟨_, List.mem_singleton.1 h⟩
    rw [goalsS] at h
    dsimp only at h
    split at h
    · rw [seesG, if_neg (by omega), seesL, seesL, List.append_nil] at h
      exact one _ h
    · split at h
      · rw [seesG, if_neg (by omega), seesL, seesL, List.append_nil] at h
        exact one _ h
      · split at h
        · rw [seesG, if_neg (by omega), seesL, seesL, List.append_nil] at h
          exact one _ h
        · split at h
          · rename_i e
            rw [seesG, if_neg (by omega)] at h
            exact kidsN_sees (goals_sees j x) _ _ _ _ s h
          · exact one _ h
mutual
theorem goalW_len2 : ∀ (g : Goal) (d n : Int), sizeG g d = some n → (∀ s ∈ seesG g, (seeW s).length ≤ 50) → ((goalW g).length : Int) ≤ 60 * n ∧ 1 ≤ n
  | ⟨kind, rows, from_, to_, low, high, clear, days, times, within, cents, kids⟩, d, n, h, hs => by
    obtain ⟨_, hok, m, hm, rfl⟩ := sizeG_parts h
    have hO := okG hok
    rw [seesG] at hs
    rw [goalW]
    by_cases h1 : kind = 1
    · rw [if_pos h1] at hs ⊢
      have := hs _ (List.mem_singleton_self _)
      have := (goalW_len _ d _ h).2
      omega
    · rw [if_neg h1] at hs ⊢
      have ih := kidsW_len2 kids (d + 1) m hm hs
      have hkind := hO.kind
      by_cases h2 : kind = 2 ∨ kind = 3 ∨ kind = 4
      · rw [if_pos h2, List.length_append]
        have := headW_len ⟨kind, rows, from_, to_, low, high, clear, days, times, within, cents, kids⟩
        have := ih.2.1
        omega
      · rw [if_neg h2]
        have := ih.1 (decide (kind = 6)) true cents
        have := (hO.many (show kind = 5 ∨ kind = 6 by have : (⟨kind, rows, from_, to_, low, high, clear, days, times, within, cents, kids⟩ : Goal).kind = kind := rfl; omega)).2.1
        have : kids.length ≤ 4 := this
        simp only [List.length_append, List.length_cons, List.length_nil]
        omega
theorem kidsW_len2 : ∀ (l : List Goal) (d m : Int), sizeL l d = some m → (∀ s ∈ seesL l, (seeW s).length ≤ 50) → (∀ (any first : Bool) (c : List Int), ((kidsW any first c l).length : Int) ≤ 60 * m + 2 * l.length) ∧ ((firstW l).length : Int) ≤ 60 * m ∧ 0 ≤ m
  | [], d, m, h, _ => by
    simp [sizeL] at h
    subst h
    refine ⟨fun a f c => by rw [kidsW]; simp, by rw [firstW]; simp, by omega⟩
  | k :: l, d, m, h, hs => by
    rw [sizeL] at h
    rw [seesL] at hs
    cases ha : sizeG k d with
    | none => rw [ha] at h; cases h
    | some x =>
      rw [ha] at h
      cases hl : sizeL l d with
      | none => rw [hl] at h; cases h
      | some y =>
        rw [hl] at h
        injection h with h
        subst h
        have h1 := goalW_len2 k d x ha fun s hm => hs s (List.mem_append_left _ hm)
        have h2 := kidsW_len2 l d y hl fun s hm => hs s (List.mem_append_right _ hm)
        refine ⟨fun a f c => ?_, by rw [firstW]; omega, by omega⟩
        rw [kidsW]
        have := h2.1 a false c.tail
        have e1 : (if f = true then ([] : List Wd) else [w_comma]).length ≤ 1 := by split <;> simp
        have e2 : (if a = true then [itoaW (c.headD 0)] else []).length ≤ 1 := by split <;> simp
        simp only [List.length_append, List.length_cons]
        omega
end
theorem goalS_len (y : List A5) : (goalW (goalS y)).length ≤ 540 := by
  have h := goals_ok 3 y 0 9 (by omega) (by omega)
  have hs := h.size
  have hl := h.le
  have := (goalW_len2 _ _ _ hs fun s hm => by
    obtain ⟨x, rfl⟩ := goals_sees 3 y 0 9 s hm
    exact seeS_len x).1
  unfold goalS
  omega
theorem made_len {o : Order} {y : List A5} (h : o.goal = goalS y) : (orderW o).length ≤ 555 ∧ (joinW (orderW o)).length ≤ 12210 := by
  have h1 := goalS_len y
  rw [← h] at h1
  have h2 := orderW_len o
  have h3 := joinW_len (orderW_sh o)
  exact ⟨by omega, by omega⟩
end Go.SX
