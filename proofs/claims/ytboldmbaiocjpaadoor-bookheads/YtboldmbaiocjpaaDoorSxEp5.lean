/-
  Walks: Ep5, Ep7, Ep8: what single functions of the program compute.
-/
import Derived.Test.YtboldmbaiocjpaaDoorSxEq1
import Derived.Test.YtboldmbaiocjpaaDoorSxEm0
namespace Go.SX
open Go.Proofs Go.Proofs.YtboldmbaiocjpaaDoor Go.ChangeShapes Go.WideShapes Go.ChangeAt Go.RowKit
set_option linter.unusedSimpArgs false
set_option linter.unusedVariables false
set_option maxHeartbeats 4000000
set_option maxRecDepth 100000
variable {H : Type} {enc : TypeId × Value → H} {W : World}
theorem rposting : ReadsAs (C := Cd) Dc enc Tryd.prog W 52 U.posting (fun p => I64 p.subject) := by
  refine ⟨by kernel_rfl, fun fuel cs x h => ?_⟩
  obtain ⟨zs, hlen, rfl, hz⟩ := trod_struct_ints Tryd.underlying52 (by kernel_rfl) (by kernel_rfl) h
  match zs, hlen, hz with
  | [a, b, c, d, e, f, g], _, hz => exact ⟨⟨a, b, c, d, e, f, g⟩, pdenL_ints Dc W (Old W) [a, b, c, d, e, f, g], hz f (by simp)⟩
theorem rarr5 : ReadsAs (C := Cd) Dc enc Tryd.prog W 116 U.arr5 A5OK := by
  refine ⟨by kernel_rfl, fun fuel cs x h => ?_⟩
  obtain ⟨zs, hlen, rfl, hz⟩ := trod_array_ints Tryd.underlying116 (by kernel_rfl) (by kernel_rfl) h
  match zs, hlen, hz with
  | [a, b, c, d, e], _, hz => exact ⟨⟨a, b, c, d, e⟩, pdenL_ints Dc W (Old W) [a, b, c, d, e], ⟨hz a (by simp), hz b (by simp), hz c (by simp), hz d (by simp), hz e (by simp)⟩⟩
variable {r : Reach} {b0' : Nat} {v : Value} {d : DataW H} {ps : List MemPlace}
theorem argPosting (ho : Value.okWide Tryd.prog W r b0' 52 v) (h : DataW.Trod enc Tryd.prog W 0 (fun _ => true) true 52 v d ps) : ∃ p : Posting, Den Dc W (En W) (pa p) v ∧ I64 p.subject := by
  obtain ⟨zs, hlen, rfl, hz⟩ := argInts Tryd.underlying52 (by kernel_rfl) (by kernel_rfl) ho h
  match zs, hlen, hz with
  | [a, b, c, d, e, f, g], _, hz =>
    refine ⟨⟨a, b, c, d, e, f, g⟩, ?_, hz f (by simp)⟩
    simp only [pa, Den]
    exact ⟨_, rfl, argC_int (argC_int (argC_int (argC_int (argC_int (argC_int (argC_int argC_nil))))))⟩
theorem argBook (ho : Value.okWide Tryd.prog W r b0' 49 v) (h : DataW.Trod enc Tryd.prog W 0 (fun _ => true) true 49 v d ps) : ∃ b : Book, Den Dc W (En W) (ba b) v ∧ (b.postings.length : Int) ≤ 9223372036854775807 := by
  obtain ⟨cs, rfl, hsz⟩ := okWide_struct Tryd.underlying49 ho
  obtain ⟨fuel, hx⟩ := h
  obtain ⟨xs, n, _, _, hlen, hxs, hel⟩ := DataW.trod_struct Tryd.underlying49 hx
  have hlen' : cs.toList.length = 3 := hlen.trans (by kernel_rfl)
  have hxs' : xs.length = 3 := hxs
  have e0 : DataW.trod enc Tryd.prog W 0 (fun _ => true) true n 3 ((cs.toList.drop 0).take (Tryd.prog.cellsOf 3)) = xs[0]? := hel 0 _ rfl
  have e1 : DataW.trod enc Tryd.prog W 0 (fun _ => true) true n 47 ((cs.toList.drop 1).take (Tryd.prog.cellsOf 47)) = xs[1]? := hel 1 _ rfl
  have e2 : DataW.trod enc Tryd.prog W 0 (fun _ => true) true n 3 ((cs.toList.drop 2).take (Tryd.prog.cellsOf 3)) = xs[2]? := hel 2 _ rfl
  have k0 : Tryd.prog.cellsOf 3 = 1 := by kernel_rfl
  have k1 : Tryd.prog.cellsOf 47 = 1 := by kernel_rfl
  rw [List.getElem?_eq_getElem (by omega)] at e0 e1 e2
  rw [k0] at e0 e2
  rw [k1] at e1
  obtain ⟨l⟩ := cs
  match l, hlen' with
  | [c0, c1, c2], _ =>
    simp only [List.drop, List.take] at e0 e1 e2
    obtain ⟨z0, h0, i0⟩ := trod_i64 Tryd.underlying3 e0
    obtain ⟨v1, ll, h1, i1, _, l1⟩ := readSlice rposting Tryd.underlying47 e1
    obtain ⟨z2, h2, i2⟩ := trod_i64 Tryd.underlying3 e2
    injection h0 with h0; injection h1 with h1; injection h2 with h2
    subst h0 h1 h2
    have hm : maxLen = 9223372036854775807 := rfl
    refine ⟨⟨z0, ll, z2⟩, ?_, by show (ll.length : Int) ≤ _; omega⟩
    simp only [ba, Den]
    exact ⟨_, rfl, argC_int (argC_dsl i1 (argC_int argC_nil))⟩
end Go.SX

namespace Go.SX
open Go.Proofs
set_option linter.unusedSimpArgs false
set_option linter.unusedVariables false
set_option maxHeartbeats 4000000
set_option maxRecDepth 100000
/-! ### The strings behind a head; collisions -/
theorem hxR_snoc (t : List Bs) (s : Bs) : (hxR (t ++ [s]).reverse).reverse = (hxR t.reverse).reverse ++ [2 :: (hdR t.reverse ++ s)] := by
  rw [List.reverse_append]
  simp [hxR]
theorem chained_meets (l : List Posting) (hl : l.length ≤ 300) (he : encsB l = true) (hS : Short (encsL l)) : Meets Tryd.prog Dc 47 [.p (.dsl U.posting l)] [] (.p (.dsl U.str (hxR (encsL l).reverse).reverse)) [] := by
  have henc := refEncoded_meets l (by omega)
  rw [if_pos he] at henc
  have hel : (encsL l).length = l.length := by simp [encsL]
  generalize encsL l = t at *
  have hus : 0 + 1 = Cd.n U.str := rfl
  refine meets_of_gx Ax tab_ok Tryd.func47 (c := _) rfl Tryd.call47 600 ?_
  (repeat' ((conv => whnf); first | (exfalso; omega) | (refine callx_pure (henc) rfl rfl ?_) | (refine dcallx_pure (henc) rfl rfl ?_) | (refine end_fn [] (.inr rfl) ?_ trivial rfl rfl) | (refine split_nd (fun hb => ?_) (fun hb => ?_)) | (refine split_d (fun hb => ?_) (fun hb => ?_)) | (refine split_n (fun hb => ?_) (fun hb => ?_)) | (refine split_x (fun hb => ?_) (fun hb => ?_)) | (refine And.intro (TraceOK.mk (by kernel_rfl)) ?_) | (refine Side.mk ?_; (repeat' (first | refine And.intro ?_ ?_ | exact inR_i64 (by omega) (by omega) | omega | rfl | exact trivial | exact none_ne rfl | exact some_ne rfl (Nat.ne_of_beq_eq_false rfl) | exact Nat.ne_of_beq_eq_false rfl | (dsimp only [srcSide]; omega) | (simp; done) | (simp; omega))); done) | (refine side_and ?_ ?_) | (refine drawX_of mixed ?_)))
  refine loop_inv (fun i : Nat => [(5, .slice 0 0 1 0 (hxR (t.take i).reverse).reverse.length), (6, .p (.int .i64 i))]) (fun i => [.rows U.str (hxR (t.take i).reverse).reverse]) (fun i => i ≤ t.length) (fun i => t.length - i) 0 (Nat.zero_le _) [none] ⟨by (repeat' (first | refine EndV.mk ?_ | exact trivial | exact rfl | refine And.intro ?_ ?_)), by (repeat' (first | refine EndV.mk ?_ | exact trivial | exact rfl | refine And.intro ?_ ?_)) <;> exact ⟨_, rfl⟩, rfl, rfl⟩ ?_
  intro i hi K hK
  have hzl : (hxR (t.take i).reverse).reverse.length = i := by rw [List.length_reverse, hxR_length]; simp; omega
  rcases Nat.lt_or_ge i t.length with hlt | hge
  · have hc := refHead2_meets (t.take i) (by simp; omega) (hS.take i)
    have hdl := hdR_length (t.take i).reverse
    have hsx : (t.getD i []).length ≤ 100 := hS.getD i
    have htk : t.take (i + 1) = t.take i ++ [t.getD i []] := by
      rw [List.take_add_one, List.getD_eq_getElem?_getD, List.getElem?_eq_getElem hlt]; rfl
    have e1 := hxR_snoc (t.take i) (t.getD i [])
    rw [← htk] at e1
    clear htk
    rw [show t.getD i [] = t.getD (i : Int).toNat (Cd.dflt U.str) from rfl] at hsx e1
    generalize hx : t.getD (i : Int).toNat (Cd.dflt U.str) = s at *
    generalize hdR (t.take i).reverse = h at *
    have es : List.take (hxR (t.take i).reverse).reverse.length (hxR (t.take i).reverse).reverse ++ List.take 1 (List.drop 0 [(ByteArray.mk #[2]).data.toList ++ h ++ s]) = (hxR (t.take (i + 1)).reverse).reverse := by rw [e1, List.take_length]; rfl
    have el : (hxR (t.take (i + 1)).reverse).reverse.length = i + 1 := by rw [e1, List.length_append, hzl]; rfl
    generalize (hxR (t.take i).reverse).reverse = z at *
    generalize hz2 : (hxR (t.take (i + 1)).reverse).reverse = z2 at *
    (repeat' ((conv => whnf); first | (exfalso; omega) | (rw [hx]) | (refine callx_pure (hc) rfl rfl ?_) | (refine dcallx_pure (hc) rfl rfl ?_) | (rw [es]) | (refine ⟨?_⟩; simp only [List.length_append, List.length_cons, List.length_nil]; omega) | (refine hK (i + 1) [some 2] _ _ ?_ ?_ ?_) | (refine end_fn [] (.inr rfl) ?_ trivial rfl rfl) | (refine split_nd (fun hb => ?_) (fun hb => ?_)) | (refine split_d (fun hb => ?_) (fun hb => ?_)) | (refine split_n (fun hb => ?_) (fun hb => ?_)) | (refine split_x (fun hb => ?_) (fun hb => ?_)) | (refine And.intro (TraceOK.mk (by kernel_rfl)) ?_) | (refine Side.mk ?_; (repeat' (first | refine And.intro ?_ ?_ | exact inR_i64 (by omega) (by omega) | omega | rfl | exact trivial | exact none_ne rfl | exact some_ne rfl (Nat.ne_of_beq_eq_false rfl) | exact Nat.ne_of_beq_eq_false rfl | (dsimp only [srcSide]; omega) | (simp; done) | (simp; omega))); done) | (refine side_and ?_ ?_) | (refine drawX_of mixed ?_)))
    all_goals try (dsimp only; rw [hz2]; (refine Back.mk ?_ ?_ rfl rfl <;> (repeat' (first | refine EndV.mk ?_ | exact trivial | exact rfl | refine And.intro ?_ ?_))))
    all_goals try (conv => whnf)
  · rw [List.take_of_length_le hge] at *
    clear hK
    generalize (hxR t.reverse).reverse = z at *
    (repeat' ((conv => whnf); first | (exfalso; omega) | (refine end_fn [] (.inr rfl) ?_ trivial rfl rfl) | (refine split_nd (fun hb => ?_) (fun hb => ?_)) | (refine split_d (fun hb => ?_) (fun hb => ?_)) | (refine split_n (fun hb => ?_) (fun hb => ?_)) | (refine split_x (fun hb => ?_) (fun hb => ?_)) | (refine And.intro (TraceOK.mk (by kernel_rfl)) ?_) | (refine Side.mk ?_; (repeat' (first | refine And.intro ?_ ?_ | exact inR_i64 (by omega) (by omega) | omega | rfl | exact trivial | exact none_ne rfl | exact some_ne rfl (Nat.ne_of_beq_eq_false rfl) | exact Nat.ne_of_beq_eq_false rfl | (dsimp only [srcSide]; omega) | (simp; done) | (simp; omega))); done) | (refine side_and ?_ ?_) | (refine drawX_of mixed ?_)))
    all_goals (repeat' (first | refine EndV.mk ?_ | exact trivial | exact rfl | refine And.intro ?_ ?_))
    all_goals exact ⟨_, rfl, rfl, rfl, by omega, by rw [List.drop_zero, List.take_length], rfl⟩
def collAny (a b : List Bs) : Bool := a.any fun x => b.any fun y => decide (x ≠ y) && decide (sumB x = sumB y)
def collP (x y : Bs) : Bool := decide (x ≠ y) && decide (sumB x = sumB y)
theorem coll_false {a b : List Bs} (h : ∀ j k, j < a.length → k < b.length → collP (a.getD j []) (b.getD k []) = false) : collAny a b = false := by
  unfold collAny
  rw [List.any_eq_false]
  intro x hx
  obtain ⟨j, hj, rfl⟩ := List.getElem_of_mem hx
  rw [Bool.not_eq_true, List.any_eq_false]
  intro y hy
  obtain ⟨k, hk, rfl⟩ := List.getElem_of_mem hy
  have := h j k hj hk
  rw [List.getD_eq_getElem?_getD, List.getElem?_eq_getElem hj, List.getD_eq_getElem?_getD, List.getElem?_eq_getElem hk] at this
  unfold collP at this
  rw [Bool.not_eq_true]
  exact this
theorem coll_true {a b : List Bs} {j k : Nat} (hj : j < a.length) (hk : k < b.length) (h : collP (a.getD j []) (b.getD k []) = true) : collAny a b = true := by
  rw [List.getD_eq_getElem?_getD, List.getElem?_eq_getElem hj, List.getD_eq_getElem?_getD, List.getElem?_eq_getElem hk] at h
  unfold collAny
  rw [List.any_eq_true]
  refine ⟨a[j], List.getElem_mem hj, ?_⟩
  rw [List.any_eq_true]
  exact ⟨b[k], List.getElem_mem hk, h⟩
theorem collided_meets (a b : List Bs) (ha : a.length ≤ 300) (hb : b.length ≤ 300) (h1 : Mid a) (h2 : Mid b) : Meets Tryd.prog Dc 50 [.p (.dsl U.str a), .p (.dsl U.str b)] [] (.p (.bool (collAny a b))) [] := by
  have hus : 0 + 1 = Cd.n U.str := rfl
  refine meets_of_gx Ax tab_ok Tryd.func50 (c := _) rfl Tryd.call50 600 ?_
  (repeat' ((conv => whnf); first | (exfalso; omega) | (refine end_fn [] (.inr rfl) ?_ trivial rfl rfl) | (refine split_nd (fun hb => ?_) (fun hb => ?_)) | (refine split_d (fun hb => ?_) (fun hb => ?_)) | (refine split_n (fun hb => ?_) (fun hb => ?_)) | (refine split_x (fun hb => ?_) (fun hb => ?_)) | (refine And.intro (TraceOK.mk (by kernel_rfl)) ?_) | (refine Side.mk ?_; (repeat' (first | refine And.intro ?_ ?_ | exact inR_i64 (by omega) (by omega) | omega | rfl | exact trivial | exact none_ne rfl | exact some_ne rfl (Nat.ne_of_beq_eq_false rfl) | exact Nat.ne_of_beq_eq_false rfl | (dsimp only [srcSide]; omega) | (simp; done) | (simp; omega))); done) | (refine side_and ?_ ?_) | (refine drawX_of mixed ?_)))
  refine loop_inv (fun i : Nat => [(5, .slice 0 0 1 0 ((b.take i).map sumB).length), (6, .p (.int .i64 i))]) (fun i => [.rows U.str ((b.take i).map sumB)]) (fun i => i ≤ b.length) (fun i => b.length - i) 0 (Nat.zero_le _) [none] ⟨by (repeat' (first | refine EndV.mk ?_ | exact trivial | exact rfl | refine And.intro ?_ ?_)), by (repeat' (first | refine EndV.mk ?_ | exact trivial | exact rfl | refine And.intro ?_ ?_)) <;> exact ⟨_, rfl⟩, rfl, rfl⟩ ?_
  intro i hi K hK
  rcases Nat.lt_or_ge i b.length with hlt | hge
  · have hyl : (b.getD i []).length ≤ 1000 := by rw [List.getD_eq_getElem?_getD, List.getElem?_eq_getElem (by omega)]; exact h2 _ (List.getElem_mem _)
    have hc := refSum_meets (b.getD i []) (by omega)
    have e1 : (b.take (i + 1)).map sumB = (b.take i).map sumB ++ [sumB (b.getD i [])] := by
      have e : b.take (i + 1) = b.take i ++ [b.getD i []] := by rw [List.take_add_one, List.getD_eq_getElem?_getD, List.getElem?_eq_getElem hlt]; rfl
      rw [e, List.map_append]; rfl
    have hzl : ((b.take i).map sumB).length = i := by simp; omega
    rw [show b.getD i [] = b.getD (i : Int).toNat (Cd.dflt U.str) from rfl] at hc e1
    generalize hx : b.getD (i : Int).toNat (Cd.dflt U.str) = y at *
    generalize sumB y = sy at *
    have es : List.take ((b.take i).map sumB).length ((b.take i).map sumB) ++ List.take 1 (List.drop 0 [sy]) = (b.take (i + 1)).map sumB := by rw [e1, List.take_length]; rfl
    have el : ((b.take (i + 1)).map sumB).length = i + 1 := by rw [e1, List.length_append, hzl]; rfl
    generalize (b.take i).map sumB = z at *
    generalize hz2 : (b.take (i + 1)).map sumB = z2 at *
    (repeat' ((conv => whnf); first | (exfalso; omega) | (rw [hx]) | (refine callx_pure (hc) rfl rfl ?_) | (refine dcallx_pure (hc) rfl rfl ?_) | (rw [es]) | (refine hK (i + 1) [some 2] _ _ ?_ ?_ ?_) | (refine end_fn [] (.inr rfl) ?_ trivial rfl rfl) | (refine split_nd (fun hb => ?_) (fun hb => ?_)) | (refine split_d (fun hb => ?_) (fun hb => ?_)) | (refine split_n (fun hb => ?_) (fun hb => ?_)) | (refine split_x (fun hb => ?_) (fun hb => ?_)) | (refine And.intro (TraceOK.mk (by kernel_rfl)) ?_) | (refine Side.mk ?_; (repeat' (first | refine And.intro ?_ ?_ | exact inR_i64 (by omega) (by omega) | omega | rfl | exact trivial | exact none_ne rfl | exact some_ne rfl (Nat.ne_of_beq_eq_false rfl) | exact Nat.ne_of_beq_eq_false rfl | (dsimp only [srcSide]; omega) | (simp; done) | (simp; omega))); done) | (refine side_and ?_ ?_) | (refine drawX_of mixed ?_)))
    all_goals try (dsimp only; rw [hz2]; (refine Back.mk ?_ ?_ rfl rfl <;> (repeat' (first | refine EndV.mk ?_ | exact trivial | exact rfl | refine And.intro ?_ ?_))))
    all_goals try (conv => whnf)
  · rw [List.take_of_length_le hge] at *
    clear hK
    have hzl : (b.map sumB).length = b.length := by simp
    (repeat' ((conv => whnf); first | (exfalso; omega) | (refine end_fn [] (.inr rfl) ?_ trivial rfl rfl) | (refine split_nd (fun hb => ?_) (fun hb => ?_)) | (refine split_d (fun hb => ?_) (fun hb => ?_)) | (refine split_n (fun hb => ?_) (fun hb => ?_)) | (refine split_x (fun hb => ?_) (fun hb => ?_)) | (refine And.intro (TraceOK.mk (by kernel_rfl)) ?_) | (refine Side.mk ?_; (repeat' (first | refine And.intro ?_ ?_ | exact inR_i64 (by omega) (by omega) | omega | rfl | exact trivial | exact none_ne rfl | exact some_ne rfl (Nat.ne_of_beq_eq_false rfl) | exact Nat.ne_of_beq_eq_false rfl | (dsimp only [srcSide]; omega) | (simp; done) | (simp; omega))); done) | (refine side_and ?_ ?_) | (refine drawX_of mixed ?_)))
    refine loop_up (fun i : Nat => [(7, .p (.int .i64 i))]) (fun _ => []) (fun i => i ≤ a.length ∧ ∀ j, j < i → ∀ k, k < b.length → collP (a.getD j []) (b.getD k []) = false) (fun i => a.length - i) 0 ⟨Nat.zero_le _, fun j hj => by omega⟩ ⟨by (repeat' (first | refine EndV.mk ?_ | exact trivial | exact rfl | refine And.intro ?_ ?_)), by (repeat' (first | refine EndV.mk ?_ | exact trivial | exact rfl | refine And.intro ?_ ?_)), rfl, rfl⟩ ?_
    rintro i ⟨hi, hall⟩ K hK
    rcases Nat.lt_or_ge i a.length with hlt | hge
    · have hxl : (a.getD i []).length ≤ 1000 := by rw [List.getD_eq_getElem?_getD, List.getElem?_eq_getElem (by omega)]; exact h1 _ (List.getElem_mem _)
      have hc := refSum_meets (a.getD i []) (by omega)
      rw [show a.getD i [] = a.getD (i : Int).toNat (Cd.dflt U.str) from rfl] at hc
      generalize hx : a.getD (i : Int).toNat (Cd.dflt U.str) = x at *
      have hx' : a.getD i [] = x := hx
      have hxx : ∀ k : Nat, a.getD (i : Int).toNat (Cd.dflt U.str) = x := fun _ => hx
      (repeat' ((conv => whnf); first | (exfalso; omega) | (rw [hx]) | (refine callx_pure (hc) rfl rfl ?_) | (refine dcallx_pure (hc) rfl rfl ?_) | (refine end_fn [] (.inr rfl) ?_ trivial rfl rfl) | (refine split_nd (fun hb => ?_) (fun hb => ?_)) | (refine split_d (fun hb => ?_) (fun hb => ?_)) | (refine split_n (fun hb => ?_) (fun hb => ?_)) | (refine split_x (fun hb => ?_) (fun hb => ?_)) | (refine And.intro (TraceOK.mk (by kernel_rfl)) ?_) | (refine Side.mk ?_; (repeat' (first | refine And.intro ?_ ?_ | exact inR_i64 (by omega) (by omega) | omega | rfl | exact trivial | exact none_ne rfl | exact some_ne rfl (Nat.ne_of_beq_eq_false rfl) | exact Nat.ne_of_beq_eq_false rfl | (dsimp only [srcSide]; omega) | (simp; done) | (simp; omega))); done) | (refine side_and ?_ ?_) | (refine drawX_of mixed ?_)))
      refine loop_up (fun k : Nat => [(9, .p (.int .i64 k))]) (fun _ => []) (fun k => k ≤ b.length ∧ ∀ m, m < k → collP x (b.getD m []) = false) (fun k => b.length - k) 0 ⟨Nat.zero_le _, fun j hj => by omega⟩ ⟨by (repeat' (first | refine EndV.mk ?_ | exact trivial | exact rfl | refine And.intro ?_ ?_)), by (repeat' (first | refine EndV.mk ?_ | exact trivial | exact rfl | refine And.intro ?_ ?_)), rfl, rfl⟩ ?_
      rintro k ⟨hk, hin⟩ K2 hK2
      rcases Nat.lt_or_ge k b.length with hklt | hkge
      · have hyl : (List.map sumB b).getD (0 + (k : Int).toNat) (Cd.dflt U.str) = sumB (b.getD k []) := by
          rw [Nat.zero_add, Int.toNat_natCast, List.getD_eq_getElem?_getD, List.getElem?_map, List.getD_eq_getElem?_getD, List.getElem?_eq_getElem hklt]; rfl
        have hcp : collP x (b.getD k []) = (decide (x ≠ b.getD k []) && decide (sumB x = sumB (b.getD k []))) := rfl
        rw [show b.getD k [] = b.getD (k : Int).toNat (Cd.dflt U.str) from rfl] at hyl hcp
        generalize hy : b.getD (k : Int).toNat (Cd.dflt U.str) = y at *
        have hy' : b.getD k [] = y := hy
        by_cases hp : collP x y = true
        · rw [coll_true (by omega) hklt (by rw [hx', hy']; exact hp)]
          rw [hcp] at hp
          simp only [Bool.and_eq_true, decide_eq_true_eq] at hp
          obtain ⟨p1, p2⟩ := hp
          clear hK hK2
          (repeat' ((conv => whnf); first | (exfalso; omega) | (rw [hx]) | (rw [hy]) | (rw [hyl]) | (exact absurd hb p1) | (exact absurd p2 hb) | (refine end_fn [] (.inr rfl) ?_ trivial rfl rfl) | (refine split_nd (fun hb => ?_) (fun hb => ?_)) | (refine split_d (fun hb => ?_) (fun hb => ?_)) | (refine split_n (fun hb => ?_) (fun hb => ?_)) | (refine split_x (fun hb => ?_) (fun hb => ?_)) | (refine And.intro (TraceOK.mk (by kernel_rfl)) ?_) | (refine Side.mk ?_; (repeat' (first | refine And.intro ?_ ?_ | exact inR_i64 (by omega) (by omega) | omega | rfl | exact trivial | exact none_ne rfl | exact some_ne rfl (Nat.ne_of_beq_eq_false rfl) | exact Nat.ne_of_beq_eq_false rfl | (dsimp only [srcSide]; omega) | (simp; done) | (simp; omega))); done) | (refine side_and ?_ ?_) | (refine drawX_of mixed ?_)))
          all_goals (repeat' (first | refine EndV.mk ?_ | exact trivial | exact rfl | refine And.intro ?_ ?_))
        · rw [Bool.not_eq_true] at hp
          have hsd : Side (k + 1 ≤ b.length ∧ ∀ m, m < k + 1 → collP x (b.getD m []) = false) := ⟨⟨hklt, fun m hm => by rcases Nat.lt_or_ge m k with h | h; exact hin m h; rw [show m = k by omega, hy']; exact hp⟩⟩
          rw [hcp] at hp
          by_cases p1 : x = y
          · (repeat' ((conv => whnf); first | (exfalso; omega) | (rw [hx]) | (rw [hy]) | (rw [hyl]) | (exact absurd p1 hb) | (refine hK2 (k + 1) [some 0] _ _ hsd ?_ ?_) | (refine Back.mk ?_ ?_ rfl rfl <;> (repeat' (first | refine EndV.mk ?_ | exact trivial | exact rfl | refine And.intro ?_ ?_))) | (refine end_fn [] (.inr rfl) ?_ trivial rfl rfl) | (refine split_nd (fun hb => ?_) (fun hb => ?_)) | (refine split_d (fun hb => ?_) (fun hb => ?_)) | (refine split_n (fun hb => ?_) (fun hb => ?_)) | (refine split_x (fun hb => ?_) (fun hb => ?_)) | (refine And.intro (TraceOK.mk (by kernel_rfl)) ?_) | (refine Side.mk ?_; (repeat' (first | refine And.intro ?_ ?_ | exact inR_i64 (by omega) (by omega) | omega | rfl | exact trivial | exact none_ne rfl | exact some_ne rfl (Nat.ne_of_beq_eq_false rfl) | exact Nat.ne_of_beq_eq_false rfl | (dsimp only [srcSide]; omega) | (simp; done) | (simp; omega))); done) | (refine side_and ?_ ?_) | (refine drawX_of mixed ?_)))
          · rw [decide_eq_true (p := x ≠ y) p1, Bool.true_and, decide_eq_false_iff_not] at hp
            (repeat' ((conv => whnf); first | (exfalso; omega) | (rw [hx]) | (rw [hy]) | (rw [hyl]) | (exact absurd hb p1) | (exact absurd hb hp) | (refine hK2 (k + 1) [some 0] _ _ hsd ?_ ?_) | (refine Back.mk ?_ ?_ rfl rfl <;> (repeat' (first | refine EndV.mk ?_ | exact trivial | exact rfl | refine And.intro ?_ ?_))) | (refine end_fn [] (.inr rfl) ?_ trivial rfl rfl) | (refine split_nd (fun hb => ?_) (fun hb => ?_)) | (refine split_d (fun hb => ?_) (fun hb => ?_)) | (refine split_n (fun hb => ?_) (fun hb => ?_)) | (refine split_x (fun hb => ?_) (fun hb => ?_)) | (refine And.intro (TraceOK.mk (by kernel_rfl)) ?_) | (refine Side.mk ?_; (repeat' (first | refine And.intro ?_ ?_ | exact inR_i64 (by omega) (by omega) | omega | rfl | exact trivial | exact none_ne rfl | exact some_ne rfl (Nat.ne_of_beq_eq_false rfl) | exact Nat.ne_of_beq_eq_false rfl | (dsimp only [srcSide]; omega) | (simp; done) | (simp; omega))); done) | (refine side_and ?_ ?_) | (refine drawX_of mixed ?_)))
      · have hsd : Side (i + 1 ≤ a.length ∧ ∀ j, j < i + 1 → ∀ k, k < b.length → collP (a.getD j []) (b.getD k []) = false) := ⟨⟨hlt, fun j hj m hm => by
          rcases Nat.lt_or_ge j i with h | h
          · exact hall j h m hm
          · rw [show j = i by omega, hx']; exact hin m (by omega)⟩⟩
        clear hK2
        (repeat' ((conv => whnf); first | (exfalso; omega) | (refine hK (i + 1) [some 0] _ _ hsd ?_ ?_) | (refine Back.mk ?_ ?_ rfl rfl <;> (repeat' (first | refine EndV.mk ?_ | exact trivial | exact rfl | refine And.intro ?_ ?_))) | (refine end_fn [] (.inr rfl) ?_ trivial rfl rfl) | (refine split_nd (fun hb => ?_) (fun hb => ?_)) | (refine split_d (fun hb => ?_) (fun hb => ?_)) | (refine split_n (fun hb => ?_) (fun hb => ?_)) | (refine split_x (fun hb => ?_) (fun hb => ?_)) | (refine And.intro (TraceOK.mk (by kernel_rfl)) ?_) | (refine Side.mk ?_; (repeat' (first | refine And.intro ?_ ?_ | exact inR_i64 (by omega) (by omega) | omega | rfl | exact trivial | exact none_ne rfl | exact some_ne rfl (Nat.ne_of_beq_eq_false rfl) | exact Nat.ne_of_beq_eq_false rfl | (dsimp only [srcSide]; omega) | (simp; done) | (simp; omega))); done) | (refine side_and ?_ ?_) | (refine drawX_of mixed ?_)))
    · rw [show collAny a b = false from coll_false fun j k hj hk => hall j (by omega) k hk]
      clear hK
      (repeat' ((conv => whnf); first | (exfalso; omega) | (refine end_fn [] (.inr rfl) ?_ trivial rfl rfl) | (refine split_nd (fun hb => ?_) (fun hb => ?_)) | (refine split_d (fun hb => ?_) (fun hb => ?_)) | (refine split_n (fun hb => ?_) (fun hb => ?_)) | (refine split_x (fun hb => ?_) (fun hb => ?_)) | (refine And.intro (TraceOK.mk (by kernel_rfl)) ?_) | (refine Side.mk ?_; (repeat' (first | refine And.intro ?_ ?_ | exact inR_i64 (by omega) (by omega) | omega | rfl | exact trivial | exact none_ne rfl | exact some_ne rfl (Nat.ne_of_beq_eq_false rfl) | exact Nat.ne_of_beq_eq_false rfl | (dsimp only [srcSide]; omega) | (simp; done) | (simp; omega))); done) | (refine side_and ?_ ?_) | (refine drawX_of mixed ?_)))
      all_goals (repeat' (first | refine EndV.mk ?_ | exact trivial | exact rfl | refine And.intro ?_ ?_))
end Go.SX

namespace Go.SX
open Go.Proofs
set_option linter.unusedSimpArgs false
set_option linter.unusedVariables false
set_option maxHeartbeats 4000000
set_option maxRecDepth 100000
/-! ### Books with the same head -/
theorem ofNat_inj {a b : Nat} (ha : a < 256) (hb : b < 256) (h : UInt8.ofNat a = UInt8.ofNat b) : a = b := by
  have := congrArg UInt8.toNat h
  simpa [Nat.mod_eq_of_lt ha, Nat.mod_eq_of_lt hb] using this
theorem bstr_cons (n : Nat) (l : List Int) : bstr ((n : Int) :: l) = UInt8.ofNat n :: bstr l := by simp [bstr]
theorem grp_inj : ∀ (n z : Nat), z = n → ∀ (w : Nat) (r r' : Bs), bstr (grp z) ++ r = bstr (grp w) ++ r' → z = w ∧ r = r' := by
  intro n
  induction n using Nat.strongRecOn with
  | _ n ih =>
    rintro z rfl w r r' h
    rcases Nat.lt_or_ge z 128 with h1 | h1
    · rcases Nat.lt_or_ge w 128 with h2 | h2
      · rw [grp_lt z h1, grp_lt w h2, bstr_cons, bstr_cons] at h
        simp only [List.cons_append] at h
        obtain ⟨e1, e2⟩ := List.cons.inj h
        exact ⟨ofNat_inj (by omega) (by omega) e1, e2⟩
      · rw [grp_lt z h1, grp_ge w h2, bstr_cons, bstr_cons] at h
        simp only [List.cons_append] at h
        have := ofNat_inj (by omega) (by omega) (List.cons.inj h).1
        omega
    · rcases Nat.lt_or_ge w 128 with h2 | h2
      · rw [grp_ge z h1, grp_lt w h2, bstr_cons, bstr_cons] at h
        simp only [List.cons_append] at h
        have := ofNat_inj (by omega) (by omega) (List.cons.inj h).1
        omega
      · rw [grp_ge z h1, grp_ge w h2, bstr_cons, bstr_cons] at h
        simp only [List.cons_append] at h
        obtain ⟨e1, e2⟩ := List.cons.inj h
        have e3 := ofNat_inj (by omega) (by omega) e1
        obtain ⟨e4, e5⟩ := ih (z / 128) (by omega) (z / 128) rfl (w / 128) r r' e2
        exact ⟨by omega, e5⟩
theorem zig_inj {n m : Int} (h : zigN n = zigN m) : n = m := by
  unfold zigN at h
  split at h <;> split at h <;> omega
theorem intB_inj {n m : Int} {r r' : Bs} (h : intB n ++ r = intB m ++ r') : n = m ∧ r = r' := by
  obtain ⟨e1, e2⟩ := grp_inj _ _ rfl _ _ _ h
  exact ⟨zig_inj e1, e2⟩
theorem encL_inj : ∀ (L M : List Int), L.length = M.length → encL L = encL M → L = M
  | [], [], _, _ => rfl
  | [], _ :: _, h, _ => by simp at h
  | _ :: _, [], h, _ => by simp at h
  | n :: L, m :: M, h, he => by
    have he' : intB n ++ encL L = intB m ++ encL M := he
    obtain ⟨e1, e2⟩ := intB_inj he'
    rw [e1, encL_inj L M (by simpa using h) e2]
theorem fld_inj {p q : Posting} (h : encL (fldL p) = encL (fldL q)) : p = q := by
  have := encL_inj (fldL p) (fldL q) rfl h
  unfold fldL at this
  obtain ⟨a, b, c, d, e, f, g⟩ := p
  obtain ⟨a', b', c', d', e', f', g'⟩ := q
  simp only [List.cons.injEq] at this
  obtain ⟨rfl, rfl, rfl, rfl, rfl, rfl, rfl, _⟩ := this
  rfl
theorem encs_inj : ∀ (l m : List Posting), encsL l = encsL m → l = m
  | [], [], _ => rfl
  | [], _ :: _, h => by simp [encsL] at h
  | _ :: _, [], h => by simp [encsL] at h
  | p :: l, q :: m, h => by
    have h' : encL (fldL p) :: encsL l = encL (fldL q) :: encsL m := h
    obtain ⟨e1, e2⟩ := List.cons.inj h'
    rw [fld_inj e1, encs_inj l m e2]
theorem collide_mem : ∀ (a b : List Bs), collideB a b = true → ∃ x ∈ a, ∃ y ∈ b, x ≠ y ∧ sumB x = sumB y
  | [], _, h => by simp [collideB] at h
  | _ :: _, [], h => by simp [collideB] at h
  | x :: a, y :: b, h => by
    simp only [collideB, Bool.or_eq_true, Bool.and_eq_true, decide_eq_true_eq] at h
    rcases h with ⟨h1, h2⟩ | h
    · exact ⟨x, by simp, y, by simp, h1, h2⟩
    · obtain ⟨x', hx, y', hy, h1, h2⟩ := collide_mem a b h
      exact ⟨x', by simp [hx], y', by simp [hy], h1, h2⟩
theorem coll_of_mem {a b : List Bs} {x y : Bs} (hx : x ∈ a) (hy : y ∈ b) (h1 : x ≠ y) (h2 : sumB x = sumB y) : collAny a b = true := by
  unfold collAny
  rw [List.any_eq_true]
  refine ⟨x, hx, ?_⟩
  rw [List.any_eq_true]
  refine ⟨y, hy, ?_⟩
  rw [decide_eq_true h1, decide_eq_true h2]; rfl
def oneL (l : List Posting) : List Bs := (hxR (encsL l).reverse).reverse
def headL (l : List Posting) : Bs := hdR (encsL l).reverse
def nought (l : List Bs) : Bool := l.any fun s => decide (sumB s = z32)
theorem heads_law (a b : List Posting) (h : headL a = headL b) (hne : a ≠ b) : collAny (oneL a) (oneL b) = true ∨ nought (oneL a ++ oneL b) = true := by
  have hr : (encsL a).reverse ≠ (encsL b).reverse := fun e => hne (encs_inj a b (by have := congrArg List.reverse e; simpa using this))
  rcases chain_binding _ _ hr h with hc | ⟨h1, h2⟩
  · left
    obtain ⟨x, hx, y, hy, e1, e2⟩ := collide_mem _ _ hc
    exact coll_of_mem (a := oneL a) (b := oneL b) (by unfold oneL; simpa using hx) (by unfold oneL; simpa using hy) e1 e2
  · right
    unfold nought
    rw [List.any_eq_true]
    refine ⟨_, ?_, decide_eq_true h2⟩
    rw [List.mem_append]
    unfold longL oneL
    split
    · rename_i hl
      right
      rw [List.mem_reverse, List.getD_eq_getElem?_getD, List.getElem?_eq_getElem (by omega)]
      exact List.getElem_mem _
    · left
      rw [List.mem_reverse, List.getD_eq_getElem?_getD, List.getElem?_eq_getElem (by omega)]
      exact List.getElem_mem _
theorem oneL_mid {l : List Posting} (h : Short (encsL l)) : Mid (oneL l) := by
  intro s hs
  unfold oneL at hs
  exact hxR_mid _ (fun z hz => h z (by simpa using hz)) s (List.mem_reverse.1 hs)
theorem oneL_length (l : List Posting) : (oneL l).length = l.length := by simp [oneL, hxR_length, encsL]
theorem headL_snoc (l : List Posting) (p : Posting) : headL (l ++ [p]) = sumB (2 :: (headL l ++ encL (fldL p))) := by
  unfold headL encsL
  rw [List.map_append, List.reverse_append]
  rfl
end Go.SX
