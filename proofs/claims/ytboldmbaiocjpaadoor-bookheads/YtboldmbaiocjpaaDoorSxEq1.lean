/-
  Walks: Eq1, Ep0, Ek0: what single functions of the program compute.
-/
import Derived.Test.YtboldmbaiocjpaaDoorSxEq0
import Derived.Test.YtboldmbaiocjpaaDoorSxZ2
import Derived.LaidMore
import Derived.ChangeMaps5
import Derived.Lay
import Derived.SevenTiedAt
import Derived.Stop.Joined
import Derived.Test.YtboldmbaiocjpaaDoorTie
import Derived.Test.YtboldmbaiocjpaaDoorCards
import Derived.Test.YtboldmbaiocjpaaDoorSxDk4
namespace Go.SX
open Go.Proofs Go.Proofs.YtboldmbaiocjpaaDoor Go.ChangeShapes Go.WideShapes Go.ChangeAt Go.RowKit
set_option linter.unusedVariables false
set_option linter.unusedSimpArgs false
set_option maxHeartbeats 4000000
set_option maxRecDepth 100000
theorem ownT : ownKnob Tryd.prog.godebug = none := by kernel_rfl
theorem laidT : laidOutB Tryd.prog = true := by kernel_rfl
abbrev laidL : List (String × DataW Unit) := [("nadir/digest.round", Rows.laid_nadir_digest_round)]
def intOf : Value → Int
  | .int _ n => n
  | _ => 0
theorem globE : U.glob 0 = roundK.map (Value.int .u32) := by kernel_rfl
theorem laidE : (Rows.laid_nadir_digest_round : DataW Unit) = .agg (roundK.map fun n => .lit (.int .u32 n)) := by kernel_rfl
theorem glob_ok {W : World} (h : laidMetH Tryd.prog laidL W) : GlobOK Cd W ⟨Old W, fun _ => .fresh⟩ := by
  rw [MakeChecks.laidMetH_plain _ _ _ (by kernel_rfl)] at h
  obtain ⟨ps, ⟨g, t, cs, fuel, p, q, hg, ht, hv, hd, _, _⟩, _, _⟩ := h
  obtain rfl := Option.some.inj ((show Tryd.prog.globalNamed "nadir/digest.round" = some 0 by kernel_rfl).symm.trans hg)
  obtain rfl := Option.some.inj ((show (Tryd.prog.globals[0]?).map (·.type) = some 133 by kernel_rfl).symm.trans ht)
  obtain ⟨xs, m, _, ex, hcl, hl, hel⟩ := DataW.trod_array Tryd.underlying133 hd
  have c84 : Tryd.prog.cellsOf 84 = 1 := by kernel_rfl
  have hlen : roundK.length = 64 := by kernel_rfl
  have hct : Tryd.prog.cellsOf 133 = 64 := by kernel_rfl
  have hcs : cs.toList.length = 64 := by rw [← hct]; exact hcl
  have e3 : (xs.map (·.1)) = roundK.map fun n => (.lit (.int .u32 n) : DataW Unit) := by
    have := (Prod.mk.inj ex).1
    rw [laidE] at this
    exact (DataW.agg.inj this).symm
  have key : cs.toList = roundK.map (Value.int .u32) := by
    refine List.ext_getElem (by rw [hcs, List.length_map, hlen]) fun r h1 h2 => ?_
    have hr : r < 64 := by omega
    have hE := hel r hr
    rw [c84, Nat.mul_one, List.getElem?_eq_getElem (by omega)] at hE
    obtain ⟨z, e1, e2, _⟩ := DataW.trod_int Tryd.underlying84 hE
    have e4 : (xs.map (·.1))[r]? = (roundK.map fun n => (DataW.lit (.int .u32 n) : DataW Unit))[r]? := by rw [e3]
    rw [List.getElem?_map, List.getElem?_map, List.getElem?_eq_getElem (by omega : r < xs.length), List.getElem?_eq_getElem (by omega : r < roundK.length), e2] at e4
    simp only [Option.map_some, Option.some.injEq, DataW.lit.injEq, Lit.int.injEq, true_and] at e4
    have e4 : z = roundK[r] := by first | exact e4 | exact e4.2
    have : cs.toList[r]? = some (.int .u32 z) := by
      have h0 : ((cs.toList.drop r).take 1)[0]? = some (.int .u32 z) := by rw [e1]; rfl
      simpa using h0
    rw [List.getElem?_eq_getElem h1] at this
    rw [Option.some.inj this, List.getElem_map]
    exact congrArg _ e4
  intro g hgl
  match g, hgl with
  | 0, _ =>
    unfold World.var? at hv
    rw [hg] at hv
    simp only [Option.bind_some] at hv
    split at hv
    · rename_i c T z hh
      obtain rfl := Option.some.inj hv
      refine ⟨?_, ⟨_, _, _, hh, key.trans globE.symm⟩, ?_⟩
      · show 0 < W.heap.size
        rcases Nat.lt_or_ge 0 W.heap.size with h' | h'
        · exact h'
        · rw [Array.getElem?_eq_none h'] at hh; cases hh
      · intro v hv2
        have hv3 : v ∈ U.glob 0 := hv2
        rw [globE] at hv3
        obtain ⟨n, _, rfl⟩ := List.mem_map.1 hv3
        rfl
    · cases hv
  | g + 1, hgl => exact absurd rfl hgl
variable {H : Type} {enc : TypeId × Value → H} {W : World}
theorem rstr : ReadsAs (C := Cd) Dc enc Tryd.prog W 9 U.str (fun s => (s.length : Int) ≤ 9223372036854775807) := by
  refine ⟨by kernel_rfl, fun fuel cs x h => ?_⟩
  obtain ⟨s, rfl, _, h2⟩ := DataW.trod_string Tryd.underlying9 h
  have hm : maxLen = 9223372036854775807 := rfl
  refine ⟨s.data.toList, ⟨rfl, fun j pv v hp hv => ?_⟩, ?_⟩
  · have hj : j = 0 := by
      rcases j with _ | j
      · rfl
      · simp at hv
    subst hj
    have hp' : pv = .str s.data.toList := (Option.some.inj hp).symm
    have hv' : v = .string s := (Option.some.inj hv).symm
    subst hp' hv'
    exact .str _
  · have : s.data.toList.length = s.size := Array.length_toList
    show ((s.data.toList.length : Nat) : Int) ≤ _
    omega
variable {r : Reach} {b0' : Nat} {v : Value} {d : DataW H} {ps : List MemPlace}
theorem argStr (ho : Value.okWide Tryd.prog W r b0' 9 v) (h : DataW.Trod enc Tryd.prog W 0 (fun _ => true) true 9 v d ps) : ∃ s : Bs, Den Dc W (En W) (.p (.str s)) v ∧ (s.length : Int) ≤ 9223372036854775807 := by
  obtain ⟨s, rfl, _, _, hs⟩ := Go.ChangeMaps.open_string Tryd.underlying9 ho h
  have hm : maxLen = 9223372036854775807 := rfl
  refine ⟨s.data.toList, by simp only [Den]; exact .str _, ?_⟩
  have : s.data.toList.length = s.size := Array.length_toList
  omega
theorem argStrs (ho : Value.okWide Tryd.prog W r b0' 22 v) (h : DataW.Trod enc Tryd.prog W 0 (fun _ => true) true 22 v d ps) : ∃ l : List Bs, Den Dc W (En W) (.p (.dsl U.str l)) v := by
  obtain ⟨l, h1, _, _⟩ := argSlice rstr Tryd.underlying22 ho h
  exact ⟨l, h1⟩
end Go.SX

namespace Go.SX
open Go.Proofs
set_option linter.unusedSimpArgs false
set_option linter.unusedVariables false
set_option maxHeartbeats 4000000
set_option maxRecDepth 100000
/-! ### Integers as bytes -/
/-- groups of seven bits, the lowest first -/
def grp (z : Nat) : List Int := if h : z < 128 then [(z : Int)] else ((z % 128 + 128 : Nat) : Int) :: grp (z / 128)
termination_by z
decreasing_by omega
theorem grp_lt (z : Nat) (h : z < 128) : grp z = [(z : Int)] := by rw [grp, dif_pos h]
theorem grp_ge (z : Nat) (h : 128 ≤ z) : grp z = ((z % 128 + 128 : Nat) : Int) :: grp (z / 128) := by rw [grp, dif_neg (by omega)]
def zigN (n : Int) : Nat := if n < 0 then (2 * -n - 1).toNat else (2 * n).toNat
def bstr (l : List Int) : Bs := l.map fun n : Int => UInt8.ofNat n.toNat
def intB (n : Int) : Bs := bstr (grp (zigN n))
def okInt (n : Int) : Prop := -4611686018427387903 ≤ n ∧ n ≤ 4611686018427387903
theorem grp_length : ∀ (f z : Nat), z < 2 ^ (7 * (f + 1)) → (grp z).length ≤ f + 1
  | 0, z, h => by rw [grp_lt z (by simpa using h)]; simp
  | f + 1, z, h => by
    rcases Nat.lt_or_ge z 128 with h1 | h1
    · rw [grp_lt z h1]; simp
    · rw [grp_ge z h1]
      have : z / 128 < 2 ^ (7 * (f + 1)) := by
        refine (Nat.div_lt_iff_lt_mul (by decide)).2 ?_
        rw [show 7 * (f + 1 + 1) = 7 * (f + 1) + 7 by omega, Nat.pow_add] at h
        exact h
      have := grp_length f (z / 128) this
      simp; omega
theorem intB_length (n : Int) (h : okInt n) : (intB n).length ≤ 10 := by
  obtain ⟨h1, h2⟩ := h
  have : zigN n < 2 ^ (7 * (9 + 1)) := by unfold zigN; split <;> (have h3 : (2 : Nat) ^ (7 * (9 + 1)) = 1180591620717411303424 := by decide +kernel) <;> omega
  simpa [intB, bstr] using grp_length 9 _ this
theorem wrapU64 (y : Nat) (h : y < 18446744073709551616) : IntKind.u64.wrap (y : Int) = (y : Int) := by unfold IntKind.wrap; simp [IntKind.bits, IntKind.signed]; omega
def putRet (n : Int) (s : Bs) : SV Cd := .tuple [.p (.str s), .p (.int .i64 0)]
def putBad : SV Cd := .tuple [.p (.str []), .p (.int .i64 10)]
theorem refPutBad (n : Int) (h : ¬ okInt n) : Meets Tryd.prog Dc 82 [.p (.int .i64 n)] [] putBad [] := by
  unfold putBad okInt at *
  refine meets_of_gx Ax tab_ok Tryd.func82 (c := _) rfl Tryd.call82 400 ?_
  (repeat' ((conv => whnf); first | (exfalso; omega) | (refine call_in Ax tab_ok Tryd.func112 (c := _) rfl Tryd.call112 100 ?_) | (refine end_fn [] (.inr rfl) ?_ trivial rfl rfl) | (refine split_nd (fun hb => ?_) (fun hb => ?_)) | (refine split_d (fun hb => ?_) (fun hb => ?_)) | (refine split_n (fun hb => ?_) (fun hb => ?_)) | (refine split_x (fun hb => ?_) (fun hb => ?_)) | (refine And.intro (TraceOK.mk (by kernel_rfl)) ?_) | (refine Side.mk ?_; (repeat' (first | refine And.intro ?_ ?_ | exact inR_i64 (by omega) (by omega) | omega | rfl | exact trivial | exact none_ne rfl | exact some_ne rfl (Nat.ne_of_beq_eq_false rfl) | exact Nat.ne_of_beq_eq_false rfl | (dsimp only [srcSide]; omega) | (simp; done) | (simp; omega))); done) | (refine side_and ?_ ?_) | (refine drawX_of mixed ?_)))
  all_goals (repeat' (first | refine EndV.mk ?_ | exact trivial | exact rfl | refine And.intro ?_ ?_))
structure ZG where
  z : Nat
  out : List Int
theorem refPut_loop (n : Int) (h : okInt n) : Meets Tryd.prog Dc 82 [.p (.int .i64 n)] [] (.tuple [.p (.str (intB n)), .p (.int .i64 0)]) [] := by
  obtain ⟨h1, h2⟩ := h
  have hu8 : 0 + 1 = Cd.n U.u8 := rfl
  have hz : zigN n ≤ 9223372036854775806 := by unfold zigN; split <;> omega
  have key : (if n < 0 then IntKind.u64.wrap (IntKind.u64.wrap (IntKind.u64.wrap (0 - n) * 2) - 1) else IntKind.u64.wrap (IntKind.u64.wrap n * 2)) = (zigN n : Int) := by
    unfold zigN
    split
    · rw [show (0 - n) = ((-n).toNat : Int) by omega, wrapU64 _ (by omega), show (((-n).toNat : Int) * 2) = (((-n).toNat * 2 : Nat) : Int) by omega, wrapU64 _ (by omega), show ((((-n).toNat * 2 : Nat) : Int) - 1) = (((-n).toNat * 2 - 1 : Nat) : Int) by omega, wrapU64 _ (by omega)]
      omega
    · rw [show n = (n.toNat : Int) by omega, wrapU64 _ (by omega), show ((n.toNat : Int) * 2) = ((n.toNat * 2 : Nat) : Int) by omega, wrapU64 _ (by omega)]
      omega
  have hgl : (grp (zigN n)).length ≤ 10 := grp_length 9 _ (by have : (2 : Nat) ^ (7 * (9 + 1)) = 1180591620717411303424 := by decide +kernel
                                                              omega)
  unfold intB
  by_cases hn : n < 0
  · rw [if_pos hn] at key
    refine meets_of_gx Ax tab_ok Tryd.func82 (c := _) rfl Tryd.call82 400 ?_
    (repeat' ((conv => whnf); first | (exfalso; omega) | (rw [key]) | (refine call_in Ax tab_ok Tryd.func112 (c := _) rfl Tryd.call112 100 ?_) | (refine end_fn [] (.inr rfl) ?_ trivial rfl rfl) | (refine split_nd (fun hb => ?_) (fun hb => ?_)) | (refine split_d (fun hb => ?_) (fun hb => ?_)) | (refine split_n (fun hb => ?_) (fun hb => ?_)) | (refine split_x (fun hb => ?_) (fun hb => ?_)) | (refine And.intro (TraceOK.mk (by kernel_rfl)) ?_) | (refine Side.mk ?_; (repeat' (first | refine And.intro ?_ ?_ | exact inR_i64 (by omega) (by omega) | omega | rfl | exact trivial | exact none_ne rfl | exact some_ne rfl (Nat.ne_of_beq_eq_false rfl) | exact Nat.ne_of_beq_eq_false rfl | (dsimp only [srcSide]; omega) | (simp; done) | (simp; omega))); done) | (refine side_and ?_ ?_) | (refine drawX_of mixed ?_)))
    refine loop_inv (fun g : ZG => [(4, .p (.int .u64 g.z)), (5, .slice 0 0 1 0 g.out.length)]) (fun g => [.rows U.u8 g.out]) (fun g => g.out ++ grp g.z = grp (zigN n) ∧ g.out.length + g.z ≤ zigN n) (fun g => g.z) ⟨zigN n, []⟩ ⟨rfl, by simp⟩ [none] ⟨by (repeat' (first | refine EndV.mk ?_ | exact trivial | exact rfl | refine And.intro ?_ ?_)), by (repeat' (first | refine EndV.mk ?_ | exact trivial | exact rfl | refine And.intro ?_ ?_)) <;> exact ⟨_, rfl⟩, rfl, rfl⟩ ?_
    rintro ⟨z, out⟩ ⟨g1, g2⟩ K hK
    dsimp only at g1 g2 hK ⊢
    have gl := congrArg List.length g1
    rw [List.length_append] at gl
    have hol : out.length ≤ 10 := by omega
    clear gl
    rcases Nat.lt_or_ge z 128 with hlt | hge
    · clear hK
      rw [grp_lt z hlt] at g1
      rw [← g1]
      have w1 := wrap8 z (by omega)
      have es : List.take out.length out ++ List.take 1 (List.drop 0 [(z : Int)]) = out ++ [(z : Int)] := by rw [List.take_length]; rfl
      have el : (out ++ [(z : Int)]).length = out.length + 1 := by simp
      generalize out ++ [(z : Int)] = o2 at *
      (repeat' ((conv => whnf); first | (exfalso; omega) | (rw [w1]) | (rw [es]) | (refine end_fn [] (.inr rfl) ?_ trivial rfl rfl) | (refine split_nd (fun hb => ?_) (fun hb => ?_)) | (refine split_d (fun hb => ?_) (fun hb => ?_)) | (refine split_n (fun hb => ?_) (fun hb => ?_)) | (refine split_x (fun hb => ?_) (fun hb => ?_)) | (refine And.intro (TraceOK.mk (by kernel_rfl)) ?_) | (refine Side.mk ?_; (repeat' (first | refine And.intro ?_ ?_ | exact inR_i64 (by omega) (by omega) | omega | rfl | exact trivial | exact none_ne rfl | exact some_ne rfl (Nat.ne_of_beq_eq_false rfl) | exact Nat.ne_of_beq_eq_false rfl | (dsimp only [srcSide]; omega) | (simp; done) | (simp; omega))); done) | (refine side_and ?_ ?_) | (refine drawX_of mixed ?_)))
      all_goals (repeat' (first | refine EndV.mk ?_ | exact trivial | exact rfl | refine And.intro ?_ ?_))
      all_goals try (exact congrArg PV.str (by unfold bstr; simp [List.take_of_length_le]))
      all_goals try (conv => whnf)
    · rw [grp_ge z hge] at g1
      have t1 : (z : Int).tmod 128 = ((z % 128 : Nat) : Int) := by rw [Int.tmod_eq_emod_of_nonneg (by omega)]; norm_cast
      have t2 : IntKind.u64.wrap (((z % 128 : Nat) : Int) + 128) = ((z % 128 + 128 : Nat) : Int) := by rw [← wrapU64 (z % 128 + 128) (by omega)]; rfl
      have t3 := wrap8 (z % 128 + 128) (by omega)
      have d1 : (z : Int).tdiv 128 = ((z / 128 : Nat) : Int) := by rw [Int.tdiv_eq_ediv_of_nonneg (by omega)]; norm_cast
      have es : List.take out.length out ++ List.take 1 (List.drop 0 [((z % 128 + 128 : Nat) : Int)]) = out ++ [((z % 128 + 128 : Nat) : Int)] := by rw [List.take_length]; rfl
      have hsd : Side ((out ++ [((z % 128 + 128 : Nat) : Int)]) ++ grp (z / 128) = grp (zigN n) ∧ (out ++ [((z % 128 + 128 : Nat) : Int)]).length + z / 128 ≤ zigN n) := ⟨⟨by rw [List.append_assoc]; exact g1, by simp; omega⟩⟩
      have u64In : Side ((128 : Int) ≠ 0 ∧ InR .u64 ((z / 128 : Nat) : Int)) := ⟨by decide, wrapU64 _ (by omega)⟩
      have u64In2 : Side ((128 : Int) ≠ 0 ∧ InR .u64 ((z % 128 : Nat) : Int)) := ⟨by decide, wrapU64 _ (by omega)⟩
      (repeat' ((conv => whnf); first | (exfalso; omega) | (rw [t1]) | (rw [t2]) | (rw [t3]) | (rw [d1]) | exact u64In | exact u64In2 | (refine hK ⟨z / 128, out ++ [((z % 128 + 128 : Nat) : Int)]⟩ [some 2] _ _ hsd ?_ ?_) | (refine end_fn [] (.inr rfl) ?_ trivial rfl rfl) | (refine split_nd (fun hb => ?_) (fun hb => ?_)) | (refine split_d (fun hb => ?_) (fun hb => ?_)) | (refine split_n (fun hb => ?_) (fun hb => ?_)) | (refine split_x (fun hb => ?_) (fun hb => ?_)) | (refine And.intro (TraceOK.mk (by kernel_rfl)) ?_) | (refine Side.mk ?_; (repeat' (first | refine And.intro ?_ ?_ | exact inR_i64 (by omega) (by omega) | omega | rfl | exact trivial | exact none_ne rfl | exact some_ne rfl (Nat.ne_of_beq_eq_false rfl) | exact Nat.ne_of_beq_eq_false rfl | (dsimp only [srcSide]; omega) | (simp; done) | (simp; omega))); done) | (refine side_and ?_ ?_) | (refine drawX_of mixed ?_)))
      all_goals try (dsimp only; rw [es]; (refine Back.mk ?_ ?_ rfl rfl <;> (repeat' (first | refine EndV.mk ?_ | exact trivial | exact rfl | refine And.intro ?_ ?_))))
      all_goals try (refine ⟨?_⟩; dsimp only; omega)
  · rw [if_neg hn] at key
    refine meets_of_gx Ax tab_ok Tryd.func82 (c := _) rfl Tryd.call82 400 ?_
    (repeat' ((conv => whnf); first | (exfalso; omega) | (rw [key]) | (refine call_in Ax tab_ok Tryd.func112 (c := _) rfl Tryd.call112 100 ?_) | (refine end_fn [] (.inr rfl) ?_ trivial rfl rfl) | (refine split_nd (fun hb => ?_) (fun hb => ?_)) | (refine split_d (fun hb => ?_) (fun hb => ?_)) | (refine split_n (fun hb => ?_) (fun hb => ?_)) | (refine split_x (fun hb => ?_) (fun hb => ?_)) | (refine And.intro (TraceOK.mk (by kernel_rfl)) ?_) | (refine Side.mk ?_; (repeat' (first | refine And.intro ?_ ?_ | exact inR_i64 (by omega) (by omega) | omega | rfl | exact trivial | exact none_ne rfl | exact some_ne rfl (Nat.ne_of_beq_eq_false rfl) | exact Nat.ne_of_beq_eq_false rfl | (dsimp only [srcSide]; omega) | (simp; done) | (simp; omega))); done) | (refine side_and ?_ ?_) | (refine drawX_of mixed ?_)))
    refine loop_inv (fun g : ZG => [(4, .p (.int .u64 g.z)), (5, .slice 0 0 1 0 g.out.length)]) (fun g => [.rows U.u8 g.out]) (fun g => g.out ++ grp g.z = grp (zigN n) ∧ g.out.length + g.z ≤ zigN n) (fun g => g.z) ⟨zigN n, []⟩ ⟨rfl, by simp⟩ [none] ⟨by (repeat' (first | refine EndV.mk ?_ | exact trivial | exact rfl | refine And.intro ?_ ?_)), by (repeat' (first | refine EndV.mk ?_ | exact trivial | exact rfl | refine And.intro ?_ ?_)) <;> exact ⟨_, rfl⟩, rfl, rfl⟩ ?_
    rintro ⟨z, out⟩ ⟨g1, g2⟩ K hK
    dsimp only at g1 g2 hK ⊢
    have gl := congrArg List.length g1
    rw [List.length_append] at gl
    have hol : out.length ≤ 10 := by omega
    clear gl
    rcases Nat.lt_or_ge z 128 with hlt | hge
    · clear hK
      rw [grp_lt z hlt] at g1
      rw [← g1]
      have w1 := wrap8 z (by omega)
      have es : List.take out.length out ++ List.take 1 (List.drop 0 [(z : Int)]) = out ++ [(z : Int)] := by rw [List.take_length]; rfl
      have el : (out ++ [(z : Int)]).length = out.length + 1 := by simp
      generalize out ++ [(z : Int)] = o2 at *
      (repeat' ((conv => whnf); first | (exfalso; omega) | (rw [w1]) | (rw [es]) | (refine end_fn [] (.inr rfl) ?_ trivial rfl rfl) | (refine split_nd (fun hb => ?_) (fun hb => ?_)) | (refine split_d (fun hb => ?_) (fun hb => ?_)) | (refine split_n (fun hb => ?_) (fun hb => ?_)) | (refine split_x (fun hb => ?_) (fun hb => ?_)) | (refine And.intro (TraceOK.mk (by kernel_rfl)) ?_) | (refine Side.mk ?_; (repeat' (first | refine And.intro ?_ ?_ | exact inR_i64 (by omega) (by omega) | omega | rfl | exact trivial | exact none_ne rfl | exact some_ne rfl (Nat.ne_of_beq_eq_false rfl) | exact Nat.ne_of_beq_eq_false rfl | (dsimp only [srcSide]; omega) | (simp; done) | (simp; omega))); done) | (refine side_and ?_ ?_) | (refine drawX_of mixed ?_)))
      all_goals (repeat' (first | refine EndV.mk ?_ | exact trivial | exact rfl | refine And.intro ?_ ?_))
      all_goals try (exact congrArg PV.str (by unfold bstr; simp [List.take_of_length_le]))
      all_goals try (conv => whnf)
    · rw [grp_ge z hge] at g1
      have t1 : (z : Int).tmod 128 = ((z % 128 : Nat) : Int) := by rw [Int.tmod_eq_emod_of_nonneg (by omega)]; norm_cast
      have t2 : IntKind.u64.wrap (((z % 128 : Nat) : Int) + 128) = ((z % 128 + 128 : Nat) : Int) := by rw [← wrapU64 (z % 128 + 128) (by omega)]; rfl
      have t3 := wrap8 (z % 128 + 128) (by omega)
      have d1 : (z : Int).tdiv 128 = ((z / 128 : Nat) : Int) := by rw [Int.tdiv_eq_ediv_of_nonneg (by omega)]; norm_cast
      have es : List.take out.length out ++ List.take 1 (List.drop 0 [((z % 128 + 128 : Nat) : Int)]) = out ++ [((z % 128 + 128 : Nat) : Int)] := by rw [List.take_length]; rfl
      have hsd : Side ((out ++ [((z % 128 + 128 : Nat) : Int)]) ++ grp (z / 128) = grp (zigN n) ∧ (out ++ [((z % 128 + 128 : Nat) : Int)]).length + z / 128 ≤ zigN n) := ⟨⟨by rw [List.append_assoc]; exact g1, by simp; omega⟩⟩
      have u64In : Side ((128 : Int) ≠ 0 ∧ InR .u64 ((z / 128 : Nat) : Int)) := ⟨by decide, wrapU64 _ (by omega)⟩
      have u64In2 : Side ((128 : Int) ≠ 0 ∧ InR .u64 ((z % 128 : Nat) : Int)) := ⟨by decide, wrapU64 _ (by omega)⟩
      (repeat' ((conv => whnf); first | (exfalso; omega) | (rw [t1]) | (rw [t2]) | (rw [t3]) | (rw [d1]) | exact u64In | exact u64In2 | (refine hK ⟨z / 128, out ++ [((z % 128 + 128 : Nat) : Int)]⟩ [some 2] _ _ hsd ?_ ?_) | (refine end_fn [] (.inr rfl) ?_ trivial rfl rfl) | (refine split_nd (fun hb => ?_) (fun hb => ?_)) | (refine split_d (fun hb => ?_) (fun hb => ?_)) | (refine split_n (fun hb => ?_) (fun hb => ?_)) | (refine split_x (fun hb => ?_) (fun hb => ?_)) | (refine And.intro (TraceOK.mk (by kernel_rfl)) ?_) | (refine Side.mk ?_; (repeat' (first | refine And.intro ?_ ?_ | exact inR_i64 (by omega) (by omega) | omega | rfl | exact trivial | exact none_ne rfl | exact some_ne rfl (Nat.ne_of_beq_eq_false rfl) | exact Nat.ne_of_beq_eq_false rfl | (dsimp only [srcSide]; omega) | (simp; done) | (simp; omega))); done) | (refine side_and ?_ ?_) | (refine drawX_of mixed ?_)))
      all_goals try (dsimp only; rw [es]; (refine Back.mk ?_ ?_ rfl rfl <;> (repeat' (first | refine EndV.mk ?_ | exact trivial | exact rfl | refine And.intro ?_ ?_))))
      all_goals try (refine ⟨?_⟩; dsimp only; omega)
/-! the program's -/
theorem putBad_meets (n : Int) (h : ¬ okInt n) : Meets Tryd.prog Dc 79 [.p (.int .i64 n)] [] putBad [] := by
  unfold putBad okInt at *
  refine meets_of_gx Ax tab_ok Tryd.func79 (c := _) rfl Tryd.call79 400 ?_
  (repeat' ((conv => whnf); first | (exfalso; omega) | (refine end_fn [] (.inr rfl) ?_ trivial rfl rfl) | (refine split_nd (fun hb => ?_) (fun hb => ?_)) | (refine split_d (fun hb => ?_) (fun hb => ?_)) | (refine split_n (fun hb => ?_) (fun hb => ?_)) | (refine split_x (fun hb => ?_) (fun hb => ?_)) | (refine And.intro (TraceOK.mk (by kernel_rfl)) ?_) | (refine Side.mk ?_; (repeat' (first | refine And.intro ?_ ?_ | exact inR_i64 (by omega) (by omega) | omega | rfl | exact trivial | exact none_ne rfl | exact some_ne rfl (Nat.ne_of_beq_eq_false rfl) | exact Nat.ne_of_beq_eq_false rfl | (dsimp only [srcSide]; omega) | (simp; done) | (simp; omega))); done) | (refine side_and ?_ ?_) | (refine drawX_of mixed ?_)))
  all_goals (repeat' (first | refine EndV.mk ?_ | exact trivial | exact rfl | refine And.intro ?_ ?_))
/-- a loop, by what it changes; at its entry the chunks are seen as theta says -/
theorem loop_upT {C : Cod} {D : Codec C} {R : Kont C} {k : List (It C)} {T : List (SV C)} {Hp : List (HS C)} {m0 : Nat} {body : Code} {γ : Type} (θ0 : List (Option Nat)) (I : γ → List (Nat × SV C)) (U : γ → List (Nat × HS C)) (good : γ → Prop) (μ : γ → Nat) (g0 : γ) (h0 : good g0) (hent : Back m0 θ0 T Hp (headT body T (I g0)) (setCs Hp (U g0)))
    (hround : ∀ g, good g → ∀ K : List (SV C) → List (HS C) → Prop, (∀ g' θ T' Hp', Side (good g') → Side (μ g' < μ g) → Back m0 θ T' Hp' (headT body T (I g')) (setCs Hp (U g')) → K T' Hp') →
      forceV (headT body T (I g)) fun T1 => setCsK Hp (U g) fun Hp1 => R (.code body :: .endLoop K :: k) T1 Hp1) : LoopX D m0 R body k T Hp := by
  refine loop_inv I (fun g => setCs Hp (U g)) good μ g0 h0 _ hent fun g hg K hK => ?_
  have := hround g hg K hK
  rw [forceV_eq, setCsK_eq] at this
  rw [forceV_eq, forceL_eq]
  exact this
theorem and127 (z : Nat) (h : z < 18446744073709551616) : bitop .and .u64 (z : Int) 127 = ((z % 128 : Nat) : Int) := by
  unfold bitop
  simp only
  have e : (BitVec.ofInt IntKind.u64.bits (z : Int) &&& BitVec.ofInt IntKind.u64.bits 127).toNat = z % 128 := by
    rw [BitVec.toNat_and]
    have e1 : (BitVec.ofInt IntKind.u64.bits (z : Int)).toNat = z := by simp [BitVec.toNat_ofInt, IntKind.bits]; omega
    have e2 : (BitVec.ofInt IntKind.u64.bits 127).toNat = 2 ^ 7 - 1 := by decide +kernel
    rw [e1, e2, Nat.and_two_pow_sub_one_eq_mod]
  rw [e, wrapU64 _ (by omega)]
theorem or128 (y : Nat) (h : y < 128) : bitop .or .u8 (y : Int) 128 = ((y + 128 : Nat) : Int) := by
  have : ∀ y : Fin 128, bitop .or .u8 (y.val : Int) 128 = ((y.val + 128 : Nat) : Int) := by decide +kernel
  exact this ⟨y, h⟩
theorem zig_bits (n : Int) (h : okInt n) : bitop .xor .u64 (shlop .u64 (IntKind.u64.wrap n) 1) (IntKind.u64.wrap (shrop .i64 n 63)) = (zigN n : Int) := by
  obtain ⟨h1, h2⟩ := h
  have hs : shrop .i64 n 63 = if n < 0 then -1 else 0 := by
    unfold shrop
    rw [show (min (63 : Int).toNat IntKind.i64.bits) = 63 by decide, Int.fdiv_eq_ediv_of_nonneg _ (by decide)]
    have : (2 : Int) ^ 63 = 9223372036854775808 := by decide +kernel
    rw [this]
    split <;> omega
  have hx : ∀ a b : Nat, a < 18446744073709551616 → b < 18446744073709551616 → bitop .xor .u64 (a : Int) (b : Int) = ((a ^^^ b : Nat) : Int) := by
    intro a b ha hb
    unfold bitop
    simp only
    have e1 : ∀ a : Nat, a < 18446744073709551616 → (BitVec.ofInt IntKind.u64.bits (a : Int)).toNat = a := by intro a ha; simp [BitVec.toNat_ofInt, IntKind.bits]; omega
    rw [BitVec.toNat_xor, e1 a ha, e1 b hb]
    exact wrapU64 _ (Nat.xor_lt_two_pow (n := 64) ha hb)
  have hsh : ∀ a : Nat, shlop .u64 (a : Int) 1 = IntKind.u64.wrap ((a * 2 : Nat) : Int) := by
    intro a
    unfold shlop
    rw [show (min (1 : Int).toNat IntKind.u64.bits) = 1 by decide]
    congr 1
  rw [hs]
  by_cases hn : n < 0
  · rw [if_pos hn]
    have w1 : IntKind.u64.wrap n = ((18446744073709551616 - (-n).toNat : Nat) : Int) := by unfold IntKind.wrap; simp [IntKind.bits, IntKind.signed]; omega
    have w2 : IntKind.u64.wrap (-1) = ((18446744073709551615 : Nat) : Int) := by decide +kernel
    have w3 : IntKind.u64.wrap (((18446744073709551616 - (-n).toNat) * 2 : Nat) : Int) = ((18446744073709551616 - 2 * (-n).toNat : Nat) : Int) := by unfold IntKind.wrap; simp [IntKind.bits, IntKind.signed]; omega
    rw [w1, hsh, w3, w2, hx _ _ (by omega) (by omega)]
    have e : ∀ x : Nat, x ≤ 18446744073709551615 → (18446744073709551615 - x) ^^^ 18446744073709551615 = x := by
      intro x hx
      have hb : (BitVec.ofNat 64 (18446744073709551615 - x) ^^^ BitVec.ofNat 64 18446744073709551615).toNat = x := by
        rw [show BitVec.ofNat 64 18446744073709551615 = BitVec.allOnes 64 by decide +kernel, BitVec.xor_allOnes, BitVec.toNat_not, BitVec.toNat_ofNat]
        omega
      rw [BitVec.toNat_xor, BitVec.toNat_ofNat, BitVec.toNat_ofNat, Nat.mod_eq_of_lt (by omega), Nat.mod_eq_of_lt (by decide)] at hb
      exact hb
    have := e (2 * (-n).toNat - 1) (by omega)
    rw [show 18446744073709551615 - (2 * (-n).toNat - 1) = 18446744073709551616 - 2 * (-n).toNat by omega] at this
    rw [this]
    unfold zigN
    rw [if_pos hn]
    omega
  · rw [if_neg hn]
    have w1 : IntKind.u64.wrap n = ((n.toNat : Nat) : Int) := by rw [show n = ((n.toNat : Nat) : Int) by omega, wrapU64 _ (by omega)]; omega
    have w2 : IntKind.u64.wrap 0 = ((0 : Nat) : Int) := by decide +kernel
    rw [w1, hsh, wrapU64 _ (by omega), w2, hx _ _ (by omega) (by omega), Nat.xor_zero]
    unfold zigN
    rw [if_neg hn]
    omega
theorem put_meets (n : Int) (h : okInt n) : Meets Tryd.prog Dc 79 [.p (.int .i64 n)] [] (.tuple [.p (.str (intB n)), .p (.int .i64 0)]) [] := by
  have key := zig_bits n h
  obtain ⟨h1, h2⟩ := h
  have hu8 : 0 + 1 = Cd.n U.u8 := rfl
  have hz : zigN n ≤ 9223372036854775806 := by unfold zigN; split <;> omega
  have hgl : (grp (zigN n)).length ≤ 10 := grp_length 9 _ (by have : (2 : Nat) ^ (7 * (9 + 1)) = 1180591620717411303424 := by decide +kernel
                                                              omega)
  unfold intB
  refine meets_of_gx Ax tab_ok Tryd.func79 (c := _) rfl Tryd.call79 400 ?_
  (repeat' ((conv => whnf); first | (exfalso; omega) | (rw [key]) | (refine call_in Ax tab_ok Tryd.func110 (c := _) rfl Tryd.call110 100 ?_) | (refine range_in Ax tab_ok rfl Tryd.func125 (c := _) rfl Tryd.call125 rfl rfl 400 ?_) | (refine end_fn [] (.inr rfl) ?_ trivial rfl rfl) | (refine split_nd (fun hb => ?_) (fun hb => ?_)) | (refine split_d (fun hb => ?_) (fun hb => ?_)) | (refine split_n (fun hb => ?_) (fun hb => ?_)) | (refine split_x (fun hb => ?_) (fun hb => ?_)) | (refine And.intro (TraceOK.mk (by kernel_rfl)) ?_) | (refine Side.mk ?_; (repeat' (first | refine And.intro ?_ ?_ | exact inR_i64 (by omega) (by omega) | omega | rfl | exact trivial | exact none_ne rfl | exact some_ne rfl (Nat.ne_of_beq_eq_false rfl) | exact Nat.ne_of_beq_eq_false rfl | (dsimp only [srcSide]; omega) | (simp; done) | (simp; omega))); done) | (refine side_and ?_ ?_) | (refine drawX_of mixed ?_)))
  intro gn tmps bd
  (repeat' ((conv => whnf); first | (rw [key]) | (refine end_fn [] (.inr rfl) ?_ trivial rfl rfl) | (refine split_nd (fun hb => ?_) (fun hb => ?_)) | (refine split_d (fun hb => ?_) (fun hb => ?_)) | (refine split_n (fun hb => ?_) (fun hb => ?_)) | (refine split_x (fun hb => ?_) (fun hb => ?_)) | (refine And.intro (TraceOK.mk (by kernel_rfl)) ?_) | (refine Side.mk ?_; (repeat' (first | refine And.intro ?_ ?_ | exact inR_i64 (by omega) (by omega) | omega | rfl | exact trivial | exact none_ne rfl | exact some_ne rfl (Nat.ne_of_beq_eq_false rfl) | exact Nat.ne_of_beq_eq_false rfl | (dsimp only [srcSide]; omega) | (simp; done) | (simp; omega))); done) | (refine side_and ?_ ?_) | (refine drawX_of mixed ?_)))
  refine loop_upT [some 0, some 1, some 2, none] (fun _ => []) (fun g : ZG => [(0, .var [.slice 3 0 1 0 g.out.length]), (1, .var [.p (.int .u64 g.z)]), (3, .rows U.u8 g.out)]) (fun g => g.out ++ grp g.z = grp (zigN n) ∧ g.out.length + g.z ≤ zigN n) (fun g => g.z) ⟨zigN n, []⟩ ⟨rfl, by simp⟩ ⟨by (repeat' (first | refine EndV.mk ?_ | exact trivial | exact rfl | refine And.intro ?_ ?_)), by (repeat' (first | refine EndV.mk ?_ | exact trivial | exact rfl | refine And.intro ?_ ?_)) <;> exact ⟨_, rfl⟩, rfl, rfl⟩ ?_
  rintro ⟨z, out⟩ ⟨g1, g2⟩ K hK
  dsimp only at g1 g2 hK ⊢
  have gl := congrArg List.length g1
  rw [List.length_append] at gl
  have hol : out.length ≤ 10 := by omega
  clear gl
  rcases Nat.lt_or_ge z 128 with hlt | hge
  · clear hK
    rw [grp_lt z hlt] at g1
    rw [← g1]
    have a1 := and127 z (by omega)
    rw [Nat.mod_eq_of_lt hlt] at a1
    have w1 := wrap8 z (by omega)
    have es : List.take out.length out ++ List.take 1 (List.drop 0 [(z : Int)]) = out ++ [(z : Int)] := by rw [List.take_length]; rfl
    have el : (out ++ [(z : Int)]).length = out.length + 1 := by simp
    generalize out ++ [(z : Int)] = o2 at *
    (repeat' ((conv => whnf); first | (exfalso; omega) | (rw [a1]) | (rw [w1]) | (rw [es]) | (refine yield_in Ax tab_ok rfl rfl rfl 200 200 ?_) | (refine end_fn [] (.inr rfl) ?_ trivial rfl rfl) | (refine split_nd (fun hb => ?_) (fun hb => ?_)) | (refine split_d (fun hb => ?_) (fun hb => ?_)) | (refine split_n (fun hb => ?_) (fun hb => ?_)) | (refine split_x (fun hb => ?_) (fun hb => ?_)) | (refine And.intro (TraceOK.mk (by kernel_rfl)) ?_) | (refine Side.mk ?_; (repeat' (first | refine And.intro ?_ ?_ | exact inR_i64 (by omega) (by omega) | omega | rfl | exact trivial | exact none_ne rfl | exact some_ne rfl (Nat.ne_of_beq_eq_false rfl) | exact Nat.ne_of_beq_eq_false rfl | (dsimp only [srcSide]; omega) | (simp; done) | (simp; omega))); done) | (refine side_and ?_ ?_) | (refine drawX_of mixed ?_)))
    all_goals (repeat' (first | refine EndV.mk ?_ | exact trivial | exact rfl | refine And.intro ?_ ?_))
    all_goals exact congrArg PV.str (by unfold bstr; rw [List.drop_zero, List.take_length])
  · rw [grp_ge z hge] at g1
    have a1 := and127 z (by omega)
    have w1 := wrap8 (z % 128) (by omega)
    have o1 := or128 (z % 128) (by omega)
    have d1 : shrop .u64 (z : Int) 7 = ((z / 128 : Nat) : Int) := shr64 z 7 (by decide)
    have es : List.take out.length out ++ List.take 1 (List.drop 0 [((z % 128 + 128 : Nat) : Int)]) = out ++ [((z % 128 + 128 : Nat) : Int)] := by rw [List.take_length]; rfl
    have hsd : Side ((out ++ [((z % 128 + 128 : Nat) : Int)]) ++ grp (z / 128) = grp (zigN n) ∧ (out ++ [((z % 128 + 128 : Nat) : Int)]).length + z / 128 ≤ zigN n) := ⟨⟨by rw [List.append_assoc]; exact g1, by simp; omega⟩⟩
    (repeat' ((conv => whnf); first | (exfalso; omega) | (rw [a1]) | (rw [w1]) | (rw [o1]) | (rw [d1]) | (refine yield_in Ax tab_ok rfl rfl rfl 200 200 ?_) | (refine hK ⟨z / 128, out ++ [((z % 128 + 128 : Nat) : Int)]⟩ [some 0, some 1, some 2, some 5] _ _ hsd ?_ ?_) | (refine end_fn [] (.inr rfl) ?_ trivial rfl rfl) | (refine split_nd (fun hb => ?_) (fun hb => ?_)) | (refine split_d (fun hb => ?_) (fun hb => ?_)) | (refine split_n (fun hb => ?_) (fun hb => ?_)) | (refine split_x (fun hb => ?_) (fun hb => ?_)) | (refine And.intro (TraceOK.mk (by kernel_rfl)) ?_) | (refine Side.mk ?_; (repeat' (first | refine And.intro ?_ ?_ | exact inR_i64 (by omega) (by omega) | omega | rfl | exact trivial | exact none_ne rfl | exact some_ne rfl (Nat.ne_of_beq_eq_false rfl) | exact Nat.ne_of_beq_eq_false rfl | (dsimp only [srcSide]; omega) | (simp; done) | (simp; omega))); done) | (refine side_and ?_ ?_) | (refine drawX_of mixed ?_)))
    all_goals try (dsimp only; rw [es]; (refine Back.mk ?_ ?_ rfl rfl <;> (repeat' (first | refine EndV.mk ?_ | exact trivial | exact rfl | refine And.intro ?_ ?_))))
    all_goals try (refine ⟨?_⟩; dsimp only; omega)
end Go.SX

namespace Go.SX
open Go.Proofs
set_option linter.unusedSimpArgs false
set_option maxHeartbeats 4000000
set_option maxRecDepth 100000
def isInB (n lo hi : Int) : Bool := decide (lo ≤ n) && decide (n ≤ hi)
theorem isIn_meets (n lo hi : Int) : Meets Tryd.prog Dc 104 [.p (.int .i64 n), .p (.int .i64 lo), .p (.int .i64 hi)] [] (.p (.bool (isInB n lo hi))) [] := by
  refine meets_of_go Ax tab_ok Tryd.func104 (c := _) rfl Tryd.call104 60 ?_
  simp -implicitDefEqProofs only [condVC_t, condVC_f, condVC_dt, condVC_df, condVC_ot, condVC_of, go_nil, go_skip, go_label, go_seq, go_region, go_drawn, go_cond, go_block, go_loop, go_exit, go_ret, go_blk, go_endLoop, go_opsNil, go_op, go_opG, guardD_some, go_op1, afterOp_val, afterOp_side, afterOp_mem, afterOp_smem, afterOp_call, afterOp_stuck, atGuard_t, atGuard_f, atGuard_n, atCond_b, atExit_some, atExit_none, drawVC_eq, drawGo_nil, drawGo_op, drawGo_opG, dGuardD_some, dGuard_t, dGuard_f, dGuard_n, drawOp_eq, drawOpAt_eq, drawOut_val, drawOut_side, drawOut_mem, drawOut_smem, drawOut_call, drawOut_stuck, drawK_eq, freshAt_eq, isFr_fresh, newAt_eq, unwind, List.length_cons, List.length_nil, Nat.reduceSub, Nat.reduceAdd, Nat.reduceMul, Nat.reduceDiv, Nat.reduceMod, List.cons_append, List.nil_append, valsOf, opnds, evT, getT, setT, setO, getC, setC, setCs, exec, ofV, ofCell, hsOf, hlen, SV.topId, gslot, ixL, lk, lays, tmpsOf, fcOf, topIds, idsOf, allOne, ofCells, oneV, doLoad, loadVarAt, loadCellsAt, optSV, condSide, hitW, takeW, dropW, subO, spliceW, cellsOf, toPV, toPVs, doStore, setElem, putSeq, setArr, takeP, dropP, spliceP, seqAt, doBuild, fillW, placeOf, decParts, zipIx, doBuildSlice, arith, arithW, wr_Ax, intBin, strBin, doBinP, doConv, loadSeqAt, TI.typed, TI.seq, tyIf, srcZ, doBin, doUn, doConvert, HS.live, ifLive, doFieldAddr, doField, partW, doIndexAddr, doIndex, doExtract, boundOr, doSlice, doMakeSlice, doLen, srcOf, srcSide, appRes, doAppend, doCall, minmax, TK.agg, pcells, tab, dflt_posting, dflt_int, dflt_bool, dflt_str, un_int, un_bool, un_str, un_posting, un_book, un_arr5, n_int, n_bool, n_str, n_posting, n_book, n_arr5, cast_int, cast_bool, cast_str, cast_posting, cast_book, cast_arr5, enc_int, enc_bool, enc_str, enc_posting, enc_book, enc_arr5, dec_int, dec_bool, dec_str, dec_posting, dec_book, dec_arr5, List.getD_cons_zero, List.getD_cons_succ, ↓reduceIte, List.map_cons, List.map_nil, List.take_succ_cons, List.take_zero, List.drop_succ_cons, List.drop_zero, List.size_toArray, List.append_nil, Nat.add_zero, Nat.zero_add, mixed, Int.toNat_natCast, Nat.reduceLeDiff, Nat.reduceEqDiff, reduceCtorEq, ne_eq, Option.some.injEq, not_false_eq_true, not_true_eq_false, List.take_length, if_true, and_true, true_and, Bool.not_true, Bool.not_false, Tryd.f104, anys]
  unfold isInB
  cases h1 : decide (lo ≤ n) <;> simp -implicitDefEqProofs only [condVC_t, condVC_f, condVC_dt, condVC_df, condVC_ot, condVC_of, go_nil, go_skip, go_label, go_seq, go_region, go_drawn, go_cond, go_block, go_loop, go_exit, go_ret, go_blk, go_endLoop, go_opsNil, go_op, go_opG, guardD_some, go_op1, afterOp_val, afterOp_side, afterOp_mem, afterOp_smem, afterOp_call, afterOp_stuck, atGuard_t, atGuard_f, atGuard_n, atCond_b, atExit_some, atExit_none, drawVC_eq, drawGo_nil, drawGo_op, drawGo_opG, dGuardD_some, dGuard_t, dGuard_f, dGuard_n, drawOp_eq, drawOpAt_eq, drawOut_val, drawOut_side, drawOut_mem, drawOut_smem, drawOut_call, drawOut_stuck, drawK_eq, freshAt_eq, isFr_fresh, newAt_eq, unwind, List.length_cons, List.length_nil, Nat.reduceSub, Nat.reduceAdd, Nat.reduceMul, Nat.reduceDiv, Nat.reduceMod, List.cons_append, List.nil_append, valsOf, opnds, evT, getT, setT, setO, getC, setC, setCs, exec, ofV, ofCell, hsOf, hlen, SV.topId, gslot, ixL, lk, lays, tmpsOf, fcOf, topIds, idsOf, allOne, ofCells, oneV, doLoad, loadVarAt, loadCellsAt, optSV, condSide, hitW, takeW, dropW, subO, spliceW, cellsOf, toPV, toPVs, doStore, setElem, putSeq, setArr, takeP, dropP, spliceP, seqAt, doBuild, fillW, placeOf, decParts, zipIx, doBuildSlice, arith, arithW, wr_Ax, intBin, strBin, doBinP, doConv, loadSeqAt, TI.typed, TI.seq, tyIf, srcZ, doBin, doUn, doConvert, HS.live, ifLive, doFieldAddr, doField, partW, doIndexAddr, doIndex, doExtract, boundOr, doSlice, doMakeSlice, doLen, srcOf, srcSide, appRes, doAppend, doCall, minmax, TK.agg, pcells, tab, dflt_posting, dflt_int, dflt_bool, dflt_str, un_int, un_bool, un_str, un_posting, un_book, un_arr5, n_int, n_bool, n_str, n_posting, n_book, n_arr5, cast_int, cast_bool, cast_str, cast_posting, cast_book, cast_arr5, enc_int, enc_bool, enc_str, enc_posting, enc_book, enc_arr5, dec_int, dec_bool, dec_str, dec_posting, dec_book, dec_arr5, List.getD_cons_zero, List.getD_cons_succ, ↓reduceIte, List.map_cons, List.map_nil, List.take_succ_cons, List.take_zero, List.drop_succ_cons, List.drop_zero, List.size_toArray, List.append_nil, Nat.add_zero, Nat.zero_add, mixed, Int.toNat_natCast, Nat.reduceLeDiff, Nat.reduceEqDiff, reduceCtorEq, ne_eq, Option.some.injEq, not_false_eq_true, not_true_eq_false, List.take_length, if_true, and_true, true_and, Bool.not_true, Bool.not_false]
  · exact ⟨.inr rfl, [], _, rfl, by simp only [getT, retOf, View, Bool.false_and], ⟨trivial, rfl, rfl⟩⟩
  · exact ⟨.inr rfl, [], _, rfl, by simp only [getT, retOf, View, Bool.true_and], ⟨trivial, rfl, rfl⟩⟩

def pa (p : Posting) : SV Cd := .agg [.p (.int .i64 p.kind), .p (.int .i64 p.day), .p (.int .i64 p.debtor), .p (.int .i64 p.creditor), .p (.int .i64 p.amount), .p (.int .i64 p.subject), .p (.int .i64 p.of_)]
def isBackB (p q : Posting) : Bool := decide (q.kind ≠ 3) && decide (p.debtor = q.creditor) && decide (p.creditor = q.debtor) && decide (p.amount = q.amount) && decide (p.subject = q.subject)
theorem isBack_meets (p q : Posting) : Meets Tryd.prog Dc 128 [pa p, pa q] [] (.p (.bool (isBackB p q))) [] := by
  refine meets_of_go Ax tab_ok Tryd.func128 (c := _) rfl Tryd.call128 160 ?_
  simp -implicitDefEqProofs only [condVC_t, condVC_f, condVC_dt, condVC_df, condVC_ot, condVC_of, go_nil, go_skip, go_label, go_seq, go_region, go_drawn, go_cond, go_block, go_loop, go_exit, go_ret, go_blk, go_endLoop, go_opsNil, go_op, go_opG, guardD_some, go_op1, afterOp_val, afterOp_side, afterOp_mem, afterOp_smem, afterOp_call, afterOp_stuck, atGuard_t, atGuard_f, atGuard_n, atCond_b, atExit_some, atExit_none, drawVC_eq, drawGo_nil, drawGo_op, drawGo_opG, dGuardD_some, dGuard_t, dGuard_f, dGuard_n, drawOp_eq, drawOpAt_eq, drawOut_val, drawOut_side, drawOut_mem, drawOut_smem, drawOut_call, drawOut_stuck, drawK_eq, freshAt_eq, isFr_fresh, newAt_eq, unwind, List.length_cons, List.length_nil, Nat.reduceSub, Nat.reduceAdd, Nat.reduceMul, Nat.reduceDiv, Nat.reduceMod, List.cons_append, List.nil_append, valsOf, opnds, evT, getT, setT, setO, getC, setC, setCs, exec, ofV, ofCell, hsOf, hlen, SV.topId, gslot, ixL, lk, lays, tmpsOf, fcOf, topIds, idsOf, allOne, ofCells, oneV, doLoad, loadVarAt, loadCellsAt, optSV, condSide, hitW, takeW, dropW, subO, spliceW, cellsOf, toPV, toPVs, doStore, setElem, putSeq, setArr, takeP, dropP, spliceP, seqAt, doBuild, fillW, placeOf, decParts, zipIx, doBuildSlice, arith, arithW, wr_Ax, intBin, strBin, doBinP, doConv, loadSeqAt, TI.typed, TI.seq, tyIf, srcZ, doBin, doUn, doConvert, HS.live, ifLive, doFieldAddr, doField, partW, doIndexAddr, doIndex, doExtract, boundOr, doSlice, doMakeSlice, doLen, srcOf, srcSide, appRes, doAppend, doCall, minmax, TK.agg, pcells, tab, dflt_posting, dflt_int, dflt_bool, dflt_str, un_int, un_bool, un_str, un_posting, un_book, un_arr5, n_int, n_bool, n_str, n_posting, n_book, n_arr5, cast_int, cast_bool, cast_str, cast_posting, cast_book, cast_arr5, enc_int, enc_bool, enc_str, enc_posting, enc_book, enc_arr5, dec_int, dec_bool, dec_str, dec_posting, dec_book, dec_arr5, List.getD_cons_zero, List.getD_cons_succ, ↓reduceIte, List.map_cons, List.map_nil, List.take_succ_cons, List.take_zero, List.drop_succ_cons, List.drop_zero, List.size_toArray, List.append_nil, Nat.add_zero, Nat.zero_add, mixed, Int.toNat_natCast, Nat.reduceLeDiff, Nat.reduceEqDiff, reduceCtorEq, ne_eq, Option.some.injEq, not_false_eq_true, not_true_eq_false, List.take_length, if_true, and_true, true_and, Bool.not_true, Bool.not_false, Tryd.f128, anys, pa]
  (first | refine split_w (fun h1 => ?_) (fun h1 => ?_) | refine split_t (fun h1 => ?_) (fun h1 => ?_) | refine split_f (fun h1 => ?_) (fun h1 => ?_)) <;> simp -implicitDefEqProofs only [condVC_t, condVC_f, condVC_dt, condVC_df, condVC_ot, condVC_of, go_nil, go_skip, go_label, go_seq, go_region, go_drawn, go_cond, go_block, go_loop, go_exit, go_ret, go_blk, go_endLoop, go_opsNil, go_op, go_opG, guardD_some, go_op1, afterOp_val, afterOp_side, afterOp_mem, afterOp_smem, afterOp_call, afterOp_stuck, atGuard_t, atGuard_f, atGuard_n, atCond_b, atExit_some, atExit_none, drawVC_eq, drawGo_nil, drawGo_op, drawGo_opG, dGuardD_some, dGuard_t, dGuard_f, dGuard_n, drawOp_eq, drawOpAt_eq, drawOut_val, drawOut_side, drawOut_mem, drawOut_smem, drawOut_call, drawOut_stuck, drawK_eq, freshAt_eq, isFr_fresh, newAt_eq, unwind, List.length_cons, List.length_nil, Nat.reduceSub, Nat.reduceAdd, Nat.reduceMul, Nat.reduceDiv, Nat.reduceMod, List.cons_append, List.nil_append, valsOf, opnds, evT, getT, setT, setO, getC, setC, setCs, exec, ofV, ofCell, hsOf, hlen, SV.topId, gslot, ixL, lk, lays, tmpsOf, fcOf, topIds, idsOf, allOne, ofCells, oneV, doLoad, loadVarAt, loadCellsAt, optSV, condSide, hitW, takeW, dropW, subO, spliceW, cellsOf, toPV, toPVs, doStore, setElem, putSeq, setArr, takeP, dropP, spliceP, seqAt, doBuild, fillW, placeOf, decParts, zipIx, doBuildSlice, arith, arithW, wr_Ax, intBin, strBin, doBinP, doConv, loadSeqAt, TI.typed, TI.seq, tyIf, srcZ, doBin, doUn, doConvert, HS.live, ifLive, doFieldAddr, doField, partW, doIndexAddr, doIndex, doExtract, boundOr, doSlice, doMakeSlice, doLen, srcOf, srcSide, appRes, doAppend, doCall, minmax, TK.agg, pcells, tab, dflt_posting, dflt_int, dflt_bool, dflt_str, un_int, un_bool, un_str, un_posting, un_book, un_arr5, n_int, n_bool, n_str, n_posting, n_book, n_arr5, cast_int, cast_bool, cast_str, cast_posting, cast_book, cast_arr5, enc_int, enc_bool, enc_str, enc_posting, enc_book, enc_arr5, dec_int, dec_bool, dec_str, dec_posting, dec_book, dec_arr5, List.getD_cons_zero, List.getD_cons_succ, ↓reduceIte, List.map_cons, List.map_nil, List.take_succ_cons, List.take_zero, List.drop_succ_cons, List.drop_zero, List.size_toArray, List.append_nil, Nat.add_zero, Nat.zero_add, mixed, Int.toNat_natCast, Nat.reduceLeDiff, Nat.reduceEqDiff, reduceCtorEq, ne_eq, Option.some.injEq, not_false_eq_true, not_true_eq_false, List.take_length, if_true, and_true, true_and, Bool.not_true, Bool.not_false, h1]
  · (first | refine split_w (fun h2 => ?_) (fun h2 => ?_) | refine split_t (fun h2 => ?_) (fun h2 => ?_) | refine split_f (fun h2 => ?_) (fun h2 => ?_)) <;> simp -implicitDefEqProofs only [condVC_t, condVC_f, condVC_dt, condVC_df, condVC_ot, condVC_of, go_nil, go_skip, go_label, go_seq, go_region, go_drawn, go_cond, go_block, go_loop, go_exit, go_ret, go_blk, go_endLoop, go_opsNil, go_op, go_opG, guardD_some, go_op1, afterOp_val, afterOp_side, afterOp_mem, afterOp_smem, afterOp_call, afterOp_stuck, atGuard_t, atGuard_f, atGuard_n, atCond_b, atExit_some, atExit_none, drawVC_eq, drawGo_nil, drawGo_op, drawGo_opG, dGuardD_some, dGuard_t, dGuard_f, dGuard_n, drawOp_eq, drawOpAt_eq, drawOut_val, drawOut_side, drawOut_mem, drawOut_smem, drawOut_call, drawOut_stuck, drawK_eq, freshAt_eq, isFr_fresh, newAt_eq, unwind, List.length_cons, List.length_nil, Nat.reduceSub, Nat.reduceAdd, Nat.reduceMul, Nat.reduceDiv, Nat.reduceMod, List.cons_append, List.nil_append, valsOf, opnds, evT, getT, setT, setO, getC, setC, setCs, exec, ofV, ofCell, hsOf, hlen, SV.topId, gslot, ixL, lk, lays, tmpsOf, fcOf, topIds, idsOf, allOne, ofCells, oneV, doLoad, loadVarAt, loadCellsAt, optSV, condSide, hitW, takeW, dropW, subO, spliceW, cellsOf, toPV, toPVs, doStore, setElem, putSeq, setArr, takeP, dropP, spliceP, seqAt, doBuild, fillW, placeOf, decParts, zipIx, doBuildSlice, arith, arithW, wr_Ax, intBin, strBin, doBinP, doConv, loadSeqAt, TI.typed, TI.seq, tyIf, srcZ, doBin, doUn, doConvert, HS.live, ifLive, doFieldAddr, doField, partW, doIndexAddr, doIndex, doExtract, boundOr, doSlice, doMakeSlice, doLen, srcOf, srcSide, appRes, doAppend, doCall, minmax, TK.agg, pcells, tab, dflt_posting, dflt_int, dflt_bool, dflt_str, un_int, un_bool, un_str, un_posting, un_book, un_arr5, n_int, n_bool, n_str, n_posting, n_book, n_arr5, cast_int, cast_bool, cast_str, cast_posting, cast_book, cast_arr5, enc_int, enc_bool, enc_str, enc_posting, enc_book, enc_arr5, dec_int, dec_bool, dec_str, dec_posting, dec_book, dec_arr5, List.getD_cons_zero, List.getD_cons_succ, ↓reduceIte, List.map_cons, List.map_nil, List.take_succ_cons, List.take_zero, List.drop_succ_cons, List.drop_zero, List.size_toArray, List.append_nil, Nat.add_zero, Nat.zero_add, mixed, Int.toNat_natCast, Nat.reduceLeDiff, Nat.reduceEqDiff, reduceCtorEq, ne_eq, Option.some.injEq, not_false_eq_true, not_true_eq_false, List.take_length, if_true, and_true, true_and, Bool.not_true, Bool.not_false, h2]
    · (first | refine split_w (fun h3 => ?_) (fun h3 => ?_) | refine split_t (fun h3 => ?_) (fun h3 => ?_) | refine split_f (fun h3 => ?_) (fun h3 => ?_)) <;> simp -implicitDefEqProofs only [condVC_t, condVC_f, condVC_dt, condVC_df, condVC_ot, condVC_of, go_nil, go_skip, go_label, go_seq, go_region, go_drawn, go_cond, go_block, go_loop, go_exit, go_ret, go_blk, go_endLoop, go_opsNil, go_op, go_opG, guardD_some, go_op1, afterOp_val, afterOp_side, afterOp_mem, afterOp_smem, afterOp_call, afterOp_stuck, atGuard_t, atGuard_f, atGuard_n, atCond_b, atExit_some, atExit_none, drawVC_eq, drawGo_nil, drawGo_op, drawGo_opG, dGuardD_some, dGuard_t, dGuard_f, dGuard_n, drawOp_eq, drawOpAt_eq, drawOut_val, drawOut_side, drawOut_mem, drawOut_smem, drawOut_call, drawOut_stuck, drawK_eq, freshAt_eq, isFr_fresh, newAt_eq, unwind, List.length_cons, List.length_nil, Nat.reduceSub, Nat.reduceAdd, Nat.reduceMul, Nat.reduceDiv, Nat.reduceMod, List.cons_append, List.nil_append, valsOf, opnds, evT, getT, setT, setO, getC, setC, setCs, exec, ofV, ofCell, hsOf, hlen, SV.topId, gslot, ixL, lk, lays, tmpsOf, fcOf, topIds, idsOf, allOne, ofCells, oneV, doLoad, loadVarAt, loadCellsAt, optSV, condSide, hitW, takeW, dropW, subO, spliceW, cellsOf, toPV, toPVs, doStore, setElem, putSeq, setArr, takeP, dropP, spliceP, seqAt, doBuild, fillW, placeOf, decParts, zipIx, doBuildSlice, arith, arithW, wr_Ax, intBin, strBin, doBinP, doConv, loadSeqAt, TI.typed, TI.seq, tyIf, srcZ, doBin, doUn, doConvert, HS.live, ifLive, doFieldAddr, doField, partW, doIndexAddr, doIndex, doExtract, boundOr, doSlice, doMakeSlice, doLen, srcOf, srcSide, appRes, doAppend, doCall, minmax, TK.agg, pcells, tab, dflt_posting, dflt_int, dflt_bool, dflt_str, un_int, un_bool, un_str, un_posting, un_book, un_arr5, n_int, n_bool, n_str, n_posting, n_book, n_arr5, cast_int, cast_bool, cast_str, cast_posting, cast_book, cast_arr5, enc_int, enc_bool, enc_str, enc_posting, enc_book, enc_arr5, dec_int, dec_bool, dec_str, dec_posting, dec_book, dec_arr5, List.getD_cons_zero, List.getD_cons_succ, ↓reduceIte, List.map_cons, List.map_nil, List.take_succ_cons, List.take_zero, List.drop_succ_cons, List.drop_zero, List.size_toArray, List.append_nil, Nat.add_zero, Nat.zero_add, mixed, Int.toNat_natCast, Nat.reduceLeDiff, Nat.reduceEqDiff, reduceCtorEq, ne_eq, Option.some.injEq, not_false_eq_true, not_true_eq_false, List.take_length, if_true, and_true, true_and, Bool.not_true, Bool.not_false, h3]
      · (first | refine split_w (fun h4 => ?_) (fun h4 => ?_) | refine split_t (fun h4 => ?_) (fun h4 => ?_) | refine split_f (fun h4 => ?_) (fun h4 => ?_)) <;> simp -implicitDefEqProofs only [condVC_t, condVC_f, condVC_dt, condVC_df, condVC_ot, condVC_of, go_nil, go_skip, go_label, go_seq, go_region, go_drawn, go_cond, go_block, go_loop, go_exit, go_ret, go_blk, go_endLoop, go_opsNil, go_op, go_opG, guardD_some, go_op1, afterOp_val, afterOp_side, afterOp_mem, afterOp_smem, afterOp_call, afterOp_stuck, atGuard_t, atGuard_f, atGuard_n, atCond_b, atExit_some, atExit_none, drawVC_eq, drawGo_nil, drawGo_op, drawGo_opG, dGuardD_some, dGuard_t, dGuard_f, dGuard_n, drawOp_eq, drawOpAt_eq, drawOut_val, drawOut_side, drawOut_mem, drawOut_smem, drawOut_call, drawOut_stuck, drawK_eq, freshAt_eq, isFr_fresh, newAt_eq, unwind, List.length_cons, List.length_nil, Nat.reduceSub, Nat.reduceAdd, Nat.reduceMul, Nat.reduceDiv, Nat.reduceMod, List.cons_append, List.nil_append, valsOf, opnds, evT, getT, setT, setO, getC, setC, setCs, exec, ofV, ofCell, hsOf, hlen, SV.topId, gslot, ixL, lk, lays, tmpsOf, fcOf, topIds, idsOf, allOne, ofCells, oneV, doLoad, loadVarAt, loadCellsAt, optSV, condSide, hitW, takeW, dropW, subO, spliceW, cellsOf, toPV, toPVs, doStore, setElem, putSeq, setArr, takeP, dropP, spliceP, seqAt, doBuild, fillW, placeOf, decParts, zipIx, doBuildSlice, arith, arithW, wr_Ax, intBin, strBin, doBinP, doConv, loadSeqAt, TI.typed, TI.seq, tyIf, srcZ, doBin, doUn, doConvert, HS.live, ifLive, doFieldAddr, doField, partW, doIndexAddr, doIndex, doExtract, boundOr, doSlice, doMakeSlice, doLen, srcOf, srcSide, appRes, doAppend, doCall, minmax, TK.agg, pcells, tab, dflt_posting, dflt_int, dflt_bool, dflt_str, un_int, un_bool, un_str, un_posting, un_book, un_arr5, n_int, n_bool, n_str, n_posting, n_book, n_arr5, cast_int, cast_bool, cast_str, cast_posting, cast_book, cast_arr5, enc_int, enc_bool, enc_str, enc_posting, enc_book, enc_arr5, dec_int, dec_bool, dec_str, dec_posting, dec_book, dec_arr5, List.getD_cons_zero, List.getD_cons_succ, ↓reduceIte, List.map_cons, List.map_nil, List.take_succ_cons, List.take_zero, List.drop_succ_cons, List.drop_zero, List.size_toArray, List.append_nil, Nat.add_zero, Nat.zero_add, mixed, Int.toNat_natCast, Nat.reduceLeDiff, Nat.reduceEqDiff, reduceCtorEq, ne_eq, Option.some.injEq, not_false_eq_true, not_true_eq_false, List.take_length, if_true, and_true, true_and, Bool.not_true, Bool.not_false, h4]
        · refine end_bool rfl ?_
          simp_all [isBackB]
        · refine end_bool rfl ?_
          simp_all [isBackB]
      · refine end_bool rfl ?_
        simp_all [isBackB]
    · refine end_bool rfl ?_
      simp_all [isBackB]
  · refine end_bool rfl ?_
    simp_all [isBackB]

end Go.SX
