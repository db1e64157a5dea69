/-
  Walks: Dp0, Dn2, Dn3: what single functions of the program compute.
-/
import Derived.Test.YtboldmbaiocjpaaDoorSxDm7
import Derived.Test.YtboldmbaiocjpaaDoorSxZ2
import Derived.LaidMore
import Derived.ChangeMaps5
import Derived.Lay
import Derived.SevenTiedAt
import Derived.Stop.Joined
import Derived.Test.YtboldmbaiocjpaaDoorTie
import Derived.Test.YtboldmbaiocjpaaDoorCards
namespace Go.SX
open Go.Proofs Go.Proofs.YtboldmbaiocjpaaDoor Go.ChangeShapes Go.WideShapes Go.ChangeAt Go.RowKit
set_option linter.unusedVariables false
set_option linter.unusedSimpArgs false
set_option maxHeartbeats 4000000
set_option maxRecDepth 100000
theorem ownT : ownKnob Tryd.prog.godebug = none := by kernel_rfl
theorem laidT : laidOutB Tryd.prog = true := by kernel_rfl
abbrev laidL : List (String × DataW Unit) := [("nadir/digest.round", Rows.laid_nadir_digest_round)]
def intOf : Value → Int
  | .int _ n => n
  | _ => 0
theorem globE : U.glob 0 = roundK.map (Value.int .u32) := by kernel_rfl
theorem laidE : (Rows.laid_nadir_digest_round : DataW Unit) = .agg (roundK.map fun n => .lit (.int .u32 n)) := by kernel_rfl
theorem glob_ok {W : World} (h : laidMetH Tryd.prog laidL W) : GlobOK Cd W ⟨Old W, fun _ => .fresh⟩ := by
  rw [MakeChecks.laidMetH_plain _ _ _ (by kernel_rfl)] at h
  obtain ⟨ps, ⟨g, t, cs, fuel, p, q, hg, ht, hv, hd, _, _⟩, _, _⟩ := h
  obtain rfl := Option.some.inj ((show Tryd.prog.globalNamed "nadir/digest.round" = some 0 by kernel_rfl).symm.trans hg)
  obtain rfl := Option.some.inj ((show (Tryd.prog.globals[0]?).map (·.type) = some 133 by kernel_rfl).symm.trans ht)
  obtain ⟨xs, m, _, ex, hcl, hl, hel⟩ := DataW.trod_array Tryd.underlying133 hd
  have c84 : Tryd.prog.cellsOf 84 = 1 := by kernel_rfl
  have hlen : roundK.length = 64 := by kernel_rfl
  have hct : Tryd.prog.cellsOf 133 = 64 := by kernel_rfl
  have hcs : cs.toList.length = 64 := by rw [← hct]; exact hcl
  have e3 : (xs.map (·.1)) = roundK.map fun n => (.lit (.int .u32 n) : DataW Unit) := by
    have := (Prod.mk.inj ex).1
    rw [laidE] at this
    exact (DataW.agg.inj this).symm
  have key : cs.toList = roundK.map (Value.int .u32) := by
    refine List.ext_getElem (by rw [hcs, List.length_map, hlen]) fun r h1 h2 => ?_
    have hr : r < 64 := by omega
    have hE := hel r hr
    rw [c84, Nat.mul_one, List.getElem?_eq_getElem (by omega)] at hE
    obtain ⟨z, e1, e2, _⟩ := DataW.trod_int Tryd.underlying84 hE
    have e4 : (xs.map (·.1))[r]? = (roundK.map fun n => (DataW.lit (.int .u32 n) : DataW Unit))[r]? := by rw [e3]
    rw [List.getElem?_map, List.getElem?_map, List.getElem?_eq_getElem (by omega : r < xs.length), List.getElem?_eq_getElem (by omega : r < roundK.length), e2] at e4
    simp only [Option.map_some, Option.some.injEq, DataW.lit.injEq, Lit.int.injEq, true_and] at e4
    have e4 : z = roundK[r] := by first | exact e4 | exact e4.2
    have : cs.toList[r]? = some (.int .u32 z) := by
      have h0 : ((cs.toList.drop r).take 1)[0]? = some (.int .u32 z) := by rw [e1]; rfl
      simpa using h0
    rw [List.getElem?_eq_getElem h1] at this
    rw [Option.some.inj this, List.getElem_map]
    exact congrArg _ e4
  intro g hgl
  match g, hgl with
  | 0, _ =>
    unfold World.var? at hv
    rw [hg] at hv
    simp only [Option.bind_some] at hv
    split at hv
    · rename_i c T z hh
      obtain rfl := Option.some.inj hv
      refine ⟨?_, ⟨_, _, _, hh, key.trans globE.symm⟩, ?_⟩
      · show 0 < W.heap.size
        rcases Nat.lt_or_ge 0 W.heap.size with h' | h'
        · exact h'
        · rw [Array.getElem?_eq_none h'] at hh; cases hh
      · intro v hv2
        have hv3 : v ∈ U.glob 0 := hv2
        rw [globE] at hv3
        obtain ⟨n, _, rfl⟩ := List.mem_map.1 hv3
        rfl
    · cases hv
  | g + 1, hgl => exact absurd rfl hgl
variable {H : Type} {enc : TypeId × Value → H} {W : World}
theorem rstr : ReadsAs (C := Cd) Dc enc Tryd.prog W 9 U.str (fun s => (s.length : Int) ≤ 9223372036854775807) := by
  refine ⟨by kernel_rfl, fun fuel cs x h => ?_⟩
  obtain ⟨s, rfl, _, h2⟩ := DataW.trod_string Tryd.underlying9 h
  have hm : maxLen = 9223372036854775807 := rfl
  refine ⟨s.data.toList, ⟨rfl, fun j pv v hp hv => ?_⟩, ?_⟩
  · have hj : j = 0 := by
      rcases j with _ | j
      · rfl
      · simp at hv
    subst hj
    have hp' : pv = .str s.data.toList := (Option.some.inj hp).symm
    have hv' : v = .string s := (Option.some.inj hv).symm
    subst hp' hv'
    exact .str _
  · have : s.data.toList.length = s.size := Array.length_toList
    show ((s.data.toList.length : Nat) : Int) ≤ _
    omega
variable {r : Reach} {b0' : Nat} {v : Value} {d : DataW H} {ps : List MemPlace}
theorem argStr (ho : Value.okWide Tryd.prog W r b0' 9 v) (h : DataW.Trod enc Tryd.prog W 0 (fun _ => true) true 9 v d ps) : ∃ s : Bs, Den Dc W (En W) (.p (.str s)) v ∧ (s.length : Int) ≤ 9223372036854775807 := by
  obtain ⟨s, rfl, _, _, hs⟩ := Go.ChangeMaps.open_string Tryd.underlying9 ho h
  have hm : maxLen = 9223372036854775807 := rfl
  refine ⟨s.data.toList, by simp only [Den]; exact .str _, ?_⟩
  have : s.data.toList.length = s.size := Array.length_toList
  omega
theorem argStrs (ho : Value.okWide Tryd.prog W r b0' 22 v) (h : DataW.Trod enc Tryd.prog W 0 (fun _ => true) true 22 v d ps) : ∃ l : List Bs, Den Dc W (En W) (.p (.dsl U.str l)) v := by
  obtain ⟨l, h1, _, _⟩ := argSlice rstr Tryd.underlying22 ho h
  exact ⟨l, h1⟩
end Go.SX

namespace Go.SX
open Go.Proofs
set_option linter.unusedSimpArgs false
set_option linter.unusedVariables false
set_option maxHeartbeats 4000000
set_option maxRecDepth 100000
/-! ### Proofs are accepted, and short -/
theorem valR_proof : ∀ (n : Nat) (l : List Bs) (i : Nat), l.length = n → i < n → valR (l.getD i []) (proofS l i).reverse n i = (rootS l, true) := by
  intro n
  induction n using Nat.strongRecOn with
  | _ n ih =>
    intro l i hl hi
    rcases Nat.lt_or_ge n 2 with h2 | h2
    · obtain ⟨s, rfl⟩ : ∃ s, l = [s] := by
        rcases l with _ | ⟨s, _ | ⟨t, l⟩⟩
        · simp at hl; omega
        · exact ⟨s, rfl⟩
        · simp at hl; omega
      obtain rfl : i = 0 := by omega
      have hn : n = 1 := by omega
      rw [proofS_one _ _ (by simp), rootS_one]
      simp [valR, hn]
    · have hsp := leftN_spec (n := n) h2
      rw [rootS_two l (by omega), hl]
      rcases Nat.lt_or_ge i (leftN n) with h | h
      · rw [proofS_lt l i (by omega) (by rw [hl]; exact h), hl, List.reverse_append, List.reverse_singleton, List.singleton_append]
        have h1 := ih (leftN n) (by omega) (l.take (leftN n)) i (by simp; omega) h
        have e : (l.take (leftN n)).getD i [] = l.getD i [] := by
          rw [List.getD_eq_getElem?_getD, List.getD_eq_getElem?_getD, List.getElem?_take_of_lt h]
        rw [e] at h1
        rw [valR, if_neg (by omega), if_pos h, h1]
      · rw [proofS_ge l i (by omega) (by rw [hl]; exact h), hl, List.reverse_append, List.reverse_singleton, List.singleton_append]
        have h1 := ih (n - leftN n) (by omega) (l.drop (leftN n)) (i - leftN n) (by simp; omega) (by omega)
        have e : (l.drop (leftN n)).getD (i - leftN n) [] = l.getD i [] := by
          rw [List.getD_eq_getElem?_getD, List.getD_eq_getElem?_getD, List.getElem?_drop, show leftN n + (i - leftN n) = i by omega]
        rw [e] at h1
        rw [valR, if_neg (by omega), if_neg (by omega), h1]
theorem proofS_32 : ∀ (n : Nat) (l : List Bs) (i : Nat), l.length = n → digestsB (proofS l i) = true := by
  intro n
  induction n using Nat.strongRecOn with
  | _ n ih =>
    intro l i hl
    rcases Nat.lt_or_ge n 2 with h2 | h2
    · rw [proofS_one l i (by omega)]; rfl
    · have hsp := leftN_spec (n := l.length) (by omega)
      rcases Nat.lt_or_ge i (leftN l.length) with h | h
      · rw [proofS_lt l i (by omega) h]
        have := ih (leftN l.length) (by omega) (l.take (leftN l.length)) i (by simp; omega)
        unfold digestsB at *
        rw [List.all_append, this]; simp [rootS_length]
      · rw [proofS_ge l i (by omega) h]
        have := ih (n - leftN l.length) (by omega) (l.drop (leftN l.length)) (i - leftN l.length) (by simp; omega)
        unfold digestsB at *
        rw [List.all_append, this]; simp [rootS_length]
theorem short_of_digests {l : List Bs} (h : digestsB l = true) : Short l := by
  intro s hs
  unfold digestsB at h
  have := List.all_eq_true.1 h s hs
  simp at this; omega
/-- the proof of every entry is accepted -/
theorem ver_proof (l : List Bs) (i : Nat) (hi : i < l.length) : verB (rootS l) l.length i (l.getD i []) (proofS l i) = true := by
  unfold verB
  rw [decide_eq_false (by omega), decide_eq_false (p := (i : Int) ≥ l.length) (by omega), proofS_32 l.length l i rfl, Int.toNat_natCast, Int.toNat_natCast, valR_proof l.length l i rfl hi]
  simp
/-- how many steps a proof has -/
def binS (n : Nat) : Nat := if n = 0 then 0 else Nat.log2 n + 1
theorem binS_half (n : Nat) (h : n ≠ 0) : binS n = binS (n / 2) + 1 := by
  unfold binS
  rw [if_neg h]
  rcases Nat.lt_or_ge n 2 with h2 | h2
  · obtain rfl : n = 1 := by omega
    decide +kernel
  · rw [if_neg (by omega), Nat.log2_def, if_pos h2]
theorem log2_left (n : Nat) (h : 2 ≤ n) : Nat.log2 (leftN n) + 1 ≤ binS n ∧ Nat.log2 (leftN n) = Nat.log2 (n - 1) := by
  unfold leftN binS
  rw [if_neg (by omega), Nat.log2_two_pow]
  refine ⟨?_, rfl⟩
  have h1 := Nat.log2_self_le (n := n - 1) (by omega)
  have := (Nat.le_log2 (n := n) (k := Nat.log2 (n - 1)) (by omega)).2 (by omega)
  omega
/-- a proof has at most as many steps as n - 1 has binary digits -/
theorem proofS_short : ∀ (n : Nat) (l : List Bs) (i : Nat), l.length = n → 1 ≤ n → (proofS l i).length ≤ binS (n - 1) := by
  intro n
  induction n using Nat.strongRecOn with
  | _ n ih =>
    intro l i hl hn
    rcases Nat.lt_or_ge n 2 with h2 | h2
    · rw [proofS_one l i (by omega)]; simp
    · have hsp := leftN_spec (n := n) h2
      have hb : binS (n - 1) = Nat.log2 (n - 1) + 1 := by unfold binS; rw [if_neg (by omega)]
      have hk : leftN n = 2 ^ Nat.log2 (n - 1) := rfl
      -- what is below a power of two has no more digits than its exponent
      have hlow : ∀ m, 1 ≤ m → m ≤ leftN n → binS (m - 1) ≤ Nat.log2 (n - 1) := by
        intro m h1 h2'
        unfold binS
        split
        · omega
        · rename_i h0
          have := (Nat.log2_lt h0 (k := Nat.log2 (n - 1))).2 (by omega)
          omega
      rcases Nat.lt_or_ge i (leftN l.length) with h | h
      · rw [proofS_lt l i (by omega) h, hl]
        have h1 := ih (leftN n) (by omega) (l.take (leftN n)) i (by simp; omega) (by omega)
        have := hlow (leftN n) (by omega) (Nat.le_refl _)
        simp; omega
      · rw [proofS_ge l i (by omega) h, hl]
        have h1 := ih (n - leftN n) (by omega) (l.drop (leftN n)) (i - leftN n) (by simp; omega) (by omega)
        have := hlow (n - leftN n) (by omega) (by omega)
        simp; omega
theorem binS_mono (a b : Nat) (h : a ≤ b) : binS a ≤ binS b := by
  unfold binS
  split
  · omega
  · rename_i h0
    rw [if_neg (by omega)]
    have h1 := Nat.log2_self_le h0
    have := (Nat.le_log2 (n := b) (k := Nat.log2 a) (by omega)).2 (by omega)
    omega
theorem valR_len (s t : Bs) : ∀ (q r : List Bs) (n i : Nat), (valR s q n i).2 = true → (valR t r n i).2 = true → q.length = r.length := by
  intro q
  induction q with
  | nil =>
    intro r n i h1 h2
    rcases r with _ | ⟨y, r⟩
    · rfl
    · have hn : n = 1 := by unfold valR at h1; split at h1 <;> simp_all
      subst hn
      simp [valR] at h2
  | cons x q ih =>
    intro r n i h1 h2
    have hn : n ≠ 1 := by rintro rfl; simp [valR] at h1
    rcases r with _ | ⟨y, r⟩
    · unfold valR at h2; rw [if_neg hn] at h2; simp at h2
    · rw [valR, if_neg hn] at h1 h2
      rw [List.length_cons, List.length_cons]
      split at h1
      · rename_i h
        rw [if_pos h] at h2
        rw [ih r _ _ h1 h2]
      · rename_i h
        rw [if_neg h] at h2
        rw [ih r _ _ h1 h2]
/-- a proof with another length is refused -/
theorem ver_other (l p : List Bs) (root s : Bs) (i : Nat) (hi : i < l.length) (hp : p.length ≠ (proofS l i).length) : verB root l.length i s p = false := by
  have h1 := valR_proof l.length l i rfl hi
  cases hb : verB root l.length i s p with
  | false => rfl
  | true =>
    unfold verB at hb
    simp only [Bool.and_eq_true, Int.toNat_natCast] at hb
    have := valR_len (l.getD i []) s (proofS l i).reverse p.reverse l.length i (by rw [h1]) hb.1.2
    simp at this; omega
theorem ver_outside (root s : Bs) (n i : Int) (p : List Bs) (h : ¬ (0 ≤ i ∧ i < n)) : verB root n i s p = false := by
  unfold verB
  by_cases h0 : i < 0
  · rw [decide_eq_true h0]; rfl
  · rw [decide_eq_true (p := i ≥ n) (by omega)]; simp
end Go.SX

namespace Go.SX
open Go.Proofs
set_option linter.unusedSimpArgs false
set_option linter.unusedVariables false
set_option maxHeartbeats 4000000
set_option maxRecDepth 100000
theorem meets_view {C : Cod} {P : Program} {D : Codec C} {f : FuncId} {args args' : List (SV C)} {ret : SV C} {H1 : List (HS C)} (hM : Meets P D f args' [] ret H1) (h : Seen [] [] args args') : Meets P D f args [] ret H1 := by
  refine ⟨hM.enter, fun w E hm vs hs hd => hM.calls w E hm vs hs (view_denA hs ⟨fun _ h => h, fun j d e => by simp [ixO] at e, fun j e => by simp [ixL] at e, fun c b _ e => ?_⟩ args args' vs h.h hd)⟩
  rw [hm c (Nat.zero_le c)] at e
  cases e
/-- a contract over what lasts, at what the caller owns -/
theorem meets_own {C : Cod} {P : Program} {D : Codec C} {f : FuncId} {args args' : List (SV C)} {ret : SV C} {H1 : List (HS C)} (hM : Meets P D f args' [] ret []) (hv : Seen H1 [] args args') (hp : plainS ret = true) : Meets P D f args H1 ret H1 := by
  refine ⟨hM.enter, fun w E hm vs hs hd => ?_⟩
  let B0 : Base := ⟨w, { F := E.F, β := fun _ => .fresh }, fun _ => True, 0, fun _ _ => rfl⟩
  have hf0 : Fr B0 E w := ⟨rfl, rfl, rfl, Nat.le_refl _, fun b _ ho => absurd trivial ho, ⟨fun b hb => ⟨hb, rfl⟩, fun c => .inr (.inr rfl), fun c b e => by cases e⟩, fun b _ => .inr (.inl trivial), fun c b _ => .inl trivial⟩
  obtain ⟨g1, g2, g3⟩ := view_env hs hf0 (θ := []) (Hp' := []) ⟨trivial, rfl, rfl⟩
  have hd' := view_denA hs g1 args args' vs hv.h hd
  refine (hM.calls w (E.view [] []) (fun c _ => rfl) vs g2 hd').mono ?_
  rintro e w' ⟨v, E', rfl, hv', _, hfr⟩
  have hsame : ∀ b, b < w.heap.size → w'.heap[b]? = w.heap[b]? := fun b hb => hfr.same b hb (by rintro ⟨c, hc⟩; cases hc)
  exact ⟨v, E, rfl, plainS_den ret v hp hv', hs.same hsame hfr.size, (Fr.here (m := H1.length) (hm := hm)).on hs.F hsame hfr.size hfr.os hfr.tape hfr.output⟩
theorem binary_meets (n : Nat) (hn : n < 1000000) : Meets Tryd.prog Dc 27 [.p (.int .i64 (n : Int))] [] (.p (.int .i64 (binS n : Int))) [] := by
  refine meets_of_gx Ax tab_ok Tryd.func27 (c := _) rfl Tryd.call27 400 ?_
  (repeat' ((conv => whnf); first | (exfalso; omega) | (refine end_fn [] (.inr rfl) ?_ trivial rfl rfl) | (refine split_nd (fun hb => ?_) (fun hb => ?_)) | (refine split_d (fun hb => ?_) (fun hb => ?_)) | (refine split_n (fun hb => ?_) (fun hb => ?_)) | (refine split_x (fun hb => ?_) (fun hb => ?_)) | (refine And.intro (TraceOK.mk (by kernel_rfl)) ?_) | (refine Side.mk ?_; (repeat' (first | refine And.intro ?_ ?_ | exact inR_i64 (by omega) (by omega) | omega | rfl | exact trivial | exact none_ne rfl | exact some_ne rfl (Nat.ne_of_beq_eq_false rfl) | exact Nat.ne_of_beq_eq_false rfl | (dsimp only [srcSide]; omega) | (simp; done) | (simp; omega))); done) | (refine side_and ?_ ?_) | (refine drawX_of mixed ?_)))
  refine loop_up (fun m : Nat => [(0, .p (.int .i64 m)), (3, .p (.int .i64 ((binS n : Int) - binS m)))]) (fun _ => []) (fun m => m ≤ n) (fun m => m) n (Nat.le_refl _) ⟨by (rw [show ((binS n : Int) - binS n) = 0 by omega]; (repeat' (first | refine EndV.mk ?_ | exact trivial | exact rfl | refine And.intro ?_ ?_))), by (repeat' (first | refine EndV.mk ?_ | exact trivial | exact rfl | refine And.intro ?_ ?_)), rfl, rfl⟩ ?_
  intro m hm K hK
  have hb : binS m ≤ binS n := binS_mono m n hm
  have hb2 : binS n ≤ 20 := by
    unfold binS
    split
    · omega
    · rename_i h
      have := (Nat.log2_lt h (k := 20)).2 (by omega)
      omega
  rcases Nat.eq_zero_or_pos m with h0 | h0
  · subst h0
    clear hK
    rw [show ((binS n : Int) - binS 0) = binS n by simp [binS]]
    (repeat' ((conv => whnf); first | (exfalso; omega) | (refine end_fn [] (.inr rfl) ?_ trivial rfl rfl) | (refine split_nd (fun hb => ?_) (fun hb => ?_)) | (refine split_d (fun hb => ?_) (fun hb => ?_)) | (refine split_n (fun hb => ?_) (fun hb => ?_)) | (refine split_x (fun hb => ?_) (fun hb => ?_)) | (refine And.intro (TraceOK.mk (by kernel_rfl)) ?_) | (refine Side.mk ?_; (repeat' (first | refine And.intro ?_ ?_ | exact inR_i64 (by omega) (by omega) | omega | rfl | exact trivial | exact none_ne rfl | exact some_ne rfl (Nat.ne_of_beq_eq_false rfl) | exact Nat.ne_of_beq_eq_false rfl | (dsimp only [srcSide]; omega) | (simp; done) | (simp; omega))); done) | (refine side_and ?_ ?_) | (refine drawX_of mixed ?_)))
    all_goals (repeat' (first | refine EndV.mk ?_ | exact trivial | exact rfl | refine And.intro ?_ ?_))
  · have hh := binS_half m (by omega)
    have hd : (m : Int).tdiv 2 = ((m / 2 : Nat) : Int) := by rw [Int.tdiv_eq_ediv_of_nonneg (by omega)]; norm_cast
    have he : (binS n : Int) - binS m + 1 = (binS n : Int) - binS (m / 2) := by omega
    (repeat' ((conv => whnf); first | (exfalso; omega) | (rw [hd]) | (refine hK (m / 2) [] _ _ ?_ ?_ ?_) | (refine end_fn [] (.inr rfl) ?_ trivial rfl rfl) | (refine split_nd (fun hb => ?_) (fun hb => ?_)) | (refine split_d (fun hb => ?_) (fun hb => ?_)) | (refine split_n (fun hb => ?_) (fun hb => ?_)) | (refine split_x (fun hb => ?_) (fun hb => ?_)) | (refine And.intro (TraceOK.mk (by kernel_rfl)) ?_) | (refine Side.mk ?_; (repeat' (first | refine And.intro ?_ ?_ | exact inR_i64 (by omega) (by omega) | omega | rfl | exact trivial | exact none_ne rfl | exact some_ne rfl (Nat.ne_of_beq_eq_false rfl) | exact Nat.ne_of_beq_eq_false rfl | (dsimp only [srcSide]; omega) | (simp; done) | (simp; omega))); done) | (refine side_and ?_ ?_) | (refine drawX_of mixed ?_)))
    dsimp only
    rw [← he]
    (refine Back.mk ?_ ?_ rfl rfl <;> (repeat' (first | refine EndV.mk ?_ | exact trivial | exact rfl | refine And.intro ?_ ?_)))
theorem accept_walk (l : List Bs) (i : Int) (hi : -9223372036854775808 ≤ i) (hi2 : i < 9223372036854775808) :
    Meets Tryd.prog Dc 5 [.p (.dsl U.str l), .p (.int .i64 i)] [] (.p (.bool true)) [] := by
  have hf := few_meets l 40 (by omega)
  have hS := fewS_short l 40
  have hL := fewS_length l 40
  generalize fewS l 40 = w at *
  have hsane := sane_meets
  have c5 := rootM w (by omega) hS
  have hrl := rootS_length w
  refine meets_of_gx Ax tab_ok Tryd.func5 (c := _) rfl Tryd.call5 600 ?_
  (repeat' ((conv => whnf); first | (exfalso; omega) | (refine callx_pure (hsane) rfl rfl ?_) | (refine dcallx_pure (hsane) rfl rfl ?_) | (refine callx_pure (hf) rfl rfl ?_) | (refine dcallx_pure (hf) rfl rfl ?_) | (refine callx_pure (c5) rfl rfl ?_) | (refine dcallx_pure (c5) rfl rfl ?_) | (refine end_fn [] (.inr rfl) ?_ trivial rfl rfl) | (refine split_nd (fun hb => ?_) (fun hb => ?_)) | (refine split_d (fun hb => ?_) (fun hb => ?_)) | (refine split_n (fun hb => ?_) (fun hb => ?_)) | (refine split_x (fun hb => ?_) (fun hb => ?_)) | (refine And.intro (TraceOK.mk (by kernel_rfl)) ?_) | (refine Side.mk ?_; (repeat' (first | refine And.intro ?_ ?_ | exact inR_i64 (by omega) (by omega) | omega | rfl | exact trivial | exact none_ne rfl | exact some_ne rfl (Nat.ne_of_beq_eq_false rfl) | exact Nat.ne_of_beq_eq_false rfl | (dsimp only [srcSide]; omega) | (simp; done) | (simp; omega))); done) | (refine side_and ?_ ?_) | (refine drawX_of mixed ?_)))
  refine loop_up (fun k : Nat => [(7, .p (.int .i64 k))]) (fun _ => []) (fun k => k ≤ w.length) (fun k => w.length - k) 0 (Nat.zero_le _) ⟨by (repeat' (first | refine EndV.mk ?_ | exact trivial | exact rfl | refine And.intro ?_ ?_)), by (repeat' (first | refine EndV.mk ?_ | exact trivial | exact rfl | refine And.intro ?_ ?_)), rfl, rfl⟩ ?_
  intro k hk K hK
  have cb := binary_meets w.length (by omega)
  rcases Nat.lt_or_ge k w.length with hlt | hge
  · have c1 := proofM w k (by omega) (by omega) (by omega) hS
    rw [if_pos (by omega), Int.toNat_natCast] at c1
    have hp := ver_proof w k hlt
    have hpl := proofS_len w k hlt
    have hps := proofS_short w.length w k rfl (by omega)
    have hbm := binS_mono (w.length - 1) w.length (by omega)
    have hdg := short_of_digests (proofS_32 w.length w k rfl)
    have c2 := verify_meets (rootS w) w.length k (by omega) (by omega) (w.getD k []) (hS.getD k) (proofS w k) (by omega) hdg
    rw [hp, show w.getD k [] = w.getD (k : Int).toNat (Cd.dflt U.str) from rfl] at c2
    clear hp
    generalize proofS w k = p at *
    generalize rootS w = rt at *
    generalize binS w.length = bl at *
    (repeat' ((conv => whnf); first | (exfalso; omega) | (refine callx_pure (c1) rfl rfl ?_) | (refine dcallx_pure (c1) rfl rfl ?_) | (refine callx_pure (cb) rfl rfl ?_) | (refine dcallx_pure (cb) rfl rfl ?_) | (refine callx_pure (c2) rfl rfl ?_) | (refine dcallx_pure (c2) rfl rfl ?_) | (refine hK (k + 1) [] _ _ ?_ ?_ ?_) | (refine Back.mk ?_ ?_ rfl rfl <;> (repeat' (first | refine EndV.mk ?_ | exact trivial | exact rfl | refine And.intro ?_ ?_))) | (refine end_fn [] (.inr rfl) ?_ trivial rfl rfl) | (refine split_nd (fun hb => ?_) (fun hb => ?_)) | (refine split_d (fun hb => ?_) (fun hb => ?_)) | (refine split_n (fun hb => ?_) (fun hb => ?_)) | (refine split_x (fun hb => ?_) (fun hb => ?_)) | (refine And.intro (TraceOK.mk (by kernel_rfl)) ?_) | (refine Side.mk ?_; (repeat' (first | refine And.intro ?_ ?_ | exact inR_i64 (by omega) (by omega) | omega | rfl | exact trivial | exact none_ne rfl | exact some_ne rfl (Nat.ne_of_beq_eq_false rfl) | exact Nat.ne_of_beq_eq_false rfl | (dsimp only [srcSide]; omega) | (simp; done) | (simp; omega))); done) | (refine side_and ?_ ?_) | (refine drawX_of mixed ?_)))
  · clear hK
    have c1 := proofM w i hi hi2 (by omega) hS
    by_cases hin : 0 ≤ i ∧ i < w.length
    · rw [if_pos hin] at c1
      obtain ⟨i, rfl⟩ : ∃ m : Nat, i = m := ⟨i.toNat, by omega⟩
      rw [Int.toNat_natCast] at c1
      have hpl := proofS_len w i (by omega)
      have hdg := short_of_digests (proofS_32 w.length w i rfl)
      have hl1 : (proofS w i ++ [rootS w]).length = (proofS w i).length + 1 := by simp
      have c2 := verify_meets (rootS w) w.length i (by omega) (by omega) (w.getD i []) (hS.getD i) (proofS w i ++ [rootS w]) (by omega) (fun s hs => by
        rcases List.mem_append.1 hs with h | h
        · exact hdg s h
        · rw [List.mem_singleton.1 h, hrl]; omega)
      rw [ver_other w _ _ _ i (by omega) (by omega), show w.getD i [] = w.getD (i : Int).toNat (Cd.dflt U.str) from rfl] at c2
      have hx : decide ((i : Int) < w.length) = decide ((0 : Int) = 0) := by rw [decide_eq_true (by omega)]; rfl
      have es : List.take (List.take 0 [] ++ proofS w i).length (List.take 0 [] ++ proofS w i) ++ List.take 1 (List.drop 0 [rootS w]) = proofS w i ++ [rootS w] := by simp
      have c2o : Meets Tryd.prog Dc 23 [.p (.str (rootS w)), .p (.int .i64 (w.length : Int)), .p (.int .i64 (i : Int)), .p (.str (w.getD (i : Int).toNat (Cd.dflt U.str))), .slice 0 0 1 0 (proofS w i ++ [rootS w]).length] [.rows U.str (proofS w i ++ [rootS w])] (.p (.bool false)) [.rows U.str (proofS w i ++ [rootS w])] := by
        generalize proofS w i ++ [rootS w] = z at *
        exact meets_own c2 ⟨by (repeat' (first | refine EndV.mk ?_ | exact trivial | exact rfl | refine And.intro ?_ ?_)); exact ⟨_, rfl, rfl, rfl, by simp, by (first | (simp; done) | (simp [List.take_of_length_le]; done) | (simp [List.take_of_length_le]; rfl)), rfl⟩⟩ rfl
      have hl1 : (proofS w i ++ [rootS w]).length = (proofS w i).length + 1 := by simp
      by_cases hp0 : (proofS w i).length = 0
      · generalize proofS w i = p at *
        generalize rootS w = rt at *
        (repeat' ((conv => whnf); first | (exfalso; omega) | (exact absurd hx hb) | (refine callx_pure (c1) rfl rfl ?_) | (refine dcallx_pure (c1) rfl rfl ?_) | (rw [es]) | (refine dcallh [some 3] c2o rfl rfl ⟨rfl, trivial⟩ ?_) | (refine end_fn [] (.inr rfl) ?_ trivial rfl rfl) | (refine split_nd (fun hb => ?_) (fun hb => ?_)) | (refine split_d (fun hb => ?_) (fun hb => ?_)) | (refine split_n (fun hb => ?_) (fun hb => ?_)) | (refine split_x (fun hb => ?_) (fun hb => ?_)) | (refine And.intro (TraceOK.mk (by kernel_rfl)) ?_) | (refine Side.mk ?_; (repeat' (first | refine And.intro ?_ ?_ | exact inR_i64 (by omega) (by omega) | omega | rfl | exact trivial | exact none_ne rfl | exact some_ne rfl (Nat.ne_of_beq_eq_false rfl) | exact Nat.ne_of_beq_eq_false rfl | (dsimp only [srcSide]; omega) | (simp; done) | (simp; omega))); done) | (refine side_and ?_ ?_) | (refine drawX_of mixed ?_)))
        all_goals (repeat' (first | refine EndV.mk ?_ | exact trivial | exact rfl | refine And.intro ?_ ?_))
      · have hl2 : ((proofS w i).drop 1).length = (proofS w i).length - 1 := by simp
        have c3 := verify_meets (rootS w) w.length i (by omega) (by omega) (w.getD i []) (hS.getD i) ((proofS w i).drop 1) (by omega) (hdg.drop 1)
        rw [ver_other w _ _ _ i (by omega) (by omega), show w.getD i [] = w.getD (i : Int).toNat (Cd.dflt U.str) from rfl, show (proofS w i).drop 1 = List.drop (Int.toNat 1) (List.take ((proofS w i).length : Int).toNat (proofS w i)) by rw [Int.toNat_natCast, List.take_length]; rfl] at c3
        generalize proofS w i = p at *
        generalize rootS w = rt at *
        (repeat' ((conv => whnf); first | (exfalso; omega) | (exact absurd hx hb) | (refine callx_pure (c1) rfl rfl ?_) | (refine dcallx_pure (c1) rfl rfl ?_) | (rw [es]) | (refine dcallh [some 3] c2o rfl rfl ⟨rfl, trivial⟩ ?_) | (refine callx_pure (c3) rfl rfl ?_) | (refine dcallx_pure (c3) rfl rfl ?_) | (refine end_fn [] (.inr rfl) ?_ trivial rfl rfl) | (refine split_nd (fun hb => ?_) (fun hb => ?_)) | (refine split_d (fun hb => ?_) (fun hb => ?_)) | (refine split_n (fun hb => ?_) (fun hb => ?_)) | (refine split_x (fun hb => ?_) (fun hb => ?_)) | (refine And.intro (TraceOK.mk (by kernel_rfl)) ?_) | (refine Side.mk ?_; (repeat' (first | refine And.intro ?_ ?_ | exact inR_i64 (by omega) (by omega) | omega | rfl | exact trivial | exact none_ne rfl | exact some_ne rfl (Nat.ne_of_beq_eq_false rfl) | exact Nat.ne_of_beq_eq_false rfl | (dsimp only [srcSide]; omega) | (simp; done) | (simp; omega))); done) | (refine side_and ?_ ?_) | (refine drawX_of mixed ?_)))
        all_goals (repeat' (first | refine EndV.mk ?_ | exact trivial | exact rfl | refine And.intro ?_ ?_))
    · rw [if_neg hin] at c1
      have c2 := verify_meets (rootS w) w.length i (by omega) (by omega) [] (by simp) [] (by simp) (fun s hs => by simp at hs)
      rw [ver_outside _ _ _ _ _ hin] at c2
      have c2 : Meets Tryd.prog Dc 23 [.p (.str (rootS w)), .p (.int .i64 (w.length : Int)), .p (.int .i64 i), .p (.str []), .p (.lit (.slice none 0 0))] [] (.p (.bool false)) [] := meets_view c2 (by refine ⟨?_⟩; (repeat' (first | refine EndV.mk ?_ | exact trivial | exact rfl | refine And.intro ?_ ?_)))
      generalize rootS w = rt at *
      by_cases h0 : 0 ≤ i
      · have hx : decide (i < w.length) = decide ((2 : Int) = 0) := by rw [decide_eq_false (by omega)]; rfl
        (repeat' ((conv => whnf); first | (exfalso; omega) | (exact absurd hx hb) | (refine callx_pure (c1) rfl rfl ?_) | (refine dcallx_pure (c1) rfl rfl ?_) | (refine callx_pure (c2) rfl rfl ?_) | (refine dcallx_pure (c2) rfl rfl ?_) | (refine end_fn [] (.inr rfl) ?_ trivial rfl rfl) | (refine split_nd (fun hb => ?_) (fun hb => ?_)) | (refine split_d (fun hb => ?_) (fun hb => ?_)) | (refine split_n (fun hb => ?_) (fun hb => ?_)) | (refine split_x (fun hb => ?_) (fun hb => ?_)) | (refine And.intro (TraceOK.mk (by kernel_rfl)) ?_) | (refine Side.mk ?_; (repeat' (first | refine And.intro ?_ ?_ | exact inR_i64 (by omega) (by omega) | omega | rfl | exact trivial | exact none_ne rfl | exact some_ne rfl (Nat.ne_of_beq_eq_false rfl) | exact Nat.ne_of_beq_eq_false rfl | (dsimp only [srcSide]; omega) | (simp; done) | (simp; omega))); done) | (refine side_and ?_ ?_) | (refine drawX_of mixed ?_)))
        all_goals (repeat' (first | refine EndV.mk ?_ | exact trivial | exact rfl | refine And.intro ?_ ?_))
      · (repeat' ((conv => whnf); first | (exfalso; omega) | (refine callx_pure (c1) rfl rfl ?_) | (refine dcallx_pure (c1) rfl rfl ?_) | (refine callx_pure (c2) rfl rfl ?_) | (refine dcallx_pure (c2) rfl rfl ?_) | (refine end_fn [] (.inr rfl) ?_ trivial rfl rfl) | (refine split_nd (fun hb => ?_) (fun hb => ?_)) | (refine split_d (fun hb => ?_) (fun hb => ?_)) | (refine split_n (fun hb => ?_) (fun hb => ?_)) | (refine split_x (fun hb => ?_) (fun hb => ?_)) | (refine And.intro (TraceOK.mk (by kernel_rfl)) ?_) | (refine Side.mk ?_; (repeat' (first | refine And.intro ?_ ?_ | exact inR_i64 (by omega) (by omega) | omega | rfl | exact trivial | exact none_ne rfl | exact some_ne rfl (Nat.ne_of_beq_eq_false rfl) | exact Nat.ne_of_beq_eq_false rfl | (dsimp only [srcSide]; omega) | (simp; done) | (simp; omega))); done) | (refine side_and ?_ ?_) | (refine drawX_of mixed ?_)))
        all_goals (repeat' (first | refine EndV.mk ?_ | exact trivial | exact rfl | refine And.intro ?_ ?_))
end Go.SX
