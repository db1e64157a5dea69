/-
  Plain law: the images of a goal are those of exposures; what the statements about prices and images say.
-/
import Derived.Test.YtdaghncicimipaaGreatDoorSxTq0
import Derived.Test.YtdaghncicimipaaGreatDoorSxTd2
import Derived.Test.YtdaghncicimipaaGreatDoorSxTd7
import Derived.Test.YtdaghncicimipaaGreatDoorSxTd9
import Derived.Test.YtdaghncicimipaaGreatDoorSxV3
import Derived.ProofKit
import Derived.OpenShut
import Derived.ShutString
import Derived.ChangeOld
import Derived.Below
import Derived.Carry
import Derived.Deep.Slices
import Derived.LaidMore
import Derived.ChangeMaps5
import Derived.Lay
import Derived.SevenTiedAt
import Derived.Stop.Joined
import Derived.Test.YtdaghncicimipaaGreatDoorTie
import Derived.Test.YtdaghncicimipaaGreatDoorCards
import Derived.Test.YtdaghncicimipaaGreatDoorSxTb3
set_option linter.unusedVariables false
set_option linter.unusedSimpArgs false
namespace Go.SX
mutual
theorem mean_asc : ∀ (g : Goal) (l : List Event) (p : Int) (im : List Int), meanG g l = some (p, im) → Asc im
 | ⟨kind, rows, from_, to_, low, high, clear, days, times, within, cents, kids⟩, l, p, im, hm => by
  have hall := all_asc kids
  have hany := any_asc kids
  have hhd := hd_asc kids
  rw [meanG_eq] at hm
  split at hm
  ·unfold seeM at hm
   split at hm
   ·cases hm
   ·injection hm with hm; injection hm with h1 h2; subst h2
    simp [Asc]
  ·split at hm
   ·unfold pairM at hm
    split at hm
    ·cases hm
    ·injection hm with hm; injection hm with h1 h2; subst h2; exact asc_setS
   ·split at hm
    ·unfold everyM at hm
     split at hm
     ·cases hm
     ·injection hm with hm; injection hm with h1 h2; subst h2; exact asc_setS
    ·split at hm
     ·exact hhd _ _ _ hm
     ·split at hm
      ·exact hall _ _ _ _ _ hm trivial
      ·exact hany _ _ _ _ _ (fun q jm h => by cases h) hm
theorem hd_asc : ∀ (ks : List Goal) (l : List Event) (p : Int) (im : List Int), meanH ks l = some (p, im) → Asc im
 | [], l, p, im, hm => by rw [meanH] at hm; cases hm
 | k :: ks, l, p, im, hm => by
  rw [meanH] at hm
  exact mean_asc k l p im hm
theorem all_asc : ∀ (ks : List Goal) (l : List Event) (p : Int) (im : List Int) (q : Int) (jm : List Int), meanAll ks l p im = some (q, jm) → Asc im → Asc jm
 | [], l, p, im, q, jm, hm, h => by
  rw [meanAll] at hm; injection hm with hm; injection hm with h1 h2; subst h2; exact h
 | k :: ks, l, p, im, q, jm, hm, h => by
  rw [meanAll] at hm
  split at hm
  ·cases hm
  ·exact all_asc ks l _ _ _ _ hm asc_setS
theorem any_asc : ∀ (ks : List Goal) (cs : List Int) (l : List Event) (acc : Sen) (q : Int) (jm : List Int), (∀ q jm, acc = some (q, jm) → Asc jm) → meanAny ks cs l acc = some (q, jm) → Asc jm
 | [], cs, l, acc, q, jm, h, hm => by rw [meanAny] at hm; exact h _ _ hm
 | k :: ks, cs, l, acc, q, jm, h, hm => by
  rw [meanAny] at hm
  refine any_asc ks cs.tail l _ q jm (fun q jm hs => ?_) hm
  rcases stepAny_some hs with hs | ⟨p, h1, h2⟩
  ·exact h _ _ hs
  ·exact mean_asc k l _ _ h1
end
theorem asc_lt : ∀ {l : List Int}, Asc l → l.Pairwise (· < ·)
 | [], _ => List.Pairwise.nil
 | a :: l, h => List.Pairwise.cons h.1 (asc_lt h.2)
end Go.SX

namespace Go.SX
open Go.Proofs
set_option maxHeartbeats 4000000
set_option maxRecDepth 100000
mutual
theorem size_gall : ∀ (g : Goal) (d n : Int), sizeG g d = some n → GAll g
 | ⟨kind, rows, from_, to_, low, high, clear, days, times, within, cents, kids⟩, d, n, hs => by
  have hL := sizeL_gall kids
  obtain ⟨hok, hd, m, hm, rfl⟩ := size_ok hs
  rw [GAll_iff]
  refine ⟨?_, hL _ _ hm⟩
  unfold okB at hok
  simp only [Bool.and_eq_true] at hok
  obtain ⟨⟨⟨h1, h2⟩, h3⟩, h4⟩ := hok
  unfold partsB at h4
  simp only [Bool.and_eq_true, Bool.or_eq_true, decide_eq_true_eq] at h4
  obtain ⟨⟨⟨h5, h6⟩, h7⟩, h8⟩ := h4
  have hk : (kids.length : Int) ≤ 4 := by
   unfold manyB at h5
   split at h5
   ·simp only [decide_eq_true_eq] at h5; (try dsimp only at h5); omega
   ·split at h5
    ·rw [inB_iff] at h5; exact h5.2
    ·simp only [decide_eq_true_eq] at h5; (try dsimp only at h5); omega
  have hc : (cents.length : Int) ≤ 4 := by
   unfold centsB at h6
   split at h6
   ·simp only [Bool.and_eq_true, decide_eq_true_eq] at h6; (try dsimp only at h6); omega
   ·simp only [decide_eq_true_eq] at h6; (try dsimp only at h6); omega
  have hr : (rows.length : Int) ≤ 24 := by
   rcases h7 with h7 | h7
   ·unfold limB at h3
    rw [if_pos h7] at h3
    simp only [Bool.and_eq_true] at h3
    have ha := h3.1.1.1.1.1
    unfold areaB at ha
    simp only [Bool.and_eq_true, decide_eq_true_eq] at ha
    try dsimp only at ha
    omega
   ·(try dsimp only at h7); omega
  exact ⟨by dsimp only; omega, by dsimp only; omega, by dsimp only; omega⟩
theorem sizeL_gall : ∀ (l : List Goal) (d n : Int), sizeL l d = some n → GAllL l
 | [], d, n, hs => by rw [GAllL]; trivial
 | k :: l, d, n, hs => by
  rw [sizeL] at hs
  rw [GAllL]
  split at hs
  ·cases hs
  ·rename_i m hm
   split at hs
   ·cases hs
   ·rename_i q hq
    exact ⟨size_gall k d m hm, sizeL_gall l d q hq⟩
end
theorem valid_gall {g : Goal} (h : validG g = true) : GAll g := by
 unfold validG at h
 split at h
 ·cases h
 ·rename_i n hn
  exact size_gall g 1 n hn
theorem lmade (xs : List A5) (ys : List A4) (hx : ∀ y ∈ xs, A5OK y) (hxl : (xs.length : Int) ≤ 9223372036854775807) (hy : ∀ y ∈ ys, A4OK y) (hyl : (ys.length : Int) ≤ 9223372036854775807) : Meets Tryz.prog Dc 10 [.agg [a5S xs, a4S ys]] [] (.tuple [goalA (goalS xs), eS (eventsS (goalS xs) ys)]) [] := by
 have h1 := rGoal xs hx hxl
 have h2 := revents (goalS xs) (valid_gall (goal_valid xs)) ys hy hyl
 generalize eventsS (goalS xs) ys = l at *
 generalize goalS xs = g at *
 refine meets_of_gx Ax tab_ok Tryz.func10 (c := _) rfl Tryz.call10 100 ?_
 (repeat' ((conv => whnf); first | refine cpC (h1) ?_ | refine dpC (h2) ?_ | refine x0C ?_ | refine taC ?_ | refine drawX_of mixed ?_))
 all_goals exact vwV
end Go.SX

/-
 SX, part Z: arguments that are read as data, as symbolic values; from a contract to the end of a row's call.
-/
namespace Go.SX
open Go.ChangeShapes Go.WideShapes Go.RowKit Go.Deep
variable {C : Cod} {D : Codec C} {H : Type} {enc : TypeId × Value → H} {P : Program} {W : World}

/-- the blocks that were there -/
def Old (W : World) : Nat → Prop := fun b => b < W.heap.size
/-- The cells of type e, wherever they read, are those of an element of u. -/
structure ReadsAs (D : Codec C) (enc : TypeId × Value → H) (P : Program) (W : World) (e : TypeId) (u : C.U) (Ok : C.El u → Prop) : Prop where
 n : P.cellsOf e = C.n u
 el : ∀ fuel cs x, DataW.trod enc P W 0 (fun _ => true) true fuel e cs = some x → ∃ y : C.El u, PDenL D W (Old W) (D.enc u y) cs ∧ Ok y

theorem cell_old {a : Addr} {v : Value} (h : W.cell? a = some v) : a.block < W.heap.size := by
 unfold World.cell? at h
 rcases Nat.lt_or_ge a.block W.heap.size with h' | h'
 ·exact h'
 ·rw [Array.getElem?_eq_none h'] at h
  simp at h

theorem add_none (b o i : Nat) : (⟨b, o, none⟩ : Addr).add i = ⟨b, o + i, none⟩ := by
 unfold Addr.add
 split <;> simp_all

theorem readSlice {t e : TypeId} {u : C.U} {Ok : C.El u → Prop} (R : ReadsAs D enc P W e u Ok) (ht : P.underlying t = some (.slice e)) {fuel : Nat} {cs : List Value} {x : DataW H × List MemPlace}
  (h : DataW.trod enc P W 0 (fun _ => true) true fuel t cs = some x) :
  ∃ (v : Value) (l : List (C.El u)), cs = [v] ∧ PDen D W (Old W) (.dsl u l) v ∧ (∀ y ∈ l, Ok y) ∧ l.length ≤ maxLen := by
 rcases open_slice ht h with ⟨rfl, _⟩ | ⟨a, len, cap, m, n, Dd, Pl, rfl, _, hl, hm, hmm, _, hx⟩
 ·exact ⟨_, [], rfl, .dslNil u none 0, by simp, by simp⟩
 ·have hlm : len ≤ m := by rw [hmm]; split <;> omega
  by_cases h0 : len = 0
  ·subst h0; exact ⟨_, [], rfl, .dslNil u (some a) cap, by simp, by simp⟩
  haveI : Inhabited (C.El u) := ⟨C.dflt u⟩
  obtain ⟨f, hf⟩ := choose_lt (n := len) (p := fun i (y : C.El u) => ∃ cs', W.cells? 0 (a.add (i * P.cellsOf e)) (P.cellsOf e) = some cs' ∧ PDenL D W (Old W) (D.enc u y) cs' ∧ Ok y) (fun i hi => by
   obtain ⟨cs', h1, h2⟩ := hx i (by omega)
   obtain ⟨y, h3, h4⟩ := R.el n cs' _ h2
   exact ⟨y, cs', h1, h3, h4⟩)
  have hn := R.n
  have hnp := D.n_pos u
  -- the address is a plain one
  have hspot : a.spot = none := by
   obtain ⟨cs', h1, h2, _⟩ := hf 0 (by omega)
   obtain ⟨_, hlen, hc⟩ := World.cells?_some h1
   have := hc 0 (by omega)
   have hv : ∃ v, cs'[0]? = some v := ⟨cs'[0]'(by omega), by rw [List.getElem?_eq_getElem]⟩
   obtain ⟨v, hv⟩ := hv
   rw [hv] at this
   have hs := World.cell?_spot this
   simpa [Addr.add] using hs
  obtain ⟨b, o, sp⟩ := a
  simp only at hspot
  subst hspot
  have hcell : ∀ i, i < len → ∀ j, j < C.n u → ∃ v, W.cell? ⟨b, o + i * C.n u + j, none⟩ = some v ∧ ∀ pv, (D.enc u (f i))[j]? = some pv → PDen D W (Old W) pv v := by
   intro i hi j hj
   obtain ⟨cs', h1, h2, _⟩ := hf i hi
   rw [hn, add_none] at h1
   obtain ⟨_, hlen, hc⟩ := World.cells?_some h1
   have := hc j hj
   rw [add_none] at this
   have hv : cs'[j]? = some (cs'[j]'(by omega)) := by rw [List.getElem?_eq_getElem]
   rw [hv] at this
   exact ⟨_, this, fun pv hp => h2.2 j pv _ hp hv⟩
  have hen : ∀ y, (D.enc u y).length = C.n u := D.enc_len u
  refine ⟨_, (List.range len).map f, rfl, ?_, ?_, ?_⟩
  ·have key := PDen.dsl (D := D) (w := W) (F := Old W) u ((List.range len).map f) b o cap (fun i j => (W.cell? ⟨b, o + i * C.n u + j, none⟩).getD (.bool false)) ?_ (by simpa using hl) ?_ ?_
   ·simpa using key
   ·intro _
    obtain ⟨v, hv, _⟩ := hcell 0 (by omega) 0 hnp
    exact cell_old hv
   ·intro i x hx j pv hp
    have hi : i < len := by
     rcases Nat.lt_or_ge i len with h' | h'
     ·exact h'
     ·rw [List.getElem?_eq_none (by simpa using h')] at hx; cases hx
    have hxe : x = f i := by simpa [hi] using hx.symm
    subst hxe
    have hj : j < C.n u := by
     rw [← hen (f i)]
     rcases Nat.lt_or_ge j (D.enc u (f i)).length with h' | h'
     ·exact h'
     ·rw [List.getElem?_eq_none h'] at hp; cases hp
    obtain ⟨v, hv, _⟩ := hcell i hi j hj
    rw [hv]; rfl
   ·intro i x hx j pv hp
    have hi : i < len := by
     rcases Nat.lt_or_ge i len with h' | h'
     ·exact h'
     ·rw [List.getElem?_eq_none (by simpa using h')] at hx; cases hx
    have hxe : x = f i := by simpa [hi] using hx.symm
    subst hxe
    have hj : j < C.n u := by
     rw [← hen (f i)]
     rcases Nat.lt_or_ge j (D.enc u (f i)).length with h' | h'
     ·exact h'
     ·rw [List.getElem?_eq_none h'] at hp; cases hp
    obtain ⟨v, hv, hd⟩ := hcell i hi j hj
    rw [hv]; exact hd pv hp
  ·intro y hy
   obtain ⟨i, hi, rfl⟩ := List.mem_map.1 hy
   obtain ⟨_, _, _, hok⟩ := hf i (List.mem_range.1 hi)
   exact hok
  ·simp only [List.length_map, List.length_range]; omega

/-! ### Cells that are integers -/
def i64B (P : Program) (t : TypeId) : Bool := (match P.underlying t with | some (.int .i64) => true | _ => false) && P.cellsOf t == 1
theorem i64_of {t : TypeId} (h : i64B P t = true) : P.underlying t = some (.int .i64) ∧ P.cellsOf t = 1 := by
 unfold i64B at h
 simp only [Bool.and_eq_true, beq_iff_eq] at h
 refine ⟨?_, h.2⟩
 have h1 := h.1
 split at h1
 ·assumption
 ·cases h1
structure Z64 (n : Int) : Prop where
 h : -9223372036854775808 ≤ n ∧ n ≤ 9223372036854775807
theorem i64_wf {n : Int} (h : (Lit.int .i64 n).wf = true) : Z64 n := by
 simp only [Lit.wf, Bool.and_eq_true, decide_eq_true_eq] at h
 exact ⟨⟨h.1, h.2⟩⟩

theorem trod_i64 {t : TypeId} (ht : P.underlying t = some (.int .i64)) {fuel : Nat} {cs : List Value} {x : DataW H × List MemPlace} (h : DataW.trod enc P W 0 (fun _ => true) true fuel t cs = some x) :
  ∃ n, cs = [.int .i64 n] ∧ Z64 n := by
 obtain ⟨n, h1, _, h2⟩ := DataW.trod_int ht h
 exact ⟨n, h1, i64_wf h2⟩

theorem ints_of {n : Nat} {cs : List Value} (hlen : cs.length = n) (h : ∀ i, i < n → ∃ z, (cs.drop i).take 1 = [.int .i64 z] ∧ Z64 z) :
  ∃ zs : List Int, zs.length = n ∧ cs = zs.map (Value.int .i64) ∧ ∀ z ∈ zs, Z64 z := by
 induction cs generalizing n with
 | nil => exact ⟨[], by simpa using hlen, rfl, by simp⟩
 | cons c cs ih =>
  cases n with
  | zero => simp at hlen
  | succ n =>
   obtain ⟨zs, h1, h2, h3⟩ := ih (n := n) (by simpa using hlen) (fun i hi => by simpa using h (i + 1) (by omega))
   obtain ⟨z, hz, hz'⟩ := h 0 (by omega)
   simp at hz
   refine ⟨z :: zs, by simp [h1], by simp [hz, h2], ?_⟩
   intro y hy
   rcases List.mem_cons.1 hy with rfl | hy
   ·exact hz'
   ·exact h3 y hy

theorem trod_array_ints {t e : TypeId} {n : Nat} (ht : P.underlying t = some (.array n e)) (he : i64B P e = true) (hn : P.cellsOf t = n) {fuel : Nat} {cs : List Value} {x : DataW H × List MemPlace}
  (h : DataW.trod enc P W 0 (fun _ => true) true fuel t cs = some x) : ∃ zs : List Int, zs.length = n ∧ cs = zs.map (Value.int .i64) ∧ ∀ z ∈ zs, Z64 z := by
 obtain ⟨xs, m, _, _, hlen, hxs, hel⟩ := DataW.trod_array ht h
 obtain ⟨hu, hc⟩ := i64_of he
 refine ints_of (hlen.trans hn) fun i hi => ?_
 have := hel i hi
 rw [List.getElem?_eq_getElem (by omega), hc, Nat.mul_one] at this
 exact trod_i64 hu this

theorem pdenL_ints (D : Codec C) (w : World) (F : Nat → Prop) (zs : List Int) : PDenL D w F (zs.map (PV.int .i64)) (zs.map (Value.int .i64)) := by
 refine ⟨by simp, fun j pv v hp hv => ?_⟩
 simp only [List.getElem?_map, Option.map_eq_some_iff] at hp hv
 obtain ⟨z, hz, rfl⟩ := hp
 obtain ⟨z', hz', rfl⟩ := hv
 rw [hz] at hz'
 injection hz' with e
 subst e
 exact .int _ _

/-! ### The call's end -/
/-- A law's call: it returns true, and nothing that was there has turned. -/
theorem calls_true {f : FuncId} {svs : List (SV C)} (hM : Meets P D f svs [] (.p (.bool true)) []) {args : Array Value} (hG : GlobOK C W ⟨Old W, fun _ => .fresh⟩) (hd : DenA D W ⟨Old W, fun _ => .fresh⟩ svs args.toList) :
  Calls P f args W fun e W' => e = .returned (.bool true) ∧ Below W.heap.size W W' := by
 have hs : Sat D W ⟨Old W, fun _ => .fresh⟩ (getC ([] : List (HS C))) := ⟨fun c => (by simp [getC, HS.ok]), fun c b e => (by cases e), fun c c' b e => (by cases e), fun b hb => hb, hG⟩
 refine ((hM.calls W ⟨Old W, fun _ => .fresh⟩ (fun c _ => rfl) args.toList hs hd).calls (fun k => by simp [Fence.room, Fc])).mono ?_
 rintro e w' ⟨v, E', rfl, hv, _, hfr⟩
 simp only [Den] at hv
 cases hv
 exact ⟨rfl, hfr.os, hfr.tape, hfr.output, hfr.size, fun b hb => hfr.same b hb (by rintro ⟨c, hc⟩; cases hc)⟩
end Go.SX

/-
 SX, part Z2: one argument of a row at a time.
-/
namespace Go.SX
open Go.ChangeShapes Go.WideShapes Go.RowKit Go.Deep
variable {C : Cod} {D : Codec C} {H : Type} {enc : TypeId × Value → H} {P : Program} {W : World} {r : Reach} {b0 : Nat} {t : TypeId} {v : Value} {d : DataW H} {ps : List MemPlace}
/-- the environment at a call's beginning -/
def En (W : World) : Env := ⟨Old W, fun _ => .fresh⟩

theorem argInt (ht : P.underlying t = some (.int .i64)) (ho : Value.okWide P W r b0 t v) (h : DataW.Trod enc P W 0 (fun _ => true) true t v d ps) : ∃ n, Den D W (En W) (.p (.int .i64 n)) v ∧ Z64 n := by
 obtain ⟨n, rfl, _, _, hw⟩ := open_int ht ho h
 exact ⟨n, by simp only [Den]; exact .int _ _, i64_wf hw⟩

theorem argSlice {e : TypeId} {u : C.U} {Ok : C.El u → Prop} (R : ReadsAs D enc P W e u Ok) (ht : P.underlying t = some (.slice e)) (ho : Value.okWide P W r b0 t v) (h : DataW.Trod enc P W 0 (fun _ => true) true t v d ps) :
  ∃ l : List (C.El u), Den D W (En W) (.p (.dsl u l)) v ∧ (∀ y ∈ l, Ok y) ∧ (l.length : Int) ≤ 9223372036854775807 := by
 obtain ⟨a, len, cap, rfl⟩ := okWide_slice ht ho
 obtain ⟨fuel, hf⟩ := h
 obtain ⟨v', l, hcs, hd, hok, hlen⟩ := readSlice R ht hf
 have e : v' = .slice a len cap := by simpa [Value.cells] using hcs.symm
 subst e
 have hm : maxLen = 9223372036854775807 := rfl
 exact ⟨l, by simp only [Den]; exact hd, hok, by omega⟩

theorem argC_dsl {w : World} {E : Env} {u : C.U} {l : List (C.El u)} {v : Value} {xs : List (SV C)} {vs : List Value} (hd : PDen D w E.F (.dsl u l) v) (h : DenC D w E xs vs) : DenC D w E (.p (.dsl u l) :: xs) (v :: vs) := by
 simp only [DenC]
 exact ⟨_, _, rfl, hd.oneCell, by simp only [Den]; exact hd, h⟩
theorem argC_nil {w : World} {E : Env} : DenC D w E [] [] := by simp only [DenC]

theorem argA_cons {w : World} {E : Env} {x : SV C} {v : Value} {xs : List (SV C)} {vs : List Value} (hd : Den D w E x v) (h : DenA D w E xs vs) : DenA D w E (x :: xs) (v :: vs) := by
 simp only [DenA]; exact ⟨_, _, rfl, hd, h⟩
theorem argA_nil {w : World} {E : Env} : DenA D w E [] [] := by simp only [DenA]
end Go.SX

namespace Go.SX
open Go.Proofs Go.Proofs.YtdaghncicimipaaGreatDoor Go.ChangeShapes Go.WideShapes Go.ChangeAt Go.RowKit
set_option maxHeartbeats 4000000
set_option maxRecDepth 100000
theorem ownT : ownKnob Tryz.prog.godebug = none := by kernel_rfl
theorem laidT : laidOutB Tryz.prog = true := by kernel_rfl
abbrev laidL : List (String × DataW Unit) := [("math/bits.deBruijn32tab", Rows.laid_math_bits_deBruijn32tab), ("math/bits.deBruijn64tab", Rows.laid_math_bits_deBruijn64tab)]
def bruijn : List Int := (U.glob 1).map fun v => match v with | .int _ n => n | _ => 0
theorem globE : U.glob 1 = bruijn.map (Value.int .u8) := by kernel_rfl
theorem laidE : (Rows.laid_math_bits_deBruijn64tab : DataW Unit) = .agg (bruijn.map fun n => .lit (.int .u8 n)) := by kernel_rfl
theorem glob_ok {W : World} (h : laidMetH Tryz.prog laidL W) : GlobOK Cd W ⟨Old W, fun _ => .fresh⟩ := by
 rw [MakeChecks.laidMetH_plain _ _ _ (by kernel_rfl)] at h
 obtain ⟨ps, ⟨g1, t1, cs1, fuel1, p1, q1, _, _, _, _, ⟨g, t, cs, fuel, p, q, hg, ht, hv, hd, _, _⟩, _⟩, _, _⟩ := h
 obtain rfl := Option.some.inj ((show Tryz.prog.globalNamed "math/bits.deBruijn64tab" = some 1 by kernel_rfl).symm.trans hg)
 obtain rfl := Option.some.inj ((show (Tryz.prog.globals[1]?).map (·.type) = some 183 by kernel_rfl).symm.trans ht)
 obtain ⟨xs, m, _, ex, hcl, hl, hel⟩ := DataW.trod_array Tryz.underlying183 hd
 have c84 : Tryz.prog.cellsOf 5 = 1 := by kernel_rfl
 have hlen : bruijn.length = 64 := by kernel_rfl
 have hct : Tryz.prog.cellsOf 183 = 64 := by kernel_rfl
 have hcs : cs.toList.length = 64 := by rw [← hct]; exact hcl
 have e3 : (xs.map (·.1)) = bruijn.map fun n => (.lit (.int .u8 n) : DataW Unit) := by
  have := (Prod.mk.inj ex).1
  rw [laidE] at this
  exact (DataW.agg.inj this).symm
 have key : cs.toList = bruijn.map (Value.int .u8) := by
  refine List.ext_getElem (by rw [hcs, List.length_map, hlen]) fun r h1 h2 => ?_
  have hr : r < 64 := by omega
  have hE := hel r hr
  rw [c84, Nat.mul_one, List.getElem?_eq_getElem (by omega)] at hE
  obtain ⟨z, e1, e2, _⟩ := DataW.trod_int Tryz.underlying5 hE
  have e4 : (xs.map (·.1))[r]? = (bruijn.map fun n => (DataW.lit (.int .u8 n) : DataW Unit))[r]? := by rw [e3]
  rw [List.getElem?_map, List.getElem?_map, List.getElem?_eq_getElem (by omega : r < xs.length), List.getElem?_eq_getElem (by omega : r < bruijn.length), e2] at e4
  simp only [Option.map_some, Option.some.injEq, DataW.lit.injEq, Lit.int.injEq, true_and] at e4
  have e4 : z = bruijn[r] := by first | exact e4 | exact e4.2
  have : cs.toList[r]? = some (.int .u8 z) := by
   have h0 : ((cs.toList.drop r).take 1)[0]? = some (.int .u8 z) := by rw [e1]; rfl
   simpa using h0
  rw [List.getElem?_eq_getElem h1] at this
  rw [Option.some.inj this, List.getElem_map]
  exact congrArg _ e4
 intro g hgl
 match g, hgl with
 | 1, _ =>
  unfold World.var? at hv
  rw [hg] at hv
  simp only [Option.bind_some] at hv
  split at hv
  ·rename_i c T z hh
   obtain rfl := Option.some.inj hv
   refine ⟨?_, ⟨_, _, _, hh, key.trans globE.symm⟩, ?_⟩
   ·show 1 < W.heap.size
    rcases Nat.lt_or_ge 1 W.heap.size with h' | h'
    ·exact h'
    ·rw [Array.getElem?_eq_none h'] at hh; cases hh
   ·intro v hv2
    have hv3 : v ∈ U.glob 1 := hv2
    rw [globE] at hv3
    obtain ⟨n, _, rfl⟩ := List.mem_map.1 hv3
    rfl
  ·cases hv
 | 0, hgl => exact absurd rfl hgl
 | g + 2, hgl => exact absurd rfl hgl
variable {H : Type} {enc : TypeId × Value → H} {W : World}
theorem rarr5 : ReadsAs (C := Cd) Dc enc Tryz.prog W 114 U.arr5 A5OK := by
 refine ⟨by kernel_rfl, fun fuel cs x h => ?_⟩
 obtain ⟨zs, hlen, rfl, hz⟩ := trod_array_ints Tryz.underlying114 (by kernel_rfl) (by kernel_rfl) h
 match zs, hlen, hz with
 | [a, b, c, d, e], _, hz => exact ⟨⟨a, b, c, d, e⟩, pdenL_ints Dc W (Old W) [a, b, c, d, e], ⟨(hz a (by simp)).h, (hz b (by simp)).h, (hz c (by simp)).h, (hz d (by simp)).h, (hz e (by simp)).h⟩⟩
theorem rarr4 : ReadsAs (C := Cd) Dc enc Tryz.prog W 91 U.arr4 A4OK := by
 refine ⟨by kernel_rfl, fun fuel cs x h => ?_⟩
 obtain ⟨zs, hlen, rfl, hz⟩ := trod_array_ints Tryz.underlying91 (by kernel_rfl) (by kernel_rfl) h
 match zs, hlen, hz with
 | [a, b, c, d], _, hz => exact ⟨⟨a, b, c, d⟩, pdenL_ints Dc W (Old W) [a, b, c, d], ⟨(hz a (by simp)).h, (hz b (by simp)).h, (hz c (by simp)).h, (hz d (by simp)).h⟩⟩
variable {r : Reach} {b0' : Nat} {v : Value} {d : DataW H} {ps : List MemPlace}
/-- what a case holds -/
structure CaseOK (x : List A5 × List A4) : Prop where
 hx : ∀ y ∈ x.1, A5OK y
 hxl : (x.1.length : Int) ≤ 9223372036854775807
 hy : ∀ y ∈ x.2, A4OK y
 hyl : (x.2.length : Int) ≤ 9223372036854775807
theorem argCase (ho : Value.okWide Tryz.prog W r b0' 25 v) (h : DataW.Trod enc Tryz.prog W 0 (fun _ => true) true 25 v d ps) : ∃ x : List A5 × List A4, Den Dc W (En W) (.agg [a5S x.1, a4S x.2]) v ∧ CaseOK x := by
 obtain ⟨cs, rfl, hsz⟩ := okWide_struct Tryz.underlying25 ho
 obtain ⟨fuel, hx⟩ := h
 obtain ⟨xs, n, _, _, hlen, hxs, hel⟩ := DataW.trod_struct Tryz.underlying25 hx
 have hlen' : cs.toList.length = 2 := hlen.trans (by kernel_rfl)
 have hxs' : xs.length = 2 := hxs
 have e0 : DataW.trod enc Tryz.prog W 0 (fun _ => true) true n 22 ((cs.toList.drop 0).take (Tryz.prog.cellsOf 22)) = xs[0]? := hel 0 _ rfl
 have e1 : DataW.trod enc Tryz.prog W 0 (fun _ => true) true n 23 ((cs.toList.drop 1).take (Tryz.prog.cellsOf 23)) = xs[1]? := hel 1 _ rfl
 have k0 : Tryz.prog.cellsOf 22 = 1 := by kernel_rfl
 have k1 : Tryz.prog.cellsOf 23 = 1 := by kernel_rfl
 rw [List.getElem?_eq_getElem (by omega)] at e0 e1
 rw [k0] at e0
 rw [k1] at e1
 obtain ⟨l⟩ := cs
 match l, hlen' with
 | [c0, c1], _ =>
  simp only [List.drop, List.take] at e0 e1
  obtain ⟨v0, l0, h0, i0, j0, m0⟩ := readSlice rarr5 Tryz.underlying22 e0
  obtain ⟨v1, l1, h1, i1, j1, m1⟩ := readSlice rarr4 Tryz.underlying23 e1
  injection h0 with h0; injection h1 with h1
  subst h0 h1
  have hm : maxLen = 9223372036854775807 := rfl
  refine ⟨⟨l0, l1⟩, ?_, ⟨j0, by show (l0.length : Int) ≤ _; omega, j1, by show (l1.length : Int) ≤ _; omega⟩⟩
  simp only [a5S, a4S, Den]
  exact ⟨_, rfl, argC_dsl i0 (argC_dsl i1 argC_nil)⟩
end Go.SX

/-
 Plain law: events, ordered, equal ones in their order; each once.
-/
namespace Go.SX
/-- not after -/
def leE (a b : Event) : Prop := befB b a = false
def keyE (x e : Event) : Bool := decide (x.at_ = e.at_) && decide (x.kind = e.kind) && decide (x.image = e.image)
theorem keyE_iff {x e : Event} : keyE x e = true ↔ x.at_ = e.at_ ∧ x.kind = e.kind ∧ x.image = e.image := by
 unfold keyE; simp only [Bool.and_eq_true, decide_eq_true_eq, and_assoc]
theorem befB_iff {a b : Event} : befB a b = true ↔ a.at_ < b.at_ ∨ a.at_ = b.at_ ∧ (a.kind < b.kind ∨ a.kind = b.kind ∧ a.image < b.image) := by
 unfold befB; simp only [Bool.or_eq_true, Bool.and_eq_true, decide_eq_true_eq]
theorem leE_iff {a b : Event} : leE a b ↔ a.at_ < b.at_ ∨ a.at_ = b.at_ ∧ (a.kind < b.kind ∨ a.kind = b.kind ∧ a.image ≤ b.image) := by
 unfold leE
 rw [← Bool.not_eq_true, befB_iff]; omega
theorem keyE_refl (x : Event) : keyE x x = true := by rw [keyE_iff]; exact ⟨rfl, rfl, rfl⟩
theorem leE_refl (x : Event) : leE x x := by rw [leE_iff]; omega
theorem leE_trans {a b c : Event} (h1 : leE a b) (h2 : leE b c) : leE a c := by rw [leE_iff] at *; omega
theorem le_of_bef {a b : Event} (h : befB a b = true) : leE a b := by rw [leE_iff]; rw [befB_iff] at h; omega
theorem bef_le {a b c : Event} (h1 : befB a b = true) (h2 : leE b c) : befB a c = true := by rw [leE_iff] at h2; rw [befB_iff] at *; omega
theorem le_bef {a b c : Event} (h1 : leE a b) (h2 : befB b c = true) : befB a c = true := by rw [leE_iff] at h1; rw [befB_iff] at *; omega
theorem key_of_le {a b : Event} (h1 : leE a b) (h2 : leE b a) : keyE a b = true := by rw [leE_iff] at *; rw [keyE_iff]; omega
theorem bef_key {x a b : Event} (h : befB a b = true) (h1 : keyE x a = true) : keyE x b = false := by
 rw [← Bool.not_eq_true, keyE_iff]; rw [befB_iff] at h; rw [keyE_iff] at h1; omega
theorem bef_key' {x a b : Event} (h : befB a b = true) (h1 : keyE x b = true) : keyE x a = false := by
 rw [← Bool.not_eq_true, keyE_iff]; rw [befB_iff] at h; rw [keyE_iff] at h1; omega
def SrtE (l : List Event) : Prop := l.Pairwise leE
def sameK (l m : List Event) : Prop := ∀ x, l.filter (keyE x) = m.filter (keyE x)
theorem sameK.rfl {l : List Event} : sameK l l := fun _ => _root_.rfl
theorem sameK.symm {l m : List Event} (h : sameK l m) : sameK m l := fun x => (h x).symm
theorem sameK.trans {l m n : List Event} (h : sameK l m) (h2 : sameK m n) : sameK l n := fun x => (h x).trans (h2 x)
theorem sameK.app {l l' m m' : List Event} (h : sameK l l') (h2 : sameK m m') : sameK (l ++ m) (l' ++ m') := fun x => by
 rw [List.filter_append, List.filter_append, h x, h2 x]
theorem sameK.swap {l m : List Event} (h : ∀ a ∈ l, ∀ b ∈ m, befB b a = true) : sameK (l ++ m) (m ++ l) := fun x => by
 rw [List.filter_append, List.filter_append]
 by_cases hl : l.filter (keyE x) = []
 ·rw [hl]; simp
 ·have hm : m.filter (keyE x) = [] := by
   obtain ⟨a, ha⟩ := List.exists_mem_of_ne_nil _ hl
   obtain ⟨ha1, ha2⟩ := List.mem_filter.1 ha
   rw [List.filter_eq_nil_iff]
   intro b hb
   rw [bef_key' (h a ha1 b hb) ha2]; simp
  rw [hm]; simp
theorem sameK.mem {l m : List Event} (h : sameK l m) {x : Event} (hx : x ∈ l) : x ∈ m := by
 have : x ∈ l.filter (keyE x) := List.mem_filter.2 ⟨hx, keyE_refl x⟩
 rw [h x] at this
 exact (List.mem_filter.1 this).1
theorem srt_uniq : ∀ {l m : List Event}, SrtE l → SrtE m → sameK l m → l = m
 | [], [], _, _, _ => rfl
 | [], b :: m, _, _, h => by have := h.symm.mem (x := b) (by simp); cases this
 | a :: l, [], _, _, h => by have := h.mem (x := a) (by simp); cases this
 | a :: l, b :: m, h1, h2, h => by
  have ha : a ∈ b :: m := h.mem (by simp)
  have hb : b ∈ a :: l := h.symm.mem (by simp)
  have h1' := List.pairwise_cons.1 h1
  have h2' := List.pairwise_cons.1 h2
  have e1 : leE b a := by
   rcases List.mem_cons.1 ha with rfl | ha
   ·exact leE_refl _
   ·exact h2'.1 a ha
  have e2 : leE a b := by
   rcases List.mem_cons.1 hb with rfl | hb
   ·exact leE_refl _
   ·exact h1'.1 b hb
  have hk := key_of_le e2 e1
  have hh := h a
  rw [List.filter_cons, if_pos (keyE_refl a), List.filter_cons, if_pos hk] at hh
  obtain ⟨rfl, _⟩ := List.cons.inj hh
  congr 1
  refine srt_uniq h1'.2 h2'.2 fun x => ?_
  have := h x
  rw [List.filter_cons, List.filter_cons] at this
  split at this
  ·exact (List.cons.inj this).2
  ·exact this
def insS (x : Event) : List Event → List Event
 | [] => [x]
 | y :: l => if befB y x then y :: insS x l else x :: y :: l
def isortE : List Event → List Event
 | [] => []
 | x :: l => insS x (isortE l)
theorem insS_same (x : Event) : ∀ l : List Event, sameK (insS x l) (x :: l)
 | [] => sameK.rfl
 | y :: l => by
  rw [insS]
  split
  ·rename_i h
   have h1 : sameK ([y] ++ insS x l) ([y] ++ (x :: l)) := sameK.rfl.app (insS_same x l)
   have h2 : sameK ([x] ++ [y]) ([y] ++ [x]) := sameK.swap (l := [x]) (m := [y]) fun a ha b hb => by rw [List.mem_singleton.1 ha, List.mem_singleton.1 hb]; exact h
   exact h1.trans ((h2.symm).app (sameK.rfl (l := l)))
  ·exact sameK.rfl
theorem insS_len (x : Event) : ∀ l : List Event, (insS x l).length = l.length + 1
 | [] => rfl
 | y :: l => by
  rw [insS]
  split
  ·rw [List.length_cons, insS_len x l]; rfl
  ·rfl
theorem insS_srt (x : Event) : ∀ {l : List Event}, SrtE l → SrtE (insS x l)
 | [], _ => List.pairwise_singleton _ _
 | y :: l, h => by
  have h' := List.pairwise_cons.1 h
  rw [insS]
  split
  ·rename_i hb
   refine List.pairwise_cons.2 ⟨fun z hz => ?_, insS_srt x h'.2⟩
   have := (insS_same x l).mem hz
   rcases List.mem_cons.1 this with rfl | hz
   ·exact le_of_bef hb
   ·exact h'.1 z hz
  ·rename_i hb
   have hxy : leE x y := by unfold leE; simpa using hb
   refine List.pairwise_cons.2 ⟨fun z hz => ?_, h⟩
   rcases List.mem_cons.1 hz with rfl | hz
   ·exact hxy
   ·exact leE_trans hxy (h'.1 z hz)
theorem isort_srt : ∀ l : List Event, SrtE (isortE l)
 | [] => List.Pairwise.nil
 | x :: l => insS_srt x (isort_srt l)
theorem isort_same : ∀ l : List Event, sameK (isortE l) l
 | [] => sameK.rfl
 | x :: l => (insS_same x _).trans ((sameK.rfl (l := [x])).app (isort_same l))
theorem isort_len : ∀ l : List Event, (isortE l).length = l.length
 | [] => rfl
 | x :: l => by rw [isortE, insS_len, isort_len l]; rfl
theorem isort_mem {l : List Event} {x : Event} : x ∈ isortE l ↔ x ∈ l := ⟨(isort_same l).mem, (isort_same l).symm.mem⟩
theorem isort_of {l m : List Event} (h : SrtE m) (h2 : sameK m l) : isortE l = m := srt_uniq (isort_srt l) h ((isort_same l).trans h2.symm)
theorem isort_id {l : List Event} (h : SrtE l) : isortE l = l := isort_of h sameK.rfl
theorem isort_congr {l m : List Event} (h : sameK l m) : isortE l = isortE m := isort_of (isort_srt m) ((isort_same m).trans h.symm)
theorem isort_app {l m : List Event} (h : ∀ a ∈ l, ∀ b ∈ m, leE a b) : isortE (l ++ m) = isortE l ++ isortE m := by
 refine isort_of ?_ ((isort_same l).app (isort_same m))
 exact List.pairwise_append.2 ⟨isort_srt l, isort_srt m, fun a ha b hb => h a (isort_mem.1 ha) b (isort_mem.1 hb)⟩
theorem isort_app2 (l m : List Event) : isortE (isortE l ++ isortE m) = isortE (l ++ m) := isort_congr ((isort_same l).app (isort_same m))
/-- the end of an insertion from behind -/
theorem ins_end {u v : List Event} {x : Event} (hs : SrtE (u ++ v)) (h1 : ∀ y ∈ v, befB x y = true) (h2 : ∀ y, u.getLast? = some y → leE y x) : isortE (u ++ v ++ [x]) = u ++ x :: v := by
 obtain ⟨hu, hv, huv⟩ := List.pairwise_append.1 hs
 refine isort_of ?_ ?_
 ·refine List.pairwise_append.2 ⟨hu, List.pairwise_cons.2 ⟨fun y hy => le_of_bef (h1 y hy), hv⟩, fun a ha b hb => ?_⟩
  rcases List.mem_cons.1 hb with rfl | hb
  ·rcases List.eq_nil_or_concat u with rfl | ⟨w, y, rfl⟩
   ·cases ha
   ·have hy := h2 y (by simp)
    rcases List.mem_append.1 (List.concat_eq_append ▸ ha) with ha | ha
    ·rw [List.concat_eq_append] at hu
     exact leE_trans ((List.pairwise_append.1 hu).2.2 a ha y (by simp)) hy
    ·rw [List.mem_singleton.1 ha]; exact hy
  ·exact huv a ha b hb
 ·rw [List.append_assoc]
  refine sameK.app sameK.rfl ?_
  exact sameK.swap (l := [x]) (m := v) |> fun h => by
   have : sameK (v ++ [x]) ([x] ++ v) := sameK.swap fun a ha b hb => by rw [List.mem_singleton.1 hb]; exact h1 a ha
   exact this.symm
/-- one in front of what is ordered -/
theorem ins_front {u v : List Event} {x : Event} (hs : SrtE (u ++ v)) (h1 : ∀ y ∈ u, befB y x = true) (h2 : ∀ y ∈ v, leE x y) : isortE (x :: (u ++ v)) = u ++ x :: v := by
 obtain ⟨hu, hv, huv⟩ := List.pairwise_append.1 hs
 refine isort_of ?_ ?_
 ·refine List.pairwise_append.2 ⟨hu, List.pairwise_cons.2 ⟨h2, hv⟩, fun a ha b hb => ?_⟩
  rcases List.mem_cons.1 hb with rfl | hb
  ·exact le_of_bef (h1 a ha)
  ·exact huv a ha b hb
 ·have : sameK ([x] ++ u) (u ++ [x]) := sameK.swap fun a ha b hb => by rw [List.mem_singleton.1 ha]; exact h1 b hb
  have := (this.app (sameK.rfl (l := v))).symm
  simpa using this
/-- one behind what is ordered -/
theorem ins_back {u v : List Event} {x : Event} (hs : SrtE (u ++ v)) (h1 : ∀ y ∈ u, leE y x) (h2 : ∀ y ∈ v, befB x y = true) : isortE (u ++ v ++ [x]) = u ++ x :: v :=
 ins_end hs h2 fun y hy => h1 y (List.mem_of_getLast? hy)
/-- the step of a merge -/
theorem sym_step {L1 L2 R1 R2 : List Event} (hL : SrtE (L1 ++ L2)) (hR : SrtE (R1 ++ R2)) (h1 : ∀ a ∈ L1, ∀ b ∈ R2, leE a b) (h2 : ∀ a ∈ L2, ∀ b ∈ R1, befB b a = true) :
  isortE (L1 ++ L2 ++ (R1 ++ R2)) = isortE (L1 ++ R1) ++ isortE (L2 ++ R2) := by
 have hl := (List.pairwise_append.1 hL).2.2
 have hr := (List.pairwise_append.1 hR).2.2
 rw [← isort_app fun a ha b hb => ?_]
 ·refine isort_congr ?_
  have h3 : sameK (L2 ++ R1) (R1 ++ L2) := sameK.swap h2
  have := (sameK.rfl (l := L1)).app (h3.app (sameK.rfl (l := R2)))
  simpa [List.append_assoc] using this
 ·rcases List.mem_append.1 ha with ha | ha <;> rcases List.mem_append.1 hb with hb | hb
  ·exact hl a ha b hb
  ·exact h1 a ha b hb
  ·exact le_of_bef (h2 b hb a ha)
  ·exact hr a ha b hb
/-! blocks -/
def blockS (k : Nat) : Nat → List Event → List Event
 | 0, l => isortE l
 | n + 1, l => if l.length ≤ k then isortE l else isortE (l.take k) ++ blockS k n (l.drop k)
def blocksE (k : Nat) (l : List Event) : List Event := blockS k l.length l
theorem blockS_fuel {k : Nat} (hk : 0 < k) : ∀ (n m : Nat) (l : List Event), l.length ≤ n → l.length ≤ m → blockS k n l = blockS k m l
 | 0, 0, l, _, _ => rfl
 | 0, m + 1, l, h, _ => by
  rw [blockS, blockS, if_pos (by omega)]
 | n + 1, 0, l, _, h => by
  rw [blockS, blockS, if_pos (by omega)]
 | n + 1, m + 1, l, h1, h2 => by
  rw [blockS, blockS]
  split
  ·rfl
  ·rw [blockS_fuel hk n m _ (by simp; omega) (by simp; omega)]
theorem blocks_le {k : Nat} {l : List Event} (h : l.length ≤ k) : blocksE k l = isortE l := by
 unfold blocksE
 cases l.length with
 | zero => rfl
 | succ n => rw [blockS, if_pos h]
theorem blocks_ge {k : Nat} (hk : 0 < k) {l : List Event} (h : k ≤ l.length) : blocksE k l = isortE (l.take k) ++ blocksE k (l.drop k) := by
 rcases Nat.eq_or_lt_of_le h with he | hlt
 ·rw [blocks_le (by omega), List.take_of_length_le (by omega), List.drop_of_length_le (by omega), blocks_le (by simp)]
  simp [isortE]
 ·unfold blocksE
  obtain ⟨n, hn⟩ : ∃ n, l.length = n + 1 := ⟨l.length - 1, by omega⟩
  rw [hn, blockS, if_neg (by omega), blockS_fuel hk n (l.drop k).length _ (by simp; omega) (Nat.le_refl _)]
theorem blockS_len {k : Nat} : ∀ (n : Nat) (l : List Event), (blockS k n l).length = l.length
 | 0, l => isort_len l
 | n + 1, l => by
  rw [blockS]
  split
  ·exact isort_len l
  ·rw [List.length_append, isort_len, blockS_len n]; simp; omega
theorem blocks_len (k : Nat) (l : List Event) : (blocksE k l).length = l.length := blockS_len _ _
/-! each once -/
def dedG : Option Event → List Event → List Event
 | _, [] => []
 | p, a :: l => if (p.map (keyE a)).getD false then dedG (some a) l else a :: dedG (some a) l
def dedE (l : List Event) : List Event := dedG none l
def StrE (l : List Event) : Prop := l.Pairwise (fun a b => befB a b = true)
theorem str_uniq : ∀ {l m : List Event}, StrE l → StrE m → (∀ x, l.find? (keyE x) = m.find? (keyE x)) → l = m
 | [], [], _, _, _ => rfl
 | [], b :: m, _, _, h => by have := h b; simp [keyE_refl] at this
 | a :: l, [], _, _, h => by have := h a; simp [keyE_refl] at this
 | a :: l, b :: m, h1, h2, h => by
  have h1' := List.pairwise_cons.1 h1
  have h2' := List.pairwise_cons.1 h2
  have hab : ¬ befB a b = true := fun hc => by
   have := h a
   rw [List.find?_cons_of_pos (keyE_refl a)] at this
   have hm := List.find?_some this.symm
   have hm2 := List.mem_of_find?_eq_some this.symm
   rcases List.mem_cons.1 hm2 with rfl | hm2
   ·exact absurd hc (by rw [befB_iff]; omega)
   ·have := bef_trans hc (h2'.1 a hm2)
    rw [befB_iff] at this; omega
  have hba : ¬ befB b a = true := fun hc => by
   have := h b
   rw [List.find?_cons_of_pos (keyE_refl b)] at this
   have hm2 := List.mem_of_find?_eq_some this
   rcases List.mem_cons.1 hm2 with rfl | hm2
   ·exact absurd hc (by rw [befB_iff]; omega)
   ·have := bef_trans hc (h1'.1 b hm2)
    rw [befB_iff] at this; omega
  have hk : keyE a b = true := key_of_le (by unfold leE; simpa using hba) (by unfold leE; simpa using hab)
  have e := h a
  rw [List.find?_cons_of_pos (keyE_refl a), List.find?_cons_of_pos hk] at e
  obtain rfl := Option.some.inj e
  congr 1
  refine str_uniq h1'.2 h2'.2 fun x => ?_
  by_cases hx : keyE x a = true
  ·have n1 : l.find? (keyE x) = none := by
    rw [List.find?_eq_none]
    intro y hy
    rw [bef_key (h1'.1 y hy) hx]; simp
   have n2 : m.find? (keyE x) = none := by
    rw [List.find?_eq_none]
    intro y hy
    rw [bef_key (h2'.1 y hy) hx]; simp
   rw [n1, n2]
  ·have := h x
   rwa [List.find?_cons_of_neg hx, List.find?_cons_of_neg hx] at this
theorem ded_find (x : Event) : ∀ (p : Option Event) (l : List Event), (∀ q, p = some q → keyE x q = false) → (dedG p l).find? (keyE x) = l.find? (keyE x)
 | _, [], _ => rfl
 | p, a :: l, hp => by
  rw [dedG]
  split
  ·rename_i h
   cases p with
   | none => cases h
   | some q =>
    have hq := hp q rfl
    have hk : keyE a q = true := h
    have hxa : keyE x a = false := by
     rw [← Bool.not_eq_true, keyE_iff] at hq ⊢
     rw [keyE_iff] at hk
     omega
    rw [List.find?_cons_of_neg (by rw [hxa]; simp)]
    exact ded_find x (some a) l fun q hq => by injection hq with hq; subst hq; exact hxa
  ·by_cases hxa : keyE x a = true
   ·rw [List.find?_cons_of_pos hxa, List.find?_cons_of_pos hxa]
   ·rw [List.find?_cons_of_neg hxa, List.find?_cons_of_neg hxa]
    exact ded_find x (some a) l fun q hq => by injection hq with hq; subst hq; simpa using hxa
theorem ded_str : ∀ (p : Option Event) (l : List Event), SrtE l → (∀ q, p = some q → ∀ a ∈ l, leE q a) → StrE (dedG p l) ∧ (∀ x ∈ dedG p l, x ∈ l ∧ ∀ q, p = some q → befB q x = true)
 | _, [], _, _ => ⟨List.Pairwise.nil, fun x hx => by cases hx⟩
 | p, a :: l, hs, hp => by
  have hs' := List.pairwise_cons.1 hs
  obtain ⟨i1, i2⟩ := ded_str (some a) l hs'.2 fun q hq b hb => by injection hq with hq; subst hq; exact hs'.1 b hb
  rw [dedG]
  split
  ·rename_i h
   refine ⟨i1, fun x hx => ?_⟩
   obtain ⟨h1, h2⟩ := i2 x hx
   exact ⟨by simp [h1], fun q hq => le_bef (hp q hq a (by simp)) (h2 a rfl)⟩
  ·rename_i h
   refine ⟨List.pairwise_cons.2 ⟨fun x hx => (i2 x hx).2 a rfl, i1⟩, fun x hx => ?_⟩
   have hpa : ∀ q, p = some q → befB q a = true := fun q hq => by
    subst hq
    have hk : ¬ keyE a q = true := h
    have hle := hp q rfl a (by simp)
    rw [keyE_iff] at hk
    rw [leE_iff] at hle
    rw [befB_iff]
    omega
   rcases List.mem_cons.1 hx with rfl | hx
   ·exact ⟨by simp, hpa⟩
   ·exact ⟨by simp [(i2 x hx).1], fun q hq => bef_trans (hpa q hq) ((i2 x hx).2 a rfl)⟩
/-- what is ordered, each once -/
def mergeS (l : List Event) : List Event := dedE (isortE l)
theorem merge_str (l : List Event) : StrE (mergeS l) := (ded_str none _ (isort_srt l) fun q h => by cases h).1
theorem find_filter {p : Event → Bool} : ∀ l : List Event, l.find? p = (l.filter p).head?
 | [] => rfl
 | a :: l => by
  by_cases h : p a = true
  ·rw [List.find?_cons_of_pos h, List.filter_cons, if_pos h]; rfl
  ·rw [List.find?_cons_of_neg h, List.filter_cons, if_neg h]; exact find_filter l
theorem merge_find (l : List Event) (x : Event) : (mergeS l).find? (keyE x) = l.find? (keyE x) := by
 unfold mergeS dedE
 rw [ded_find x none _ (fun q h => (by injection h)), find_filter, find_filter, isort_same l x]
theorem merge_of {l m : List Event} (h : StrE m) (h2 : ∀ x, m.find? (keyE x) = l.find? (keyE x)) : mergeS l = m := str_uniq (merge_str l) h fun x => (merge_find l x).trans (h2 x).symm
/-! an event more -/
theorem down_spec {l : List Event} (hl : StrE l) (e : Event) : ∀ i, i ≤ l.length → (∀ y ∈ (l.take i).drop (downE l e i), befB e y = true) ∧ (∀ y, 0 < downE l e i → y = l.getD (downE l e i - 1) (U.dflt .event) → befB e y = false)
 | 0, _ => ⟨fun y hy => by simp at hy, fun y h => by simp [downE] at h⟩
 | i + 1, h => by
  obtain ⟨h1, h2⟩ := down_spec hl e i (by omega)
  have hle := downE_le l e i
  rw [downE]
  split
  ·rename_i hb
   refine ⟨fun y hy => ?_, h2⟩
   rw [take_getD (d := U.dflt .event) (by omega), List.drop_append_of_le_length (by simp; omega)] at hy
   rcases List.mem_append.1 hy with hy | hy
   ·exact h1 y hy
   ·rw [List.mem_singleton.1 hy]; exact hb
  ·rename_i hb
   refine ⟨fun y hy => ?_, fun y _ hy => ?_⟩
   ·rw [List.drop_of_length_le (by rw [List.length_take]; omega)] at hy; cases hy
   ·rw [hy]; simpa using hb
theorem insE_spec {l : List Event} (hl : StrE l) (e : Event) : StrE (insE l e) ∧ ∀ x, (insE l e).find? (keyE x) = (l ++ [e]).find? (keyE x) := by
 obtain ⟨h1, h2⟩ := down_spec hl e l.length (Nat.le_refl _)
 have hle := downE_le l e l.length
 rw [List.take_length] at h1
 unfold insE
 generalize downE l e l.length = k at *
 have hsp : l = l.take k ++ l.drop k := (List.take_append_drop k l).symm
 have hp := List.pairwise_append.1 (hsp ▸ hl : StrE (l.take k ++ l.drop k))
 by_cases hk : 0 < k
 ·have hgm : l.getD (k - 1) (U.dflt .event) ∈ l.take k := by
   rw [List.getD_eq_getElem?_getD, List.getElem?_eq_getElem (by omega)]
   rw [List.mem_iff_getElem?]
   exact ⟨k - 1, by rw [List.getElem?_take, if_pos (by omega), List.getElem?_eq_getElem (by omega)]; rfl⟩
  have hlast : ∀ y ∈ l.take k, leE y (l.getD (k - 1) (U.dflt .event)) := fun y hy => by
   rw [show k = k - 1 + 1 by omega, take_getD (d := U.dflt .event) (by omega)] at hy
   rcases List.mem_append.1 hy with hy | hy
   ·have hd : l.drop (k - 1) = l.getD (k - 1) (U.dflt .event) :: l.drop k := by rw [drop_getD (d := U.dflt .event) (by omega), show k - 1 + 1 = k by omega]
    have hp2 := List.pairwise_append.1 ((List.take_append_drop (k - 1) l).symm ▸ hl : StrE (l.take (k - 1) ++ l.drop (k - 1)))
    exact le_of_bef (hp2.2.2 y hy _ (by rw [hd]; simp))
   ·rw [List.mem_singleton.1 hy]; exact leE_refl _
  have hnb := h2 _ hk rfl
  by_cases hc : befB (l.getD (k - 1) (U.dflt .event)) e = false
  ·rw [if_pos ⟨hk, hc⟩]
   refine ⟨hl, fun x => ?_⟩
   rw [List.find?_append]
   have hkey : keyE e (l.getD (k - 1) (U.dflt .event)) = true := key_of_le (by unfold leE; exact hc) (by unfold leE; exact hnb)
   cases hf : l.find? (keyE x) with
   | some z => simp
   | none =>
    have hg := List.find?_eq_none.1 hf _ (List.mem_of_mem_take hgm)
    have : keyE x e = false := by
     rw [← Bool.not_eq_true, keyE_iff]; rw [keyE_iff] at hg hkey; omega
    simp [List.find?_cons, this]
  ·rw [if_neg (fun h => hc h.2)]
   have hc' : befB (l.getD (k - 1) (U.dflt .event)) e = true := by simpa using hc
   refine ⟨?_, fun x => ?_⟩
   ·refine List.pairwise_append.2 ⟨hp.1, List.pairwise_cons.2 ⟨h1, hp.2.1⟩, fun a ha b hb => ?_⟩
    rcases List.mem_cons.1 hb with rfl | hb
    ·exact le_bef (hlast a ha) hc'
    ·exact hp.2.2 a ha b hb
   ·conv => rhs; rw [hsp]
    rw [find_filter, find_filter]
    have : sameK (l.take k ++ e :: l.drop k) (l.take k ++ l.drop k ++ [e]) := by
     rw [List.append_assoc]
     refine sameK.rfl.app ?_
     exact (sameK.swap (l := l.drop k) (m := [e]) fun a ha b hb => by rw [List.mem_singleton.1 hb]; exact h1 a ha).symm
    rw [this x]
 ·have hk0 : k = 0 := by omega
  subst hk0
  rw [if_neg (by omega)]
  simp only [List.take_zero, List.drop_zero, List.nil_append] at *
  refine ⟨List.pairwise_cons.2 ⟨h1, hl⟩, fun x => ?_⟩
  rw [find_filter, find_filter]
  have : sameK (l ++ [e]) ([e] ++ l) := sameK.swap fun a ha b hb => by rw [List.mem_singleton.1 hb]; exact h1 a ha
  rw [← this.symm x]; rfl
theorem sorted_spec : ∀ (b : List Event) {a : List Event}, StrE a → StrE (sortedS a b) ∧ ∀ x, (sortedS a b).find? (keyE x) = (a ++ b).find? (keyE x)
 | [], a, h => ⟨h, fun x => by simp [sortedS]⟩
 | e :: b, a, h => by
  obtain ⟨h1, h2⟩ := insE_spec h e
  obtain ⟨h3, h4⟩ := sorted_spec b h1
  refine ⟨h3, fun x => ?_⟩
  have h4 := h4 x
  rw [List.find?_append, h2 x, ← List.find?_append] at h4
  simpa [sortedS] using h4
/-- the program's way and the reference's -/
theorem merge_sorted {a : List Event} (h : StrE a) (b : List Event) : mergeS (a ++ b) = sortedS a b := by
 obtain ⟨h1, h2⟩ := sorted_spec b h
 exact merge_of h1 h2
end Go.SX

/-
 Plain law: rows whose places change.
-/
namespace Go.SX
/-- two places change -/
def swS (D : List Event) (x y : Nat) : List Event := (D.set x (D.getD y (U.dflt .event))).set y (D.getD x (U.dflt .event))
theorem swS_len (D : List Event) (x y : Nat) : (swS D x y).length = D.length := by unfold swS; simp
theorem swS_at (A B C : List Event) (u v : Event) {x y : Nat} (hx : x = A.length) (hy : y = A.length + 1 + B.length) : swS (A ++ u :: (B ++ v :: C)) x y = A ++ v :: (B ++ u :: C) := by
 subst hx hy
 unfold swS
 have e1 : (A ++ u :: (B ++ v :: C)).getD A.length (U.dflt .event) = u := by simp [List.getD_eq_getElem?_getD]
 have e2 : (A ++ u :: (B ++ v :: C)).getD (A.length + 1 + B.length) (U.dflt .event) = v := by
  rw [List.getD_eq_getElem?_getD, List.getElem?_append_right (by omega), show A.length + 1 + B.length - A.length = B.length + 1 by omega, List.getElem?_cons_succ, List.getElem?_append_right (by omega)]
  simp
 rw [e1, e2, List.set_append_right _ _ (Nat.le_refl _), Nat.sub_self, List.set_cons_zero, List.set_append_right _ _ (by omega), show A.length + 1 + B.length - A.length = B.length + 1 by omega, List.set_cons_succ, List.set_append_right _ _ (Nat.le_refl _), Nat.sub_self, List.set_cons_zero]
theorem swS_comm (D : List Event) {x y : Nat} (h : x ≠ y) : swS D x y = swS D y x := by
 unfold swS
 rw [List.set_comm _ _ (Ne.symm h)]
theorem drop_hd {l : List Event} {k : Nat} (h : k < l.length) : l.drop k = l.getD k (U.dflt .event) :: l.drop (k + 1) := drop_getD (d := U.dflt .event) h
theorem take_tl {l : List Event} {k : Nat} (h : k < l.length) : l.take (k + 1) = l.take k ++ [l.getD k (U.dflt .event)] := take_getD (d := U.dflt .event) h
/-- while two parts of the same length change places -/
def swAt (P V Q W S : List Event) (k : Nat) : List Event := P ++ (W.take k ++ V.drop k) ++ Q ++ (V.take k ++ W.drop k) ++ S
theorem swAt_zero (P V Q W S : List Event) : swAt P V Q W S 0 = P ++ V ++ Q ++ W ++ S := by simp [swAt]
theorem swAt_end (P V Q W S : List Event) (h : V.length = W.length) : swAt P V Q W S V.length = P ++ W ++ Q ++ V ++ S := by
 unfold swAt
 rw [List.take_of_length_le (l := W) (by omega), List.drop_of_length_le (l := V) (Nat.le_refl _), List.take_of_length_le (l := V) (Nat.le_refl _), List.drop_of_length_le (l := W) (by omega)]
 simp
theorem swAt_len (P V Q W S : List Event) {k : Nat} (h : V.length = W.length) (hk : k ≤ V.length) : (swAt P V Q W S k).length = (P ++ V ++ Q ++ W ++ S).length := by
 unfold swAt
 simp only [List.length_append, List.length_take, List.length_drop]; omega
theorem swAt_step (P V Q W S : List Event) {k a b : Nat} (h : V.length = W.length) (hk : k < V.length) (ha : a = P.length) (hb : b = P.length + V.length + Q.length) : swS (swAt P V Q W S k) (a + k) (b + k) = swAt P V Q W S (k + 1) := by
 have e1 : swAt P V Q W S k = (P ++ W.take k) ++ V.getD k (U.dflt .event) :: ((V.drop (k + 1) ++ Q ++ V.take k) ++ W.getD k (U.dflt .event) :: (W.drop (k + 1) ++ S)) := by
  unfold swAt
  rw [drop_hd hk, drop_hd (l := W) (by omega)]
  simp [List.append_assoc]
 have e2 : swAt P V Q W S (k + 1) = (P ++ W.take k) ++ W.getD k (U.dflt .event) :: ((V.drop (k + 1) ++ Q ++ V.take k) ++ V.getD k (U.dflt .event) :: (W.drop (k + 1) ++ S)) := by
  unfold swAt
  rw [take_tl hk, take_tl (l := W) (by omega)]
  simp [List.append_assoc]
 rw [e1, e2]
 refine swS_at _ _ _ _ _ ?_ ?_
 ·simp only [List.length_append, List.length_take]; omega
 ·simp only [List.length_append, List.length_take, List.length_drop]; omega
/-- a swap of neighbours -/
theorem swS_near (A C : List Event) (u v : Event) {x y : Nat} (hx : x = A.length) (hy : y = A.length + 1) : swS (A ++ u :: v :: C) x y = A ++ v :: u :: C := by
 have := swS_at A [] C u v (x := x) (y := y) hx (by simpa using hy)
 simpa using this
/-! a place in a row of parts -/
theorem get_mid {A L B : List Event} {k a : Nat} (h : k < L.length) (ha : a = A.length) : (A ++ L ++ B).getD (a + k) (U.dflt .event) = L.getD k (U.dflt .event) := by
 subst ha
 simp only [List.getD_eq_getElem?_getD]
 rw [List.append_assoc, List.getElem?_append_right (by omega), show A.length + k - A.length = k by omega, List.getElem?_append_left h]
theorem getD_mem {l : List Event} {k : Nat} (h : k < l.length) : l.getD k (U.dflt .event) ∈ l := by
 rw [List.getD_eq_getElem?_getD, List.getElem?_eq_getElem h]; exact List.getElem_mem _
theorem srt_get {l : List Event} (h : SrtE l) {i j : Nat} (hij : i ≤ j) (hj : j < l.length) : leE (l.getD i (U.dflt .event)) (l.getD j (U.dflt .event)) := by
 rcases Nat.lt_or_ge i j with hlt | hge
 ·have := List.pairwise_iff_getElem.1 h i j (by omega) hj hlt
  simp only [List.getD_eq_getElem?_getD, List.getElem?_eq_getElem hj, List.getElem?_eq_getElem (show i < l.length by omega)]
  exact this
 ·rw [show i = j by omega]; exact leE_refl _
theorem mem_take_get {l : List Event} {k : Nat} {y : Event} (h : y ∈ l.take k) : ∃ i, i < k ∧ i < l.length ∧ y = l.getD i (U.dflt .event) := by
 obtain ⟨i, hi, rfl⟩ := List.getElem_of_mem h
 simp only [List.length_take] at hi
 exact ⟨i, by omega, by omega, by rw [List.getElem_take, List.getD_eq_getElem?_getD, List.getElem?_eq_getElem (by omega)]; rfl⟩
theorem mem_drop_get {l : List Event} {k : Nat} {y : Event} (h : y ∈ l.drop k) : ∃ i, k ≤ i ∧ i < l.length ∧ y = l.getD i (U.dflt .event) := by
 obtain ⟨i, hi, rfl⟩ := List.getElem_of_mem h
 simp only [List.length_drop] at hi
 exact ⟨k + i, by omega, by omega, by rw [List.getElem_drop, List.getD_eq_getElem?_getD, List.getElem?_eq_getElem (by omega)]; rfl⟩
theorem cmpE_neg {a b : Event} : cmpE a b < 0 ↔ befB a b = true := by
 have := cmpE_lt a b
 rw [Bool.eq_iff_iff] at this
 simp only [decide_eq_true_eq, Bool.not_eq_true'] at this
 constructor
 ·intro h
  cases hb : befB a b with
  | true => rfl
  | false => have := this.2 hb; omega
 ·intro h
  rcases (show cmpE a b < 0 ∨ 0 ≤ cmpE a b by omega) with h' | h'
  ·exact h'
  ·have := this.1 h'; rw [h] at this; cases this
theorem cmpE_nneg {a b : Event} (h : befB a b = false) : ¬ cmpE a b < 0 := fun h' => by rw [cmpE_neg, h] at h'; cases h'
end Go.SX

/-
 Plain law: parts that change places; the steps of a merge in place.
-/
namespace Go.SX
structure Rot (T J : List Event) (m i j : Nat) : Prop where
 ex : ∃ P V W S : List Event, J = P ++ V ++ W ++ S ∧ T = P ++ W ++ V ++ S ∧ P.length + V.length = m ∧ V.length = i ∧ W.length = j ∧ 0 < i ∧ 0 < j
theorem Rot.bd {T J : List Event} {m i j : Nat} (h : Rot T J m i j) : i ≤ m ∧ m + j ≤ J.length ∧ 0 < i ∧ 0 < j ∧ J.length = T.length := by
 obtain ⟨P, V, W, S, rfl, rfl, h1, h2, h3, h4, h5⟩ := h
 simp only [List.length_append]; omega
theorem Rot.gt {T J : List Event} {m i j : Nat} (h : Rot T J m i j) (hij : j < i) : ∃ f : Nat → List Event, f 0 = J ∧ (∀ k, k ≤ j → (f k).length = J.length) ∧ (∀ k, k < j → swS (f k) (m - i + k) (m + k) = f (k + 1)) ∧ Rot T (f j) m (i - j) j := by
 obtain ⟨P, V, W, S, rfl, rfl, h1, h2, h3, h4, h5⟩ := h
 have hs : V = V.take j ++ V.drop j := (List.take_append_drop j V).symm
 have hl : (V.take j).length = W.length := by rw [List.length_take]; omega
 have e0 : P ++ V ++ W ++ S = P ++ V.take j ++ V.drop j ++ W ++ S := by
  conv => lhs; rw [hs]
  simp [List.append_assoc]
 refine ⟨swAt P (V.take j) (V.drop j) W S, by rw [swAt_zero, e0], fun k hk => by rw [swAt_len _ _ _ _ _ hl (by omega), e0], fun k hk => swAt_step _ _ _ _ _ hl (by omega) (by omega) (by simp only [List.length_take, List.length_drop]; omega), ?_⟩
 have e1 := swAt_end P (V.take j) (V.drop j) W S hl
 rw [show (V.take j).length = j by omega] at e1
 refine ⟨P ++ W, V.drop j, V.take j, S, e1, ?_, ?_, ?_, ?_, by omega, h5⟩
 ·conv => lhs; rw [hs]
  simp [List.append_assoc]
 ·simp only [List.length_append, List.length_drop]; omega
 ·simp only [List.length_drop]; omega
 ·omega
theorem Rot.lt {T J : List Event} {m i j : Nat} (h : Rot T J m i j) (hij : i < j) : ∃ f : Nat → List Event, f 0 = J ∧ (∀ k, k ≤ i → (f k).length = J.length) ∧ (∀ k, k < i → swS (f k) (m - i + k) (m + j - i + k) = f (k + 1)) ∧ Rot T (f i) m i (j - i) := by
 obtain ⟨P, V, W, S, rfl, rfl, h1, h2, h3, h4, h5⟩ := h
 have hs : W = W.take (j - i) ++ W.drop (j - i) := (List.take_append_drop (j - i) W).symm
 have hl : V.length = (W.drop (j - i)).length := by rw [List.length_drop]; omega
 have e0 : P ++ V ++ W ++ S = P ++ V ++ W.take (j - i) ++ W.drop (j - i) ++ S := by
  conv => lhs; rw [hs]
  simp [List.append_assoc]
 refine ⟨swAt P V (W.take (j - i)) (W.drop (j - i)) S, by rw [swAt_zero, e0], fun k hk => by rw [swAt_len _ _ _ _ _ hl (by omega), e0], fun k hk => swAt_step _ _ _ _ _ hl (by omega) (by omega) (by simp only [List.length_take]; omega), ?_⟩
 have e1 := swAt_end P V (W.take (j - i)) (W.drop (j - i)) S hl
 rw [h2] at e1
 refine ⟨P, W.drop (j - i), W.take (j - i), V ++ S, by rw [e1]; simp [List.append_assoc], ?_, ?_, ?_, ?_, h4, by omega⟩
 ·conv => lhs; rw [hs]
  simp [List.append_assoc]
 ·omega
 ·omega
 ·simp only [List.length_take]; omega
theorem Rot.eq {T J : List Event} {m i : Nat} (h : Rot T J m i i) : ∃ f : Nat → List Event, f 0 = J ∧ (∀ k, k ≤ i → (f k).length = J.length) ∧ (∀ k, k < i → swS (f k) (m - i + k) (m + k) = f (k + 1)) ∧ f i = T := by
 obtain ⟨P, V, W, S, rfl, rfl, h1, h2, h3, h4, h5⟩ := h
 have hl : V.length = W.length := by omega
 have e1 := swAt_end P V [] W S hl
 rw [h2] at e1
 refine ⟨swAt P V [] W S, by rw [swAt_zero]; simp, fun k hk => by rw [swAt_len _ _ _ _ _ hl (by omega)]; simp, fun k hk => swAt_step _ _ _ _ _ hl (by omega) (by omega) (by simp; omega), by rw [e1]; simp⟩
structure Sym (T D : List Event) (a m b : Nat) : Prop where
 ex : ∃ A L R B : List Event, D = A ++ L ++ R ++ B ∧ T = A ++ isortE (L ++ R) ++ B ∧ SrtE L ∧ SrtE R ∧ A.length = a ∧ a + L.length = m ∧ m + R.length = b ∧ 0 < L.length ∧ 0 < R.length
theorem Sym.bd {T D : List Event} {a m b : Nat} (h : Sym T D a m b) : a < m ∧ m < b ∧ b ≤ D.length ∧ D.length = T.length := by
 obtain ⟨A, L, R, B, rfl, rfl, h1, h2, h3, h4, h5, h6, h7⟩ := h
 simp only [List.length_append, isort_len]; omega
abbrev dE : Event := U.dflt .event
theorem Sym.srt {T D : List Event} {a m b : Nat} (h : Sym T D a m b) : (∀ x y, a ≤ x → x ≤ y → y < m → leE (D.getD x dE) (D.getD y dE)) ∧ (∀ x y, m ≤ x → x ≤ y → y < b → leE (D.getD x dE) (D.getD y dE)) := by
 obtain ⟨A, L, R, B, rfl, rfl, h1, h2, h3, h4, h5, h6, h7⟩ := h
 refine ⟨fun x y hx hy hm => ?_, fun x y hx hy hm => ?_⟩
 ·have e1 := get_mid (A := A) (L := L) (B := R ++ B) (k := x - a) (a := a) (by omega) h3.symm
  have e2 := get_mid (A := A) (L := L) (B := R ++ B) (k := y - a) (a := a) (by omega) h3.symm
  rw [← List.append_assoc, show a + (x - a) = x by omega] at e1
  rw [← List.append_assoc, show a + (y - a) = y by omega] at e2
  rw [show (dE : Event) = U.dflt .event from rfl, e1, e2]
  exact srt_get h1 (by omega) (by omega)
 ·have e1 := get_mid (A := A ++ L) (L := R) (B := B) (k := x - m) (a := m) (by omega) (by rw [List.length_append]; omega)
  have e2 := get_mid (A := A ++ L) (L := R) (B := B) (k := y - m) (a := m) (by omega) (by rw [List.length_append]; omega)
  rw [show m + (x - m) = x by omega] at e1
  rw [show m + (y - m) = y by omega] at e2
  rw [show (dE : Event) = U.dflt .event from rfl, e1, e2]
  exact srt_get h2 (by omega) (by omega)
/-! one in front -/
structure MvA (T J : List Event) (i k : Nat) : Prop where
 ex : ∃ (A R B : List Event) (x : Event) (s t : Nat), T = A ++ R.take s ++ x :: R.drop s ++ B ∧ J = A ++ R.take t ++ x :: R.drop t ++ B ∧ A.length + s + 1 = i ∧ k = A.length + t ∧ t ≤ s ∧ s ≤ R.length
theorem MvA.bd {T J : List Event} {i k : Nat} (h : MvA T J i k) : k + 1 ≤ i ∧ i ≤ J.length ∧ J.length = T.length := by
 obtain ⟨A, R, B, x, s, t, rfl, rfl, h1, h2, h3, h4⟩ := h
 simp only [List.length_append, List.length_cons, List.length_take, List.length_drop]; omega
theorem MvA.stop {T J : List Event} {i k : Nat} (h : MvA T J i k) (hk : i ≤ k + 1) : J = T := by
 obtain ⟨A, R, B, x, s, t, rfl, rfl, h1, h2, h3, h4⟩ := h
 rw [show t = s by omega]
theorem MvA.step {T J : List Event} {i k : Nat} (h : MvA T J i k) (hk : k + 1 < i) : MvA T (swS J k (k + 1)) i (k + 1) := by
 obtain ⟨A, R, B, x, s, t, rfl, rfl, h1, h2, h3, h4⟩ := h
 refine ⟨A, R, B, x, s, t + 1, rfl, ?_, h1, by omega, by omega, h4⟩
 have e : A ++ R.take t ++ x :: R.drop t ++ B = (A ++ R.take t) ++ x :: R.getD t dE :: (R.drop (t + 1) ++ B) := by
  rw [drop_hd (l := R) (k := t) (by omega)]; simp [List.append_assoc]
 rw [e, swS_near _ _ _ _ (by simp only [List.length_append, List.length_take]; omega) (by simp only [List.length_append, List.length_take]; omega), take_tl (l := R) (k := t) (by omega)]
 simp [List.append_assoc]
structure SrA (D : List Event) (a m b i j : Nat) : Prop where
 bd : m ≤ i ∧ i ≤ j ∧ j ≤ b
 lo : ∀ k, m ≤ k → k < i → befB (D.getD k dE) (D.getD a dE) = true
 hi : ∀ k, j ≤ k → k < b → befB (D.getD k dE) (D.getD a dE) = false
theorem SrA.start {D : List Event} {a m b : Nat} (h : m ≤ b) : SrA D a m b m b := ⟨by omega, fun k h1 h2 => by omega, fun k h1 h2 => by omega⟩
theorem SrA.up {T D : List Event} {a m b i j h : Nat} (hs : Sym T D a m b) (hr : SrA D a m b i j) (h1 : i ≤ h) (h2 : h < j) (hb : befB (D.getD h dE) (D.getD a dE) = true) : SrA D a m b (h + 1) j := by
 have hbd := hr.bd
 refine ⟨by omega, fun k k1 k2 => ?_, hr.hi⟩
 exact le_bef (hs.srt.2 k h k1 (by omega) (by omega)) hb
theorem SrA.down {T D : List Event} {a m b i j h : Nat} (hs : Sym T D a m b) (hr : SrA D a m b i j) (h1 : i ≤ h) (h2 : h < j) (hb : befB (D.getD h dE) (D.getD a dE) = false) : SrA D a m b i h := by
 have hbd := hr.bd
 refine ⟨by omega, hr.lo, fun k k1 k2 => ?_⟩
 rcases hB : befB (D.getD k dE) (D.getD a dE) with _ | _
 ·rfl
 ·rw [le_bef (hs.srt.2 h k (by omega) k1 k2) hB] at hb; cases hb
theorem SrA.stop {T D : List Event} {a m b i : Nat} (hs : Sym T D a m b) (hm : m = a + 1) (hr : SrA D a m b i i) : MvA T D i a := by
  obtain ⟨A, L, R, B, hD, hT, h1, h2, h3, h4, h5, h6, h7⟩ := hs
  obtain ⟨x, rfl⟩ : ∃ x, L = [x] := by
    match L, h4 with
    | [x], _ => exact ⟨x, rfl⟩
    | [], h4 => simp at h6
    | _ :: _ :: _, h4 => simp at h4; omega
  have hbd := hr.bd
  have ha : D.getD a dE = x := by
    have := get_mid (A := A) (L := [x]) (B := R ++ B) (k := 0) (a := a) (by simp) h3.symm
    rw [← List.append_assoc] at this
    rw [hD]; exact this
  have hk : ∀ k, k < R.length → D.getD (m + k) dE = R.getD k dE := fun k hk => by
    rw [hD]
    exact get_mid (A := A ++ [x]) (L := R) (B := B) hk (by rw [List.length_append]; simp; omega)
  have hspl := ins_front (u := R.take (i - m)) (v := R.drop (i - m)) (x := x) (by rw [List.take_append_drop]; exact h2) (fun y hy => by
    obtain ⟨k, k1, k2, rfl⟩ := mem_take_get hy
    have := hr.lo (m + k) (by omega) (by omega)
    rwa [hk k k2, ha] at this) (fun y hy => by
    obtain ⟨k, k1, k2, rfl⟩ := mem_drop_get hy
    have := hr.hi (m + k) (by omega) (by omega)
    rw [hk k k2, ha] at this
    exact this)
  rw [List.take_append_drop] at hspl
  refine ⟨A, R, B, x, i - m, 0, ?_, ?_, by omega, by omega, by omega, by omega⟩
  · rw [hT, show [x] ++ R = x :: R from rfl, hspl]; simp [List.append_assoc]
  · rw [hD]; simp
/-! one behind -/
structure MvB (T J : List Event) (i k : Nat) : Prop where
 ex : ∃ (A R B : List Event) (x : Event) (s t : Nat), T = A ++ R.take s ++ x :: R.drop s ++ B ∧ J = A ++ R.take t ++ x :: R.drop t ++ B ∧ A.length + s = i ∧ k = A.length + t ∧ s ≤ t ∧ t ≤ R.length
theorem MvB.bd {T J : List Event} {i k : Nat} (h : MvB T J i k) : i ≤ k ∧ k < J.length ∧ J.length = T.length := by
 obtain ⟨A, R, B, x, s, t, rfl, rfl, h1, h2, h3, h4⟩ := h
 simp only [List.length_append, List.length_cons, List.length_take, List.length_drop]; omega
theorem MvB.stop {T J : List Event} {i k : Nat} (h : MvB T J i k) (hk : k ≤ i) : J = T := by
 obtain ⟨A, R, B, x, s, t, rfl, rfl, h1, h2, h3, h4⟩ := h
 rw [show t = s by omega]
theorem MvB.step {T J : List Event} {i k : Nat} (h : MvB T J i k) (hk : i < k) : MvB T (swS J k (k - 1)) i (k - 1) := by
 obtain ⟨A, R, B, x, s, t, rfl, rfl, h1, h2, h3, h4⟩ := h
 obtain ⟨u, rfl⟩ : ∃ u, t = u + 1 := ⟨t - 1, by omega⟩
 refine ⟨A, R, B, x, s, u, rfl, ?_, h1, by omega, by omega, by omega⟩
 have e : A ++ R.take (u + 1) ++ x :: R.drop (u + 1) ++ B = (A ++ R.take u) ++ R.getD u dE :: x :: (R.drop (u + 1) ++ B) := by
  rw [take_tl (l := R) (k := u) (by omega)]; simp [List.append_assoc]
 rw [swS_comm _ (by omega), e, swS_near _ _ _ _ (by simp only [List.length_append, List.length_take]; omega) (by simp only [List.length_append, List.length_take]; omega), drop_hd (l := R) (k := u) (by omega)]
 simp [List.append_assoc]
structure SrB (D : List Event) (a m b i j : Nat) : Prop where
 bd : a ≤ i ∧ i ≤ j ∧ j ≤ m
 lo : ∀ k, a ≤ k → k < i → befB (D.getD m dE) (D.getD k dE) = false
 hi : ∀ k, j ≤ k → k < m → befB (D.getD m dE) (D.getD k dE) = true
theorem SrB.start {D : List Event} {a m b : Nat} (h : a ≤ m) : SrB D a m b a m := ⟨by omega, fun k h1 h2 => by omega, fun k h1 h2 => by omega⟩
theorem SrB.up {T D : List Event} {a m b i j h : Nat} (hs : Sym T D a m b) (hr : SrB D a m b i j) (h1 : i ≤ h) (h2 : h < j) (hb : befB (D.getD m dE) (D.getD h dE) = false) : SrB D a m b (h + 1) j := by
 have hbd := hr.bd
 refine ⟨by omega, fun k k1 k2 => ?_, hr.hi⟩
 rcases hB : befB (D.getD m dE) (D.getD k dE) with _ | _
 ·rfl
 ·rw [bef_le hB (hs.srt.1 k h k1 (by omega) (by omega))] at hb; cases hb
theorem SrB.down {T D : List Event} {a m b i j h : Nat} (hs : Sym T D a m b) (hr : SrB D a m b i j) (h1 : i ≤ h) (h2 : h < j) (hb : befB (D.getD m dE) (D.getD h dE) = true) : SrB D a m b i h := by
 have hbd := hr.bd
 refine ⟨by omega, hr.lo, fun k k1 k2 => ?_⟩
 exact bef_le hb (hs.srt.1 h k (by omega) k1 k2)
theorem SrB.stop {T D : List Event} {a m b i : Nat} (hs : Sym T D a m b) (hm : b = m + 1) (hr : SrB D a m b i i) : MvB T D i m := by
  obtain ⟨A, L, R, B, hD, hT, h1, h2, h3, h4, h5, h6, h7⟩ := hs
  obtain ⟨x, rfl⟩ : ∃ x, R = [x] := by
    match R, h5 with
    | [x], _ => exact ⟨x, rfl⟩
    | [], h5 => simp at h7
    | _ :: _ :: _, h5 => simp at h5; omega
  have hbd := hr.bd
  have ha : D.getD m dE = x := by
    have := get_mid (A := A ++ L) (L := [x]) (B := B) (k := 0) (a := m) (by simp) (by rw [List.length_append]; omega)
    rw [hD]; exact this
  have hk : ∀ k, k < L.length → D.getD (a + k) dE = L.getD k dE := fun k hk => by
    have := get_mid (A := A) (L := L) (B := [x] ++ B) (a := a) hk h3.symm
    rw [← List.append_assoc] at this
    rw [hD]; exact this
  have hspl := ins_back (u := L.take (i - a)) (v := L.drop (i - a)) (x := x) (by rw [List.take_append_drop]; exact h1) (fun y hy => by
    obtain ⟨k, k1, k2, rfl⟩ := mem_take_get hy
    have := hr.lo (a + k) (by omega) (by omega)
    rw [hk k k2, ha] at this
    exact this) (fun y hy => by
    obtain ⟨k, k1, k2, rfl⟩ := mem_drop_get hy
    have := hr.hi (a + k) (by omega) (by omega)
    rwa [hk k k2, ha] at this)
  rw [List.take_append_drop] at hspl
  refine ⟨A, L, B, x, i - a, L.length, ?_, ?_, by omega, by omega, by omega, Nat.le_refl _⟩
  · rw [hT, hspl]; simp [List.append_assoc]
  · rw [hD, List.take_length, List.drop_length]
/-! the general step -/
structure SrC (D : List Event) (p lo hi s r : Nat) : Prop where
 bd : lo ≤ s ∧ s ≤ r ∧ r ≤ hi
 dn : ∀ c, lo ≤ c → c < s → befB (D.getD (p - c) dE) (D.getD c dE) = false
 up : ∀ c, r ≤ c → c < hi → befB (D.getD (p - c) dE) (D.getD c dE) = true
/-- the bounds of the search -/
structure Bds (a m b mid lo hi : Nat) : Prop where
 hm : mid = (a + b) / 2
 am : a < m ∧ m < b
 hb : (mid < m ∧ lo = mid + m - b ∧ hi = mid) ∨ (m ≤ mid ∧ lo = a ∧ hi = m)
theorem SrC.start {D : List Event} {a m b mid lo hi : Nat} (h : Bds a m b mid lo hi) : SrC D (mid + m - 1) lo hi lo hi := by
 obtain ⟨h1, h2, h3⟩ := h
 exact ⟨by omega, fun c h1 h2 => by omega, fun c h1 h2 => by omega⟩
theorem SrC.inc {T D : List Event} {a m b mid lo hi s r c : Nat} (hs : Sym T D a m b) (hB : Bds a m b mid lo hi) (hr : SrC D (mid + m - 1) lo hi s r) (h1 : s ≤ c) (h2 : c < r) (hb : befB (D.getD (mid + m - 1 - c) dE) (D.getD c dE) = false) : SrC D (mid + m - 1) lo hi (c + 1) r := by
 have hbd := hr.bd
 obtain ⟨g1, g2, g3⟩ := hB
 refine ⟨by omega, fun k k1 k2 => ?_, hr.up⟩
 rcases hB : befB (D.getD (mid + m - 1 - k) dE) (D.getD k dE) with _ | _
 ·rfl
 ·have e1 := hs.srt.1 k c (by omega) (by omega) (by omega)
  have e2 := hs.srt.2 (mid + m - 1 - c) (mid + m - 1 - k) (by omega) (by omega) (by omega)
  rw [le_bef e2 (bef_le hB e1)] at hb; cases hb
theorem SrC.dec {T D : List Event} {a m b mid lo hi s r c : Nat} (hs : Sym T D a m b) (hB : Bds a m b mid lo hi) (hr : SrC D (mid + m - 1) lo hi s r) (h1 : s ≤ c) (h2 : c < r) (hb : befB (D.getD (mid + m - 1 - c) dE) (D.getD c dE) = true) : SrC D (mid + m - 1) lo hi s c := by
 have hbd := hr.bd
 obtain ⟨g1, g2, g3⟩ := hB
 refine ⟨by omega, hr.dn, fun k k1 k2 => ?_⟩
 have e1 := hs.srt.1 c k (by omega) (by omega) (by omega)
 have e2 := hs.srt.2 (mid + m - 1 - k) (mid + m - 1 - c) (by omega) (by omega) (by omega)
 exact le_bef e2 (bef_le hb e1)
/-- what the step has before, between and behind -/
structure SymCut (T D E E1 : List Event) (a m b s en mid : Nat) : Prop where
 bd : a ≤ s ∧ s ≤ m ∧ m ≤ en ∧ en ≤ b ∧ a ≤ mid ∧ s ≤ mid ∧ mid ≤ en ∧ mid < b ∧ a < mid
 lE : E.length = D.length
 lE1 : E1.length = D.length
 rot : s < m → m < en → Rot E D m (m - s) (en - m)
 nrot : ¬ (s < m ∧ m < en) → E = D
 one : a < s → s < mid → Sym E1 E a s mid
 none : ¬ (a < s ∧ s < mid) → E1 = E
 two : mid < en → en < b → Sym T E1 mid en b
 ntwo : ¬ (mid < en ∧ en < b) → T = E1
theorem cut_of {T D : List Event} {a m b mid lo hi s en : Nat} (hs : Sym T D a m b) (c1 : a + 1 < m) (c2 : m + 1 < b) (hB : Bds a m b mid lo hi) (hr : SrC D (mid + m - 1) lo hi s s) (hen : en = mid + m - s) : ∃ E E1, SymCut T D E E1 a m b s en mid := by
 have hbd := hr.bd
 obtain ⟨g1, g2, g3⟩ := hB
 have hsrt := hs.srt
 obtain ⟨A, L, R, B, hD, hT, h1, h2, h3, h4, h5, h6, h7⟩ := hs
 have hL : ∀ k, k < L.length → D.getD (a + k) dE = L.getD k dE := fun k hk => by
  have := get_mid (A := A) (L := L) (B := R ++ B) (a := a) hk h3.symm
  rw [← List.append_assoc] at this
  rw [hD]; exact this
 have hR : ∀ k, k < R.length → D.getD (m + k) dE = R.getD k dE := fun k hk => by
  rw [hD]
  exact get_mid (A := A ++ L) (L := R) (B := B) hk (by rw [List.length_append]; omega)
 have hle : ∀ x ∈ L.take (s - a), ∀ y ∈ R.drop (en - m), leE x y := fun x hx y hy => by
  obtain ⟨k, k1, k2, rfl⟩ := mem_take_get hx
  obtain ⟨q, q1, q2, rfl⟩ := mem_drop_get hy
  rw [← hL k k2, ← hR q q2]
  rcases Nat.lt_or_ge lo s with hls | hls
  ·have := hr.dn (s - 1) (by omega) (by omega)
   rw [show mid + m - 1 - (s - 1) = en by omega] at this
   exact leE_trans (leE_trans (hsrt.1 (a + k) (s - 1) (by omega) (by omega) (by omega)) this) (hsrt.2 en (m + q) (by omega) (by omega) (by omega))
  ·omega
 have hlt : ∀ x ∈ L.drop (s - a), ∀ y ∈ R.take (en - m), befB y x = true := fun x hx y hy => by
  obtain ⟨k, k1, k2, rfl⟩ := mem_drop_get hx
  obtain ⟨q, q1, q2, rfl⟩ := mem_take_get hy
  rw [← hL k k2, ← hR q q2]
  rcases Nat.lt_or_ge s hi with hls | hls
  ·have := hr.up s (by omega) (by omega)
   exact le_bef (hsrt.2 (m + q) (mid + m - 1 - s) (by omega) (by omega) (by omega)) (bef_le this (hsrt.1 s (a + k) (by omega) (by omega) (by omega)))
  ·omega
 have eL : L = L.take (s - a) ++ L.drop (s - a) := (List.take_append_drop _ _).symm
 have eR : R = R.take (en - m) ++ R.drop (en - m) := (List.take_append_drop _ _).symm
 have l1 : (L.take (s - a)).length = s - a := by rw [List.length_take]; omega
 have l2 : (L.drop (s - a)).length = m - s := by rw [List.length_drop]; omega
 have l3 : (R.take (en - m)).length = en - m := by rw [List.length_take]; omega
 have l4 : (R.drop (en - m)).length = b - en := by rw [List.length_drop]; omega
 generalize L.take (s - a) = L1 at *
 generalize L.drop (s - a) = L2 at *
 generalize R.take (en - m) = R1 at *
 generalize R.drop (en - m) = R2 at *
 subst eL eR
 have hss := sym_step h1 h2 hle hlt
 have p1 := List.pairwise_append.1 h1
 have p2 := List.pairwise_append.1 h2
 refine ⟨A ++ L1 ++ R1 ++ (L2 ++ R2 ++ B), A ++ isortE (L1 ++ R1) ++ (L2 ++ R2 ++ B), by omega, ?_, ?_, fun w1 w2 => ?_, fun w => ?_, fun w1 w2 => ?_, fun w => ?_, fun w1 w2 => ?_, fun w => ?_⟩
 ·rw [hD]; simp only [List.length_append]; omega
 ·rw [hD]; simp only [List.length_append, isort_len]; omega
 ·exact ⟨A ++ L1, L2, R1, R2 ++ B, by rw [hD]; simp [List.append_assoc], by simp [List.append_assoc], by simp only [List.length_append]; omega, by omega, by omega, by omega, by omega⟩
 ·rw [hD]
  rcases Nat.lt_or_ge s m with h | h
  ·have : R1 = [] := List.length_eq_zero_iff.1 (by omega)
   subst this; simp [List.append_assoc]
  ·have : L2 = [] := List.length_eq_zero_iff.1 (by omega)
   subst this; simp [List.append_assoc]
 ·exact ⟨A, L1, R1, L2 ++ R2 ++ B, rfl, rfl, p1.1, p2.1, h3, by omega, by omega, by omega, by omega⟩
 ·have : isortE (L1 ++ R1) = L1 ++ R1 := by
   rcases Nat.lt_or_ge a s with h | h
   ·have : R1 = [] := List.length_eq_zero_iff.1 (by omega)
    subst this; rw [List.append_nil]; exact isort_id p1.1
   ·have : L1 = [] := List.length_eq_zero_iff.1 (by omega)
    subst this; rw [List.nil_append]; exact isort_id p2.1
  rw [this]; simp [List.append_assoc]
 ·refine ⟨A ++ isortE (L1 ++ R1), L2, R2, B, by simp [List.append_assoc], ?_, p1.2.1, p2.2.1, ?_, by omega, by omega, by omega, by omega⟩
  ·rw [hT, hss]; simp [List.append_assoc]
  ·simp only [List.length_append, isort_len]; omega
 ·have : isortE (L2 ++ R2) = L2 ++ R2 := by
   rcases Nat.lt_or_ge mid en with h | h
   ·have : R2 = [] := List.length_eq_zero_iff.1 (by omega)
    subst this; rw [List.append_nil]; exact isort_id p1.2.1
   ·have : L2 = [] := List.length_eq_zero_iff.1 (by omega)
    subst this; rw [List.nil_append]; exact isort_id p2.2.1
  rw [hT, hss, this]; simp [List.append_assoc]
end Go.SX

namespace Go.SX
open Go.Proofs
set_option maxHeartbeats 4000000
set_option maxRecDepth 100000
@[reducible] def cmpF : SV Cd := .fn (.func 41) [] []
theorem swapRange (D : List Event) (a b n : Nat) (hb : D.length ≤ 1000000) (h1 : a + n ≤ D.length) (h2 : b + n ≤ D.length) (f : Nat → List Event) (hf0 : f 0 = D) (hfl : ∀ i, i ≤ n → (f i).length = D.length) (hfs : ∀ i, i < n → swS (f i) (a + i) (b + i) = f (i + 1)) : Meets Tryz.prog Dc 162 [.slice 0 0 7 0 D.length, iS a, iS b, iS n, cmpF] [.rows U.event D] (.tuple []) [.rows U.event (f n)] := by
 refine meets_of_gx Ax tab_ok Tryz.func162 (c := _) rfl Tryz.call162 200 ?_
 (repeat' ((conv => whnf); first | fail))
 refine loop_upT [some 0] (fun q : Nat × List Event => [(10, iS q.1)]) (fun q => [(0, .rows U.event q.2)]) (fun q => q.1 ≤ n ∧ q.2 = f q.1) (fun q => n - q.1) (0, D) ⟨Nat.zero_le _, hf0.symm⟩ (by exact bkI) ?_
 rintro ⟨i, J⟩ ⟨hi, hJ⟩ K hK
 dsimp only at hi hJ hK ⊢
 have hl : J.length = D.length := by rw [hJ]; exact hfl i hi
 rcases Nat.lt_or_ge i n with hlt | hge
 ·have hsw : (J.set (0 + ((a : Int) + i).toNat) (J.getD (0 + ((b : Int) + i).toNat) (Cd.dflt U.event))).set (0 + ((b : Int) + i).toNat) (J.getD (0 + ((a : Int) + i).toNat) (Cd.dflt U.event)) = f (i + 1) := by
   rw [← hfs i hlt, ← hJ, show 0 + ((a : Int) + i).toNat = a + i by omega, show 0 + ((b : Int) + i).toNat = b + i by omega]; rfl
  (repeat' ((conv => whnf); first | (exfalso; omega) | refine hK (i + 1, (J.set (0 + ((a : Int) + i).toNat) (J.getD (0 + ((b : Int) + i).toNat) (Cd.dflt U.event))).set (0 + ((b : Int) + i).toNat) (J.getD (0 + ((a : Int) + i).toNat) (Cd.dflt U.event))) [some 0] _ _ ⟨⟨by dsimp only; omega, hsw⟩⟩ ⟨by dsimp only; omega⟩ (by exact bkI) | refine spC (fun hb => ?_) fun hb => ?_ | refine taC ?_ | refine saC ?_ | refine drawX_of mixed ?_))
 ·have he : f n = J := by rw [hJ, show i = n by omega]
  rw [he]
  (repeat' ((conv => whnf); first | (exfalso; omega) | (refine end_fn [some 0] (.inl rfl) ?_ ?_ rfl rfl; (focus exact vwV); exact hsV) | refine spC (fun hb => ?_) fun hb => ?_))

theorem rotate (D T : List Event) (a m b i j : Nat) (hb : D.length ≤ 1000000) (ha : a + i = m) (hm : m + j = b) (hr : Rot T D m i j) : Meets Tryz.prog Dc 157 [.slice 0 0 7 0 D.length, iS a, iS m, iS b, cmpF] [.rows U.event D] (.tuple []) [.rows U.event T] := by
 obtain ⟨z1, z2, z3, z4, z5⟩ := hr.bd
 have hmi : (m : Int) - a = i := by omega
 have hbj : (b : Int) - m = j := by omega
 refine meets_of_gx Ax tab_ok Tryz.func157 (c := _) rfl Tryz.call157 200 ?_
 (repeat' ((conv => whnf); first | refine saC ?_))
 refine loop_upT [some 0] (fun q : Int × Int × List Event => [(10, iS q.1), (11, iS q.2.1)]) (fun q => [(0, .rows U.event q.2.2)]) (fun q => ∃ i j : Nat, q.1 = i ∧ q.2.1 = j ∧ Rot T q.2.2 m i j ∧ q.2.2.length = D.length) (fun q => (q.1 + q.2.1).toNat) ((m : Int) - a, (b : Int) - m, D) ⟨i, j, hmi, hbj, hr, rfl⟩ (by exact bkI) ?_
 rintro ⟨x, y, J⟩ ⟨i, j, hx, hy, hr, hl⟩ K hK
 dsimp only at hx hy hr hl hK ⊢
 obtain ⟨z1, z2, z3, z4, z5⟩ := hr.bd
 rw [hl] at z2
 rcases Nat.lt_trichotomy i j with hij | hij | hij
 ·obtain ⟨f, f0, f1, f2, f3⟩ := hr.lt hij
  have hs := swapRange J (m - i) (m + j - i) i (by omega) (by omega) (by omega) f f0 f1 f2
  rw [show ((m - i : Nat) : Int) = m - x by omega, show ((m + j - i : Nat) : Int) = m + y - x by omega, ← hx, hl] at hs
  have hfl : (f i).length = D.length := by rw [f1 i (Nat.le_refl _), hl]
  generalize f i = J' at *
  (repeat' ((conv => whnf); first | (exfalso; omega) | (refine callh [some 0] hs rfl rfl ⟨rfl, trivial⟩ ?_) | refine hK (x, y - x, J') [some 0] _ _ ⟨⟨i, j - i, hx, by dsimp only; omega, f3, hfl⟩⟩ ⟨by dsimp only; omega⟩ (by exact bkI) | refine spC (fun hb => ?_) fun hb => ?_ | refine saC ?_))
  all_goals skip
 ·obtain ⟨f, f0, f1, f2, f3⟩ := (show Rot T J m i i by rw [← hij] at hr; exact hr).eq
  have hs := swapRange J (m - i) m i (by omega) (by omega) (by omega) f f0 f1 f2
  rw [show ((m - i : Nat) : Int) = m - x by omega, ← hx, hl, f3] at hs
  (repeat' ((conv => whnf); first | (exfalso; omega) | (refine callh [some 0] hs rfl rfl ⟨rfl, trivial⟩ ?_) | (refine end_fn [some 0] (.inl rfl) ?_ ?_ rfl rfl; (focus exact vwV); exact hsV) | refine spC (fun hb => ?_) fun hb => ?_ | refine saC ?_))
 ·obtain ⟨f, f0, f1, f2, f3⟩ := hr.gt hij
  have hs := swapRange J (m - i) m j (by omega) (by omega) (by omega) f f0 f1 f2
  rw [show ((m - i : Nat) : Int) = m - x by omega, ← hy, hl] at hs
  have hfl : (f j).length = D.length := by rw [f1 j (Nat.le_refl _), hl]
  generalize f j = J' at *
  (repeat' ((conv => whnf); first | (exfalso; omega) | (refine callh [some 0] hs rfl rfl ⟨rfl, trivial⟩ ?_) | refine hK (x - y, y, J') [some 0] _ _ ⟨⟨i - j, j, by dsimp only; omega, hy, f3, hfl⟩⟩ ⟨by dsimp only; omega⟩ (by exact bkI) | refine spC (fun hb => ?_) fun hb => ?_ | refine saC ?_))
end Go.SX
