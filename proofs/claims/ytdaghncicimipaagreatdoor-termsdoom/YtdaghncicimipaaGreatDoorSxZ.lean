/-
  SX, part Z: arguments that are read as data, as symbolic values; from a contract to the end of a row's call.
-/
import Derived.Test.YtdaghncicimipaaGreatDoorSxV6
import Derived.ProofKit
import Derived.OpenShut
import Derived.ShutString
import Derived.ChangeOld
import Derived.Below
import Derived.Carry
import Derived.Deep.Slices
set_option linter.unusedVariables false
set_option linter.unusedSimpArgs false
namespace Go.SX
open Go.ChangeShapes Go.WideShapes Go.RowKit Go.Deep
variable {C : Cod} {D : Codec C} {H : Type} {enc : TypeId × Value → H} {P : Program} {W : World}

/-- the blocks that were there -/
def Old (W : World) : Nat → Prop := fun b => b < W.heap.size
/-- The cells of type e, wherever they read, are those of an element of u. -/
structure ReadsAs (D : Codec C) (enc : TypeId × Value → H) (P : Program) (W : World) (e : TypeId) (u : C.U) (Ok : C.El u → Prop) : Prop where
  n : P.cellsOf e = C.n u
  el : ∀ fuel cs x, DataW.trod enc P W 0 (fun _ => true) true fuel e cs = some x → ∃ y : C.El u, PDenL D W (Old W) (D.enc u y) cs ∧ Ok y

theorem cell_old {a : Addr} {v : Value} (h : W.cell? a = some v) : a.block < W.heap.size := by
  unfold World.cell? at h
  rcases Nat.lt_or_ge a.block W.heap.size with h' | h'
  · exact h'
  · rw [Array.getElem?_eq_none h'] at h
    simp at h

theorem add_none (b o i : Nat) : (⟨b, o, none⟩ : Addr).add i = ⟨b, o + i, none⟩ := by
  unfold Addr.add
  split <;> simp_all

theorem readSlice {t e : TypeId} {u : C.U} {Ok : C.El u → Prop} (R : ReadsAs D enc P W e u Ok) (ht : P.underlying t = some (.slice e)) {fuel : Nat} {cs : List Value} {x : DataW H × List MemPlace}
    (h : DataW.trod enc P W 0 (fun _ => true) true fuel t cs = some x) :
    ∃ (v : Value) (l : List (C.El u)), cs = [v] ∧ PDen D W (Old W) (.dsl u l) v ∧ (∀ y ∈ l, Ok y) ∧ l.length ≤ maxLen := by
  rcases open_slice ht h with ⟨rfl, _⟩ | ⟨a, len, cap, m, n, Dd, Pl, rfl, _, hl, hm, hmm, _, hx⟩
  · exact ⟨_, [], rfl, .dslNil u none 0, by simp, by simp⟩
  · have hlm : len ≤ m := by rw [hmm]; split <;> omega
    by_cases h0 : len = 0
    · subst h0; exact ⟨_, [], rfl, .dslNil u (some a) cap, by simp, by simp⟩
    haveI : Inhabited (C.El u) := ⟨C.dflt u⟩
    obtain ⟨f, hf⟩ := choose_lt (n := len) (p := fun i (y : C.El u) => ∃ cs', W.cells? 0 (a.add (i * P.cellsOf e)) (P.cellsOf e) = some cs' ∧ PDenL D W (Old W) (D.enc u y) cs' ∧ Ok y) (fun i hi => by
      obtain ⟨cs', h1, h2⟩ := hx i (by omega)
      obtain ⟨y, h3, h4⟩ := R.el n cs' _ h2
      exact ⟨y, cs', h1, h3, h4⟩)
    have hn := R.n
    have hnp := D.n_pos u
    -- the address is a plain one
    have hspot : a.spot = none := by
      obtain ⟨cs', h1, h2, _⟩ := hf 0 (by omega)
      obtain ⟨_, hlen, hc⟩ := World.cells?_some h1
      have := hc 0 (by omega)
      have hv : ∃ v, cs'[0]? = some v := ⟨cs'[0]'(by omega), by rw [List.getElem?_eq_getElem]⟩
      obtain ⟨v, hv⟩ := hv
      rw [hv] at this
      have hs := World.cell?_spot this
      simpa [Addr.add] using hs
    obtain ⟨b, o, sp⟩ := a
    simp only at hspot
    subst hspot
    have hcell : ∀ i, i < len → ∀ j, j < C.n u → ∃ v, W.cell? ⟨b, o + i * C.n u + j, none⟩ = some v ∧ ∀ pv, (D.enc u (f i))[j]? = some pv → PDen D W (Old W) pv v := by
      intro i hi j hj
      obtain ⟨cs', h1, h2, _⟩ := hf i hi
      rw [hn, add_none] at h1
      obtain ⟨_, hlen, hc⟩ := World.cells?_some h1
      have := hc j hj
      rw [add_none] at this
      have hv : cs'[j]? = some (cs'[j]'(by omega)) := by rw [List.getElem?_eq_getElem]
      rw [hv] at this
      exact ⟨_, this, fun pv hp => h2.2 j pv _ hp hv⟩
    have hen : ∀ y, (D.enc u y).length = C.n u := D.enc_len u
    refine ⟨_, (List.range len).map f, rfl, ?_, ?_, ?_⟩
    · have key := PDen.dsl (D := D) (w := W) (F := Old W) u ((List.range len).map f) b o cap (fun i j => (W.cell? ⟨b, o + i * C.n u + j, none⟩).getD (.bool false)) ?_ (by simpa using hl) ?_ ?_
      · simpa using key
      · intro _
        obtain ⟨v, hv, _⟩ := hcell 0 (by omega) 0 hnp
        exact cell_old hv
      · intro i x hx j pv hp
        have hi : i < len := by
          rcases Nat.lt_or_ge i len with h' | h'
          · exact h'
          · rw [List.getElem?_eq_none (by simpa using h')] at hx; cases hx
        have hxe : x = f i := by simpa [hi] using hx.symm
        subst hxe
        have hj : j < C.n u := by
          rw [← hen (f i)]
          rcases Nat.lt_or_ge j (D.enc u (f i)).length with h' | h'
          · exact h'
          · rw [List.getElem?_eq_none h'] at hp; cases hp
        obtain ⟨v, hv, _⟩ := hcell i hi j hj
        rw [hv]; rfl
      · intro i x hx j pv hp
        have hi : i < len := by
          rcases Nat.lt_or_ge i len with h' | h'
          · exact h'
          · rw [List.getElem?_eq_none (by simpa using h')] at hx; cases hx
        have hxe : x = f i := by simpa [hi] using hx.symm
        subst hxe
        have hj : j < C.n u := by
          rw [← hen (f i)]
          rcases Nat.lt_or_ge j (D.enc u (f i)).length with h' | h'
          · exact h'
          · rw [List.getElem?_eq_none h'] at hp; cases hp
        obtain ⟨v, hv, hd⟩ := hcell i hi j hj
        rw [hv]; exact hd pv hp
    · intro y hy
      obtain ⟨i, hi, rfl⟩ := List.mem_map.1 hy
      obtain ⟨_, _, _, hok⟩ := hf i (List.mem_range.1 hi)
      exact hok
    · simp only [List.length_map, List.length_range]; omega

/-! ### Cells that are integers -/
def i64B (P : Program) (t : TypeId) : Bool := (match P.underlying t with | some (.int .i64) => true | _ => false) && P.cellsOf t == 1
theorem i64_of {t : TypeId} (h : i64B P t = true) : P.underlying t = some (.int .i64) ∧ P.cellsOf t = 1 := by
  unfold i64B at h
  simp only [Bool.and_eq_true, beq_iff_eq] at h
  refine ⟨?_, h.2⟩
  have h1 := h.1
  split at h1
  · assumption
  · cases h1
structure Z64 (n : Int) : Prop where
  h : -9223372036854775808 ≤ n ∧ n ≤ 9223372036854775807
theorem i64_wf {n : Int} (h : (Lit.int .i64 n).wf = true) : Z64 n := by
  simp only [Lit.wf, Bool.and_eq_true, decide_eq_true_eq] at h
  exact ⟨⟨h.1, h.2⟩⟩

theorem trod_i64 {t : TypeId} (ht : P.underlying t = some (.int .i64)) {fuel : Nat} {cs : List Value} {x : DataW H × List MemPlace} (h : DataW.trod enc P W 0 (fun _ => true) true fuel t cs = some x) :
    ∃ n, cs = [.int .i64 n] ∧ Z64 n := by
  obtain ⟨n, h1, _, h2⟩ := DataW.trod_int ht h
  exact ⟨n, h1, i64_wf h2⟩

theorem ints_of {n : Nat} {cs : List Value} (hlen : cs.length = n) (h : ∀ i, i < n → ∃ z, (cs.drop i).take 1 = [.int .i64 z] ∧ Z64 z) :
    ∃ zs : List Int, zs.length = n ∧ cs = zs.map (Value.int .i64) ∧ ∀ z ∈ zs, Z64 z := by
  induction cs generalizing n with
  | nil => exact ⟨[], by simpa using hlen, rfl, by simp⟩
  | cons c cs ih =>
    cases n with
    | zero => simp at hlen
    | succ n =>
      obtain ⟨zs, h1, h2, h3⟩ := ih (n := n) (by simpa using hlen) (fun i hi => by simpa using h (i + 1) (by omega))
      obtain ⟨z, hz, hz'⟩ := h 0 (by omega)
      simp at hz
      refine ⟨z :: zs, by simp [h1], by simp [hz, h2], ?_⟩
      intro y hy
      rcases List.mem_cons.1 hy with rfl | hy
      · exact hz'
      · exact h3 y hy

theorem trod_array_ints {t e : TypeId} {n : Nat} (ht : P.underlying t = some (.array n e)) (he : i64B P e = true) (hn : P.cellsOf t = n) {fuel : Nat} {cs : List Value} {x : DataW H × List MemPlace}
    (h : DataW.trod enc P W 0 (fun _ => true) true fuel t cs = some x) : ∃ zs : List Int, zs.length = n ∧ cs = zs.map (Value.int .i64) ∧ ∀ z ∈ zs, Z64 z := by
  obtain ⟨xs, m, _, _, hlen, hxs, hel⟩ := DataW.trod_array ht h
  obtain ⟨hu, hc⟩ := i64_of he
  refine ints_of (hlen.trans hn) fun i hi => ?_
  have := hel i hi
  rw [List.getElem?_eq_getElem (by omega), hc, Nat.mul_one] at this
  exact trod_i64 hu this

theorem pdenL_ints (D : Codec C) (w : World) (F : Nat → Prop) (zs : List Int) : PDenL D w F (zs.map (PV.int .i64)) (zs.map (Value.int .i64)) := by
  refine ⟨by simp, fun j pv v hp hv => ?_⟩
  simp only [List.getElem?_map, Option.map_eq_some_iff] at hp hv
  obtain ⟨z, hz, rfl⟩ := hp
  obtain ⟨z', hz', rfl⟩ := hv
  rw [hz] at hz'
  injection hz' with e
  subst e
  exact .int _ _

/-! ### The call's end -/
/-- A law's call: it returns true, and nothing that was there has turned. -/
theorem calls_true {f : FuncId} {svs : List (SV C)} (hM : Meets P D f svs [] (.p (.bool true)) []) {args : Array Value} (hG : GlobOK C W ⟨Old W, fun _ => .fresh⟩) (hd : DenA D W ⟨Old W, fun _ => .fresh⟩ svs args.toList) :
    Calls P f args W fun e W' => e = .returned (.bool true) ∧ Below W.heap.size W W' := by
  have hs : Sat D W ⟨Old W, fun _ => .fresh⟩ (getC ([] : List (HS C))) := ⟨fun c => (by simp [getC, HS.ok]), fun c b e => (by cases e), fun c c' b e => (by cases e), fun b hb => hb, hG⟩
  refine ((hM.calls W ⟨Old W, fun _ => .fresh⟩ (fun c _ => rfl) args.toList hs hd).calls (fun k => by simp [Fence.room, Fc])).mono ?_
  rintro e w' ⟨v, E', rfl, hv, _, hfr⟩
  simp only [Den] at hv
  cases hv
  exact ⟨rfl, hfr.os, hfr.tape, hfr.output, hfr.size, fun b hb => hfr.same b hb (by rintro ⟨c, hc⟩; cases hc)⟩
end Go.SX
