/-
  Plain: equality of goals and orders.
-/
import Derived.Test.YtijedffphgckmaaGreatDoorSxTp0
import Derived.Test.YtijedffphgckmaaGreatDoorSxV6
import Derived.ProofKit
import Derived.OpenShut
import Derived.ShutString
import Derived.ChangeOld
import Derived.Below
import Derived.Carry
import Derived.Deep.Slices
import Derived.Shelf.Strings.OnBuilder
import Derived.Shelf.Strings.Count
import Derived.Shelf.Strings.Search3
import Derived.Shelf.Strconv.Itoa3
import Derived.Shelf.Strconv.AtoiAll
import Derived.Sort.Grow
set_option linter.unusedVariables false
set_option linter.unusedSimpArgs false
namespace Go.SX
theorem take_getD {α : Type} {d : α} {l : List α} {i : Nat} (h : i < l.length) : l.take (i + 1) = l.take i ++ [l.getD i d] := by
 rw [List.take_add_one, List.getElem?_eq_getElem h, List.getD_eq_getElem?_getD, List.getElem?_eq_getElem h]; rfl
theorem drop_getD {α : Type} {d : α} {l : List α} {i : Nat} (h : i < l.length) : l.drop i = l.getD i d :: l.drop (i + 1) := by
 rw [List.drop_eq_getElem_cons h, List.getD_eq_getElem?_getD, List.getElem?_eq_getElem h]; rfl
mutual
def sameG : Goal → Goal → Bool
 | ⟨kind, rows, from_, to_, low, high, clear, days, times, within, cents, kids⟩, b =>
  plainB ⟨kind, rows, from_, to_, low, high, clear, days, times, within, cents, kids⟩ b && decide (rows = b.rows) && decide (cents = b.cents) && sameL kids b.kids
def sameL : List Goal → List Goal → Bool
 | [], [] => true
 | a :: l, b :: m => sameG a b && sameL l m
 | _, _ => false
end
theorem sameG_eq (a b : Goal) : sameG a b = (plainB a b && decide (a.rows = b.rows) && decide (a.cents = b.cents) && sameL a.kids b.kids) := by cases a; rw [sameG]
theorem plainB_iff {a b : Goal} : plainB a b = true ↔ a.kind = b.kind ∧ a.from_ = b.from_ ∧ a.to_ = b.to_ ∧ a.low = b.low ∧ a.high = b.high ∧ a.clear = b.clear ∧ a.days = b.days ∧ a.times = b.times ∧ a.within = b.within := by
 simp [plainB, and_assoc]
mutual
theorem sameG_iff : ∀ a b : Goal, sameG a b = true ↔ a = b
 | ⟨kind, rows, from_, to_, low, high, clear, days, times, within, cents, kids⟩, b => by
  rw [sameG]
  simp only [Bool.and_eq_true, decide_eq_true_eq, plainB_iff, sameL_iff kids b.kids]
  cases b
  simp only [Goal.mk.injEq]
  constructor
  ·rintro ⟨⟨⟨⟨h1, h2, h3, h4, h5, h6, h7, h8, h9⟩, h10⟩, h11⟩, h12⟩; exact ⟨h1, h10, h2, h3, h4, h5, h6, h7, h8, h9, h11, h12⟩
  ·rintro ⟨h1, h10, h2, h3, h4, h5, h6, h7, h8, h9, h11, h12⟩; exact ⟨⟨⟨⟨h1, h2, h3, h4, h5, h6, h7, h8, h9⟩, h10⟩, h11⟩, h12⟩
theorem sameL_iff : ∀ l m : List Goal, sameL l m = true ↔ l = m
 | [], [] => by simp [sameL]
 | [], b :: m => by simp [sameL]
 | a :: l, [] => by simp [sameL]
 | a :: l, b :: m => by rw [sameL]; simp only [Bool.and_eq_true, sameG_iff a b, sameL_iff l m, List.cons.injEq]
end
theorem sameL_len {l m : List Goal} (h : l.length ≠ m.length) : sameL l m = false := by
 cases hs : sameL l m with
 | false => rfl
 | true => exact absurd (by rw [(sameL_iff l m).1 hs]) h
theorem sameL_at {l m : List Goal} {i : Nat} {d : Goal} (h : l.length = m.length) (hi : i < l.length) (hn : sameG (l.getD i d) (m.getD i d) = false) : sameL l m = false := by
 cases hs : sameL l m with
 | false => rfl
 | true =>
  rw [(sameL_iff l m).1 hs] at hn
  rw [(sameG_iff _ _).2 rfl] at hn
  cases hn
theorem sameL_all {l m : List Goal} {d : Goal} (h : l.length = m.length) (ha : ∀ i, i < l.length → sameG (l.getD i d) (m.getD i d) = true) : sameL l m = true := by
 rw [sameL_iff]
 refine List.ext_getElem h fun i h1 h2 => ?_
 have := (sameG_iff _ _).1 (ha i h1)
 rw [List.getD_eq_getElem?_getD, List.getD_eq_getElem?_getD, List.getElem?_eq_getElem h1, List.getElem?_eq_getElem h2] at this
 exact this
def sameO (a b : Order) : Bool := decide (a.id = b.id) && decide (a.owner = b.owner) && decide (a.price = b.price) && decide (a.group = b.group) && (a.urgent == b.urgent) && decide (a.known = b.known) && decide (a.due = b.due) && sameG a.goal b.goal
theorem sameO_iff (a b : Order) : sameO a b = true ↔ a = b := by
 unfold sameO
 simp only [Bool.and_eq_true, decide_eq_true_eq, sameG_iff, beq_iff_eq]
 cases a; cases b
 simp only [Order.mk.injEq]
 constructor
 ·rintro ⟨⟨⟨⟨⟨⟨⟨h1, h2⟩, h3⟩, h4⟩, h5⟩, h6⟩, h7⟩, h8⟩; exact ⟨h1, h2, h8, h3, h4, h5, h6, h7⟩
 ·rintro ⟨h1, h2, h8, h3, h4, h5, h6, h7⟩; exact ⟨⟨⟨⟨⟨⟨⟨h1, h2⟩, h3⟩, h4⟩, h5⟩, h6⟩, h7⟩, h8⟩
end Go.SX

/-
 SX, part V9: views in which numbers and rows may be spelled otherwise.
-/
namespace Go.SX
variable {C : Cod}
section
variable {Hp : List (HS C)} {θ : List (Option Nat)} {T T' : List (SV C)} {Hp' : List (HS C)} {m0 : Nat} {ret : SV C}
theorem intV {k : IntKind} {a b : Int} (h : a = b := by omega) : View Hp θ (.p (.int k a)) (.p (.int k b)) := by subst h; rfl
theorem rowV {u : C.U} {xs ys : List (C.El u)} (h : xs = ys) : ViewH Hp θ (.rows u xs) (.rows u ys) := by subst h; rfl
theorem slV {c o n off len len' d off' : Nat} (h : len = len') (h2 : off = off') (h1 : View Hp θ (.slice d o n off' len') (.slice c o n off' len')) : View Hp θ (.slice d o n off len) (.slice c o n off' len') := by subst h; subst h2; exact h1
theorem bkI {m0 : Nat} (h1 : ViewL Hp θ T T' := by first | ((repeat' (first | exact trivial | exact rfl | refine And.intro ?_ ?_ | exact intV | exact fzV | exact fvV)); done) | fail) (h2 : ViewHs Hp θ θ Hp' := by
    first | ((repeat' (first | exact trivial | exact rfl | refine And.intro ?_ ?_ | exact ⟨_, rfl⟩ | exact intV | (refine rowV ?_; assumption) | (refine rowV ?_; (apply Eq.symm); assumption) | exact fzV | exact fvV)); done) | fail) (h3 : idO m0 0 θ = true := by rfl) (h4 : ndO θ = true := by rfl) : Back m0 θ T Hp T' Hp' := ⟨h1, h2, h3, h4⟩
end
end Go.SX
namespace Go.SX
variable {C : Cod}
theorem loop_upT {D : Codec C} {m0 : Nat} {R : Kont C} {body : Code} {k : List (It C)} {T : List (SV C)} {Hp : List (HS C)} {γ : Type} (θ0 : List (Option Nat)) (I : γ → List (Nat × SV C)) (U : γ → List (Nat × HS C)) (good : γ → Prop) (μ : γ → Nat) (g0 : γ) (h0 : good g0) (hent : Back m0 θ0 T Hp (headT body T (I g0)) (setCs Hp (U g0)))
  (hround : ∀ g, good g → ∀ K : List (SV C) → List (HS C) → Prop, (∀ g' θ T' Hp', Side (good g') → Side (μ g' < μ g) → Back m0 θ T' Hp' (headT body T (I g')) (setCs Hp (U g')) → K T' Hp') →
   forceV (headT body T (I g)) fun T1 => setCsK Hp (U g) fun Hp1 => R (.code body :: .endLoop K :: k) T1 Hp1) : LoopX D m0 R body k T Hp := by
 refine loop_inv I (fun g => setCs Hp (U g)) good μ g0 h0 θ0 hent fun g hg K hK => ?_
 have := hround g hg K hK
 rw [forceV_eq, setCsK_eq] at this
 rw [forceV_eq, forceL_eq]
 exact this
end Go.SX

namespace Go.SX
open Go.Proofs
set_option maxHeartbeats 4000000
set_option maxRecDepth 100000
@[reducible] def ordA (o : Order) : SV Cd := .agg [iS o.id, iS o.owner, iS o.goal.kind, lS o.goal.rows, iS o.goal.from_, iS o.goal.to_, iS o.goal.low, iS o.goal.high, bS o.goal.clear, iS o.goal.days, iS o.goal.times, iS o.goal.within, lS o.goal.cents, .p (.dsl U.goal o.goal.kids), iS o.price, iS o.group, bS o.urgent, iS o.known, iS o.due]
theorem ovalid (o : Order) (hG : GAll o.goal) : Meets Tryz.prog Dc 16 [ordA o] [] (bS (ordB o)) [] := by
 have h := oin
 have h1 := valid_meets o.goal hG
 refine meets_of_gx Ax tab_ok Tryz.func16 (c := _) rfl Tryz.call16 200 ?_
 (repeat' ((conv => whnf); first | refine x0C (eB ?_ rfl) | (exfalso; omega) | refine cpC (h _ _ _) ?_ | refine dpC (h _ _ _) ?_ | refine cpC (h1) ?_ | refine dpC (h1) ?_ | refine x0C ?_ | refine spC (fun hb => ?_) fun hb => ?_ | refine nilC (fun hb => ?_) ?_ | refine taC ?_ | refine saC ?_ | exact sdV | refine side_and ?_ ?_ | refine drawX_of mixed ?_))
 all_goals clear h h1
 all_goals first | (refine ⟨?_⟩; simp only [inB_iff] at *; exact inR_i64 (by omega) (by omega)) | (simp_all [ordB]; done)
theorem sEqual (a b : List Int) (ha : (a.length : Int) ≤ 9223372036854775807) : Meets Tryz.prog Dc 71 [lS a, lS b] [] (bS (decide (a = b))) [] := by
 by_cases hlen : a.length = b.length
 rotate_left
 ·rw [decide_eq_false (fun e => hlen (by rw [e]))]
  refine meets_of_gx Ax tab_ok Tryz.func71 (c := _) rfl Tryz.call71 100 ?_
  (repeat' ((conv => whnf); first | refine x0C (eB ?_ rfl) | (exfalso; omega) | refine x0C ?_ | refine spC (fun hb => ?_) fun hb => ?_ | refine nilC (fun hb => ?_) ?_ | refine taC ?_ | refine saC ?_ | exact sdV | refine side_and ?_ ?_ | refine drawX_of mixed ?_))
  all_goals rfl
 ·refine meets_of_gx Ax tab_ok Tryz.func71 (c := _) rfl Tryz.call71 100 ?_
  (repeat' ((conv => whnf); first | (exfalso; omega) | refine x0C ?_ | refine spC (fun hb => ?_) fun hb => ?_ | refine nilC (fun hb => ?_) ?_ | refine taC ?_ | refine saC ?_ | exact sdV | refine side_and ?_ ?_ | refine drawX_of mixed ?_))
  refine loop_up (fun i : Nat => [(13, iS i)]) (fun _ => []) (fun i => i ≤ a.length ∧ a.take i = b.take i) (fun i => a.length - i) 0 ⟨Nat.zero_le _, by simp⟩ (by exact bkI) ?_
  rintro i ⟨hi, he⟩ K hK
  rcases Nat.lt_or_ge i a.length with hlt | hge
  ·have t1 := take_getD (d := Cd.dflt U.int) hlt
   have t2 := take_getD (d := Cd.dflt U.int) (show i < b.length by omega)
   have hs : a.getD (i : Int).toNat (Cd.dflt U.int) = b.getD (i : Int).toNat (Cd.dflt U.int) → a.take (i + 1) = b.take (i + 1) := fun h => by
    rw [t1, t2, he, show a.getD i (Cd.dflt U.int) = b.getD i (Cd.dflt U.int) from h]
   have hn : ¬ a.getD (i : Int).toNat (Cd.dflt U.int) = b.getD (i : Int).toNat (Cd.dflt U.int) → decide (a = b) = false := fun h => decide_eq_false fun e => h (by rw [e])
   (repeat' ((conv => whnf); first | refine x0C (eB ?_ rfl) | (exfalso; omega) | refine hK (i + 1) [] _ _ ⟨⟨by omega, hs (by assumption)⟩⟩ ⟨by omega⟩ (by exact bkI) | refine x0C ?_ | refine spC (fun hb => ?_) fun hb => ?_ | refine nilC (fun hb => ?_) ?_ | refine taC ?_ | refine saC ?_ | exact sdV | refine side_and ?_ ?_ | refine drawX_of mixed ?_))
   all_goals exact (hn (by assumption)).symm
  ·rw [List.take_of_length_le hge, List.take_of_length_le (by omega)] at he
   rw [decide_eq_true he]
   (repeat' ((conv => whnf); first | refine x0C (eB ?_ rfl) | (exfalso; omega) | refine x0C ?_ | refine spC (fun hb => ?_) fun hb => ?_ | refine nilC (fun hb => ?_) ?_ | refine taC ?_ | refine saC ?_ | exact sdV | refine side_and ?_ ?_ | refine drawX_of mixed ?_))
   all_goals rfl
theorem sEqualF (a b : List Goal) (ha : (a.length : Int) ≤ 9223372036854775807) (h : ∀ x ∈ a, ∀ y, Meets Tryz.prog Dc 45 [goalA x, goalA y] [] (bS (sameG x y)) []) :
  Meets Tryz.prog Dc 72 [.p (.dsl U.goal a), .p (.dsl U.goal b), .fn (.func 45) [] []] [] (bS (sameL a b)) [] := by
 by_cases hlen : a.length = b.length
 rotate_left
 ·rw [sameL_len hlen]
  refine meets_of_gx Ax tab_ok Tryz.func72 (c := _) rfl Tryz.call72 100 ?_
  (repeat' ((conv => whnf); first | refine x0C (eB ?_ rfl) | (exfalso; omega) | refine x0C ?_ | refine spC (fun hb => ?_) fun hb => ?_ | refine nilC (fun hb => ?_) ?_ | refine taC ?_ | refine saC ?_ | exact sdV | refine side_and ?_ ?_ | refine drawX_of mixed ?_))
  all_goals rfl
 ·refine meets_of_gx Ax tab_ok Tryz.func72 (c := _) rfl Tryz.call72 100 ?_
  (repeat' ((conv => whnf); first | (exfalso; omega) | refine x0C ?_ | refine spC (fun hb => ?_) fun hb => ?_ | refine nilC (fun hb => ?_) ?_ | refine taC ?_ | refine saC ?_ | exact sdV | refine side_and ?_ ?_ | refine drawX_of mixed ?_))
  refine loop_up (fun i : Nat => [(17, iS i)]) (fun _ => []) (fun i => i ≤ a.length ∧ ∀ j, j < i → sameG (a.getD j (U.dflt .goal)) (b.getD j (U.dflt .goal)) = true) (fun i => a.length - i) 0 ⟨Nat.zero_le _, fun j hj => absurd hj (Nat.not_lt_zero _)⟩ (by exact bkI) ?_
  rintro i ⟨hi, he⟩ K hK
  rcases Nat.lt_or_ge i a.length with hlt | hge
  ·have hm : a.getD (i : Int).toNat (Cd.dflt U.goal) ∈ a := List.mem_of_getElem? (getD_some (d := Cd.dflt U.goal) hlt)
   have hx := h _ hm (b.getD (i : Int).toNat (Cd.dflt U.goal))
   cases hs : sameG (a.getD (i : Int).toNat (Cd.dflt U.goal)) (b.getD (i : Int).toNat (Cd.dflt U.goal)) with
   | true =>
    rw [hs] at hx
    have he' : ∀ j, j < i + 1 → sameG (a.getD j (U.dflt .goal)) (b.getD j (U.dflt .goal)) = true := fun j hj => by
     rcases Nat.lt_or_ge j i with h1 | h1
     ·exact he j h1
     ·obtain rfl : j = i := by omega
      exact hs
    (repeat' ((conv => whnf); first | refine x0C (eB ?_ rfl) | (exfalso; omega) | refine cpC (hx) ?_ | refine dpC (hx) ?_ | refine hK (i + 1) [] _ _ ⟨⟨by omega, he'⟩⟩ ⟨by omega⟩ (by exact bkI) | refine x0C ?_ | refine spC (fun hb => ?_) fun hb => ?_ | refine nilC (fun hb => ?_) ?_ | refine taC ?_ | refine saC ?_ | exact sdV | refine side_and ?_ ?_ | refine drawX_of mixed ?_))
   | false =>
    rw [hs] at hx
    rw [sameL_at (d := U.dflt .goal) hlen hlt hs]
    (repeat' ((conv => whnf); first | refine x0C (eB ?_ rfl) | (exfalso; omega) | refine cpC (hx) ?_ | refine dpC (hx) ?_ | refine x0C ?_ | refine spC (fun hb => ?_) fun hb => ?_ | refine nilC (fun hb => ?_) ?_ | refine taC ?_ | refine saC ?_ | exact sdV | refine side_and ?_ ?_ | refine drawX_of mixed ?_))
    all_goals rfl
  ·rw [sameL_all (d := U.dflt .goal) hlen fun j hj => he j (by omega)]
   (repeat' ((conv => whnf); first | refine x0C (eB ?_ rfl) | (exfalso; omega) | refine x0C ?_ | refine spC (fun hb => ?_) fun hb => ?_ | refine nilC (fun hb => ?_) ?_ | refine taC ?_ | refine saC ?_ | exact sdV | refine side_and ?_ ?_ | refine drawX_of mixed ?_))
   all_goals rfl
theorem same_meets : ∀ (n : Nat) (a b : Goal), SizeOf.sizeOf a ≤ n → GAll a → Meets Tryz.prog Dc 45 [goalA a, goalA b] [] (bS (sameG a b)) []
 | 0, a, b, hn, _ => by cases a; simp at hn
 | n + 1, a, b, hn, hG => by
  have hG' := (GAll_iff a).1 hG
  have hk : ∀ x ∈ a.kids, SizeOf.sizeOf x ≤ n := fun x hx => by
   have h1 := List.sizeOf_lt_of_mem hx
   have h2 : SizeOf.sizeOf a.kids < SizeOf.sizeOf a := by cases a; simp; omega
   omega
  have h1 := plain_meets a b
  have h2 := sEqual a.rows b.rows hG'.1.rows
  have h3 := sEqual a.cents b.cents hG'.1.cents
  have h4 := sEqualF a.kids b.kids hG'.1.kids fun x hx y => same_meets n x y (hk x hx) (GAllL_mem hG'.2 hx)
  rw [sameG_eq]
  refine meets_of_gx Ax tab_ok Tryz.func45 (c := _) rfl Tryz.call45 200 ?_
  (repeat' ((conv => whnf); first | refine x0C (eB ?_ rfl) | (exfalso; omega) | refine cpC (h1) ?_ | refine dpC (h1) ?_ | refine cpC (h2) ?_ | refine dpC (h2) ?_ | refine cpC (h3) ?_ | refine dpC (h3) ?_ | refine cpC (h4) ?_ | refine dpC (h4) ?_ | refine x0C ?_ | refine spC (fun hb => ?_) fun hb => ?_ | refine nilC (fun hb => ?_) ?_ | refine taC ?_ | refine saC ?_ | exact sdV | refine side_and ?_ ?_ | refine drawX_of mixed ?_))
  all_goals clear h1 h2 h3 h4
  all_goals (first | (simp_all []; done) | (simp_all []; omega) | (simp_all []; grind))
theorem osame (a b : Order) (hG : GAll a.goal) : Meets Tryz.prog Dc 20 [ordA a, ordA b] [] (bS (sameO a b)) [] := by
 have h := same_meets _ a.goal b.goal (Nat.le_refl _) hG
 refine meets_of_gx Ax tab_ok Tryz.func20 (c := _) rfl Tryz.call20 200 ?_
 (repeat' ((conv => whnf); first | refine x0C (eB ?_ rfl) | (exfalso; omega) | refine cpC (h) ?_ | refine dpC (h) ?_ | refine x0C ?_ | refine spC (fun hb => ?_) fun hb => ?_ | refine nilC (fun hb => ?_) ?_ | refine taC ?_ | refine saC ?_ | exact sdV | refine side_and ?_ ?_ | refine drawX_of mixed ?_))
 all_goals clear h
 all_goals (first | (simp_all [sameO]; done) | (simp_all [sameO]; omega) | (simp_all [sameO]; grind))
end Go.SX

/-
 SX, part Z: arguments that are read as data, as symbolic values; from a contract to the end of a row's call.
-/
namespace Go.SX
open Go.ChangeShapes Go.WideShapes Go.RowKit Go.Deep
variable {C : Cod} {D : Codec C} {H : Type} {enc : TypeId × Value → H} {P : Program} {W : World}

/-- the blocks that were there -/
def Old (W : World) : Nat → Prop := fun b => b < W.heap.size
/-- The cells of type e, wherever they read, are those of an element of u. -/
structure ReadsAs (D : Codec C) (enc : TypeId × Value → H) (P : Program) (W : World) (e : TypeId) (u : C.U) (Ok : C.El u → Prop) : Prop where
 n : P.cellsOf e = C.n u
 el : ∀ fuel cs x, DataW.trod enc P W 0 (fun _ => true) true fuel e cs = some x → ∃ y : C.El u, PDenL D W (Old W) (D.enc u y) cs ∧ Ok y

theorem cell_old {a : Addr} {v : Value} (h : W.cell? a = some v) : a.block < W.heap.size := by
 unfold World.cell? at h
 rcases Nat.lt_or_ge a.block W.heap.size with h' | h'
 ·exact h'
 ·rw [Array.getElem?_eq_none h'] at h
  simp at h

theorem add_none (b o i : Nat) : (⟨b, o, none⟩ : Addr).add i = ⟨b, o + i, none⟩ := by
 unfold Addr.add
 split <;> simp_all

theorem readSlice {t e : TypeId} {u : C.U} {Ok : C.El u → Prop} (R : ReadsAs D enc P W e u Ok) (ht : P.underlying t = some (.slice e)) {fuel : Nat} {cs : List Value} {x : DataW H × List MemPlace}
  (h : DataW.trod enc P W 0 (fun _ => true) true fuel t cs = some x) :
  ∃ (v : Value) (l : List (C.El u)), cs = [v] ∧ PDen D W (Old W) (.dsl u l) v ∧ (∀ y ∈ l, Ok y) ∧ l.length ≤ maxLen := by
 rcases open_slice ht h with ⟨rfl, _⟩ | ⟨a, len, cap, m, n, Dd, Pl, rfl, _, hl, hm, hmm, _, hx⟩
 ·exact ⟨_, [], rfl, .dslNil u none 0, by simp, by simp⟩
 ·have hlm : len ≤ m := by rw [hmm]; split <;> omega
  by_cases h0 : len = 0
  ·subst h0; exact ⟨_, [], rfl, .dslNil u (some a) cap, by simp, by simp⟩
  haveI : Inhabited (C.El u) := ⟨C.dflt u⟩
  obtain ⟨f, hf⟩ := choose_lt (n := len) (p := fun i (y : C.El u) => ∃ cs', W.cells? 0 (a.add (i * P.cellsOf e)) (P.cellsOf e) = some cs' ∧ PDenL D W (Old W) (D.enc u y) cs' ∧ Ok y) (fun i hi => by
   obtain ⟨cs', h1, h2⟩ := hx i (by omega)
   obtain ⟨y, h3, h4⟩ := R.el n cs' _ h2
   exact ⟨y, cs', h1, h3, h4⟩)
  have hn := R.n
  have hnp := D.n_pos u
  -- the address is a plain one
  have hspot : a.spot = none := by
   obtain ⟨cs', h1, h2, _⟩ := hf 0 (by omega)
   obtain ⟨_, hlen, hc⟩ := World.cells?_some h1
   have := hc 0 (by omega)
   have hv : ∃ v, cs'[0]? = some v := ⟨cs'[0]'(by omega), by rw [List.getElem?_eq_getElem]⟩
   obtain ⟨v, hv⟩ := hv
   rw [hv] at this
   have hs := World.cell?_spot this
   simpa [Addr.add] using hs
  obtain ⟨b, o, sp⟩ := a
  simp only at hspot
  subst hspot
  have hcell : ∀ i, i < len → ∀ j, j < C.n u → ∃ v, W.cell? ⟨b, o + i * C.n u + j, none⟩ = some v ∧ ∀ pv, (D.enc u (f i))[j]? = some pv → PDen D W (Old W) pv v := by
   intro i hi j hj
   obtain ⟨cs', h1, h2, _⟩ := hf i hi
   rw [hn, add_none] at h1
   obtain ⟨_, hlen, hc⟩ := World.cells?_some h1
   have := hc j hj
   rw [add_none] at this
   have hv : cs'[j]? = some (cs'[j]'(by omega)) := by rw [List.getElem?_eq_getElem]
   rw [hv] at this
   exact ⟨_, this, fun pv hp => h2.2 j pv _ hp hv⟩
  have hen : ∀ y, (D.enc u y).length = C.n u := D.enc_len u
  refine ⟨_, (List.range len).map f, rfl, ?_, ?_, ?_⟩
  ·have key := PDen.dsl (D := D) (w := W) (F := Old W) u ((List.range len).map f) b o cap (fun i j => (W.cell? ⟨b, o + i * C.n u + j, none⟩).getD (.bool false)) ?_ (by simpa using hl) ?_ ?_
   ·simpa using key
   ·intro _
    obtain ⟨v, hv, _⟩ := hcell 0 (by omega) 0 hnp
    exact cell_old hv
   ·intro i x hx j pv hp
    have hi : i < len := by
     rcases Nat.lt_or_ge i len with h' | h'
     ·exact h'
     ·rw [List.getElem?_eq_none (by simpa using h')] at hx; cases hx
    have hxe : x = f i := by simpa [hi] using hx.symm
    subst hxe
    have hj : j < C.n u := by
     rw [← hen (f i)]
     rcases Nat.lt_or_ge j (D.enc u (f i)).length with h' | h'
     ·exact h'
     ·rw [List.getElem?_eq_none h'] at hp; cases hp
    obtain ⟨v, hv, _⟩ := hcell i hi j hj
    rw [hv]; rfl
   ·intro i x hx j pv hp
    have hi : i < len := by
     rcases Nat.lt_or_ge i len with h' | h'
     ·exact h'
     ·rw [List.getElem?_eq_none (by simpa using h')] at hx; cases hx
    have hxe : x = f i := by simpa [hi] using hx.symm
    subst hxe
    have hj : j < C.n u := by
     rw [← hen (f i)]
     rcases Nat.lt_or_ge j (D.enc u (f i)).length with h' | h'
     ·exact h'
     ·rw [List.getElem?_eq_none h'] at hp; cases hp
    obtain ⟨v, hv, hd⟩ := hcell i hi j hj
    rw [hv]; exact hd pv hp
  ·intro y hy
   obtain ⟨i, hi, rfl⟩ := List.mem_map.1 hy
   obtain ⟨_, _, _, hok⟩ := hf i (List.mem_range.1 hi)
   exact hok
  ·simp only [List.length_map, List.length_range]; omega

/-! ### Cells that are integers -/
def i64B (P : Program) (t : TypeId) : Bool := (match P.underlying t with | some (.int .i64) => true | _ => false) && P.cellsOf t == 1
theorem i64_of {t : TypeId} (h : i64B P t = true) : P.underlying t = some (.int .i64) ∧ P.cellsOf t = 1 := by
 unfold i64B at h
 simp only [Bool.and_eq_true, beq_iff_eq] at h
 refine ⟨?_, h.2⟩
 have h1 := h.1
 split at h1
 ·assumption
 ·cases h1
def intFieldsB (P : Program) (fs : Array Field) : Bool := (List.range fs.size).all fun i => match fs[i]? with
 | some f => f.offset == i && i64B P f.type
 | none => false

structure Z64 (n : Int) : Prop where
 h : -9223372036854775808 ≤ n ∧ n ≤ 9223372036854775807
theorem i64_wf {n : Int} (h : (Lit.int .i64 n).wf = true) : Z64 n := by
 simp only [Lit.wf, Bool.and_eq_true, decide_eq_true_eq] at h
 exact ⟨⟨h.1, h.2⟩⟩

theorem trod_i64 {t : TypeId} (ht : P.underlying t = some (.int .i64)) {fuel : Nat} {cs : List Value} {x : DataW H × List MemPlace} (h : DataW.trod enc P W 0 (fun _ => true) true fuel t cs = some x) :
  ∃ n, cs = [.int .i64 n] ∧ Z64 n := by
 obtain ⟨n, h1, _, h2⟩ := DataW.trod_int ht h
 exact ⟨n, h1, i64_wf h2⟩

theorem ints_of {n : Nat} {cs : List Value} (hlen : cs.length = n) (h : ∀ i, i < n → ∃ z, (cs.drop i).take 1 = [.int .i64 z] ∧ Z64 z) :
  ∃ zs : List Int, zs.length = n ∧ cs = zs.map (Value.int .i64) ∧ ∀ z ∈ zs, Z64 z := by
 induction cs generalizing n with
 | nil => exact ⟨[], by simpa using hlen, rfl, by simp⟩
 | cons c cs ih =>
  cases n with
  | zero => simp at hlen
  | succ n =>
   obtain ⟨zs, h1, h2, h3⟩ := ih (n := n) (by simpa using hlen) (fun i hi => by simpa using h (i + 1) (by omega))
   obtain ⟨z, hz, hz'⟩ := h 0 (by omega)
   simp at hz
   refine ⟨z :: zs, by simp [h1], by simp [hz, h2], ?_⟩
   intro y hy
   rcases List.mem_cons.1 hy with rfl | hy
   ·exact hz'
   ·exact h3 y hy

theorem trod_struct_ints {t : TypeId} {fs : Array Field} (ht : P.underlying t = some (.struct fs)) (hf : intFieldsB P fs = true) (hn : P.cellsOf t = fs.size) {fuel : Nat} {cs : List Value} {x : DataW H × List MemPlace}
  (h : DataW.trod enc P W 0 (fun _ => true) true fuel t cs = some x) : ∃ zs : List Int, zs.length = fs.size ∧ cs = zs.map (Value.int .i64) ∧ ∀ z ∈ zs, Z64 z := by
 obtain ⟨xs, n, _, _, hlen, hxs, hel⟩ := DataW.trod_struct ht h
 refine ints_of (hlen.trans hn) fun i hi => ?_
 have hfi := List.all_eq_true.1 hf i (List.mem_range.2 hi)
 rw [Array.getElem?_eq_getElem hi] at hfi
 simp only [Bool.and_eq_true, beq_iff_eq] at hfi
 obtain ⟨hu, hc⟩ := i64_of hfi.2
 have := hel i fs[i] (Array.getElem?_eq_getElem hi)
 rw [List.getElem?_eq_getElem (by omega), hc, hfi.1] at this
 exact trod_i64 hu this

theorem trod_array_ints {t e : TypeId} {n : Nat} (ht : P.underlying t = some (.array n e)) (he : i64B P e = true) (hn : P.cellsOf t = n) {fuel : Nat} {cs : List Value} {x : DataW H × List MemPlace}
  (h : DataW.trod enc P W 0 (fun _ => true) true fuel t cs = some x) : ∃ zs : List Int, zs.length = n ∧ cs = zs.map (Value.int .i64) ∧ ∀ z ∈ zs, Z64 z := by
 obtain ⟨xs, m, _, _, hlen, hxs, hel⟩ := DataW.trod_array ht h
 obtain ⟨hu, hc⟩ := i64_of he
 refine ints_of (hlen.trans hn) fun i hi => ?_
 have := hel i hi
 rw [List.getElem?_eq_getElem (by omega), hc, Nat.mul_one] at this
 exact trod_i64 hu this

theorem pdenL_ints (D : Codec C) (w : World) (F : Nat → Prop) (zs : List Int) : PDenL D w F (zs.map (PV.int .i64)) (zs.map (Value.int .i64)) := by
 refine ⟨by simp, fun j pv v hp hv => ?_⟩
 simp only [List.getElem?_map, Option.map_eq_some_iff] at hp hv
 obtain ⟨z, hz, rfl⟩ := hp
 obtain ⟨z', hz', rfl⟩ := hv
 rw [hz] at hz'
 injection hz' with e
 subst e
 exact .int _ _

/-! ### The call's end -/
/-- A law's call: it returns true, and nothing that was there has turned. -/
theorem calls_true {f : FuncId} {svs : List (SV C)} (hM : Meets P D f svs [] (.p (.bool true)) []) {args : Array Value} (hG : GlobOK C W ⟨Old W, fun _ => .fresh⟩) (hd : DenA D W ⟨Old W, fun _ => .fresh⟩ svs args.toList) :
  Calls P f args W fun e W' => e = .returned (.bool true) ∧ Below W.heap.size W W' := by
 have hs : Sat D W ⟨Old W, fun _ => .fresh⟩ (getC ([] : List (HS C))) := ⟨fun c => (by simp [getC, HS.ok]), fun c b e => (by cases e), fun c c' b e => (by cases e), fun b hb => hb, hG⟩
 refine ((hM.calls W ⟨Old W, fun _ => .fresh⟩ (fun c _ => rfl) args.toList hs hd).calls (fun k => by simp [Fence.room, Fc])).mono ?_
 rintro e w' ⟨v, E', rfl, hv, _, hfr⟩
 simp only [Den] at hv
 cases hv
 exact ⟨rfl, hfr.os, hfr.tape, hfr.output, hfr.size, fun b hb => hfr.same b hb (by rintro ⟨c, hc⟩; cases hc)⟩
end Go.SX

namespace Go.SX
open Go.Proofs Go.Shelf
set_option maxRecDepth 100000
set_option maxHeartbeats 4000000
def repAt (l : List (Nat × Nat)) (x : Nat) : Nat := match l with
 | [] => x
 | (a, b) :: l => if a = x then b else repAt l x
def index_laysR : Ren := ⟨repAt [(143, 107), (219, 130), (217, 145), (225, 146), (224, 147), (267, 148), (266, 156), (314, 157)], repAt [(9, 9), (3, 3), (4, 4), (5, 5), (46, 124), (146, 192), (51, 147)], repAt [(1, 2)]⟩
theorem index_lays : Lays.n143 Tryz.prog index_laysR where
 mixed := by kernel_rfl
 f143 := by kernel_rfl
 f217 := by kernel_rfl
 f219 := by kernel_rfl
 f224 := by kernel_rfl
 f225 := by kernel_rfl
 f266 := by kernel_rfl
 f267 := by kernel_rfl
 f314 := by kernel_rfl
 t3 := by kernel_rfl
 a3 := fun w => by kernel_rfl
 z3 := fun w => by kernel_rfl
 v3 := fun w => by kernel_rfl
 t4 := by kernel_rfl
 a4 := fun w => by kernel_rfl
 z4 := fun w => by kernel_rfl
 v4 := fun w => by kernel_rfl
 t5 := by kernel_rfl
 a5 := fun w => by kernel_rfl
 z5 := fun w => by kernel_rfl
 v5 := fun w => by kernel_rfl
 t9 := by kernel_rfl
 a9 := fun w => by kernel_rfl
 z9 := fun w => by kernel_rfl
 v9 := fun w => by kernel_rfl
 t46 := by kernel_rfl
 a46 := fun w => by kernel_rfl
 z46 := fun w => by kernel_rfl
 v46 := fun w => by kernel_rfl
 t51 := by kernel_rfl
 a51 := fun w => by kernel_rfl
 z51 := fun w => by kernel_rfl
 v51 := fun w => by kernel_rfl
 t146 := by kernel_rfl
 a146 := fun w => by kernel_rfl
 z146 := fun w => by kernel_rfl
 v146 := fun w => by kernel_rfl
 g1 := by kernel_rfl
def count_laysR : Ren := ⟨repAt [(138, 106), (195, 127), (218, 129), (143, 107), (219, 130), (217, 145), (225, 146), (224, 147), (267, 148), (266, 156), (314, 157)], repAt [(9, 9), (3, 3), (4, 4), (5, 5), (0, 0), (46, 124), (146, 192), (51, 147)], repAt [(1, 2)]⟩
theorem count_lays : Lays.n138 Tryz.prog count_laysR where
 mixed := by kernel_rfl
 f138 := by kernel_rfl
 f143 := by kernel_rfl
 f195 := by kernel_rfl
 f217 := by kernel_rfl
 f218 := by kernel_rfl
 f219 := by kernel_rfl
 f224 := by kernel_rfl
 f225 := by kernel_rfl
 f266 := by kernel_rfl
 f267 := by kernel_rfl
 f314 := by kernel_rfl
 t0 := by kernel_rfl
 a0 := fun w => by kernel_rfl
 z0 := fun w => by kernel_rfl
 v0 := fun w => by kernel_rfl
 t3 := by kernel_rfl
 a3 := fun w => by kernel_rfl
 z3 := fun w => by kernel_rfl
 v3 := fun w => by kernel_rfl
 t4 := by kernel_rfl
 a4 := fun w => by kernel_rfl
 z4 := fun w => by kernel_rfl
 v4 := fun w => by kernel_rfl
 t5 := by kernel_rfl
 a5 := fun w => by kernel_rfl
 z5 := fun w => by kernel_rfl
 v5 := fun w => by kernel_rfl
 t9 := by kernel_rfl
 a9 := fun w => by kernel_rfl
 z9 := fun w => by kernel_rfl
 v9 := fun w => by kernel_rfl
 t46 := by kernel_rfl
 a46 := fun w => by kernel_rfl
 z46 := fun w => by kernel_rfl
 v46 := fun w => by kernel_rfl
 t51 := by kernel_rfl
 a51 := fun w => by kernel_rfl
 z51 := fun w => by kernel_rfl
 v51 := fun w => by kernel_rfl
 t146 := by kernel_rfl
 a146 := fun w => by kernel_rfl
 z146 := fun w => by kernel_rfl
 v146 := fun w => by kernel_rfl
 g1 := by kernel_rfl
def join_laysR : Ren := ⟨repAt [(156, 40), (165, 63), (166, 64), (169, 65), (240, 89), (241, 90), (276, 111), (277, 112)], repAt [(31, 38), (9, 9), (3, 3), (4, 4), (0, 0), (20, 20), (72, 104), (76, 108), (70, 102), (37, 58), (75, 107), (127, 126), (164, 150), (5, 5), (80, 110)], repAt []⟩
theorem join_lays : Lays.n156 Tryz.prog join_laysR where
 mixed := by kernel_rfl
 f156 := by kernel_rfl
 f165 := by kernel_rfl
 f166 := by kernel_rfl
 f169 := by kernel_rfl
 f240 := by kernel_rfl
 f241 := by kernel_rfl
 f276 := by kernel_rfl
 f277 := by kernel_rfl
 t0 := by kernel_rfl
 a0 := fun w => by kernel_rfl
 z0 := fun w => by kernel_rfl
 v0 := fun w => by kernel_rfl
 t3 := by kernel_rfl
 a3 := fun w => by kernel_rfl
 z3 := fun w => by kernel_rfl
 v3 := fun w => by kernel_rfl
 t4 := by kernel_rfl
 a4 := fun w => by kernel_rfl
 z4 := fun w => by kernel_rfl
 v4 := fun w => by kernel_rfl
 t9 := by kernel_rfl
 a9 := fun w => by kernel_rfl
 z9 := fun w => by kernel_rfl
 v9 := fun w => by kernel_rfl
 t20 := by kernel_rfl
 a20 := fun w => by kernel_rfl
 z20 := fun w => by kernel_rfl
 v20 := fun w => by kernel_rfl
 t31 := by kernel_rfl
 a31 := fun w => by kernel_rfl
 z31 := fun w => by kernel_rfl
 v31 := fun w => by kernel_rfl
 t37 := by kernel_rfl
 a37 := fun w => by kernel_rfl
 z37 := fun w => by kernel_rfl
 v37 := fun w => by kernel_rfl
 t70 := by kernel_rfl
 a70 := fun w => by kernel_rfl
 z70 := fun w => by kernel_rfl
 v70 := fun w => by kernel_rfl
 t72 := by kernel_rfl
 a72 := fun w => by kernel_rfl
 z72 := fun w => by kernel_rfl
 v72 := fun w => by kernel_rfl
 t75 := by kernel_rfl
 a75 := fun w => by kernel_rfl
 z75 := fun w => by kernel_rfl
 v75 := fun w => by kernel_rfl
 t76 := by kernel_rfl
 a76 := fun w => by kernel_rfl
 z76 := fun w => by kernel_rfl
 v76 := fun w => by kernel_rfl
 t127 := by kernel_rfl
 a127 := fun w => by kernel_rfl
 z127 := fun w => by kernel_rfl
 v127 := fun w => by kernel_rfl
 t164 := by kernel_rfl
 a164 := fun w => by kernel_rfl
 z164 := fun w => by kernel_rfl
 v164 := fun w => by kernel_rfl
def itoa_laysR : Ren := ⟨repAt [(171, 61), (243, 86), (246, 108), (283, 131), (284, 132), (285, 133), (286, 134), (129, 150), (317, 149), (318, 151), (319, 152), (320, 88), (337, 109), (338, 110)], repAt [(3, 3), (9, 9), (2, 2), (4, 4), (171, 165), (0, 0), (53, 149), (37, 58), (5, 5), (173, 167), (212, 180), (51, 147), (20, 20), (213, 181), (46, 124), (232, 169), (233, 170)], repAt [(17, 3), (18, 0), (19, 1)]⟩
theorem itoa_lays : LaysM.n171 Tryz.prog itoa_laysR where
 mixed := by kernel_rfl
 f129 := by kernel_rfl
 f171 := by kernel_rfl
 f243 := by kernel_rfl
 f246 := by kernel_rfl
 f283 := by kernel_rfl
 f284 := by kernel_rfl
 f285 := by kernel_rfl
 f286 := by kernel_rfl
 f317 := by kernel_rfl
 f318 := by kernel_rfl
 f319 := by kernel_rfl
 f320 := by kernel_rfl
 f337 := by kernel_rfl
 f338 := by kernel_rfl
 t0 := by kernel_rfl
 a0 := fun w => by kernel_rfl
 z0 := fun w => by kernel_rfl
 v0 := fun w => by kernel_rfl
 t2 := by kernel_rfl
 a2 := fun w => by kernel_rfl
 z2 := fun w => by kernel_rfl
 v2 := fun w => by kernel_rfl
 t3 := by kernel_rfl
 a3 := fun w => by kernel_rfl
 z3 := fun w => by kernel_rfl
 v3 := fun w => by kernel_rfl
 t4 := by kernel_rfl
 a4 := fun w => by kernel_rfl
 z4 := fun w => by kernel_rfl
 v4 := fun w => by kernel_rfl
 t5 := by kernel_rfl
 a5 := fun w => by kernel_rfl
 z5 := fun w => by kernel_rfl
 v5 := fun w => by kernel_rfl
 t9 := by kernel_rfl
 a9 := fun w => by kernel_rfl
 z9 := fun w => by kernel_rfl
 v9 := fun w => by kernel_rfl
 t20 := by kernel_rfl
 a20 := fun w => by kernel_rfl
 z20 := fun w => by kernel_rfl
 v20 := fun w => by kernel_rfl
 t37 := by kernel_rfl
 a37 := fun w => by kernel_rfl
 z37 := fun w => by kernel_rfl
 v37 := fun w => by kernel_rfl
 t46 := by kernel_rfl
 a46 := fun w => by kernel_rfl
 z46 := fun w => by kernel_rfl
 v46 := fun w => by kernel_rfl
 t51 := by kernel_rfl
 a51 := fun w => by kernel_rfl
 z51 := fun w => by kernel_rfl
 v51 := fun w => by kernel_rfl
 t53 := by kernel_rfl
 a53 := fun w => by kernel_rfl
 z53 := fun w => by kernel_rfl
 v53 := fun w => by kernel_rfl
 t171 := by kernel_rfl
 a171 := fun w => by kernel_rfl
 z171 := fun w => by kernel_rfl
 v171 := fun w => by kernel_rfl
 t173 := by kernel_rfl
 a173 := fun w => by kernel_rfl
 z173 := fun w => by kernel_rfl
 v173 := fun w => by kernel_rfl
 t212 := by kernel_rfl
 a212 := fun w => by kernel_rfl
 z212 := fun w => by kernel_rfl
 v212 := fun w => by kernel_rfl
 t213 := by kernel_rfl
 a213 := fun w => by kernel_rfl
 z213 := fun w => by kernel_rfl
 t232 := by kernel_rfl
 a232 := fun w => by kernel_rfl
 z232 := fun w => by kernel_rfl
 v232 := fun w => by kernel_rfl
 t233 := by kernel_rfl
 a233 := fun w => by kernel_rfl
 z233 := fun w => by kernel_rfl
 v233 := fun w => by kernel_rfl
 g17 := by kernel_rfl
 g18 := by kernel_rfl
 g19 := by kernel_rfl
 i0 := by kernel_rfl
 i2 := by kernel_rfl
 i3 := by kernel_rfl
 i4 := by kernel_rfl
 i5 := by kernel_rfl
 i9 := by kernel_rfl
 i20 := by kernel_rfl
 i37 := by kernel_rfl
 i46 := by kernel_rfl
 i51 := by kernel_rfl
 i53 := by kernel_rfl
 i171 := by kernel_rfl
 i173 := by kernel_rfl
 i212 := by kernel_rfl
 i232 := by kernel_rfl
 i233 := by kernel_rfl
 m17 := by kernel_rfl
 m18 := by kernel_rfl
 m19 := by kernel_rfl
def atoi_laysR : Ren := ⟨repAt [(172, 103), (244, 119), (245, 120), (247, 137), (279, 138), (280, 139), (281, 140), (282, 141), (287, 153), (316, 154), (171, 61), (205, 155), (321, 158), (322, 159), (243, 86), (246, 108), (283, 131), (284, 132), (285, 133), (286, 134), (129, 150), (317, 149), (318, 151), (319, 152), (320, 88), (337, 109), (338, 110)], repAt [(9, 9), (3, 3), (75, 107), (76, 108), (4, 4), (5, 5), (167, 173), (37, 58), (0, 0), (85, 174), (2, 2), (168, 176), (53, 149), (175, 182), (46, 124), (210, 186), (127, 126), (145, 197), (143, 195), (21, 21), (171, 165), (173, 167), (212, 180), (51, 147), (20, 20), (213, 181), (232, 169), (233, 170), (80, 110)], repAt [(15, 4), (16, 5), (17, 3), (18, 0), (19, 1)]⟩
theorem atoi_lays : LaysC.n172 Tryz.prog atoi_laysR where
 mixed := by kernel_rfl
 f129 := by kernel_rfl
 f171 := by kernel_rfl
 f172 := by kernel_rfl
 f205 := by kernel_rfl
 f243 := by kernel_rfl
 f244 := by kernel_rfl
 f245 := by kernel_rfl
 f246 := by kernel_rfl
 f247 := by kernel_rfl
 f279 := by kernel_rfl
 f280 := by kernel_rfl
 f281 := by kernel_rfl
 f282 := by kernel_rfl
 f283 := by kernel_rfl
 f284 := by kernel_rfl
 f285 := by kernel_rfl
 f286 := by kernel_rfl
 f287 := by kernel_rfl
 f316 := by kernel_rfl
 f317 := by kernel_rfl
 f318 := by kernel_rfl
 f319 := by kernel_rfl
 f320 := by kernel_rfl
 f321 := by kernel_rfl
 f322 := by kernel_rfl
 f337 := by kernel_rfl
 f338 := by kernel_rfl
 t0 := by kernel_rfl
 a0 := fun w => by kernel_rfl
 z0 := fun w => by kernel_rfl
 v0 := fun w => by kernel_rfl
 t2 := by kernel_rfl
 a2 := fun w => by kernel_rfl
 z2 := fun w => by kernel_rfl
 v2 := fun w => by kernel_rfl
 t3 := by kernel_rfl
 a3 := fun w => by kernel_rfl
 z3 := fun w => by kernel_rfl
 v3 := fun w => by kernel_rfl
 t4 := by kernel_rfl
 a4 := fun w => by kernel_rfl
 z4 := fun w => by kernel_rfl
 v4 := fun w => by kernel_rfl
 t5 := by kernel_rfl
 a5 := fun w => by kernel_rfl
 z5 := fun w => by kernel_rfl
 v5 := fun w => by kernel_rfl
 t9 := by kernel_rfl
 a9 := fun w => by kernel_rfl
 z9 := fun w => by kernel_rfl
 v9 := fun w => by kernel_rfl
 t20 := by kernel_rfl
 a20 := fun w => by kernel_rfl
 z20 := fun w => by kernel_rfl
 v20 := fun w => by kernel_rfl
 t21 := by kernel_rfl
 a21 := fun w => by kernel_rfl
 z21 := fun w => by kernel_rfl
 v21 := fun w => by kernel_rfl
 t37 := by kernel_rfl
 a37 := fun w => by kernel_rfl
 z37 := fun w => by kernel_rfl
 v37 := fun w => by kernel_rfl
 t46 := by kernel_rfl
 a46 := fun w => by kernel_rfl
 z46 := fun w => by kernel_rfl
 v46 := fun w => by kernel_rfl
 t51 := by kernel_rfl
 a51 := fun w => by kernel_rfl
 z51 := fun w => by kernel_rfl
 v51 := fun w => by kernel_rfl
 t53 := by kernel_rfl
 a53 := fun w => by kernel_rfl
 z53 := fun w => by kernel_rfl
 v53 := fun w => by kernel_rfl
 t75 := by kernel_rfl
 a75 := fun w => by kernel_rfl
 z75 := fun w => by kernel_rfl
 v75 := fun w => by kernel_rfl
 t76 := by kernel_rfl
 a76 := fun w => by kernel_rfl
 z76 := fun w => by kernel_rfl
 v76 := fun w => by kernel_rfl
 t85 := by kernel_rfl
 a85 := fun w => by kernel_rfl
 z85 := fun w => by kernel_rfl
 v85 := fun w => by kernel_rfl
 t127 := by kernel_rfl
 a127 := fun w => by kernel_rfl
 z127 := fun w => by kernel_rfl
 v127 := fun w => by kernel_rfl
 t143 := by kernel_rfl
 a143 := fun w => by kernel_rfl
 z143 := fun w => by kernel_rfl
 v143 := fun w => by kernel_rfl
 t145 := by kernel_rfl
 a145 := fun w => by kernel_rfl
 z145 := fun w => by kernel_rfl
 v145 := fun w => by kernel_rfl
 t167 := by kernel_rfl
 a167 := fun w => by kernel_rfl
 z167 := fun w => by kernel_rfl
 v167 := fun w => by kernel_rfl
 t168 := by kernel_rfl
 a168 := fun w => by kernel_rfl
 z168 := fun w => by kernel_rfl
 v168 := fun w => by kernel_rfl
 t171 := by kernel_rfl
 a171 := fun w => by kernel_rfl
 z171 := fun w => by kernel_rfl
 v171 := fun w => by kernel_rfl
 t173 := by kernel_rfl
 a173 := fun w => by kernel_rfl
 z173 := fun w => by kernel_rfl
 v173 := fun w => by kernel_rfl
 t175 := by kernel_rfl
 a175 := fun w => by kernel_rfl
 z175 := fun w => by kernel_rfl
 v175 := fun w => by kernel_rfl
 t210 := by kernel_rfl
 a210 := fun w => by kernel_rfl
 z210 := fun w => by kernel_rfl
 v210 := fun w => by kernel_rfl
 t212 := by kernel_rfl
 a212 := fun w => by kernel_rfl
 z212 := fun w => by kernel_rfl
 v212 := fun w => by kernel_rfl
 t213 := by kernel_rfl
 a213 := fun w => by kernel_rfl
 z213 := fun w => by kernel_rfl
 t232 := by kernel_rfl
 a232 := fun w => by kernel_rfl
 z232 := fun w => by kernel_rfl
 v232 := fun w => by kernel_rfl
 t233 := by kernel_rfl
 a233 := fun w => by kernel_rfl
 z233 := fun w => by kernel_rfl
 v233 := fun w => by kernel_rfl
 g15 := by kernel_rfl
 g16 := by kernel_rfl
 g17 := by kernel_rfl
 g18 := by kernel_rfl
 g19 := by kernel_rfl
 t80 := by kernel_rfl
 a80 := fun w => by kernel_rfl
 z80 := fun w => by kernel_rfl
 v80 := fun w => by kernel_rfl
 i0 := by kernel_rfl
 i2 := by kernel_rfl
 i3 := by kernel_rfl
 i4 := by kernel_rfl
 i5 := by kernel_rfl
 i9 := by kernel_rfl
 i20 := by kernel_rfl
 i21 := by kernel_rfl
 i37 := by kernel_rfl
 i46 := by kernel_rfl
 i51 := by kernel_rfl
 i53 := by kernel_rfl
 i75 := by kernel_rfl
 i76 := by kernel_rfl
 i80 := by kernel_rfl
 i85 := by kernel_rfl
 i127 := by kernel_rfl
 i143 := by kernel_rfl
 i145 := by kernel_rfl
 i167 := by kernel_rfl
 i168 := by kernel_rfl
 i171 := by kernel_rfl
 i173 := by kernel_rfl
 i175 := by kernel_rfl
 i210 := by kernel_rfl
 i212 := by kernel_rfl
 i232 := by kernel_rfl
 i233 := by kernel_rfl
 m15 := by kernel_rfl
 m16 := by kernel_rfl
 m17 := by kernel_rfl
 m18 := by kernel_rfl
 m19 := by kernel_rfl
 c0 := by kernel_rfl
 c2 := by kernel_rfl
 c3 := by kernel_rfl
 c4 := by kernel_rfl
 c5 := by kernel_rfl
 c9 := by kernel_rfl
 c20 := by kernel_rfl
 c21 := by kernel_rfl
 c37 := by kernel_rfl
 c46 := by kernel_rfl
 c51 := by kernel_rfl
 c53 := by kernel_rfl
 c75 := by kernel_rfl
 c76 := by kernel_rfl
 c80 := by kernel_rfl
 c85 := by kernel_rfl
 c127 := by kernel_rfl
 c143 := by kernel_rfl
 c145 := by kernel_rfl
 c167 := by kernel_rfl
 c168 := by kernel_rfl
 c171 := by kernel_rfl
 c173 := by kernel_rfl
 c175 := by kernel_rfl
 c210 := by kernel_rfl
 c212 := by kernel_rfl
 c213 := by kernel_rfl
 c232 := by kernel_rfl
 c233 := by kernel_rfl
theorem join_extra : Builder.Extra Tryz.prog join_laysR where
 sizeBuilder := by kernel_rfl
 liesBuilder := by kernel_rfl
 t5 := by kernel_rfl
 a5 := fun w => by kernel_rfl
 z5 := fun w => by kernel_rfl
 v5 := fun w => by kernel_rfl
 infoByte := by kernel_rfl
 cellsByte := by kernel_rfl
 sizeByte := by kernel_rfl
 neB5 := by decide
end Go.SX

/-
 SX, part Pn: calls that end with a panic.
-/
namespace Go.SX
open Go.RowKit
variable {C : Cod}
section
variable {P : Program} {D : Codec C} {tab : Tab C} {B : Base} {E : Env} {σ : Nat → SV C} {H : Nat → HS C} {df : List Deferred} {a : Act} {w : World} {o : Oper} {r : Option Nat}
variable {X : Ctx C} {R : Kont C} {f : FuncId} {args : List (SV C)} {dst : Option Nat} {all rest : List Oper} {k : List (It C)} {T : List (SV C)} {Hp : List (HS C)} {ch : List PanicEntry}
/-- the contract of a call that ends with a panic -/
structure Dies (P : Program) (D : Codec C) (f : FuncId) (args : List (SV C)) (H0 : List (HS C)) (ch : List PanicEntry) (H1 : List (HS C)) : Prop where
 enter : ∀ args w, (callFunc f args).run P w = .ok (.enter f args) w
 calls : ∀ w E (hm : ∀ c, H0.length ≤ c → E.β c = .fresh) vs, Sat D w E (getC H0) → DenA D w E args vs →
  CallsIn (Fc none) 0 P f vs.toArray w fun e w' => ∃ E', e = .panicked ch ∧ Sat D w' E' (getC H1) ∧ Fr ⟨w, E, fun b => ∃ c, E.β c = .loc b, H0.length, hm, [], false⟩ E' w'
/-- how a walk that panics ends -/
def DiePost (ch : List PanicEntry) (m0 : Nat) (H1 : List (HS C)) : Post C := fun e T Hp => e = .panic ch ∧ ∃ θ, ViewOK Hp θ H1 m0
theorem die_end {m0 : Nat} {H1 : List (HS C)} (θ : List (Option Nat)) (hv : ViewHs Hp θ θ H1) (hid : idO m0 0 θ = true := by rfl) (hnd : ndO θ = true := by rfl) : DiePost ch m0 H1 (.panic ch) T Hp := ⟨rfl, θ, hv, hid, hnd⟩
theorem leaves_relP {F : Fence} {n : Nat} {fn : Func} {R : Ending → World → Prop} (h : Rel D B E σ H df a w) (hK : ∀ w' E', Rel D B E' σ H [] { a with defers := [] } w' → R (.panicked ch) w') (hds : B.ds = [] := by rfl) : LeavesInM F n P fn a.tmps R a.defers (.panicking ch) w := by
 refine leaves_relD (by simp) h fun w' E' hR => ?_
 rw [hds] at hR ⊢
 exact hK w' E' hR
theorem dies_of_gx (A : Aux C D) (hT : TabOK P D tab) {fn : Func} {c : Code} (hf : P.funcs[f]? = some fn) (hb : fn.body = some c) (henter : ∀ args w, (callFunc f args).run P w = .ok (.enter f args) w)
  {H0 : List (HS C)} {H1 : List (HS C)} (n : Nat)
  (h : forceV (args ++ anys (fn.ntmps - args.length)) fun T0 => forceL H0 fun Hp0 => gx P A tab ⟨none, [], H0.length, false⟩ (DiePost ch H0.length H1) n [.code c] T0 Hp0) : Dies P D f args H0 ch H1 := by
 rw [forceV_eq, forceL_eq] at h
 refine ⟨henter, fun w E hm vs hs hd => ?_⟩
 refine callsIn_of_wp_marks hf hb trivial ?_ rfl
 have hR := enter_rel (n := fn.ntmps) (m := H0.length) (hm := hm) hs hd
 have hX : CtxOK D (⟨none, [], H0.length, false⟩ : Ctx C) (Base.here w E H0.length hm) none := ⟨rfl, fun c ri hc => by simp [lkR] at hc, trivial, rfl⟩
 have := gx_sound (r := none) (Q := bodyPostM (Fc none) 0 P fn fun e w' => ∃ E', e = .panicked ch ∧ Sat D w' E' (getC H1) ∧ Fr (Base.here w E H0.length hm) E' w') A hT hX
  (fun e a w' T Hp hΦ hRL => ?_) n _ _ _ h _ _ hR
 ·exact this
 ·obtain ⟨rfl, θ, h3⟩ := hΦ
  obtain ⟨df, E1, hR1, _⟩ := hRL
  refine leaves_relP hR1 fun w2 E2 hR2 => ?_
  obtain ⟨g1, g2, g3⟩ := view_env hR2.sat hR2.fr h3
  exact ⟨_, rfl, g2, g3⟩
/-- a panic's operation -/
theorem panic_in {op : Op} {vals : List (SV C)} {hs : List (Nat × HS C)} {Y : Prop} (x : Operand) (t : TypeId) (u : Value) (h1 : op = .panic x) (h2 : Only D (evT T x) (.iface t u)) (h3 : R (.die [{ v := .iface t u, recovered := false }] :: k) T Hp) : StuckX op vals hs (Y ∨ DieY D X.m0 R op k T Hp ∨ OnceY P D R op dst all rest k T Hp) :=
 ⟨.inr (.inl ⟨x, t, u, h1, h2, h3⟩)⟩
/-- an operation that only hands back a value -/
theorem once_in {op : Op} {vals : List (SV C)} {hs : List (Nat × HS C)} {Y : Prop} {v : SV C} (hnd : ∀ c, op ≠ .defer c) (h1 : ∀ (o : Oper) (E : Env) (a : Act) (w : World), o.op = op → (∀ x, Den D w E (evT T x) (a.eval x)) → ∃ u, (execOp a.eval o).run P w = .ok (.value u) w ∧ Den D w E v u)
  (h3 : setOK T dst v fun T' => R (.ops all rest :: k) T' Hp) : StuckX op vals hs (Y ∨ DieY D X.m0 R op k T Hp ∨ OnceY P D R op dst all rest k T Hp) :=
 ⟨.inr (.inr ⟨v, [], hnd, fun o B E df a w ho hR => by
  obtain ⟨u, h4, h5⟩ := h1 o E a w ho fun x => by rw [evT_eq]; exact ev_den hR x
  exact runOK_of hR h4 h5, h3⟩)⟩
/-- an empty struct -/
theorem unit_in {vals : List (SV C)} {hs : List (Nat × HS C)} {Y : Prop} {t : TypeId} (h1 : ∀ (e : Operand → Value) (o : Oper) w, o.op = .build t #[] → (execOp e o).run P w = .ok (.value (.agg #[])) w)
  (h3 : setOK T dst (.agg []) fun T' => R (.ops all rest :: k) T' Hp) : StuckX (.build t #[]) vals hs (Y ∨ DieY D X.m0 R (.build t #[]) k T Hp ∨ OnceY P D R (.build t #[]) dst all rest k T Hp) :=
 once_in (fun c h => by cases h) (fun o E a w ho _ => ⟨.agg #[], h1 a.eval o w ho, by simp only [Den, DenC]; exact ⟨_, rfl, rfl⟩⟩) h3
theorem den_unit {w : World} {E : Env} {u : Value} (h : Den D w E (.agg []) u) : u = .agg #[] := by
 simp only [Den, DenC] at h
 obtain ⟨cs, e1, e2⟩ := h
 have : cs = #[] := by simpa using e2
 rw [e1, this]
theorem uface_in {vals : List (SV C)} {hs : List (Nat × HS C)} {Y : Prop} {t : TypeId} {x : Operand} (h1 : ∀ (e : Operand → Value) (o : Oper) w, o.op = .makeInterface t x → (execOp e o).run P w = .ok (.value (.iface t (e x))) w)
    (h2 : evT T x = .agg []) (h3 : setOK T dst (.p (.lit (.iface t (.agg #[])))) fun T' => R (.ops all rest :: k) T' Hp) : StuckX (.makeInterface t x) vals hs (Y ∨ DieY D X.m0 R (.makeInterface t x) k T Hp ∨ OnceY P D R (.makeInterface t x) dst all rest k T Hp) :=
  once_in (fun c h => by cases h) (fun o E a w ho hd => ⟨.iface t (a.eval x), h1 a.eval o w ho, by
    have := hd x
    rw [h2] at this
    rw [den_unit this]
    simp only [Den]
    exact .lit _ rfl⟩) h3
/-- an interface's value that is an empty struct, asked for -/
theorem uassert_in {vals : List (SV C)} {hs : List (Nat × HS C)} {Y : Prop} {s t : TypeId} {x : Operand} (h1 : ∀ (e : Operand → Value) (o : Oper) w, o.op = .typeAssert x s t true → e x = .iface t (.agg #[]) → (execOp e o).run P w = .ok (.value (.tuple #[.agg #[], .bool true])) w)
    (h2 : evT T x = .p (.lit (.iface t (.agg #[])))) (h3 : setOK T dst (.tuple [.agg [], .p (.bool true)]) fun T' => R (.ops all rest :: k) T' Hp) : StuckX (.typeAssert x s t true) vals hs (Y ∨ DieY D X.m0 R (.typeAssert x s t true) k T Hp ∨ OnceY P D R (.typeAssert x s t true) dst all rest k T Hp) :=
  once_in (fun c h => by cases h) (fun o E a w ho hd => ⟨_, h1 a.eval o w ho (by have := hd x; rw [h2] at this; exact den_lit this), by
    simp only [Den, DenA]
    exact ⟨_, rfl, _, _, rfl, ⟨#[], rfl, rfl⟩, _, _, rfl, mk_bool true, rfl⟩⟩) h3
/-- a variable of an empty struct -/
theorem ualloc_in {vals : List (SV C)} {hs : List (Nat × HS C)} {Y : Prop} {t : TypeId} (h1 : ∀ (e : Operand → Value) (o : Oper) w, o.op = .alloc t → (execOp e o).run P w = .ok (.value (.pointer (some ⟨w.heap.size, 0, none⟩))) (w.alloc (.cells #[] t)))
  (h3 : hlenK Hp 0 fun m => setOK T dst (.ptr m 0) fun T' => setCsK Hp [(m, .vart none [])] fun Hp' => R (.ops all rest :: k) T' Hp') : StuckX (.alloc t) vals hs (Y ∨ DieY D X.m0 R (.alloc t) k T Hp ∨ OnceY P D R (.alloc t) dst all rest k T Hp) := by
 rw [hlenK_eq, Nat.add_zero] at h3
 exact ⟨.inr (.inr ⟨_, _, fun c h => (by cases h), fun o B E df a w ho hR => new_var hR (getC_len Hp) t none (fun _ h => (by cases h)) (by simp [DenC]) (h1 a.eval o w ho), h3⟩)⟩
theorem ustore_in {vals : List (SV C)} {hs : List (Nat × HS C)} {Y : Prop} {t : TypeId} {x y : Operand} (h1 : ∀ (e : Operand → Value) (o : Oper) w ad, o.op = .store t x y → e x = .pointer (some ad) → e y = .agg #[] → (execOp e o).run P w = .ok .skip w)
    {m : Nat} (h2 : evT T x = .ptr m 0) (h4 : getC Hp m = .vart none []) (h5 : evT T y = .agg []) (h3 : setOK T dst .any fun T' => R (.ops all rest :: k) T' Hp) : StuckX (.store t x y) vals hs (Y ∨ DieY D X.m0 R (.store t x y) k T Hp ∨ OnceY P D R (.store t x y) dst all rest k T Hp) :=
  ⟨.inr (.inr ⟨.any, [], fun c h => (by cases h), fun o B E df a w ho hR => by
    have hx := ev_den hR x
    rw [← evT_eq, h2] at hx
    have hy := ev_den hR y
    rw [← evT_eq, h5] at hy
    obtain ⟨b, cs, T', hb, _⟩ := var_at hR.sat h4
    have e := ptr_den hx hb
    exact ⟨undef, w, E, .inr ⟨h1 a.eval o w _ ho e (den_unit hy), rfl⟩, hR, by simp only [Den]⟩, h3⟩)⟩
theorem only_lit {x : SV C} {v : Value} (h : x = .p (.lit v)) : Only D x v := fun w E u hd => by subst h; exact den_lit hd
/-- a call that dies, of a contract about some chunks -/
theorem dieh {args0 : List (SV C)} {H0 H0' H1 : List (HS C)} (ρ : List (Option Nat)) (hM : Dies P D f args0 H0 ch H1) (hargs : renL ρ args0 = some args) (hH0 : renHs ρ H0 = some H0') (hat : heapAt (getC Hp) ρ H0')
  (h : callK Hp ρ H0.length H1 (.tuple []) fun _ _ ws => setCsK Hp ws fun Hp' => R (.die ch :: k) T Hp') : CallX P D X R f args dst all rest k T Hp := by
 unfold callK at h
 rw [hlenK_eq, Nat.add_zero, forceIds_eq] at h
 unfold condT at h
 split at h
 ·rename_i hc
  simp only [Bool.and_eq_true] at hc
  unfold someK at h
  split at h
  ·rename_i H1' hH1
   split at h
   ·dsimp only at h
    rw [setCsK_eq] at h
    refine CallX.dies ⟨hM.enter, fun B σ df a w E _ hR vs hd => ?_⟩ h
    refine (call_core (Ω := fun e _ _ => e = .panicked ch) (fun w E hm vs hs hd => (hM.calls w E hm vs hs hd).mono fun e w' ⟨E', h1, h2, h3⟩ => ⟨E', h1, h2, h3⟩) ρ hargs hH0 hat _ rfl (fun k _ => getC_ge Hp _ (by rw [← hlen_eq]; omega)) hc.1 (Nat.le_of_ble_eq_true hc.2) hH1 B σ df a w E hR vs hd).mono ?_
    rintro e w' ⟨e1, E1, h1, _, _, h2⟩
    exact ⟨E1, h1, by rw [getC_setCs]; exact h2⟩
   ·exact h.elim
  ·exact h.elim
 ·exact h.elim
end
end Go.SX

/-
 SX, part Kb: contracts of the kit's shelf (they leave all that was there) as contracts here.
-/
namespace Go.SX
open Go.RowKit
variable {C : Cod} {P : Program} {D : Codec C} {w w' : World} {E : Env}
theorem later_below {H : Nat → HS C} (hs : Sat D w E H) (hb : Below w.heap.size w w') : Later w E w' E :=
 ⟨fun b h => ⟨h, hb.block b (hs.F b h)⟩, fun _ => .inl rfl, fun _ _ _ _ cs T hcs => ⟨cs, T, Row.of (hb.block _ hcs.lt) hcs, rfl⟩⟩
theorem sat_below {H : Nat → HS C} (hs : Sat D w E H) (hb : Below w.heap.size w w') : Sat D w' E H :=
 ⟨fun c => HS.ok_mono (later_below hs hb) (hs.ok c) fun b e => hb.block b (hs.own c b e).1, fun c b e => ⟨Nat.lt_of_lt_of_le (hs.own c b e).1 hb.size, (hs.own c b e).2⟩, hs.inj, fun b h => Nat.lt_of_lt_of_le (hs.F b h) hb.size, hs.glob.mono (later_below hs hb).F⟩
theorem meets_below {f : FuncId} {args : List (SV C)} {H0 : List (HS C)} {ret : SV C} (henter : ∀ args w, (callFunc f args).run P w = .ok (.enter f args) w)
  (h : ∀ w E vs, Sat D w E (getC H0) → DenA D w E args vs → Calls P f vs.toArray w fun e w' => ∃ v, e = .returned v ∧ Below w.heap.size w w' ∧ Den D w' E ret v) : Meets P D f args H0 ret H0 := by
 refine ⟨henter, fun w E hm vs hs hd => ?_⟩
 have h2 : CallsIn (Fc none) 0 P f vs.toArray w _ := callsIn_wide.2 (h w E vs hs hd)
 refine h2.mono ?_
 rintro e w' ⟨v, rfl, hb, hv⟩
 exact ⟨v, E, rfl, hv, sat_below hs hb, ⟨hb.os, hb.tape, hb.output, hb.size, fun b hlt _ => hb.block b hlt, later_below hs hb, fun b hF => .inl hF, fun c b e => .inl ⟨c, e⟩⟩⟩
end Go.SX

namespace Go.SX
open Go.Proofs Go.Shelf Go.RowKit Go.Sort
set_option maxHeartbeats 4000000
set_option maxRecDepth 100000
@[reducible] def wS (l : Wd) : SV Cd := .p (.str l)
@[reducible] def wsS (l : List Wd) : SV Cd := .p (.dsl U.str l)
/-! the kit's contracts at this seat -/
theorem kcount (l : Wd) (c : UInt8) : Meets Tryz.prog Dc 106 [wS l, wS [c]] [] (iS (Go.Lib.countByte l c)) [] := by
 refine meets_below Tryz.call106 fun w E vs hs hd => ?_
 simp only [DenA, Den] at hd
 obtain ⟨v, v2, rfl, hv, v', v3, rfl, hv', rfl⟩ := hd
 cases hv
 cases hv'
 refine (Any.strings_Count_one count_lays ⟨⟨l⟩⟩ c w).mono ?_
 rintro e w' ⟨rfl, rfl⟩
 exact ⟨_, rfl, Below.refl _ _, .int _ _⟩
theorem kindex (l : Wd) (c : UInt8) : Meets Tryz.prog Dc 107 [wS l, wS [c]] [] (iS (Go.Lib.indexByte l c)) [] := by
 refine meets_below Tryz.call107 fun w E vs hs hd => ?_
 simp only [DenA, Den] at hd
 obtain ⟨v, v2, rfl, hv, v', v3, rfl, hv', rfl⟩ := hd
 cases hv
 cases hv'
 refine (Any.strings_Index_one index_lays ⟨⟨l⟩⟩ c w).mono ?_
 rintro e w' ⟨rfl, rfl⟩
 exact ⟨_, rfl, Below.refl _ _, .int _ _⟩
theorem var_glob {w : World} {E : Env} (hg : GlobOK Cd w E) {g : Nat} {name : String} (hn : Tryz.prog.globalNamed name = some g) (h : U.glob g ≠ []) : w.var? Tryz.prog name = some (U.glob g).toArray := by
 obtain ⟨_, ⟨cs, T, z, h2, h3⟩, _⟩ := hg.1 g h
 unfold World.var?
 rw [hn]
 simp only [Option.bind_some, h2]
 have h3 : cs.toList = U.glob g := h3
 rw [← h3]
theorem below_drewN (w : World) (k : Nat) : Below w.heap.size w (w.drewN k) := ⟨rfl, rfl, rfl, Nat.le_refl _, fun _ _ => rfl⟩
theorem below_grow (w : World) (os : Array Obj) : Below w.heap.size w (grow w os) :=
 ⟨rfl, rfl, rfl, by simp [grow], fun k hk => by simp only [grow]; rw [Array.getElem?_append_left hk]⟩
theorem kitoa (n : Int) (h : -9223372036854775808 ≤ n ∧ n ≤ 9223372036854775807) : Meets Tryz.prog Dc 61 [iS n] [] (wS (itoaW n)) [] := by
 refine meets_below Tryz.call61 fun w E vs hs hd => ?_
 simp only [DenA, Den] at hd
 obtain ⟨v, v2, rfl, hv, rfl⟩ := hd
 cases hv
 have htab : Go.Lib.TabIs Tryz.prog w "internal/strconv.uint64pow10" .u64 Go.Lib.pow10Tab := by
  unfold Go.Lib.TabIs
  rw [var_glob hs.glob (g := 3) (by kernel_rfl) (by decide)]
  exact congrArg some (by kernel_rfl)
 refine (Any.strconv_Itoa itoa_lays n h.1 h.2 w htab).mono ?_
 rintro e w' ⟨rfl, k, os, rfl⟩
 refine ⟨_, rfl, (below_drewN w k).trans ((below_grow (w.drewN k) os).mono (below_drewN w k).size), ?_⟩
 rw [itoaW_eq n h]
 exact .str _
/-- what Atoi says of a word -/
def atoiN (l : Wd) : Int := match Go.Lib.atoiAll l with
 | .ok n => n
 | Go.Lib.NumEnd.syntax => 0
 | .range => Go.Lib.atoiSat l
def atoiE (l : Wd) : SV Cd := match Go.Lib.atoiAll l with
 | .ok _ => .p (.lit .nilIface)
 | _ => .iface 176 .any
theorem glob_cell {w : World} {E : Env} (hg : GlobOK Cd w E) {g : Nat} (h : U.gifc g = true) : ∃ ev, w.cell? ⟨g, 0, none⟩ = some ev ∧ (ev = .nilIface ∨ ∃ te pe, ev = .iface te pe) := by
 obtain ⟨_, v, T, z, h1, h2⟩ := hg.2 g h
 exact ⟨v, by simp [World.cell?, h1], h2⟩
theorem katoi (l : Wd) (h : l.length ≤ 281474976710656) : Meets Tryz.prog Dc 103 [wS l] [] (.tuple [iS (atoiN l), atoiE l]) [] := by
 refine meets_below Tryz.call103 fun w E vs hs hd => ?_
 simp only [DenA, Den] at hd
 obtain ⟨v, v2, rfl, hv, rfl⟩ := hd
 cases hv
 unfold atoiN atoiE
 cases ha : Go.Lib.atoiAll l with
 | ok n =>
  refine (Any.strconv_Atoi_ok atoi_lays ⟨⟨l⟩⟩ (by show l.length ≤ _; omega) n ha w).mono ?_
  rintro e w' ⟨rfl, hw⟩
  refine ⟨_, rfl, ?_, ?_⟩
  ·rcases hw with rfl | ⟨t, rfl⟩
   ·exact Below.refl _ _
   ·exact Go.Lib.bytesWorld_below _ _ _
  ·simp only [Den, DenA]
   exact ⟨_, rfl, _, _, rfl, .int _ _, _, _, rfl, .lit _ rfl, rfl⟩
 | range =>
  obtain ⟨ev, h1, h2⟩ := glob_cell hs.glob (g := 5) rfl
  refine (Any.strconv_Atoi_range atoi_lays ⟨⟨l⟩⟩ (by show l.length ≤ _; omega) ha ev w h1 h2).mono ?_
  rintro e w' ⟨N, rfl, _, _, hb⟩
  refine ⟨_, rfl, hb, ?_⟩
  simp only [Den, DenA]
  exact ⟨_, rfl, _, _, rfl, .int _ _, _, _, rfl, ⟨_, rfl, trivial⟩, rfl⟩
 | _ =>
  obtain ⟨ev, h1, h2⟩ := glob_cell hs.glob (g := 4) rfl
  refine (Any.strconv_Atoi_syntax atoi_lays ⟨⟨l⟩⟩ (by show l.length ≤ _; omega) ha ev w h1 h2).mono ?_
  rintro e w' ⟨N, rfl, _, _, hb⟩
  refine ⟨_, rfl, hb, ?_⟩
  simp only [Den, DenA]
  exact ⟨_, rfl, _, _, rfl, .int _ _, _, _, rfl, ⟨_, rfl, trivial⟩, rfl⟩
theorem kjoin (ws : List Wd) (hn : ws.length ≤ 140737488355328) (hl : (joinW ws).length ≤ 140737488355328) : Meets Tryz.prog Dc 40 [wsS ws, wS [32]] [] (wS (joinW ws)) [] := by
 refine meets_below Tryz.call40 fun w E vs hs hd => ?_
 simp only [DenA, Den] at hd
 obtain ⟨v, v2, rfl, hv, v', v3, rfl, hv', rfl⟩ := hd
 cases hv'
 cases hv with
 | dslNil _ ad cap =>
  refine (Any.strings_Join_none join_lays join_extra ad cap ⟨⟨[32]⟩⟩ w).mono ?_
  rintro e w' ⟨rfl, rfl⟩
  exact ⟨_, rfl, Below.refl _ _, .str _⟩
 | dsl _ _ b o cap cv hF hc hcell hden =>
  rcases Nat.eq_zero_or_pos ws.length with h0 | h0
  ·obtain rfl := List.eq_nil_of_length_eq_zero h0
   refine (Any.strings_Join_none join_lays join_extra (some ⟨b, o, none⟩) cap ⟨⟨[32]⟩⟩ w).mono ?_
   rintro e w' ⟨rfl, rfl⟩
   exact ⟨_, rfl, Below.refl _ _, .str _⟩
  have hne : ws ≠ [] := fun e => by rw [e] at h0; exact absurd h0 (Nat.lt_irrefl _)
  have hmap : (ws.map fun l => (⟨⟨l⟩⟩ : ByteArray)).map (fun x : ByteArray => x.data.toList) = ws := by rw [List.map_map]; exact List.map_id _
  have hlen : (ws.map fun l => (⟨⟨l⟩⟩ : ByteArray)).length = ws.length := List.length_map ..
  have := Any.strings_Join join_lays join_extra b o cap (ws.map fun l => (⟨⟨l⟩⟩ : ByteArray)) ⟨⟨[32]⟩⟩ w (fun j x hx => by
   rw [List.getElem?_map] at hx
   cases hj : ws[j]? with
   | none => rw [hj] at hx; cases hx
   | some l =>
    rw [hj] at hx
    obtain rfl := Option.some.inj hx
    have h1 := hcell j l hj 0 (.str l) rfl
    have h2 := hden j l hj 0 (.str l) rfl
    have hcn : Cd.n U.str = 1 := rfl
    rw [hcn, Nat.mul_one, Nat.add_zero] at h1
    rw [h1]
    generalize cv j 0 = z at h2
    cases h2
    rfl) (hs.F b (hF hne)) (by rw [hlen]; exact hn) (by rw [hlen]; exact hc) (by rw [hmap]; exact hl)
  rw [hmap, hlen] at this
  refine this.mono ?_
  rintro e w' ⟨rfl, hb⟩
  exact ⟨_, rfl, hb, .str _⟩
end Go.SX

/-
 SX, part Va: views in which the lengths of slices may be spelled otherwise, too.
-/
namespace Go.SX
variable {C : Cod}
section
variable {Hp : List (HS C)} {θ : List (Option Nat)} {T T' : List (SV C)} {Hp' : List (HS C)} {m0 : Nat} {ret : SV C}
theorem bkW {m0 : Nat} (h1 : ViewL Hp θ T T' := by first | ((repeat' (first | exact trivial | exact rfl | refine And.intro ?_ ?_ | exact intV | exact fzV | exact fvV | (refine slV (by first | omega | (simp; done) | (simp; omega)) rfl ?_))); done) | fail) (h2 : ViewHs Hp θ θ Hp' := by
    first | ((repeat' (first | exact trivial | exact rfl | refine And.intro ?_ ?_ | exact ⟨_, rfl⟩ | exact intV | (refine rowV ?_; assumption) | (refine rowV ?_; (apply Eq.symm); assumption) | exact fzV | exact fvV | (refine slV (by first | omega | (simp; done) | (simp; omega)) rfl ?_))); done) | fail) (h3 : idO m0 0 θ = true := by rfl) (h4 : ndO θ = true := by rfl) : Back m0 θ T Hp T' Hp' := ⟨h1, h2, h3, h4⟩
theorem hsW {θ l : List (Option Nat)} {m : List (HS C)} (h : ViewHs Hp θ l m := by first | ((repeat' (first | exact trivial | exact rfl | refine And.intro ?_ ?_ | exact ⟨_, rfl⟩ | exact intV | (refine rowV ?_; assumption) | (refine rowV ?_; (apply Eq.symm); assumption) | exact fzV | exact fvV | (refine slV (by first | omega | (simp; done) | (simp; omega)) rfl ?_))); done) | fail) : ViewHs Hp θ l m := h
end
end Go.SX
