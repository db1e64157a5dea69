/-
  The element types of this project's slices and arrays (written by mku.py).
-/
import Derived.Test.YtdaghncicimipaaGreatDoorSxS
set_option linter.unusedVariables false
set_option linter.unusedSimpArgs false
namespace Go.SX

structure A5 where
  a : Int
  b : Int
  c : Int
  d : Int
  e : Int
deriving DecidableEq
structure A4 where
  a : Int
  b : Int
  c : Int
  d : Int
deriving DecidableEq
structure A3 where
  a : Int
  b : Int
  c : Int
deriving DecidableEq
structure Spell where
  from_ : Int
  to_ : Int
deriving DecidableEq
structure Cell where
  x : Int
  y : Int
deriving DecidableEq
structure Goal where
  kind : Int
  rows : List Int
  from_ : Int
  to_ : Int
  low : Int
  high : Int
  clear : Bool
  days : Int
  times : Int
  within : Int
  cents : List Int
  kids : List Goal
structure Order where
  id : Int
  owner : Int
  goal : Goal
  price : Int
  group : Int
  urgent : Bool
  known : Int
  due : Int
structure Event where
  kind : Int
  at_ : Int
  image : Int
  rows : List Int
  sun : Int
  look : Int
  clear : Bool
deriving DecidableEq
structure Evs where
  l : List Event
deriving DecidableEq

inductive U where
  | int | bool | str | u8 | u32 | u64 | arr5 | arr4 | arr3 | spell | cell | goal | order | event | evs
deriving DecidableEq

@[reducible] def U.El : U → Type
  | .int => Int
  | .bool => Bool
  | .str => List UInt8
  | .u8 => Int
  | .u32 => Int
  | .u64 => Int
  | .arr5 => A5
  | .arr4 => A4
  | .arr3 => A3
  | .spell => Spell
  | .cell => Cell
  | .goal => Goal
  | .order => Order
  | .event => Event
  | .evs => Evs
def U.dflt : (u : U) → u.El
  | .int => (0 : Int)
  | .bool => false
  | .str => ([] : List UInt8)
  | .u8 => (0 : Int)
  | .u32 => (0 : Int)
  | .u64 => (0 : Int)
  | .arr5 => (⟨0, 0, 0, 0, 0⟩ : A5)
  | .arr4 => (⟨0, 0, 0, 0⟩ : A4)
  | .arr3 => (⟨0, 0, 0⟩ : A3)
  | .spell => (⟨0, 0⟩ : Spell)
  | .cell => (⟨0, 0⟩ : Cell)
  | .goal => (⟨0, [], 0, 0, 0, 0, false, 0, 0, 0, [], []⟩ : Goal)
  | .order => (⟨0, 0, (⟨0, [], 0, 0, 0, 0, false, 0, 0, 0, [], []⟩), 0, 0, false, 0, 0⟩ : Order)
  | .event => (⟨0, 0, 0, [], 0, 0, false⟩ : Event)
  | .evs => (⟨[]⟩ : Evs)
def U.n : U → Nat
  | .int => 1
  | .bool => 1
  | .str => 1
  | .u8 => 1
  | .u32 => 1
  | .u64 => 1
  | .arr5 => 5
  | .arr4 => 4
  | .arr3 => 3
  | .spell => 2
  | .cell => 2
  | .goal => 12
  | .order => 19
  | .event => 7
  | .evs => 1
def U.glob : Nat → List Value
  | 1 => [.int .u8 0, .int .u8 1, .int .u8 56, .int .u8 2, .int .u8 57, .int .u8 49, .int .u8 28, .int .u8 3, .int .u8 61, .int .u8 58, .int .u8 42, .int .u8 50, .int .u8 38, .int .u8 29, .int .u8 17, .int .u8 4, .int .u8 62, .int .u8 47, .int .u8 59, .int .u8 36, .int .u8 45, .int .u8 43, .int .u8 51, .int .u8 22, .int .u8 53, .int .u8 39, .int .u8 33, .int .u8 30, .int .u8 24, .int .u8 18, .int .u8 12, .int .u8 5, .int .u8 63, .int .u8 55, .int .u8 48, .int .u8 27, .int .u8 60, .int .u8 41, .int .u8 37, .int .u8 16, .int .u8 46, .int .u8 35, .int .u8 44, .int .u8 21, .int .u8 52, .int .u8 32, .int .u8 23, .int .u8 11, .int .u8 54, .int .u8 26, .int .u8 40, .int .u8 15, .int .u8 34, .int .u8 20, .int .u8 31, .int .u8 10, .int .u8 25, .int .u8 14, .int .u8 19, .int .u8 9, .int .u8 13, .int .u8 8, .int .u8 7, .int .u8 6]
  | _ => []
def U.ty : U → Option TypeId
  | .u8 => some 5
  | _ => none
@[reducible] def Cd : Cod := { U := U, El := U.El, dflt := U.dflt, n := U.n, glob := U.glob, ty := U.ty }

def encU : (u : U) → u.El → List (PV Cd)
  | .int, x => [.int .i64 x]
  | .bool, x => [.bool x]
  | .str, x => [.str x]
  | .u8, x => [.int .u8 x]
  | .u32, x => [.int .u32 x]
  | .u64, x => [.int .u64 x]
  | .arr5, x => [.int .i64 x.a, .int .i64 x.b, .int .i64 x.c, .int .i64 x.d, .int .i64 x.e]
  | .arr4, x => [.int .i64 x.a, .int .i64 x.b, .int .i64 x.c, .int .i64 x.d]
  | .arr3, x => [.int .i64 x.a, .int .i64 x.b, .int .i64 x.c]
  | .spell, x => [.int .i64 x.from_, .int .i64 x.to_]
  | .cell, x => [.int .i64 x.x, .int .i64 x.y]
  | .goal, x => [.int .i64 x.kind, .dsl U.int x.rows, .int .i64 x.from_, .int .i64 x.to_, .int .i64 x.low, .int .i64 x.high, .bool x.clear, .int .i64 x.days, .int .i64 x.times, .int .i64 x.within, .dsl U.int x.cents, .dsl U.goal x.kids]
  | .order, x => [.int .i64 x.id, .int .i64 x.owner, .int .i64 x.goal.kind, .dsl U.int x.goal.rows, .int .i64 x.goal.from_, .int .i64 x.goal.to_, .int .i64 x.goal.low, .int .i64 x.goal.high, .bool x.goal.clear, .int .i64 x.goal.days, .int .i64 x.goal.times, .int .i64 x.goal.within, .dsl U.int x.goal.cents, .dsl U.goal x.goal.kids, .int .i64 x.price, .int .i64 x.group, .bool x.urgent, .int .i64 x.known, .int .i64 x.due]
  | .event, x => [.int .i64 x.kind, .int .i64 x.at_, .int .i64 x.image, .dsl U.int x.rows, .int .i64 x.sun, .int .i64 x.look, .bool x.clear]
  | .evs, x => [.dsl U.event x.l]
def decU : (u : U) → List (PV Cd) → Option u.El
  | .int, [.int .i64 a0] => some a0
  | .bool, [.bool a0] => some a0
  | .str, [.str a0] => some a0
  | .u8, [.int .u8 a0] => some a0
  | .u32, [.int .u32 a0] => some a0
  | .u64, [.int .u64 a0] => some a0
  | .arr5, [.int .i64 a0, .int .i64 a1, .int .i64 a2, .int .i64 a3, .int .i64 a4] => some (⟨a0, a1, a2, a3, a4⟩ : A5)
  | .arr4, [.int .i64 a0, .int .i64 a1, .int .i64 a2, .int .i64 a3] => some (⟨a0, a1, a2, a3⟩ : A4)
  | .arr3, [.int .i64 a0, .int .i64 a1, .int .i64 a2] => some (⟨a0, a1, a2⟩ : A3)
  | .spell, [.int .i64 a0, .int .i64 a1] => some (⟨a0, a1⟩ : Spell)
  | .cell, [.int .i64 a0, .int .i64 a1] => some (⟨a0, a1⟩ : Cell)
  | .goal, [.int .i64 a0, .dsl U.int a1, .int .i64 a2, .int .i64 a3, .int .i64 a4, .int .i64 a5, .bool a6, .int .i64 a7, .int .i64 a8, .int .i64 a9, .dsl U.int a10, .dsl U.goal a11] => some (⟨a0, a1, a2, a3, a4, a5, a6, a7, a8, a9, a10, a11⟩ : Goal)
  | .order, [.int .i64 a0, .int .i64 a1, .int .i64 a2, .dsl U.int a3, .int .i64 a4, .int .i64 a5, .int .i64 a6, .int .i64 a7, .bool a8, .int .i64 a9, .int .i64 a10, .int .i64 a11, .dsl U.int a12, .dsl U.goal a13, .int .i64 a14, .int .i64 a15, .bool a16, .int .i64 a17, .int .i64 a18] => some (⟨a0, a1, ⟨a2, a3, a4, a5, a6, a7, a8, a9, a10, a11, a12, a13⟩, a14, a15, a16, a17, a18⟩ : Order)
  | .event, [.int .i64 a0, .int .i64 a1, .int .i64 a2, .dsl U.int a3, .int .i64 a4, .int .i64 a5, .bool a6] => some (⟨a0, a1, a2, a3, a4, a5, a6⟩ : Event)
  | .evs, [.dsl U.event a0] => some (⟨a0⟩ : Evs)
  | _, _ => none
theorem decU_ok (u : U) (l : List (PV Cd)) (x : u.El) (h : decU u l = some x) : encU u x = l := by
  unfold decU at h
  split at h <;> first | (injection h with h; subst h; rfl) | (injection h)
def Dc : Codec Cd where
  enc := encU
  dec := decU
  dec_ok := decU_ok
  enc_len := by intro u x; cases u <;> rfl
  n_pos := by intro u; cases u <;> decide
def castU : (u u' : U) → List u'.El → Option (List u.El)
  | .int, .int, l => some l
  | .bool, .bool, l => some l
  | .str, .str, l => some l
  | .u8, .u8, l => some l
  | .u32, .u32, l => some l
  | .u64, .u64, l => some l
  | .arr5, .arr5, l => some l
  | .arr4, .arr4, l => some l
  | .arr3, .arr3, l => some l
  | .spell, .spell, l => some l
  | .cell, .cell, l => some l
  | .goal, .goal, l => some l
  | .order, .order, l => some l
  | .event, .event, l => some l
  | .evs, .evs, l => some l
  | _, _, _ => none
theorem castU_ok (u u' : U) (ys : List u'.El) (zs : List u.El) (h : castU u u' ys = some zs) : zs.map (encU u) = ys.map (encU u') ∧ u.n = u'.n := by
  unfold castU at h
  split at h <;> first | (injection h with h; subst h; exact ⟨rfl, rfl⟩) | (injection h)
def ckU : U → List CK
  | .int => [.int .i64]
  | .bool => [.bool]
  | .str => [.str]
  | .u8 => [.int .u8]
  | .u32 => [.int .u32]
  | .u64 => [.int .u64]
  | .arr5 => [.int .i64, .int .i64, .int .i64, .int .i64, .int .i64]
  | .arr4 => [.int .i64, .int .i64, .int .i64, .int .i64]
  | .arr3 => [.int .i64, .int .i64, .int .i64]
  | .spell => [.int .i64, .int .i64]
  | .cell => [.int .i64, .int .i64]
  | _ => []
theorem ckU_ok (u : U) (h : ckU u ≠ []) (x : u.El) : (encU u x).map pvCk = (ckU u).map some := by
  cases u <;> first | rfl | exact (h rfl).elim
theorem encU_inj (u : U) (h : ckU u ≠ []) (x y : u.El) (e : encU u x = encU u y) : x = y := by
  cases u <;> first | exact (h rfl).elim | (simp [encU] at e; first | exact e | (cases x; cases y; simp_all))
theorem flatMap_inj {α β : Type} (f : α → List β) (n : Nat) (hn : 0 < n) (hf : ∀ x, (f x).length = n) (hi : ∀ x y, f x = f y → x = y) : ∀ xs ys : List α, xs.flatMap f = ys.flatMap f → xs = ys
  | [], [], _ => rfl
  | [], y :: ys, h => by have := congrArg List.length h; simp [hf] at this; omega
  | x :: xs, [], h => by have := congrArg List.length h; simp [hf] at this; omega
  | x :: xs, y :: ys, h => by
    simp only [List.flatMap_cons] at h
    have h1 := List.append_inj h (by rw [hf, hf])
    rw [hi x y h1.1, flatMap_inj f n hn hf hi xs ys h1.2]
def eqU : (u u' : U) → List u.El → List u'.El → Option Bool
  | .int, .int, xs, ys => some (decide (xs = ys))
  | .bool, .bool, xs, ys => some (decide (xs = ys))
  | .str, .str, xs, ys => some (decide (xs = ys))
  | .u8, .u8, xs, ys => some (decide (xs = ys))
  | .u32, .u32, xs, ys => some (decide (xs = ys))
  | .u64, .u64, xs, ys => some (decide (xs = ys))
  | .arr5, .arr5, xs, ys => some (decide (xs = ys))
  | .arr4, .arr4, xs, ys => some (decide (xs = ys))
  | .arr3, .arr3, xs, ys => some (decide (xs = ys))
  | .spell, .spell, xs, ys => some (decide (xs = ys))
  | .cell, .cell, xs, ys => some (decide (xs = ys))
  | _, _, _, _ => none
theorem flatMap_one {α β : Type} (f : α → β) : ∀ xs : List α, (xs.flatMap fun x => [f x]) = xs.map f
  | [] => rfl
  | x :: xs => by rw [List.flatMap_cons, flatMap_one f xs]; rfl
def bytesU : (u : U) → List UInt8 → Option (List u.El)
  | .u8, l => some (l.map fun b => (b.toNat : Int))
  | _, _ => none
theorem bytesU_ok (u : U) (l : List UInt8) (xs : List u.El) (h : bytesU u l = some xs) : U.n u = 1 ∧ xs.flatMap (encU u) = l.map (fun b => PV.int .u8 b.toNat) := by
  unfold bytesU at h
  split at h
  · injection h with h; subst h
    refine ⟨rfl, ?_⟩
    have h1 := flatMap_one (fun n : Int => (PV.int .u8 n : PV Cd)) (l.map fun b => (b.toNat : Int))
    rw [List.map_map] at h1
    exact h1
  · cases h
def strU : (u : U) → List u.El → Option (List UInt8)
  | .u8, xs => some (xs.map fun n : Int => UInt8.ofNat n.toNat)
  | _, _ => none
theorem strU_ok (u : U) (xs : List u.El) (l : List UInt8) (h : strU u xs = some l) : U.n u = 1 ∧ ∃ ns : List Int, xs.flatMap (encU u) = ns.map (PV.int .u8) ∧ l = ns.map (fun n => UInt8.ofNat n.toNat) := by
  unfold strU at h
  split at h
  · injection h with h; subst h
    exact ⟨rfl, _, flatMap_one (fun n : Int => (PV.int .u8 n : PV Cd)) _, rfl⟩
  · cases h
theorem eqU_ok (u u' : U) (xs : List u.El) (ys : List u'.El) (b : Bool) (h : eqU u u' xs ys = some b) : ckU u ≠ [] ∧ ckU u' ≠ [] ∧ (b = true ↔ xs.flatMap (encU u) = ys.flatMap (encU u')) := by
  have key : ∀ (u : U) (hu : ckU u ≠ []) (xs ys : List u.El), (xs = ys ↔ xs.flatMap (encU u) = ys.flatMap (encU u)) := fun u hu xs ys =>
    ⟨fun e => by rw [e], flatMap_inj (encU u) u.n (Dc.n_pos u) (fun x => Dc.enc_len u x) (encU_inj u hu) xs ys⟩
  unfold eqU at h
  split at h
  all_goals first
    | (injection h with h; subst h; refine ⟨by decide, by decide, ?_⟩; rw [decide_eq_true_iff]; exact key _ (by decide) _ _)
    | (injection h)
def Ax : Aux Cd Dc where
  castL := castU
  castL_ok := castU_ok
  ckA := ckU
  ckA_ok := ckU_ok
  eqA := eqU
  eqA_ok := eqU_ok
  ofBytes := bytesU
  ofBytes_ok := bytesU_ok
  toBytes := strU
  toBytes_ok := strU_ok
theorem inR_i64 {n : Int} (h1 : -9223372036854775808 ≤ n) (h2 : n ≤ 9223372036854775807) : InR .i64 n := by
  show IntKind.i64.wrap n = n
  exact IntWalk.i64_in n ⟨h1, h2⟩
end Go.SX
