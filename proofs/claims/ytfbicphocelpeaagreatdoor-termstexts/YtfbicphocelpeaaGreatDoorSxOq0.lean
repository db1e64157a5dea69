/-
  Plain: the words of orders: how they are written, and how they are read.
-/
import Derived.Test.YtfbicphocelpeaaGreatDoorSxV6
import Derived.Lib.ItoaNum
import Derived.Lib.AtoiAll
import Derived.Lib.Join
import Derived.Test.YtfbicphocelpeaaGreatDoorSxTa1
import Derived.Test.YtfbicphocelpeaaGreatDoorSxTa9
import Derived.ProofKit
import Derived.OpenShut
import Derived.ShutString
import Derived.ChangeOld
import Derived.Below
import Derived.Carry
import Derived.Deep.Slices
import Derived.Shelf.Strings.OnBuilder
import Derived.Shelf.Strings.Count
import Derived.Shelf.Strings.Search3
import Derived.Shelf.Strconv.Itoa3
import Derived.Shelf.Strconv.AtoiAll
import Derived.Test.YtfbicphocelpeaaGreatDoorSxTg2
import Derived.Shelf.Sort.Plain
import Derived.Shelf.Slices.CompactI
set_option linter.unusedVariables false
set_option linter.unusedSimpArgs false
namespace Go.SX
abbrev Wd := List UInt8
@[reducible] def bK : Wd := [111, 114, 100, 101, 114]
@[reducible] def sI : Wd := [98, 121]
@[reducible] def gE : Wd := [102, 111, 114]
@[reducible] def bW : Wd := [103, 114, 111, 117, 112]
@[reducible] def iD : Wd := [110, 111, 110, 101]
@[reducible] def gC : Wd := [112, 108, 97, 105, 110]
@[reducible] def eF : Wd := [117, 114, 103, 101, 110, 116]
@[reducible] def dV : Wd := [107, 110, 111, 119, 110]
@[reducible] def mU : Wd := [100, 117, 101]
@[reducible] def dT : Wd := [58]
@[reducible] def uK : Wd := [115, 101, 101]
@[reducible] def Nw : Wd := [97, 116]
@[reducible] def gM : Wd := [102, 114, 111, 109]
@[reducible] def Cn : Wd := [116, 111]
@[reducible] def X6 : Wd := [115, 117, 110]
@[reducible] def wF : Wd := [99, 108, 101, 97, 114]
@[reducible] def mZ : Wd := [97, 110, 121]
@[reducible] def lL : Wd := [112, 97, 105, 114]
@[reducible] def lU : Wd := [108, 111, 111, 107, 115]
@[reducible] def cM : Wd := [119, 105, 116, 104, 105, 110]
@[reducible] def tK : Wd := [111, 102]
@[reducible] def gV : Wd := [101, 118, 101, 114, 121]
@[reducible] def rT : Wd := [100, 97, 121, 115]
@[reducible] def mA : Wd := [116, 105, 109, 101, 115]
@[reducible] def lY : Wd := [97, 112, 97, 114, 116]
@[reducible] def dF : Wd := [100, 101, 108, 105, 118, 101, 114]
@[reducible] def uU : Wd := [97, 108, 108]
@[reducible] def pU : Wd := [40]
@[reducible] def cP : Wd := [41]
@[reducible] def cG : Wd := [44]
@[reducible] def rN : Wd := [46]
def mQ : Nat → Nat → Wd
 | 0, _ => []
 | f + 1, u => if u < 10 then [UInt8.ofNat (48 + u)] else mQ f (u / 10) ++ [UInt8.ofNat (48 + u % 10)]
def bJ (n : Int) : Wd := if n < 0 then 45 :: mQ 20 n.natAbs else mQ 20 n.toNat
theorem T6 : ∀ (f u : Nat), u < 10 ^ (f + 1) → mQ (f + 1) u = Go.Lib.decDigits u
 | 0, u, h => by
  rw [mQ, Go.Lib.decDigits, if_pos (by simpa using h), dif_pos (by simpa using h)]
 | f + 1, u, h => by
  rw [mQ, Go.Lib.decDigits]
  by_cases h10 : u < 10
  ·rw [if_pos h10, dif_pos h10]
  ·rw [if_neg h10, dif_neg h10, T6 f (u / 10) (by rw [Nat.pow_succ] at h; omega)]
theorem q0m (n : Int) (h : -9223372036854775808 ≤ n ∧ n ≤ 9223372036854775807) : Go.Lib.itoa n = bJ n := by
 unfold Go.Lib.itoa bJ;split
 ·rw [T6 19 _ (by omega)]
 ·rw [T6 19 _ (by omega)]
def q5s (s : Wd) : Option Int := match Go.Lib.atoiAll s with
 | .ok n => if bJ n = s then some n else none
 | _ => none
def tzF : Nat → Nat → Nat
 | 0, _ => 0
 | f + 1, n => if n % 2 = 1 then 0 else 1 + tzF f (n / 2)
def toF : Nat → Nat → Nat
 | 0, _ => 0
 | f + 1, n => if n % 2 = 1 then 1 + toF f (n / 2) else 0
def W5 : Nat → Nat → List (Nat × Nat)
 | 0, _ => []
 | f + 1, n => if n = 0 then [] else
  (tzF 64 n, tzF 64 n + toF 64 (n / 2 ^ tzF 64 n) - 1) :: W5 f (n / 2 ^ (tzF 64 n + toF 64 (n / 2 ^ tzF 64 n)) * 2 ^ (tzF 64 n + toF 64 (n / 2 ^ tzF 64 n)))
def M1 (y : Nat) (p : Nat × Nat) : List Wd := [Nw, bJ y, bJ p.1, bJ p.2]
def gQ : Nat → List Int → List Wd
 | _, [] => []
 | y, r :: l => (W5 r.toNat r.toNat).flatMap (M1 y) ++ gQ (y + 1) l
def xV (g : aI) : List Wd := uK :: gQ 0 g.rows ++ [gM, bJ g.from_, Cn, bJ g.to_, X6, bJ g.low, Cn, bJ g.high, if g.clear then wF else mZ]
def iG (g : aI) : List Wd :=
 if g.kind = 2 then [lL, lU, bJ g.low, cM, bJ g.within, tK]
 else if g.kind = 3 then [gV, bJ g.days, rT, bJ g.times, mA, lY, bJ g.within, gM, bJ g.from_, tK]
 else [dF, cM, bJ g.within, tK]
mutual
def aP : aI → List Wd
 | ⟨kind, rows, from_, to_, low, high, clear, days, times, within, cents, kids⟩ =>
  if kind = 1 then xV ⟨kind, rows, from_, to_, low, high, clear, days, times, within, cents, kids⟩
  else if kind = 2 ∨ kind = 3 ∨ kind = 4 then iG ⟨kind, rows, from_, to_, low, high, clear, days, times, within, cents, kids⟩ ++ firstW kids
  else [if kind = 5 then uU else mZ, pU] ++ kidsW (decide (kind = 6)) true cents kids ++ [cP]
def firstW : List aI → List Wd
 | [] => []
 | k :: _ => aP k
def kidsW : Bool → Bool → List Int → List aI → List Wd
 | _, _, _, [] => []
 | any, first, cents, k :: l => (if first then [] else [cG]) ++ (if any then [bJ (cents.headD 0)] else []) ++ aP k ++ kidsW any false cents.tail l
end
def dY (o : iF) : List Wd :=
 [bK, bJ o.id, sI, bJ o.owner, gE, bJ o.price, bW, if o.group < 0 then iD else bJ o.group, if o.urgent then eF else gC, dV, bJ o.known, mU, bJ o.due, dT] ++ aP o.goal ++ [rN]
def qG (l : List Wd) : Wd := Go.Lib.join l [32]
def Wu (o : iF) : Bool := inB o.id 0 63 && inB o.owner 0 15 && inB o.price 0 1000000000 && inB o.group (-1) 15 && inB o.known 0 1000000 && inB o.due (o.known + 1) 1000000 && cF o.goal
def xL (o : iF) : Wd × Int := if Wu o then (qG (dY o), 0) else ([], 130)
def bC : Wd → List Wd
 | [] => [[]]
 | c :: s => if c = 32 then [] :: bC s else match bC s with
  | [] => [[c]]
  | t :: l => (c :: t) :: l
def dC (s : Wd) : List Wd := if s = [] then [] else bC s
inductive Rs (α : Type) where
 | ok (x : α) (at_ room : Int)
 | no (at_ room : Int)
@[reducible] def Rs.bind {α β : Type} (x : Rs α) (k : α → Int → Int → Rs β) : Rs β := match x with
 | .ok x a m => k x a m
 | .no a m => .no a m
def cH (ws : List Wd) (a : Int) : Wd := if a = ws.length then [32] else ws.getD a.toNat []
def dL (ws : List Wd) : List Wd → Int → Int → Rs Unit
 | [], a, m => .ok () a m
 | s :: l, a, m => if cH ws a = s then dL ws l (a + 1) m else .no a m
def pF (ws : List Wd) (lo hi a m : Int) : Rs Int := match q5s (cH ws a) with
 | some n => if lo ≤ n ∧ n ≤ hi then .ok n (a + 1) m else .no a m
 | none => .no a m
def Z2 (ws : List Wd) (s t : Wd) (a m : Int) : Rs Bool := if cH ws a = s then .ok true (a + 1) m else if cH ws a = t then .ok false (a + 1) m else .no a m
def I3 (x y : Int) : Int := (2 ^ (y - x + 1).toNat - 1) * 2 ^ x.toNat
def xT (ws : List Wd) : Nat → Int → Int → List Int → Int → Int → Rs (List Int)
 | 0, _, _, _, a, m => .no a m
 | n + 1, y, free, rows, a, m =>
  if 48 ≤ free ∧ y = 23 then .ok rows a m else
  (dL ws [Nw] a m).bind fun _ a m =>
  (pF ws (if 48 ≤ free then y + 1 else y) 23 a m).bind fun row a m =>
  (pF ws (if row > (if 48 ≤ free then y + 1 else y) ∨ 48 ≤ free then 0 else free) 47 a m).bind fun x a m =>
  (pF ws x 47 a m).bind fun z a m =>
  if cH ws a = Nw then xT ws n row (z + 2) (rows.set row.toNat (cE .or .i64 (rows.getD row.toNat 0) (I3 x z))) a m
  else .ok (rows.set row.toNat (cE .or .i64 (rows.getD row.toNat 0) (I3 x z))) a m
def Zx (ws : List Wd) (a m : Int) : Rs aI :=
 (xT ws 1200 0 0 (List.replicate 24 0) a m).bind fun rows a m =>
 (dL ws [gM] a m).bind fun _ a m => (pF ws 0 999999 a m).bind fun f a m =>
 (dL ws [Cn] a m).bind fun _ a m => (pF ws (f + 1) 1000000 a m).bind fun t a m =>
 (dL ws [X6] a m).bind fun _ a m => (pF ws 0 90 a m).bind fun lo a m =>
 (dL ws [Cn] a m).bind fun _ a m => (pF ws lo 90 a m).bind fun hi a m =>
 (Z2 ws wF mZ a m).bind fun c a m => .ok ⟨1, rows, f, t, lo, hi, c, 0, 0, 0, [], []⟩ a m
def S4 (ws : List Wd) (sub : Int → Int → Rs aI) (a m : Int) : Rs aI :=
 (dL ws [lU] a m).bind fun _ a m => (pF ws 1 8 a m).bind fun lo a m =>
 (dL ws [cM] a m).bind fun _ a m => (pF ws 1 1000000 a m).bind fun wi a m =>
 (dL ws [tK] a m).bind fun _ a m => (sub a m).bind fun k a m => .ok ⟨2, [], 0, 0, lo, 0, false, 0, 0, wi, [], [k]⟩ a m
def uP (ws : List Wd) (sub : Int → Int → Rs aI) (a m : Int) : Rs aI :=
 (pF ws 1 60 a m).bind fun d a m => (dL ws [rT] a m).bind fun _ a m => (pF ws 1 6 a m).bind fun t a m =>
 (dL ws [mA, lY] a m).bind fun _ a m => (pF ws 0 (1440 * d) a m).bind fun wi a m =>
 (dL ws [gM] a m).bind fun _ a m => (pF ws 0 1000000 a m).bind fun f a m =>
 (dL ws [tK] a m).bind fun _ a m => (sub a m).bind fun k a m => .ok ⟨3, [], f, 0, 0, 0, false, d, t, wi, [], [k]⟩ a m
def q03 (ws : List Wd) (sub : Int → Int → Rs aI) (a m : Int) : Rs aI :=
 (dL ws [cM] a m).bind fun _ a m => (pF ws 0 1000000 a m).bind fun wi a m =>
 (dL ws [tK] a m).bind fun _ a m => (sub a m).bind fun k a m => .ok ⟨4, [], 0, 0, 0, 0, false, 0, 0, wi, [], [k]⟩ a m
def lI (ws : List Wd) (sub : Int → Int → Rs aI) (k : Int) : Nat → List Int → List aI → Int → Int → Rs aI
 | 0, _, _, a, m => .no a m
 | n + 1, cents, kids, a, m =>
  (if k = 6 then (pF ws 0 1000000000 a m).bind fun c a m => .ok (cents ++ [c]) a m else .ok cents a m).bind fun cents a m =>
  (sub a m).bind fun g a m =>
  if 1 < kids.length + 1 then
   if cH ws a = cP then .ok ⟨k, [], 0, 0, 0, 0, false, 0, 0, 0, cents, kids ++ [g]⟩ (a + 1) m
   else if kids.length + 1 = 4 ∨ m = 0 then .no a m
   else (dL ws [cG] a (m - 1)).bind fun _ a m => lI ws sub k n cents (kids ++ [g]) a m
  else (dL ws [cG] a m).bind fun _ a m => lI ws sub k n cents (kids ++ [g]) a m
def rL (ws : List Wd) (sub : Int → Int → Rs aI) (k : Int) (a m : Int) : Rs aI :=
 (dL ws [pU] a m).bind fun _ a m => lI ws sub k 5 [] [] a m
def Y0 (w : Wd) : Option (Int × Int) :=
 if w = uK then some (1, 0) else if w = lL then some (2, 1) else if w = gV then some (3, 1) else if w = dF then some (4, 1) else if w = uU then some (5, 2) else if w = mZ then some (6, 2) else none
def hU (ws : List Wd) : Nat → Int → Int → Int → Int → Rs aI
 | 0, _, _, a, m => .no a m
 | f + 1, of_, deep, a, m => match Y0 (cH ws a) with
  | none => .no a m
  | some (k, needs) => if dM of_ < k ∨ m < needs ∨ (0 < needs ∧ deep = 4) then .no a m else
   if k = 1 then Zx ws (a + 1) (m - needs)
   else if k = 2 then S4 ws (hU ws f 2 (deep + 1)) (a + 1) (m - needs)
   else if k = 3 then uP ws (hU ws f 3 (deep + 1)) (a + 1) (m - needs)
   else if k = 4 then q03 ws (hU ws f 4 (deep + 1)) (a + 1) (m - needs)
   else rL ws (hU ws f k (deep + 1)) k (a + 1) (m - needs)
def uL (ws : List Wd) (a m : Int) : Rs Int := if cH ws a = iD then .ok (-1) (a + 1) m else pF ws 0 15 a m
def rO (ws : List Wd) (a m : Int) : Rs iF :=
 (dL ws [bK] a m).bind fun _ a m => (pF ws 0 63 a m).bind fun id a m =>
 (dL ws [sI] a m).bind fun _ a m => (pF ws 0 15 a m).bind fun owner a m =>
 (dL ws [gE] a m).bind fun _ a m => (pF ws 0 1000000000 a m).bind fun price a m =>
 (dL ws [bW] a m).bind fun _ a m => (uL ws a m).bind fun group a m =>
 (Z2 ws eF gC a m).bind fun urgent a m =>
 (dL ws [dV] a m).bind fun _ a m => (pF ws 0 999999 a m).bind fun known a m =>
 (dL ws [mU] a m).bind fun _ a m => (pF ws (known + 1) 1000000 a m).bind fun due a m =>
 (dL ws [dT] a m).bind fun _ a m => (hU ws 4 5 1 a m).bind fun goal a m =>
 (dL ws [rN] a m).bind fun _ a m => if a < ws.length then .no a m else .ok ⟨id, owner, goal, price, group, urgent, known, due⟩ a m
def Xu : iF := U.dflt .order
def pZ (s : Wd) : iF × Int × Int := if 20000 < s.length then (Xu, 0, 130) else match rO (dC s) 0 11 with
 | .ok o a _ => (o, a, 0)
 | .no a _ => (Xu, a, 130)
structure BdR (ws : List Wd) (a m a' m' : Int) : Prop where
 at1 : a ≤ a'
 at2 : a' ≤ ws.length
 r1 : 0 ≤ m'
 r2 : m' ≤ m
def Rs.Bd {α : Type} (ws : List Wd) (a m : Int) : Rs α → Prop
 | .ok _ a' m' => BdR ws a m a' m'
 | .no a' m' => BdR ws a m a' m'
structure InW (ws : List Wd) (a m : Int) : Prop where
 a0 : 0 ≤ a
 a1 : a ≤ ws.length
 m0 : 0 ≤ m
 m1 : m ≤ 1000
theorem InW.step {ws : List Wd} {a m a' m' : Int} (h : InW ws a m) (hb : BdR ws a m a' m') : InW ws a' m' := ⟨by have := hb.at1; have := h.a0; omega, hb.at2, hb.r1, Int.le_trans hb.r2 h.m1⟩
theorem aO {α β : Type} {ws : List Wd} {a m : Int} {x : Rs α} {k : α → Int → Int → Rs β} (h : InW ws a m) (hx : x.Bd ws a m) (hk : ∀ y a' m', x = .ok y a' m' → InW ws a' m' → (k y a' m').Bd ws a' m') : (x.bind k).Bd ws a m := by
 cases x with
 | no a' m' => exact hx
 | ok y a' m' =>
  have hi := h.step hx;have h2 := hk y a' m' rfl hi;show (k y a' m').Bd ws a m;cases hz : k y a' m' with
  | ok z a2 m2 => rw [hz] at h2; exact ⟨Int.le_trans hx.at1 h2.at1, h2.at2, h2.r1, Int.le_trans h2.r2 hx.r2⟩
  | no a2 m2 => rw [hz] at h2; exact ⟨Int.le_trans hx.at1 h2.at1, h2.at2, h2.r1, Int.le_trans h2.r2 hx.r2⟩
theorem InW.refl {ws : List Wd} {a m : Int} (h : InW ws a m) : BdR ws a m a m := ⟨Int.le_refl _, h.a1, h.m0, Int.le_refl _⟩
theorem eJ {ws : List Wd} {a m : Int} (h : InW ws a m) {s : Wd} (e : cH ws a = s) (hs : s ≠ [32]) : a < ws.length := by
 have := h.a1;rcases Int.lt_or_eq_of_le this with h1 | h1
 ·exact h1
 ·unfold cH at e; rw [if_pos h1] at e; exact absurd e.symm hs
theorem bL {ws : List Wd} : ∀ (l : List Wd) {a m : Int}, InW ws a m → (∀ s ∈ l, s ≠ [32]) → (dL ws l a m).Bd ws a m
 | [], a, m, h, _ => h.refl
 | s :: l, a, m, h, hl => by
  unfold dL;split
  ·rename_i e;have h1 := eJ h e (hl s (List.mem_cons_self ..));have h2 : InW ws (a + 1) m := ⟨by have := h.a0; omega, by omega, h.m0, h.m1⟩;have h3 := bL l h2 fun x hx => hl x (List.mem_cons_of_mem _ hx);cases hz : dL ws l (a + 1) m with
   | ok z a2 m2 => rw [hz] at h3; exact ⟨by have := h3.at1; omega, h3.at2, h3.r1, h3.r2⟩
   | no a2 m2 => rw [hz] at h3; exact ⟨by have := h3.at1; omega, h3.at2, h3.r1, h3.r2⟩
  ·exact h.refl
theorem Gq {ws : List Wd} {lo hi a m n a' m' : Int} (h : InW ws a m) (e : pF ws lo hi a m = .ok n a' m') : lo ≤ n ∧ n ≤ hi ∧ a' = a + 1 ∧ m' = m ∧ a < ws.length := by
 unfold pF at e;split at e
 ·rename_i k hk;split at e
  ·rename_i hb;injection e with e1 e2 e3;subst e1 e2 e3;refine ⟨hb.1, hb.2, rfl, rfl, ?_⟩;rcases Int.lt_or_eq_of_le h.a1 with h1 | h1
   ·exact h1
   ·unfold cH at hk;rw [if_pos h1] at hk;have : q5s [32] = none := by decide
    rw [this] at hk; cases hk
  ·cases e
 ·cases e
theorem dA {ws : List Wd} {lo hi a m : Int} (h : InW ws a m) : (pF ws lo hi a m).Bd ws a m := by
 cases e : pF ws lo hi a m with
 | ok n a' m' =>
  obtain ⟨_, _, rfl, rfl, h1⟩ := Gq h e;exact ⟨by omega, by omega, h.m0, Int.le_refl _⟩
 | no a' m' =>
  unfold pF at e;split at e
  ·split at e
   ·cases e
   ·injection e with e1 e2; subst e1 e2; exact h.refl
  ·injection e with e1 e2; subst e1 e2; exact h.refl
end Go.SX
namespace Go.SX
theorem uE {α : Type} {d : α} {l : List α} {i : Nat} (h : i < l.length) : l.take (i + 1) = l.take i ++ [l.getD i d] := by
 rw [List.take_add_one, List.getElem?_eq_getElem h, List.getD_eq_getElem?_getD, List.getElem?_eq_getElem h]; rfl
theorem Qw {α : Type} {d : α} {l : List α} {i : Nat} (h : i < l.length) : l.drop i = l.getD i d :: l.drop (i + 1) := by
 rw [List.drop_eq_getElem_cons h, List.getD_eq_getElem?_getD, List.getElem?_eq_getElem h]; rfl
theorem wM {a b : aI} : kC a b = true ↔ a.kind = b.kind ∧ a.from_ = b.from_ ∧ a.to_ = b.to_ ∧ a.low = b.low ∧ a.high = b.high ∧ a.clear = b.clear ∧ a.days = b.days ∧ a.times = b.times ∧ a.within = b.within := by
 simp [kC, and_assoc]
end Go.SX
namespace Go.SX
open Go.Proofs
set_option maxHeartbeats 400000000
set_option maxRecDepth 100000
@[reducible] def q8k (o : iF) : SV Cd := .agg [iS o.id, iS o.owner, iS o.goal.kind, lS o.goal.rows, iS o.goal.from_, iS o.goal.to_, iS o.goal.low, iS o.goal.high, bS o.goal.clear, iS o.goal.days, iS o.goal.times, iS o.goal.within, lS o.goal.cents, .p (.dsl U.goal o.goal.kids), iS o.price, iS o.group, bS o.urgent, iS o.known, iS o.due]
theorem q67 (o : iF) (hG : pX o.goal) : aF Tryz.prog Dc 22 [q8k o] [] (bS (Wu o)) [] := by
 have h := oin;have h1 := nV o.goal hG;refine aA Ax aD Tryz.func22 (c := _) rfl Tryz.call22 200 ?_
 (repeat' ((conv => whnf); first | refine x0C (eB ?_ rfl) | refine cpC (h _ _ _) ?_ | refine cpC (h1) ?_ | refine spC (fun hb => ?_) fun hb => ?_ | refine cW ?_ ?_))
 all_goals clear h h1
 all_goals first | (refine ⟨?_⟩; simp only [aK] at *; exact inR_i64 (by omega) (by omega)) | (simp_all [Wu]; done)
end Go.SX
namespace Go.SX
open Go.ChangeShapes Go.WideShapes Go.RowKit Go.Deep
variable {C : Cod} {D : aJ C} {H : Type} {enc : TypeId × Value → H} {P : Program} {W : World}
def Old (W : World) : Nat → Prop := fun b => b < W.heap.size
structure Fy (D : aJ C) (enc : TypeId × Value → H) (P : Program) (W : World) (e : TypeId) (u : C.U) (Ok : C.El u → Prop) : Prop where
 n : P.cellsOf e = C.n u
 el : ∀ fuel cs x, DataW.trod enc P W 0 (fun _ => true) true fuel e cs = some x → ∃ y : C.El u, cA D W (Old W) (D.enc u y) cs ∧ Ok y
theorem Ym {a : Addr} {v : Value} (h : W.cell? a = some v) : a.block < W.heap.size := by
 unfold World.cell? at h;rcases Nat.lt_or_ge a.block W.heap.size with h' | h'
 ·exact h'
 ·rw [Array.getElem?_eq_none h'] at h;simp at h
theorem Md (b o i : Nat) : (⟨b, o, none⟩ : Addr).add i = ⟨b, o + i, none⟩ := by
 unfold Addr.add;split <;> simp_all
theorem Ay {t e : TypeId} {u : C.U} {Ok : C.El u → Prop} (R : Fy D enc P W e u Ok) (ht : P.underlying t = some (.slice e)) {fuel : Nat} {cs : List Value} {x : DataW H × List MemPlace}
  (h : DataW.trod enc P W 0 (fun _ => true) true fuel t cs = some x) :
  ∃ (v : Value) (l : List (C.El u)), cs = [v] ∧ iV D W (Old W) (.dsl u l) v ∧ (∀ y ∈ l, Ok y) ∧ l.length ≤ maxLen := by
 rcases open_slice ht h with ⟨rfl, _⟩ | ⟨a, len, cap, m, n, Dd, Pl, rfl, _, hl, hm, hmm, _, hx⟩
 ·exact ⟨_, [], rfl, .dslNil u none 0, by simp, by simp⟩
 ·have hlm : len ≤ m := by rw [hmm]; split <;> omega
  by_cases h0 : len = 0
  ·subst h0; exact ⟨_, [], rfl, .dslNil u (some a) cap, by simp, by simp⟩
  haveI : Inhabited (C.El u) := ⟨C.dflt u⟩;obtain ⟨f, hf⟩ := choose_lt (n := len) (p := fun i (y : C.El u) => ∃ cs', W.cells? 0 (a.add (i * P.cellsOf e)) (P.cellsOf e) = some cs' ∧ cA D W (Old W) (D.enc u y) cs' ∧ Ok y) (fun i hi => by
   obtain ⟨cs', h1, h2⟩ := hx i (by omega);obtain ⟨y, h3, h4⟩ := R.el n cs' _ h2;exact ⟨y, cs', h1, h3, h4⟩)
  have hn := R.n;have hnp := D.n_pos u;have hspot : a.spot = none := by
   obtain ⟨cs', h1, h2, _⟩ := hf 0 (by omega);obtain ⟨_, hlen, hc⟩ := World.cells?_some h1;have := hc 0 (by omega);have hv : ∃ v, cs'[0]? = some v := ⟨cs'[0]'(by omega), by rw [List.getElem?_eq_getElem]⟩;obtain ⟨v, hv⟩ := hv;rw [hv] at this;have hs := World.cell?_spot this;simpa [Addr.add] using hs
  obtain ⟨b, o, sp⟩ := a;simp only at hspot;subst hspot;have hcell : ∀ i, i < len → ∀ j, j < C.n u → ∃ v, W.cell? ⟨b, o + i * C.n u + j, none⟩ = some v ∧ ∀ pv, (D.enc u (f i))[j]? = some pv → iV D W (Old W) pv v := by
   intro i hi j hj;obtain ⟨cs', h1, h2, _⟩ := hf i hi;rw [hn, Md] at h1;obtain ⟨_, hlen, hc⟩ := World.cells?_some h1;have := hc j hj;rw [Md] at this;have hv : cs'[j]? = some (cs'[j]'(by omega)) := by rw [List.getElem?_eq_getElem]
   rw [hv] at this;exact ⟨_, this, fun pv hp => h2.2 j pv _ hp hv⟩
  have hen : ∀ y, (D.enc u y).length = C.n u := D.enc_len u;refine ⟨_, (List.range len).map f, rfl, ?_, ?_, ?_⟩
  ·have key := iV.dsl (D := D) (w := W) (F := Old W) u ((List.range len).map f) b o cap (fun i j => (W.cell? ⟨b, o + i * C.n u + j, none⟩).getD (.bool false)) ?_ (by simpa using hl) ?_ ?_
   ·simpa using key
   ·intro _;obtain ⟨v, hv, _⟩ := hcell 0 (by omega) 0 hnp;exact Ym hv
   ·intro i x hx j pv hp;have hi : i < len := by
     rcases Nat.lt_or_ge i len with h' | h'
     ·exact h'
     ·rw [List.getElem?_eq_none (by simpa using h')] at hx; cases hx
    have hxe : x = f i := by simpa [hi] using hx.symm
    subst hxe;have hj : j < C.n u := by
     rw [← hen (f i)];rcases Nat.lt_or_ge j (D.enc u (f i)).length with h' | h'
     ·exact h'
     ·rw [List.getElem?_eq_none h'] at hp; cases hp
    obtain ⟨v, hv, _⟩ := hcell i hi j hj;rw [hv]; rfl
   ·intro i x hx j pv hp;have hi : i < len := by
     rcases Nat.lt_or_ge i len with h' | h'
     ·exact h'
     ·rw [List.getElem?_eq_none (by simpa using h')] at hx; cases hx
    have hxe : x = f i := by simpa [hi] using hx.symm
    subst hxe;have hj : j < C.n u := by
     rw [← hen (f i)];rcases Nat.lt_or_ge j (D.enc u (f i)).length with h' | h'
     ·exact h'
     ·rw [List.getElem?_eq_none h'] at hp; cases hp
    obtain ⟨v, hv, hd⟩ := hcell i hi j hj;rw [hv]; exact hd pv hp
  ·intro y hy;obtain ⟨i, hi, rfl⟩ := List.mem_map.1 hy;obtain ⟨_, _, _, hok⟩ := hf i (List.mem_range.1 hi);exact hok
  ·simp only [List.length_map, List.length_range]; omega
def q8v (P : Program) (t : TypeId) : Bool := (match P.underlying t with | some (.int .i64) => true | _ => false) && P.cellsOf t == 1
theorem q6t {t : TypeId} (h : q8v P t = true) : P.underlying t = some (.int .i64) ∧ P.cellsOf t = 1 := by
 unfold q8v at h;simp only [Bool.and_eq_true, beq_iff_eq] at h;refine ⟨?_, h.2⟩;have h1 := h.1;split at h1
 ·assumption
 ·cases h1
structure Z64 (n : Int) : Prop where
 h : -9223372036854775808 ≤ n ∧ n ≤ 9223372036854775807
theorem q1c {n : Int} (h : (Lit.int .i64 n).wf = true) : Z64 n := by
 simp only [Lit.wf, Bool.and_eq_true, decide_eq_true_eq] at h;exact ⟨⟨h.1, h.2⟩⟩
theorem Xn {t : TypeId} (ht : P.underlying t = some (.int .i64)) {fuel : Nat} {cs : List Value} {x : DataW H × List MemPlace} (h : DataW.trod enc P W 0 (fun _ => true) true fuel t cs = some x) :
  ∃ n, cs = [.int .i64 n] ∧ Z64 n := by
 obtain ⟨n, h1, _, h2⟩ := DataW.trod_int ht h;exact ⟨n, h1, q1c h2⟩
theorem q59 {n : Nat} {cs : List Value} (hlen : cs.length = n) (h : ∀ i, i < n → ∃ z, (cs.drop i).take 1 = [.int .i64 z] ∧ Z64 z) :
  ∃ zs : List Int, zs.length = n ∧ cs = zs.map (Value.int .i64) ∧ ∀ z ∈ zs, Z64 z := by
 induction cs generalizing n with
 | nil => exact ⟨[], by simpa using hlen, rfl, by simp⟩
 | cons c cs ih =>
  cases n with
  | zero => simp at hlen
  | succ n =>
   obtain ⟨zs, h1, h2, h3⟩ := ih (n := n) (by simpa using hlen) (fun i hi => by simpa using h (i + 1) (by omega));obtain ⟨z, hz, hz'⟩ := h 0 (by omega);simp at hz;refine ⟨z :: zs, by simp [h1], by simp [hz, h2], ?_⟩;intro y hy;rcases List.mem_cons.1 hy with rfl | hy
   ·exact hz'
   ·exact h3 y hy
theorem pQ {t e : TypeId} {n : Nat} (ht : P.underlying t = some (.array n e)) (he : q8v P e = true) (hn : P.cellsOf t = n) {fuel : Nat} {cs : List Value} {x : DataW H × List MemPlace}
  (h : DataW.trod enc P W 0 (fun _ => true) true fuel t cs = some x) : ∃ zs : List Int, zs.length = n ∧ cs = zs.map (Value.int .i64) ∧ ∀ z ∈ zs, Z64 z := by
 obtain ⟨xs, m, _, _, hlen, hxs, hel⟩ := DataW.trod_array ht h;obtain ⟨hu, hc⟩ := q6t he;refine q59 (hlen.trans hn) fun i hi => ?_;have := hel i hi;rw [List.getElem?_eq_getElem (by omega), hc, Nat.mul_one] at this;exact Xn hu this
theorem N9 (D : aJ C) (w : World) (F : Nat → Prop) (zs : List Int) : cA D w F (zs.map (PV.int .i64)) (zs.map (Value.int .i64)) := by
 refine ⟨by simp, fun j pv v hp hv => ?_⟩;simp only [List.getElem?_map, Option.map_eq_some_iff] at hp hv;obtain ⟨z, hz, rfl⟩ := hp;obtain ⟨z', hz', rfl⟩ := hv;rw [hz] at hz';injection hz' with e;subst e;exact .int _ _
theorem My {f : FuncId} {svs : List (SV C)} (hM : aF P D f svs [] (.p (.bool true)) []) {args : Array Value} (hG : oW C W ⟨Old W, fun _ => .fresh⟩) (hd : DenA D W ⟨Old W, fun _ => .fresh⟩ svs args.toList) :
  Calls P f args W fun e W' => e = .returned (.bool true) ∧ Below W.heap.size W W' := by
 have hs : Sat D W ⟨Old W, fun _ => .fresh⟩ (aR ([] : List (HS C))) := ⟨fun c => (by simp [aR, HS.ok]), fun c b e => (by cases e), fun c c' b e => (by cases e), fun b hb => hb, hG⟩;refine ((hM.calls W ⟨Old W, fun _ => .fresh⟩ (fun c _ => rfl) args.toList hs hd).calls (fun k => by simp [Fence.room, Fc])).mono ?_;rintro e w' ⟨v, E', rfl, hv, _, hfr⟩;simp only [Den] at hv;cases hv;exact ⟨rfl, hfr.os, hfr.tape, hfr.output, hfr.size, fun b hb => hfr.same b hb (by rintro ⟨c, hc⟩; cases hc)⟩
end Go.SX
namespace Go.SX
open Go.Proofs Go.Shelf
set_option maxRecDepth 100000
set_option maxHeartbeats 400000000
def mI (l : List (Nat × Nat)) (x : Nat) : Nat := match l with
 | [] => x
 | (a, b) :: l => if a = x then b else mI l x
def Gi : Ren := ⟨mI [(143, 117), (219, 156), (217, 184), (225, 185), (224, 186), (267, 187), (266, 196), (314, 197)], mI [(9, 9), (3, 3), (4, 4), (5, 5), (46, 141), (146, 243), (51, 179)], mI [(1, 2)]⟩
theorem Nv : Lays.n143 Tryz.prog Gi := by
 constructor <;> first | kernel_rfl | (intro w; kernel_rfl) | (decide; done) | (constructor <;> first | kernel_rfl | (intro w; kernel_rfl) | (constructor <;> first | kernel_rfl | (intro w; kernel_rfl)))
def Hi : Ren := ⟨mI [(138, 116), (195, 153), (218, 155), (143, 117), (219, 156), (217, 184), (225, 185), (224, 186), (267, 187), (266, 196), (314, 197)], mI [(9, 9), (3, 3), (4, 4), (5, 5), (0, 0), (46, 141), (146, 243), (51, 179)], mI [(1, 2)]⟩
theorem Np : Lays.n138 Tryz.prog Hi := by
 constructor <;> first | kernel_rfl | (intro w; kernel_rfl) | (decide; done) | (constructor <;> first | kernel_rfl | (intro w; kernel_rfl) | (constructor <;> first | kernel_rfl | (intro w; kernel_rfl)))
def L7 : Ren := ⟨mI [(156, 26), (165, 48), (166, 49), (169, 50), (240, 77), (241, 78), (276, 113), (277, 114)], mI [(31, 69), (9, 9), (3, 3), (4, 4), (0, 0), (20, 20), (72, 112), (76, 116), (70, 109), (37, 110), (75, 115), (127, 143), (164, 182), (5, 5), (80, 118)], mI []⟩
theorem zY : Lays.n156 Tryz.prog L7 := by
 constructor <;> first | kernel_rfl | (intro w; kernel_rfl) | (decide; done) | (constructor <;> first | kernel_rfl | (intro w; kernel_rfl) | (constructor <;> first | kernel_rfl | (intro w; kernel_rfl)))
def Nz : Ren := ⟨mI [(171, 46), (243, 74), (246, 110), (283, 149), (284, 150), (285, 151), (286, 152), (129, 180), (317, 179), (318, 181), (319, 182), (320, 76), (337, 111), (338, 112)], mI [(3, 3), (9, 9), (2, 2), (4, 4), (171, 197), (0, 0), (53, 181), (37, 110), (5, 5), (173, 199), (212, 227), (51, 179), (20, 20), (213, 228), (46, 141), (232, 201), (233, 202)], mI [(17, 3), (18, 0), (19, 1)]⟩
theorem Up : LaysM.n171 Tryz.prog Nz := by
 constructor <;> first | kernel_rfl | (intro w; kernel_rfl) | (decide; done) | (constructor <;> first | kernel_rfl | (intro w; kernel_rfl) | (constructor <;> first | kernel_rfl | (intro w; kernel_rfl)))
def Mn : Ren := ⟨mI [(172, 81), (244, 118), (245, 119), (247, 157), (279, 158), (280, 159), (281, 160), (282, 161), (287, 188), (316, 189), (171, 46), (205, 190), (321, 198), (322, 199), (243, 74), (246, 110), (283, 149), (284, 150), (285, 151), (286, 152), (129, 180), (317, 179), (318, 181), (319, 182), (320, 76), (337, 111), (338, 112)], mI [(9, 9), (3, 3), (75, 115), (76, 116), (4, 4), (5, 5), (167, 207), (37, 110), (0, 0), (85, 208), (2, 2), (168, 210), (53, 181), (175, 229), (46, 141), (210, 233), (127, 143), (145, 248), (143, 246), (21, 21), (171, 197), (173, 199), (212, 227), (51, 179), (20, 20), (213, 228), (232, 201), (233, 202), (80, 118)], mI [(15, 4), (16, 5), (17, 3), (18, 0), (19, 1)]⟩
theorem A7 : LaysC.n172 Tryz.prog Mn := by
 constructor <;> first | kernel_rfl | (intro w; kernel_rfl) | (decide; done) | (constructor <;> first | kernel_rfl | (intro w; kernel_rfl) | (constructor <;> first | kernel_rfl | (intro w; kernel_rfl)))
theorem vU : Builder.Extra Tryz.prog L7 := by
 constructor <;> first | kernel_rfl | (intro w; kernel_rfl) | (decide; done) | (constructor <;> first | kernel_rfl | (intro w; kernel_rfl) | (constructor <;> first | kernel_rfl | (intro w; kernel_rfl)))
end Go.SX
namespace Go.SX
open Go.Proofs Go.Shelf
set_option maxRecDepth 100000
set_option maxHeartbeats 400000000
def Na : Ren := ⟨mI [(189, 191), (125, 201), (257, 200), (128, 213), (129, 180), (294, 204), (295, 205), (296, 206), (297, 207), (298, 208), (299, 209), (216, 210), (300, 211), (301, 212), (328, 214), (329, 215), (330, 216), (331, 217), (332, 218), (215, 107), (343, 219)], mI [(28, 27), (3, 3), (46, 141), (0, 0), (51, 179), (53, 181), (4, 4), (183, 253), (182, 252), (131, 127), (5, 5), (9, 9), (218, 258), (222, 262), (228, 264), (229, 265)], fun x => x⟩
theorem Uz : Lays.n189 Tryz.prog Na := by
 constructor <;> first | kernel_rfl | (intro w; kernel_rfl) | (decide; done) | (constructor <;> first | kernel_rfl | (intro w; kernel_rfl) | (constructor <;> first | kernel_rfl | (intro w; kernel_rfl)))
def U1 : Ren := ⟨mI [(20, 192)], mI [(22, 27), (3, 3), (4, 4), (0, 0)], fun x => x⟩
theorem Bi : Lays2.n20 Tryz.prog U1 := by
 constructor <;> first | kernel_rfl | (intro w; kernel_rfl) | (decide; done) | (constructor <;> first | kernel_rfl | (intro w; kernel_rfl) | (constructor <;> first | kernel_rfl | (intro w; kernel_rfl)))
end Go.SX
namespace Go.SX
open Go.Proofs Go.Shelf Go.RowKit Go.Sort
set_option maxHeartbeats 400000000
set_option maxRecDepth 100000
theorem Kt (zs : List Int) : zs.flatMap (Dc.enc U.int) = zs.map (PV.int (C := Cd) .i64) := by
 rw [List.map_eq_flatMap]; rfl
theorem O9 {f : FuncId} {zs zs' : List Int} {ret : SV Cd} (h0 : zs ≠ []) (hl : zs'.length = zs.length) (henter : ∀ args w, (callFunc f args).run Tryz.prog w = .ok (.enter f args) w) (rv : Nat → Nat → Nat → Value)
    (hc : ∀ blk off cap w, Holds (Value.int .i64) w blk off zs.toArray → blk < w.heap.size → zs.length ≤ cap → Calls Tryz.prog f #[.slice (some ⟨blk, off, none⟩) zs.length cap] w fun e w' => e = .returned (rv blk off cap) ∧ ∃ n os, w' = grow (putRow (Value.int .i64) (Sort.ahead w n) blk off zs'.toArray) os)
    (hr : ∀ w E b cs T cap, E.β 0 = .loc b → Row w b cs T → zs.length ≤ cap → cap ≤ cs.size → Den Dc w E ret (rv b 0 cap)) : aF Tryz.prog Dc f [.slice 0 0 1 0 zs.length] [.rows U.int zs] ret [.rows U.int zs'] := by
  refine ⟨henter, fun w E hm vs hs hd => ?_⟩;simp only [DenA] at hd;obtain ⟨v, v2, rfl, hv, rfl⟩ := hd;have hlen0 : zs.length ≠ 0 := fun e => h0 (List.length_eq_zero_iff.1 e);have hok := hs.ok 0;simp only [Den] at hv;cases hb : E.β 0 with
  | fresh => rw [hb] at hv; exact hv.elim
  | dead => rw [hb] at hok; simp [HS.ok, aR] at hok
  | virt => rw [hb] at hv; obtain ⟨a, _, h⟩ := hv; exact absurd h hlen0
  | loc b =>
    rw [hb] at hv hok;rcases hv with ⟨h, _⟩ | ⟨cap, cs, T, rfl, hcap, hrow, hsz⟩
    · exact absurd h hlen0
    · obtain ⟨cs2, T2, hrow2, hle, hden⟩ := hok;obtain ⟨rfl, rfl⟩ := hrow.inj hrow2.1;have hrow' := hrow;obtain ⟨z, hheap, hthaw⟩ := hrow;have hn : Cod.n Cd U.int = 1 := rfl;rw [hn, Nat.mul_one] at hle hden;rw [Kt] at hden;have hcell : ∀ j, j < zs.length → cs[j]? = some (Value.int .i64 zs[j]!) := by
        intro j hj;have h1 : (zs.map (PV.int (C := Cd) .i64))[j]? = some (.int .i64 zs[j]!) := by
          rw [List.getElem?_map, List.getElem?_eq_getElem hj, getElem!_pos zs j hj]; rfl
        have h2 : (cs.toList.take zs.length)[j]? = some cs[j] := by
          rw [List.getElem?_take, if_pos hj, Array.getElem?_toList, Array.getElem?_eq_getElem (by omega)]
        have := hden.2 j _ _ h1 h2;generalize hcj : cs[j] = x at this;cases this;rw [Array.getElem?_eq_getElem (by omega), hcj]
      have hH : Holds (Value.int .i64) w b (0 + 0 * 1) zs.toArray := by
        intro j hj;have hj' : j < zs.length := by simpa using hj
        refine ⟨?_, ?_⟩
        · simp only [World.cell?, hheap, Nat.zero_mul, Nat.zero_add];simpa using hcell j hj'
        · simp only [World.frozen?, hheap, Nat.zero_mul, Nat.zero_add];have := hthaw j (by omega);simpa using this
      have hlt : b < w.heap.size := (hs.own 0 b hb).1;have h := hc b (0 + 0 * 1) cap w hH hlt hcap;have h2 : CallsIn (Fc none) 0 Tryz.prog f #[.slice (some ⟨b, 0 + 0 * 1, none⟩) zs.length cap] w _ := callsIn_wide.2 h;refine h2.mono ?_;rintro e w' ⟨rfl, n, os, hw'⟩;simp only [Nat.zero_mul, Nat.add_zero] at hw'
      let B0 := dP.here w E 1 hm
      have hrel : Rel Dc B0 E (fun _ => .any) (aR [HS.rows (C := Cd) U.int zs]) [] { tmps := #[], defers := [] } w := ⟨fun i => trivial, hs, Fr.here, rfl, sK.nil⟩
      let cs' := putCells (Value.int .i64) 0 zs'.toArray cs
      have hsz' : cs'.size = cs.size := by simp [cs', putCells]
      have hlist : cs'.toList.take zs'.length = zs'.map (Value.int .i64) := by
        refine List.ext_getElem? fun j => ?_;rw [List.getElem?_take]
        by_cases hj : j < zs'.length
        · rw [if_pos hj, Array.getElem?_toList, List.getElem?_map, List.getElem?_eq_getElem hj, Array.getElem?_eq_getElem (by rw [hsz']; omega)];simp [cs', putCells, hj]
        · rw [if_neg hj, List.getElem?_eq_none (by simp; omega)]
      have hden' : ∀ w1 E1, cA Dc w1 E1 (zs'.map (PV.int (C := Cd) .i64)) (zs'.map (Value.int .i64)) := by
        intro w1 E1;refine ⟨by simp, fun j pv v h1 h2 => ?_⟩;rw [List.getElem?_map] at h1 h2;cases hz : zs'[j]? with
        | none => rw [hz] at h1; cases h1
        | some x => rw [hz] at h1 h2; cases h1; cases h2; exact .int _ _
      have hset := hrel.setRow (c := 0) hb hrow' hsz' (hs := HS.rows (C := Cd) U.int zs') fun hL => ⟨cs', T, ⟨hrow'.set hsz', hrow2.2⟩, by rw [hn, Nat.mul_one, hsz']; omega, by
        rw [hn, Nat.mul_one, Kt, hlist]; exact hden' _ _⟩
      have hH1 : upH (aR [HS.rows (C := Cd) U.int zs]) 0 (.rows U.int zs') = aR [.rows U.int zs'] := by
        funext i;cases i with
        | zero => rfl
        | succ i => rfl
      rw [hH1] at hset;have hmap : ∀ k, k < w.heap.size → w'.heap[k]? = (w.setRow b cs').heap[k]? := by
        intro k hk;rw [hw', heap_grow_old _ _ (by simp [putRow, mapBlock, Sort.ahead]; exact hk)]
        by_cases hkb : k = b
        · subst hkb;rw [setRow_heap w k cs cs' T z hheap];simp only [putRow, mapBlock, Sort.ahead, Array.getElem?_modify, hheap, if_true, Option.map_some, onCells];rfl
        · rw [setRow_other w b k cs' hkb];simp only [putRow, mapBlock, Sort.ahead, Array.getElem?_modify, if_neg (Ne.symm hkb)]
      have hz1 : (w.setRow b cs').heap.size = w.heap.size := by simp
      have hz2 : w.heap.size ≤ w'.heap.size := by rw [hw']; simp [grow, putRow, mapBlock, Sort.ahead]
      have hrow3 : Row w' b cs' T := Row.of (hmap b hlt) (hrow'.set hsz');refine ⟨_, E, rfl, ?_, hset.sat.same (fun k hk => hmap k (by omega)) (by omega), hset.fr.on hset.sat.F (fun k hk => hmap k (by omega)) (by omega) (by rw [hw']; rfl) (by rw [hw']; rfl) (by rw [hw']; rfl)⟩;have := hr w' E b cs' T cap hb hrow3 hcap (by rw [hsz']; omega);simpa using this
theorem Nc {zs : List Int} (h0 : zs ≠ []) (hl : (zs.length : Int) ≤ 1000000) : aF Tryz.prog Dc 191 [.slice 0 0 1 0 zs.length] [.rows U.int zs] (.tuple []) [.rows U.int (zs.mergeSort fun x y => decide (x ≤ y))] :=
 O9 h0 (List.length_mergeSort _) Tryz.call191 (fun _ _ _ => .tuple #[]) (fun blk off cap w hH hb _ => Any.slices_Sort_int Uz blk off cap zs w hH hb (by omega)) (fun _ _ _ _ _ _ _ _ _ _ => ⟨#[], rfl, rfl⟩)
theorem q34 (d : Array Int) (m : Nat) : (Lib.compactUpTo d m).length ≤ m := by
 unfold Lib.compactUpTo;rw [List.length_map];exact Nat.le_trans (List.length_filter_le _ _) (by simp)
theorem Y6 {zs : List Int} (h0 : zs ≠ []) (hl : (zs.length : Int) ≤ 1000000) : aF Tryz.prog Dc 192 [.slice 0 0 1 0 zs.length] [.rows U.int zs] (.slice 0 0 1 0 (Lib.compact zs).length) [.rows U.int (Lib.compact zs ++ List.replicate (zs.length - (Lib.compact zs).length) 0)] := by
 have hc := q34 zs.toArray zs.length;refine O9 h0 (by simp only [Lib.compact, List.length_append, List.length_replicate]; omega) Tryz.call192 (fun b o c => .slice (some ⟨b, o, none⟩) (Lib.compact zs).length c) (fun blk off cap w hH hb hcap => ?_) (fun w E b cs T cap hb hr h1 h2 => ?_)
 ·refine (Any.slices_Compact_int_arr Bi blk off cap zs.toArray w hH (by simp; omega) (by simpa using hcap)).mono ?_;rintro e w' ⟨rfl, q, hw⟩;exact ⟨rfl, q, #[], by rw [hw, grow_empty]; rfl⟩
 ·simp only [Den, hb];exact .inr ⟨cap, cs, T, by simp, by unfold Lib.compact; omega, hr, by simpa using h2⟩
theorem Wh (d : Array Int) (hs : ∀ i j : Nat, i ≤ j → j < d.size → d[i]! ≤ d[j]!) : ∀ m : Nat, m ≤ d.size → Asc (Lib.compactUpTo d m) ∧ (∀ j, j < m → d[j]! ∈ Lib.compactUpTo d m) ∧ ∀ x ∈ Lib.compactUpTo d m, ∃ j, j < m ∧ x = d[j]!
 | 0, _ => ⟨trivial, fun j h => by omega, fun x h => by simp [Lib.compactUpTo] at h⟩
 | m + 1, h => by
  obtain ⟨h1, h2, h3⟩ := Wh d hs m (by omega);rw [Lib.compactUpTo_succ]
  by_cases hk : Lib.keeps d m = true
  ·rw [if_pos hk];refine ⟨?_, fun j hj => ?_, fun x hx => ?_⟩
   ·have : ∀ l : List Int, Asc l → (∀ x ∈ l, x < d[m]!) → Asc (l ++ [d[m]!]) := by
     intro l
     induction l with
     | nil => intro _ _; exact ⟨fun b hb => (by cases hb), trivial⟩
     | cons a l ih =>
      intro ha hb;exact ⟨fun b hb' => by
       rcases List.mem_append.1 hb' with h | h
       ·exact ha.1 b h
       ·rw [List.mem_singleton.1 h]; exact hb a (by simp), ih ha.2 fun x hx => hb x (by simp [hx])⟩
    refine this _ h1 fun x hx => ?_;obtain ⟨j, hj, rfl⟩ := h3 x hx;have e1 := hs j (m - 1) (by omega) (by omega);have e2 := hs (m - 1) m (by omega) (by omega);have e3 : d[m]! ≠ d[m - 1]! := by
     simp only [Lib.keeps, decide_eq_true_eq] at hk;exact hk.resolve_left (by omega)
    omega
   ·rcases Nat.lt_or_ge j m with hj' | hj'
    ·exact List.mem_append.2 (.inl (h2 j hj'))
    ·rw [show j = m by omega]; exact List.mem_append.2 (.inr (by simp))
   ·rcases List.mem_append.1 hx with hx | hx
    ·obtain ⟨j, hj, e⟩ := h3 x hx; exact ⟨j, by omega, e⟩
    ·exact ⟨m, by omega, by simpa using hx⟩
  ·rw [if_neg hk, List.append_nil];refine ⟨h1, fun j hj => ?_, fun x hx => ?_⟩
   ·rcases Nat.lt_or_ge j m with hj' | hj'
    ·exact h2 j hj'
    ·have : ¬ (m = 0 ∨ d[m]! ≠ d[m - 1]!) := by simpa [Lib.keeps] using hk
     have e : d[m]! = d[m - 1]! := by
      by_cases e : d[m]! = d[m - 1]!
      ·exact e
      ·exact absurd (.inr e) this
     rw [show j = m by omega, e];exact h2 (m - 1) (by omega)
   ·obtain ⟨j, hj, e⟩ := h3 x hx; exact ⟨j, by omega, e⟩
theorem Eg (l : List Int) : Lib.compact (l.mergeSort fun x y => decide (x ≤ y)) = Ew l := by
 have hp := List.pairwise_mergeSort (le := fun x y : Int => decide (x ≤ y)) (by intro a b c; simp; omega) (by intro a b; simp; omega) l;generalize hm : l.mergeSort (fun x y => decide (x ≤ y)) = m at hp;have hmem : ∀ x, x ∈ m ↔ x ∈ l := fun x => by rw [← hm]; exact List.mem_mergeSort
 have hs : ∀ i j : Nat, i ≤ j → j < m.toArray.size → m.toArray[i]! ≤ m.toArray[j]! := by
  intro i j hij hj;have hj' : j < m.length := by simpa using hj
  rcases Nat.lt_or_ge i j with h | h
  ·have := List.pairwise_iff_getElem.1 hp i j (by omega) hj' h;rw [getElem!_pos _ i (by simp; omega), getElem!_pos _ j (by simp; omega)];simpa using this
  ·rw [show i = j by omega]; exact Int.le_refl _
 obtain ⟨h1, h2, h3⟩ := Wh m.toArray hs m.length (by simp);refine We h1 q0p fun x => ?_;rw [Jv, ← hmem];constructor
 ·intro hx;obtain ⟨j, hj, rfl⟩ := h3 x hx;rw [getElem!_pos _ j (by simpa using hj)];simp
 ·intro hx;obtain ⟨j, hj, rfl⟩ := List.getElem_of_mem hx;have := h2 j hj
  rwa [getElem!_pos _ j (by simpa using hj), List.getElem_toArray] at this
theorem lK {l : List Int} (h0 : l ≠ []) (hl : (l.length : Int) ≤ 1000000) : aF Tryz.prog Dc 164 [lS l] [] (.slice 0 0 1 0 (Ew l).length) [.rows U.int (Ew l ++ List.replicate (l.length - (Ew l).length) 0)] := by
 have h1 := Jq l hl;have h2 := Nc h0 hl;have hm0 : (l.mergeSort fun x y => decide (x ≤ y)) ≠ [] := fun e => h0 (List.length_eq_zero_iff.1 (by rw [← List.length_mergeSort (le := fun x y => decide (x ≤ y)), e]; rfl));have h3 := Y6 hm0 (by rw [List.length_mergeSort]; exact hl);rw [Eg, List.length_mergeSort] at h3;refine aA Ax aD Tryz.func164 (c := _) rfl Tryz.call164 100 ?_
 (repeat' ((conv => whnf); first | refine chC [] h1 ?_ | refine chC [some 0] h2 ?_ | refine chC [some 0] h3 ?_ | exact enC [some 0]))
end Go.SX
namespace Go.SX
open Go.Proofs
set_option maxHeartbeats 400000000
set_option maxRecDepth 100000
@[reducible] def q64 (p : Int) (im : List Int) : SV Cd := .agg [.p (.int .i64 p), .p (.dsl U.int im)]
@[reducible] def qD (s : Sen) : SV Cd := match s with
 | none => .tuple [q64 0 [], bS false]
 | some (p, im) => .tuple [q64 p im, bS true]
structure lV (l : List aB) : Prop where
 len : (l.length : Int) ≤ 1000000
 el : ∀ e ∈ l, oS e
 i64 : ∀ e ∈ l, Bf e
 look : ∀ e ∈ l, -1000 ≤ e.look ∧ e.look ≤ 1000
theorem qb1 (a b : Int) (h1 : -4611686018427387904 ≤ a ∧ a ≤ 4611686018427387903) (h2 : -4611686018427387904 ≤ b ∧ b ≤ 4611686018427387903) : aF Tryz.prog Dc 165 [iS a, iS b] [] (iS (Xc a b)) [] := by
 refine aA Ax aD Tryz.func165 (c := _) rfl Tryz.call165 60 ?_
 (repeat' ((conv => whnf); first | refine x0C (eI ?_ rfl) | refine saC ?_))
 all_goals rfl
theorem qc7 (g : aI) (hg : Lx g) (l : List aB) (now : Int) (h : lV l) : aF Tryz.prog Dc 126 [aX l now, aM g] [] (qD (q5l g l)) [] := by
 have h1 := oA g hg l now h.len h.el;unfold q5l;cases hs : iJ g l with
 | nil =>
  rw [hs] at h1;refine aA Ax aD Tryz.func126 (c := _) rfl Tryz.call126 100 ?_
  (repeat' ((conv => whnf); first | refine cpC (h1) ?_ | refine x0C ?_))
  all_goals exact vwV
 | cons a m =>
  rw [hs] at h1;have h2 := lK (l := [a.image]) (by simp) (by simp);rw [show Ew [a.image] = [a.image] from rfl] at h2;refine aA Ax aD Tryz.func126 (c := _) rfl Tryz.call126 100 ?_
  (repeat' ((conv => whnf); first | refine cpC (h1) ?_ | (refine Ix [some 0, some 1, some 2, none] [(18, .any)] [(3, .rows U.int [])] [lS [a.image]] (by exact bkV) (by exact snV) ?_; (conv => whnf); refine xW [] h2 rfl rfl trivial ?_) | refine x0C ?_ | refine saC ?_))
  all_goals exact vwV
theorem X1 (g : aI) (a b : aB) (ha : Bf a) (hb : Bf b) (hd : 0 ≤ g.days ∧ g.days ≤ 60) : aF Tryz.prog Dc 93 [aM g, evA a, evA b] [] (bS (bY g a b)) [] := by
 have h := tin (b.at_ - a.at_) g.within (1440 * g.days);unfold Bf at ha hb;refine aA Ax aD Tryz.func93 (c := _) rfl Tryz.call93 60 ?_
 (repeat' ((conv => whnf); first | refine x0C (eB ?_ rfl) | refine cpC (h) ?_ | refine saC ?_))
 all_goals rfl
theorem q1j (g : aI) (a : aB) (hf : 0 ≤ g.from_ ∧ g.from_ ≤ 1000000) (hd : 0 ≤ g.days ∧ g.days ≤ 60) : aF Tryz.prog Dc 92 [aM g, evA a] [] (bS (nW g a)) [] := by
 refine aA Ax aD Tryz.func92 (c := _) rfl Tryz.call92 60 ?_
 (repeat' ((conv => whnf); first | refine x0C (eB ?_ rfl) | refine saC ?_))
 all_goals rfl
theorem q9k (g : aI) (hk : (g.kids.length : Int) = 1) (hg : Lx (eM g.kids)) (l : List aB) (now : Int) (h : lV l) : aF Tryz.prog Dc 127 [aX l now, aM g] [] (qD (Oh g l)) [] := by
 have h1 := oA (eM g.kids) hg l now h.len h.el;have hE : lV (iJ (eM g.kids) l) := ⟨Int.le_trans (Int.ofNat_le.2 (List.length_filter_le _ _)) h.len, fun e he => h.el e (List.mem_filter.1 he).1, fun e he => h.i64 e (List.mem_filter.1 he).1, fun e he => h.look e (List.mem_filter.1 he).1⟩;unfold Oh;generalize iJ (eM g.kids) l = m at h1 hE ⊢;have hl := hE.len;refine aA Ax aD Tryz.func127 (c := _) rfl Tryz.call127 200 ?_
 (repeat' ((conv => whnf); first | refine dpC (h1) ?_ | refine taC ?_ | refine saC ?_ | refine aE mixed ?_))
 refine bP (fun i : Nat => [(5, bS false), (19, iS i)]) (fun _ => []) (fun i => i ≤ m.length ∧ Y3 g m = Y3 g (m.drop i)) (fun i => m.length - i) 0 ⟨Nat.zero_le _, by simp⟩ (by exact bkV) ?_;rintro i ⟨hi, he⟩ K hK;rcases Nat.lt_or_ge i m.length with hlt | hge
 ·have hgi := getD_some (d := Cd.dflt U.event) hlt;have hd := iT (d := Cd.dflt U.event) hlt;rw [hd, Mj] at he;have ha1 := hE.i64 _ (List.mem_of_getElem? hgi);have ha2 := hE.look _ (List.mem_of_getElem? hgi)
  (repeat' ((conv => whnf); first | (exfalso; omega) | refine spC (fun hb => ?_) fun hb => ?_ | refine saC ?_))
  generalize hq : List.drop ((i : Int) + 1).toNat (List.take ((m.length : Nat) : Int).toNat m) = q;have hq' : q = m.drop (i + 1) := by rw [← hq, show ((i : Int) + 1).toNat = i + 1 by omega, Int.toNat_natCast, List.take_length]
  rw [← hq'] at he;have hql : q.length ≤ m.length := by rw [hq']; simp
  have hqm : ∀ b ∈ q, b ∈ m := fun b hb => by rw [hq'] at hb; exact List.mem_of_mem_drop hb
  refine bP (fun k : Nat => [(5, bS false), (29, iS k)]) (fun _ => []) (fun k => k ≤ q.length ∧ (q.take k).any (pfB g (m.getD i (Cd.dflt U.event))) = false) (fun k => q.length - k) 0 ⟨Nat.zero_le _, by simp⟩ (by exact bkV) ?_;rintro k ⟨hk1, hk2⟩ K2 hK2;rcases Nat.lt_or_ge k q.length with hlt2 | hge2
  ·have hgk := getD_some (d := Cd.dflt U.event) hlt2;have hb1 := hE.i64 _ (hqm _ (List.mem_of_getElem? hgk));have hb2 := hE.look _ (hqm _ (List.mem_of_getElem? hgk));unfold Bf at ha1 hb1;have hp : pfB g (m.getD i (Cd.dflt U.event)) (q.getD (k : Int).toNat (Cd.dflt U.event)) = (decide (g.low ≤ Xc (m.getD (i : Int).toNat (Cd.dflt U.event)).look (q.getD (k : Int).toNat (Cd.dflt U.event)).look) && decide (Xc (m.getD (i : Int).toNat (Cd.dflt U.event)).at_ (q.getD (k : Int).toNat (Cd.dflt U.event)).at_ ≤ g.within)) := rfl;have hg1 := qb1 (m.getD (i : Int).toNat (Cd.dflt U.event)).look (q.getD (k : Int).toNat (Cd.dflt U.event)).look (by omega) (by omega);have hg2 := qb1 (m.getD (i : Int).toNat (Cd.dflt U.event)).at_ (q.getD (k : Int).toNat (Cd.dflt U.event)).at_ (by omega) (by omega);have hi2 := lK (l := [(m.getD (i : Int).toNat (Cd.dflt U.event)).image, (q.getD (k : Int).toNat (Cd.dflt U.event)).image]) (by simp) (by simp);have n1 : ¬ (g.low ≤ Xc (m.getD (i : Int).toNat (Cd.dflt U.event)).look (q.getD (k : Int).toNat (Cd.dflt U.event)).look) → pfB g (m.getD i (Cd.dflt U.event)) (q.getD (k : Int).toNat (Cd.dflt U.event)) = false := fun h => by rw [hp, decide_eq_false h]; rfl
   have n2 : ¬ (Xc (m.getD (i : Int).toNat (Cd.dflt U.event)).at_ (q.getD (k : Int).toNat (Cd.dflt U.event)).at_ ≤ g.within) → pfB g (m.getD i (Cd.dflt U.event)) (q.getD (k : Int).toNat (Cd.dflt U.event)) = false := fun h => by rw [hp, decide_eq_false h, Bool.and_false]
   have hx : pfB g (m.getD i (Cd.dflt U.event)) (q.getD (k : Int).toNat (Cd.dflt U.event)) = true → Y3 g m = some (m.getD (i : Int).toNat (Cd.dflt U.event), q.getD (k : Int).toNat (Cd.dflt U.event)) := fun h => by rw [he, Xb hgk h hk2]; rfl
   (repeat' ((conv => whnf); first | (exfalso; omega) | refine dpC (hg1) ?_ | refine dpC (hg2) ?_ | (refine Ix [some 0, some 1, some 2, some 3, some 4, none] [(55, .any)] [(5, .rows U.int [])] [lS [(m.getD (i : Int).toNat (Cd.dflt U.event)).image, (q.getD (k : Int).toNat (Cd.dflt U.event)).image]] (by exact bkV) (by exact snV) ?_; (conv => whnf); refine xW [] hi2 rfl rfl trivial ?_) | refine hK2 (k + 1) [some 0, some 1, some 2, some 3] _ _ ⟨⟨by omega, iA hgk (by first | exact n1 (by assumption) | exact n2 (by assumption)) hk2⟩⟩ ⟨by omega⟩ (by exact bkV) | refine x0C ?_ | refine spC (fun hb => ?_) fun hb => ?_ | refine taC ?_ | refine saC ?_ | refine aE mixed ?_))
   all_goals (rw [hx (by rw [hp, decide_eq_true (by assumption), decide_eq_true (by assumption)]; rfl)]; exact vwV)
  ·have hn := Tp (jG hge2 hk2);rw [hn] at he
   (repeat' ((conv => whnf); first | (exfalso; omega) | refine hK (i + 1) [some 0, some 1, some 2] _ _ ⟨⟨by omega, by rw [he, hq']⟩⟩ ⟨by omega⟩ (by exact bkV) | refine spC (fun hb => ?_) fun hb => ?_ | refine saC ?_))
 ·rw [he, List.drop_of_length_le hge, Y3]
  (repeat' ((conv => whnf); first | (exfalso; omega) | refine x0C ?_ | refine spC (fun hb => ?_) fun hb => ?_))
  all_goals exact vwV
@[reducible] def kL (g : aI) : List (PV Cd) := [.int .i64 g.kind, .dsl U.int g.rows, .int .i64 g.from_, .int .i64 g.to_, .int .i64 g.low, .int .i64 g.high, .bool g.clear, .int .i64 g.days, .int .i64 g.times, .int .i64 g.within, .dsl U.int g.cents, .dsl U.goal g.kids]
@[reducible] def Vo (g : aI) (m : List aB) : List (SV Cd) := [.dptr [.dsl U.event m] 0, .dptr [.dsl U.int (cV g m)] 0, .ptr 0 0, .ptr 1 0, .dptr (kL g) 0]
@[reducible] def q6l (g : aI) (m : List aB) (acc : List Int) : List (HS Cd) := [.vart none [.slice 2 0 1 0 acc.length], .vart none [.fn (.func 166) [] (Vo g m)], .rows U.int acc]
@[reducible] def q33 (g : aI) (m : List aB) (acc : List Int) : List (HS Cd) := [.vart none [.slice 3 0 1 0 acc.length], .vart none [.fn (.func 166) [] (Vo g m)], .dead, .rows U.int acc]
@[reducible] def q4q (g : aI) (m : List aB) (acc r : List Int) : List (HS Cd) := match r with
 | [] => q6l g m acc
 | x :: r => q33 g m (acc ++ x :: r)
inductive q96 (g : aI) (m : List aB) : List (SV Cd) → Prop
 | c0 : q96 g m [.dptr (kL g) 0]
 | c1 (i : Int) : q96 g m [.dptr (kL g) 0, .dptr [.dsl U.event m] 0, .dptr [.int .i64 i] 0]
theorem q71 (g : aI) (hf : 0 ≤ g.from_ ∧ g.from_ ≤ 1000000) (hd : 0 ≤ g.days ∧ g.days ≤ 60) (e : aB) : aF Tryz.prog Dc 168 [evA e, .dptr (kL g) 0] [] (bS (Dy g none e)) [] := by
 have h := q1j g e hf hd;refine aA Ax aD Tryz.func168 (c := _) rfl Tryz.call168 60 ?_
 (repeat' ((conv => whnf); first | refine x0C (eB ?_ rfl) | refine cpC (h) ?_))
 all_goals rfl
theorem q7f (g : aI) (hd : 0 ≤ g.days ∧ g.days ≤ 60) (m : List aB) (hE : lV m) (i : Nat) (hi : i < m.length) (e : aB) (he : Bf e) : aF Tryz.prog Dc 167 [evA e, .dptr (kL g) 0, .dptr [.dsl U.event m] 0, .dptr [.int .i64 i] 0] [] (bS (Dy g (some (m.getD i (U.dflt .event))) e)) [] := by
 have hgi := getD_some (d := Cd.dflt U.event) hi;have h := X1 g (m.getD (i : Int).toNat (Cd.dflt U.event)) e (hE.i64 _ (List.mem_of_getElem? hgi)) he hd;have hl := hE.len;refine aA Ax aD Tryz.func167 (c := _) rfl Tryz.call167 60 ?_
 (repeat' ((conv => whnf); first | refine x0C (eB ?_ rfl) | refine dpC (h) ?_ | refine taC ?_ | refine saC ?_ | refine aE mixed ?_))
 all_goals rfl
theorem q9s (g : aI) (hd : 0 ≤ g.days ∧ g.days ≤ 60) (m : List aB) (hE : lV m) : ∀ (n from_ : Nat), from_ ≤ m.length → m.length - from_ = n → ∀ (need : Int) (f : FuncId) (caps : List (SV Cd)) (last : Option aB) (acc : List Int), 0 ≤ need → need ≤ 6 → q96 g m caps → (acc.length : Int) + (m.length - from_) ≤ 2000000 →
  (∀ x ∈ m, aF Tryz.prog Dc f (evA x :: caps) [] (bS (Dy g last x)) []) →
  aF Tryz.prog Dc 166 ([iS from_, iS need, .fn (.func f) [] caps] ++ Vo g m) (q6l g m acc) (bS (gO g (m.drop from_) need last).2) (q4q g m acc (gO g (m.drop from_) need last).1) := by
 intro n
 induction n using Nat.strongRecOn with
 | ind n ih =>
  intro from_ hfr hn need f caps last acc hn0 hn6 hc hacc hf;have hl := hE.len;rcases Int.lt_or_eq_of_le hn0 with hpos | rfl
  rotate_left
  ·rw [Mx];cases hc <;>
   ·refine aA Ax aD Tryz.func166 (c := _) rfl Tryz.call166 200 ?_
    (repeat' ((conv => whnf); first | exact enC [some 0, some 1, some 2]))
  ·cases hc <;>
   ·refine aA Ax aD Tryz.func166 (c := _) rfl Tryz.call166 200 ?_
    (repeat' ((conv => whnf); first | (exfalso; omega) | refine spC (fun hb => ?_) fun hb => ?_))
    refine bP (fun i : Nat => [(11, bS false), (12, .ptr 3 0)]) (fun i => [(3, .vart none [iS i])]) (fun i => from_ ≤ i ∧ i ≤ m.length ∧ gO g (m.drop from_) need last = gO g (m.drop i) need last) (fun i => m.length - i) from_ ⟨Nat.le_refl _, hfr, rfl⟩ (by exact bkI) ?_;rintro i ⟨hfi, hi, he⟩ K hK;rw [he];have hll : (cV g m).length = m.length := kO g m;rcases Nat.lt_or_ge i m.length with hlt | hge
    ·have hgi := getD_some (d := Cd.dflt U.event) hlt;have hx := hf _ (List.mem_of_getElem? hgi);have hdr := iT (d := Cd.dflt U.event) hlt;have hhd := Nu g m i;have hmiss := fun h => Nm g (a := m.getD i (Cd.dflt U.event)) (l := m.drop (i + 1)) (need := need) (last := last) (by omega) h;have hhit := fun h1 h2 => Wp g (a := m.getD i (Cd.dflt U.event)) (l := m.drop (i + 1)) (need := need) (last := last) (by omega) h1 h2;rw [← hdr] at hmiss hhit;rw [hhd] at hmiss hhit;cases hp : Dy g last (m.getD (i : Int).toNat (Cd.dflt U.event)) with
     | false =>
      rw [hp] at hx;rw [hmiss (.inr hp)];rw [hmiss (.inr hp)] at he
      (repeat' ((conv => whnf); first | (exfalso; omega) | refine cpC (hx) ?_ | refine hK (i + 1) [some 0, some 1, some 2, some 4] _ _ ⟨⟨by omega, by omega, he⟩⟩ ⟨by omega⟩ (by exact bkI) | refine spC (fun hb => ?_) fun hb => ?_ | refine saC ?_))
     | true =>
      rw [hp] at hx
      by_cases hlo : need ≤ (cV g m).getD (i : Int).toNat (Cd.dflt U.int)
      ·have hW : List.take acc.length acc ++ List.take 1 (List.drop 0 [(m.getD (i : Int).toNat (Cd.dflt U.event)).image]) = acc ++ [(m.getD i (Cd.dflt U.event)).image] := by simp
       have hWl : (List.take acc.length acc ++ List.take 1 (List.drop 0 [(m.getD (i : Int).toNat (Cd.dflt U.event)).image])).length = acc.length + 1 := by rw [hW]; simp
       have hih := ih (m.length - (i + 1)) (by omega) (i + 1) (by omega) rfl (need - 1) 167 _ (some (m.getD i (U.dflt .event))) (List.take acc.length acc ++ List.take 1 (List.drop 0 [(m.getD (i : Int).toNat (Cd.dflt U.event)).image])) (by omega) (by omega) (.c1 i) (by omega) fun x hx => q7f g hd m hE i hlt x (hE.i64 x hx);rw [show ((i + 1 : Nat) : Int) = (i : Int) + 1 from rfl] at hih;have hh := hhit hlo hp;cases hT : gO g (m.drop (i + 1)) (need - 1) (some (m.getD i (U.dflt .event))) with
       | mk r ok =>
       have hh2 : gO g (m.drop i) need last = ((m.getD i (Cd.dflt U.event)).image :: r, ok) := hh.trans (by rw [show gO g (m.drop (i + 1)) (need - 1) (some (m.getD i (Cd.dflt U.event))) = (r, ok) from hT]);rw [hT] at hih;rw [hh2];cases r with
       | nil =>
        have hg : q4q g m acc ([(m.getD i (Cd.dflt U.event)).image], ok).1 = q33 g m (List.take acc.length acc ++ List.take 1 (List.drop 0 [(m.getD (i : Int).toNat (Cd.dflt U.event)).image])) := by rw [hW]
        rw [hg]
        (repeat' ((conv => whnf); first | (exfalso; omega) | refine cpC (hx) ?_ | (refine Ix [some 0, some 1, some 2, none, some 4, some 5] [(12, .any), (49, .any)] [(3, .rows U.int [])] ([iS ((i : Int) + 1), iS (need - 1), .fn (.func 167) [] [.dptr (kL g) 0, .dptr [.dsl U.event m] 0, .dptr [.int .i64 i] 0]] ++ Vo g m) (by exact bkV) (by exact snV) ?_; (conv => whnf); refine xW [some 0, some 1, some 5] hih rfl rfl ⟨rfl, rfl, rfl, trivial⟩ ?_) | exact enC [some 0, some 1, some 2, some 5] | refine spC (fun hb => ?_) fun hb => ?_ | refine taC ?_ | refine saC ?_ | refine aE mixed ?_))
       | cons y r =>
        have hg : q4q g m acc ((m.getD i (Cd.dflt U.event)).image :: y :: r, ok).1 = q33 g m ((List.take acc.length acc ++ List.take 1 (List.drop 0 [(m.getD (i : Int).toNat (Cd.dflt U.event)).image])) ++ y :: r) := by rw [hW, List.append_assoc]; rfl
        rw [hg]
        (repeat' ((conv => whnf); first | (exfalso; omega) | refine cpC (hx) ?_ | (refine Ix [some 0, some 1, some 2, none, some 4, some 5] [(12, .any), (49, .any)] [(3, .rows U.int [])] ([iS ((i : Int) + 1), iS (need - 1), .fn (.func 167) [] [.dptr (kL g) 0, .dptr [.dsl U.event m] 0, .dptr [.int .i64 i] 0]] ++ Vo g m) (by exact bkV) (by exact snV) ?_; (conv => whnf); refine xW [some 0, some 1, some 5] hih rfl rfl ⟨rfl, rfl, rfl, trivial⟩ ?_) | exact enC [some 0, some 1, some 2, some 6] | refine spC (fun hb => ?_) fun hb => ?_ | refine taC ?_ | refine saC ?_ | refine aE mixed ?_))
      ·have hm := hmiss (.inl hlo);rw [hm] at he ⊢
       (repeat' ((conv => whnf); first | (exfalso; omega) | refine hK (i + 1) [some 0, some 1, some 2, some 4] _ _ ⟨⟨by omega, by omega, he⟩⟩ ⟨by omega⟩ (by exact bkI) | refine spC (fun hb => ?_) fun hb => ?_ | refine saC ?_))
    ·rw [List.drop_of_length_le hge, Rx g last (by omega)]
     (repeat' ((conv => whnf); first | (exfalso; omega) | exact enC [some 0, some 1, some 2] | refine spC (fun hb => ?_) fun hb => ?_))
end Go.SX
