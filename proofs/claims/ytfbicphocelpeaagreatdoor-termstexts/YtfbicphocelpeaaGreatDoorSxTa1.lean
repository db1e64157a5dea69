/-
  Walks: Ta1, Ta2, Ta3, Ta4, Ta5, Tp2, Ta6, Ta7, Ta8: what single functions of the program compute.
-/
import Derived.Test.YtfbicphocelpeaaGreatDoorSxV6
set_option linter.unusedVariables false
set_option linter.unusedSimpArgs false
namespace Go.SX
open Go.Proofs
set_option maxHeartbeats 400000000
set_option maxRecDepth 100000
inductive Pu : List (SV Cd) → Prop
 | c0 : Pu []
 | c1 (c : List (PV Cd)) : Pu [.dptr c 0]
 | c2 (n : Int) : Pu [iS n]
 | c3 (c d : List (PV Cd)) : Pu [.dptr c 0, .dptr d 0]
 | c5 (l : List Int) : Pu [lS l]
theorem getD_some {α : Type} {xs : List α} {i : Nat} {d : α} (h : i < xs.length) : xs[i]? = some (xs.getD (i : Int).toNat d) := by simp [List.getD_eq_getElem?_getD, List.getElem?_eq_getElem h]
theorem q8b {f : FuncId} {caps : List (SV Cd)} (hc : Pu caps) {p : Int → Bool} (xs : List Int) (hl : (xs.length : Int) ≤ 9223372036854775807) (hf : ∀ x ∈ xs, aF Tryz.prog Dc f (iS x :: caps) [] (bS (p x)) []) :
  aF Tryz.prog Dc 143 [(.p (.dsl U.int xs)), .fn (.func f) [] caps] [] (iS (Oq p xs)) [] := by
 cases hc <;>
 ·refine aA Ax aD Tryz.func143 (c := _) rfl Tryz.call143 200 ?_
  (repeat' ((conv => whnf); first | fail))
  refine bP (fun i : Nat => [(8, iS i)]) (fun _ => []) (fun i => i ≤ xs.length ∧ (xs.take i).any p = false) (fun i => xs.length - i) 0 ⟨Nat.zero_le _, by simp⟩ (by exact bkV) ?_;intro i hi K hK;rcases Nat.lt_or_ge i xs.length with hlt | hge
  ·have hg := getD_some (d := Cd.dflt U.int) hlt;have hx := hf _ (List.mem_of_getElem? hg);cases hp : p (xs.getD (i : Int).toNat (Cd.dflt U.int)) with
   | false =>
    rw [hp] at hx
    (repeat' ((conv => whnf); first | (exfalso; omega) | refine cpC (hx) ?_ | refine hK (i + 1) [] _ _ ⟨by omega, iA hg hp hi.2⟩ ⟨by omega⟩ (by exact bkV) | refine spC (fun hb => ?_) fun hb => ?_ | refine saC ?_))
   | true =>
    rw [hp] at hx
    (repeat' ((conv => whnf); first | (exfalso; omega) | refine cpC (hx) ?_ | refine x0C (eI (yE hg hp hi.2).symm rfl) | refine spC (fun hb => ?_) fun hb => ?_ | refine saC ?_))
  ·have := mL (jG hge hi.2)
   (repeat' ((conv => whnf); first | (exfalso; omega) | refine x0C (eI this.symm rfl) | refine spC (fun hb => ?_) fun hb => ?_))
theorem q1e {f : FuncId} {caps : List (SV Cd)} (hc : Pu caps) {p : Int → Bool} (xs : List Int) (hl : (xs.length : Int) ≤ 9223372036854775807) (hf : ∀ x ∈ xs, aF Tryz.prog Dc f (iS x :: caps) [] (bS (p x)) []) :
  aF Tryz.prog Dc 103 [(.p (.dsl U.int xs)), .fn (.func f) [] caps] [] (bS (xs.any p)) [] := by
 have h := q8b hc xs hl hf;rw [← nU];cases hc <;>
 ·refine aA Ax aD Tryz.func103 (c := _) rfl Tryz.call103 200 ?_
  (repeat' ((conv => whnf); first | refine cpC (h) ?_ | refine x0C (eB rfl rfl)))
theorem q4y {f : FuncId} {caps : List (SV Cd)} (hc : Pu caps) {p : aI → Bool} (xs : List aI) (hl : (xs.length : Int) ≤ 9223372036854775807) (hf : ∀ x ∈ xs, aF Tryz.prog Dc f (aM x :: caps) [] (bS (p x)) []) :
  aF Tryz.prog Dc 170 [(.p (.dsl U.goal xs)), .fn (.func f) [] caps] [] (iS (Oq p xs)) [] := by
 cases hc <;>
 ·refine aA Ax aD Tryz.func170 (c := _) rfl Tryz.call170 200 ?_
  (repeat' ((conv => whnf); first | fail))
  refine bP (fun i : Nat => [(8, iS i)]) (fun _ => []) (fun i => i ≤ xs.length ∧ (xs.take i).any p = false) (fun i => xs.length - i) 0 ⟨Nat.zero_le _, by simp⟩ (by exact bkV) ?_;intro i hi K hK;rcases Nat.lt_or_ge i xs.length with hlt | hge
  ·have hg := getD_some (d := Cd.dflt U.goal) hlt;have hx := hf _ (List.mem_of_getElem? hg);cases hp : p (xs.getD (i : Int).toNat (Cd.dflt U.goal)) with
   | false =>
    rw [hp] at hx
    (repeat' ((conv => whnf); first | (exfalso; omega) | refine cpC (hx) ?_ | refine hK (i + 1) [] _ _ ⟨by omega, iA hg hp hi.2⟩ ⟨by omega⟩ (by exact bkV) | refine spC (fun hb => ?_) fun hb => ?_ | refine saC ?_))
   | true =>
    rw [hp] at hx
    (repeat' ((conv => whnf); first | (exfalso; omega) | refine cpC (hx) ?_ | refine x0C (eI (yE hg hp hi.2).symm rfl) | refine spC (fun hb => ?_) fun hb => ?_ | refine saC ?_))
  ·have := mL (jG hge hi.2)
   (repeat' ((conv => whnf); first | (exfalso; omega) | refine x0C (eI this.symm rfl) | refine spC (fun hb => ?_) fun hb => ?_))
theorem q4h {f : FuncId} {caps : List (SV Cd)} (hc : Pu caps) {p : aI → Bool} (xs : List aI) (hl : (xs.length : Int) ≤ 9223372036854775807) (hf : ∀ x ∈ xs, aF Tryz.prog Dc f (aM x :: caps) [] (bS (p x)) []) :
  aF Tryz.prog Dc 135 [(.p (.dsl U.goal xs)), .fn (.func f) [] caps] [] (bS (xs.any p)) [] := by
 have h := q4y hc xs hl hf;rw [← nU];cases hc <;>
 ·refine aA Ax aD Tryz.func135 (c := _) rfl Tryz.call135 200 ?_
  (repeat' ((conv => whnf); first | refine cpC (h) ?_ | refine x0C (eB rfl rfl)))
theorem q7z {f : FuncId} {caps : List (SV Cd)} (hc : Pu caps) {p : aB → Bool} (xs : List aB) (hl : (xs.length : Int) ≤ 9223372036854775807) (hf : ∀ x ∈ xs, aF Tryz.prog Dc f (evA x :: caps) [] (bS (p x)) []) :
  aF Tryz.prog Dc 58 [(.p (.dsl U.event xs)), .fn (.func f) [] caps] [] (iS (Oq p xs)) [] := by
 cases hc <;>
 ·refine aA Ax aD Tryz.func58 (c := _) rfl Tryz.call58 200 ?_
  (repeat' ((conv => whnf); first | fail))
  refine bP (fun i : Nat => [(8, iS i)]) (fun _ => []) (fun i => i ≤ xs.length ∧ (xs.take i).any p = false) (fun i => xs.length - i) 0 ⟨Nat.zero_le _, by simp⟩ (by exact bkV) ?_;intro i hi K hK;rcases Nat.lt_or_ge i xs.length with hlt | hge
  ·have hg := getD_some (d := Cd.dflt U.event) hlt;have hx := hf _ (List.mem_of_getElem? hg);cases hp : p (xs.getD (i : Int).toNat (Cd.dflt U.event)) with
   | false =>
    rw [hp] at hx
    (repeat' ((conv => whnf); first | (exfalso; omega) | refine cpC (hx) ?_ | refine hK (i + 1) [] _ _ ⟨by omega, iA hg hp hi.2⟩ ⟨by omega⟩ (by exact bkV) | refine spC (fun hb => ?_) fun hb => ?_ | refine saC ?_))
   | true =>
    rw [hp] at hx
    (repeat' ((conv => whnf); first | (exfalso; omega) | refine cpC (hx) ?_ | refine x0C (eI (yE hg hp hi.2).symm rfl) | refine spC (fun hb => ?_) fun hb => ?_ | refine saC ?_))
  ·have := mL (jG hge hi.2)
   (repeat' ((conv => whnf); first | (exfalso; omega) | refine x0C (eI this.symm rfl) | refine spC (fun hb => ?_) fun hb => ?_))
theorem q7k {f : FuncId} {caps : List (SV Cd)} (hc : Pu caps) {p : aB → Bool} (xs : List aB) (hl : (xs.length : Int) ≤ 9223372036854775807) (hf : ∀ x ∈ xs, aF Tryz.prog Dc f (evA x :: caps) [] (bS (p x)) []) :
  aF Tryz.prog Dc 31 [(.p (.dsl U.event xs)), .fn (.func f) [] caps] [] (bS (xs.any p)) [] := by
 have h := q7z hc xs hl hf;rw [← nU];cases hc <;>
 ·refine aA Ax aD Tryz.func31 (c := _) rfl Tryz.call31 200 ?_
  (repeat' ((conv => whnf); first | refine cpC (h) ?_ | refine x0C (eB rfl rfl)))
theorem q3k {α : Type} (p : α → Bool) (l : List α) : (l.any fun x => !p x) = !l.all p := by
 induction l with
 | nil => rfl
 | cons a l ih => simp [ih]
theorem q57 (r : Int) : aF Tryz.prog Dc 104 [iS r] [] (bS (!pW r)) [] := by
 have h := gin r 0 281474976710655;refine aA Ax aD Tryz.func104 (c := _) rfl Tryz.call104 60 ?_
 (repeat' ((conv => whnf); first | refine cpC (h) ?_ | refine x0C (eB rfl rfl)))
theorem Bq (rows : List Int) (hl : (rows.length : Int) ≤ 9223372036854775807) : aF Tryz.prog Dc 64 [sG rows] [] (bS (bE rows)) [] := by
 have h := q1e (f := 104) (.c0) rows hl fun x _ => q57 x;rw [q3k] at h;refine aA Ax aD Tryz.func64 (c := _) rfl Tryz.call64 100 ?_
 (repeat' ((conv => whnf); first | refine cpC (h) ?_ | refine x0C (eB ?_ rfl) | refine spC (fun hb => ?_) fun hb => ?_))
 all_goals (first | (simp_all [bE]; done) | (simp_all [bE]; omega) | (simp_all [bE]; grind))
theorem q7d (n : Int) : aF Tryz.prog Dc 133 [iS n] [] (bS (!inB n 0 1000000000)) [] := by
 have h := oin n 0 1000000000;refine aA Ax aD Tryz.func133 (c := _) rfl Tryz.call133 60 ?_
 (repeat' ((conv => whnf); first | refine cpC (h) ?_ | refine x0C (eB rfl rfl)))
@[reducible] def Xx (g : aI) : List (PV Cd) := [.int .i64 g.kind, .dsl U.int g.rows, .int .i64 g.from_, .int .i64 g.to_, .int .i64 g.low, .int .i64 g.high, .bool g.clear, .int .i64 g.days, .int .i64 g.times, .int .i64 g.within, .dsl U.int g.cents, .dsl U.goal g.kids]
theorem q6o (g k : aI) : aF Tryz.prog Dc 134 [aM k, .dptr (Xx g) 0] [] (bS (decide (dM g.kind < k.kind))) [] := by
 have h := iQ g.kind;refine aA Ax aD Tryz.func134 (c := _) rfl Tryz.call134 60 ?_
 (repeat' ((conv => whnf); first | refine dpC (h) ?_ | refine x0C (eB rfl rfl) | refine taC ?_ | refine aE mixed ?_))
structure Lx (g : aI) : Prop where
 rows : (g.rows.length : Int) ≤ 9223372036854775807
 cents : (g.cents.length : Int) ≤ 9223372036854775807
 kids : (g.kids.length : Int) ≤ 9223372036854775807
theorem Io (g : aI) (hg : Lx g) : aF Tryz.prog Dc 88 [aM g] [] (bS (eU g)) [] := by
 obtain ⟨hl1, hl2, hl3⟩ := hg;have h1 := q1e (f := 133) (.c0) g.cents hl2 fun x _ => q7d x;have h2 := q4h (f := 134) (.c1 _) g.kids hl3 fun x _ => q6o g x;have h3 := oin g.kids.length 2 4;refine aA Ax aD Tryz.func88 (c := _) rfl Tryz.call88 400 ?_
 (repeat' ((conv => whnf); first | (exfalso; omega) | refine cpC (h1) ?_ | refine cpC (h3) ?_ | refine rdC (h2) ?_ | refine x0C (eB ?_ rfl) | refine spC (fun hb => ?_) fun hb => ?_))
 all_goals clear h1 h2 h3
 all_goals (first | (simp_all [eU, mY, iB]; done) | (simp_all [eU, mY, iB]; omega) | (simp_all [eU, mY, iB]; grind))
theorem lA {rows : List Int} (h : bE rows = true) : rows.length = 24 := by
 simp only [bE, Bool.and_eq_true, decide_eq_true_eq] at h;omega
theorem q7e (n : Int) : 0 ≤ cQ .u64 (IntKind.u64.wrap n) 58 ∧ cQ .u64 (IntKind.u64.wrap n) 58 < 64 := by
 have h : 0 ≤ IntKind.u64.wrap n ∧ IntKind.u64.wrap n < 18446744073709551616 := by
  simp only [IntKind.wrap, IntKind.signed, IntKind.bits];simp;omega
 generalize IntKind.u64.wrap n = m at *;unfold cQ;have e : (2 : Int) ^ (min (58 : Int).toNat IntKind.u64.bits) = 288230376151711744 := by decide
 rw [e, Int.fdiv_eq_ediv_of_nonneg _ (by omega)];omega
def tzL : List (PV Cd) := (U.glob 1).map q7o
def tzI (n : Int) : Int := cQ .u64 (IntKind.u64.wrap (cE .and .u64 n (IntKind.u64.wrap (0 - n)) * 285870213051353865)) 58
def tzN (n : Int) : Int := if n = 0 then 64 else J7 tzL (0 + (tzI n).toNat)
theorem D7 (n : Int) : 0 ≤ tzN n ∧ tzN n ≤ 64 := by
 unfold tzN;split
 ·omega
 ·have h : ∀ i : Fin 64, 0 ≤ J7 tzL i ∧ J7 tzL i ≤ 63 := by decide
  have h1 := q7e (cE .and .u64 n (IntKind.u64.wrap (0 - n)) * 285870213051353865);have := h ⟨0 + (tzI n).toNat, by unfold tzI; omega⟩;simp only at this;omega
theorem qd2 (n : Int) : aF Tryz.prog Dc 112 [.p (.int .u64 n)] [] (iS (tzN n)) [] := by
 have h1 := q7e (cE .and .u64 n (IntKind.u64.wrap (0 - n)) * 285870213051353865);have h2 := D7 n;have h3 : n ≠ 0 → tzN n = J7 tzL (0 + (tzI n).toNat) := fun h => by unfold tzN; rw [if_neg h]
 have hr : ¬ n = 0 → InR .i64 (J7 tzL (0 + (tzI n).toNat)) := fun h => by rw [← h3 h]; exact inR_i64 (by omega) (by omega)
 have h4 : n = 0 → tzN n = 64 := fun h => by unfold tzN; rw [if_pos h]
 refine aA Ax aD Tryz.func112 (c := _) rfl Tryz.call112 60 ?_
 (repeat' ((conv => whnf); first | refine cW ⟨hr (by assumption)⟩ ?_ | refine x0C (eI ?_ rfl) | refine spC (fun hb => ?_) fun hb => ?_ | refine saC ?_))
 ·exact (h4 (by assumption)).symm
 ·exact (h3 (by assumption)).symm
theorem tz (n : Int) : aF Tryz.prog Dc 76 [.p (.int .u64 n)] [] (iS (tzN n)) [] := by
 have h := qd2 n;have h2 := D7 n;refine aA Ax aD Tryz.func76 (c := _) rfl Tryz.call76 60 ?_
 (repeat' ((conv => whnf); first | refine cpC (h) ?_ | refine x0C (eI rfl rfl)))
def Pn : Nat → Int → Int
 | 0, _ => 0
 | f + 1, r => if r = 0 then 0 else 1 + Pn f (cE .and .i64 r (r - 1))
def fO (r : Int) : Int := Pn r.toNat r
theorem Ha {r : Int} (h0 : 0 < r) (h1 : r ≤ 281474976710655) : 0 ≤ cE .and .i64 r (r - 1) ∧ cE .and .i64 r (r - 1) < r := by
 obtain ⟨m, rfl⟩ : ∃ m : Nat, r = m := ⟨r.toNat, by omega⟩;have e : (BitVec.ofInt 64 (m : Int) &&& BitVec.ofInt 64 ((m : Int) - 1)).toNat = m &&& (m - 1) := by
  rw [BitVec.toNat_and];have a : (BitVec.ofInt 64 (m : Int)).toNat = m := by simp; omega
  have b : (BitVec.ofInt 64 ((m : Int) - 1)).toNat = m - 1 := by
   rw [show (m : Int) - 1 = ((m - 1 : Nat) : Int) by omega];simp; omega
  rw [a, b]
 have hle : m &&& (m - 1) ≤ m - 1 := Nat.and_le_right;have hw : cE .and .i64 (m : Int) ((m : Int) - 1) = ((m &&& (m - 1) : Nat) : Int) := by
  show IntKind.i64.wrap (((BitVec.ofInt 64 (m : Int) &&& BitVec.ofInt 64 ((m : Int) - 1)).toNat : Nat) : Int) = _;rw [e];exact inR_i64 (by omega) (by omega)
 rw [hw];omega
theorem C9 : ∀ (f f' : Nat) (r : Int), 0 ≤ r → r ≤ 281474976710655 → r.toNat ≤ f → r.toNat ≤ f' → Pn f r = Pn f' r
 | 0, 0, r, _, _, _, _ => rfl
 | 0, f' + 1, r, h0, h1, h2, h3 => by
  have : r = 0 := by omega
  subst this; simp [Pn]
 | f + 1, 0, r, h0, h1, h2, h3 => by
  have : r = 0 := by omega
  subst this; simp [Pn]
 | f + 1, f' + 1, r, h0, h1, h2, h3 => by
  simp only [Pn];split
  ·rfl
  ·have := Ha (r := r) (by omega) h1;rw [C9 f f' _ (by omega) (by omega) (by omega) (by omega)]
theorem yQ : fO 0 = 0 := rfl
theorem C8 {r : Int} (h0 : 0 < r) (h1 : r ≤ 281474976710655) : fO r = 1 + fO (cE .and .i64 r (r - 1)) := by
 have := Ha h0 h1;unfold fO;rw [show r.toNat = (r.toNat - 1) + 1 by omega];simp only [Pn];rw [if_neg (by omega), C9 _ (cE .and .i64 r (r - 1)).toNat _ (by omega) (by omega) (by omega) (by omega)]
theorem mH : ∀ (f : Nat) (r : Int), 0 ≤ Pn f r ∧ Pn f r ≤ f
 | 0, r => by simp [Pn]
 | f + 1, r => by
  simp only [Pn];have := mH f (cE .and .i64 r (r - 1));split <;> omega
def yN (rows : List Int) : Int := rows.foldl (fun n r => n + fO r) 0
theorem Pv (l : List Int) (r : Int) : yN (l ++ [r]) = yN l + fO r := by simp [yN]
theorem Dx {rows : List Int} {i : Nat} {r : Int} (h : rows[i]? = some r) : yN (rows.take (i + 1)) = yN (rows.take i) + fO r := by
 rw [List.take_add_one, h]; exact Pv _ _
theorem wN {rows : List Int} (h : bE rows = true) : ∀ i : Nat, i ≤ 24 → 0 ≤ yN (rows.take i) ∧ yN (rows.take i) ≤ i * 281474976710655
 | 0, _ => by simp [yN]
 | i + 1, hi => by
  have ih := wN h i (by omega);have hlen := lA h;have hg := getD_some (d := (0 : Int)) (show i < rows.length by omega);simp only [bE, Bool.and_eq_true] at h;have hr := List.all_eq_true.1 h.2 _ (List.mem_of_getElem? hg);rw [Dx hg];generalize rows.getD (i : Int).toNat (0 : Int) = r at *;have h2 := (aK _ _ _).1 hr;have h3 := mH r.toNat r;unfold fO;omega
theorem Iq (rows : List Int) (hl : (rows.length : Int) ≤ 9223372036854775807) : aF Tryz.prog Dc 132 [sG rows] [] (iS (if bE rows then yN rows else 0)) [] := by
 have h := Bq rows hl;cases ha : bE rows with
 | false =>
  rw [ha] at h;refine aA Ax aD Tryz.func132 (c := _) rfl Tryz.call132 200 ?_
  (repeat' ((conv => whnf); first | refine cpC (h) ?_ | refine x0C (eI rfl rfl)))
 | true =>
  rw [ha] at h;have hlen := lA ha;refine aA Ax aD Tryz.func132 (c := _) rfl Tryz.call132 200 ?_
  (repeat' ((conv => whnf); first | refine cpC (h) ?_ | (refine Uv Ax aD Tryz.func169 (c := _) rfl Tryz.call169 60 ?_) | (refine Jn Ax aD rfl Tryz.func193 (c := _) rfl Tryz.call193 rfl rfl 300 ?_)))
  intro gn tmps bd
  (repeat' ((conv => whnf); first | fail))
  refine bP (fun i : Nat => [(9, iS i)]) (fun i => [(1, .var [iS (yN (rows.take i))])]) (fun i => i ≤ 24) (fun i => 24 - i) 0 (Nat.zero_le _) (by exact bkV) ?_;intro i hi K hK;rcases Nat.lt_or_ge i 24 with hlt | hge
  ·have hg := getD_some (d := Cd.dflt U.int) (show i < rows.length by omega);have h1 := Dx hg;have h2 := wN ha (i + 1) (by omega);have h5 := wN ha i (by omega);have hr : pW (rows.getD (i : Int).toNat (Cd.dflt U.int)) = true := by
    have h' := ha;simp only [bE, Bool.and_eq_true] at h';exact List.all_eq_true.1 h'.2 _ (List.mem_of_getElem? hg)
   have h3 := (aK _ _ _).1 hr
   (repeat' ((conv => whnf); first | (exfalso; omega) | refine spC (fun hb => ?_) fun hb => ?_ | refine saC ?_))
   refine bP (fun r : Int => [(4, iS r)]) (fun r => [(1, .var [iS (yN (rows.take (i + 1)) - fO r)])]) (fun r => 0 ≤ r ∧ r ≤ 281474976710655 ∧ 0 ≤ yN (rows.take (i + 1)) - fO r) (fun r => r.toNat) (rows.getD (i : Int).toNat (Cd.dflt U.int)) ⟨h3.1, h3.2, by rw [h1]; omega⟩ (by (rw [h1, Int.add_sub_cancel]; exact bkV)) ?_;intro r hr K' hK';obtain ⟨hr1, hr2, hr4⟩ := hr;have hz := tz (IntKind.u64.wrap r);have hz2 := D7 (IntKind.u64.wrap r)
   by_cases hr0 : r = 0
   ·subst hr0;rw [show yN (rows.take (i + 1)) - fO 0 = yN (rows.take (i + 1)) by rw [yQ]; omega]
    (repeat' ((conv => whnf); first | refine hK (i + 1) [some 0, some 1, some 2, some 3] _ _ ⟨by omega⟩ ⟨by omega⟩ (by exact bkV) | refine saC ?_))
   ·have hs := C8 (r := r) (by omega) hr2;have hl := Ha (r := r) (by omega) hr2;have h4 := (mH (cE .and .i64 r (r - 1)).toNat (cE .and .i64 r (r - 1))).1
    change 0 ≤ fO _ at h4
    rw [hs] at hr4 ⊢
    (repeat' ((conv => whnf); first | (exfalso; omega) | refine cpC (hz) ?_ | (refine V4 Ax aD rfl rfl rfl 200 200 ?_) | refine spC (fun hb => ?_) fun hb => ?_ | refine saC ?_))
    conv => whnf
    refine hK' (cE .and .i64 r (r - 1)) [some 0, some 1, some 2, some 3] _ _ ⟨by omega⟩ ⟨by omega⟩ (by (dsimp only; rw [show yN (rows.take (i + 1)) - fO (cE .and .i64 r (r - 1)) = yN (rows.take (i + 1)) - (1 + fO (cE .and .i64 r (r - 1))) + 1 by omega]; exact bkV))
  ·rw [show rows.take i = rows by exact List.take_of_length_le (by omega)]
   (repeat' ((conv => whnf); first | (exfalso; omega) | refine x0C (eI rfl rfl) | refine spC (fun hb => ?_) fun hb => ?_))
theorem Nd {r : Int} (h : pW r = true) : 0 ≤ fO r ∧ (0 < fO r ↔ r ≠ 0) := by
 have h1 := (aK _ _ _).1 h;have h2 := (mH r.toNat r).1
 change 0 ≤ fO r at h2
 refine ⟨h2, ?_⟩
 by_cases h0 : r = 0
 ·subst h0; simp [yQ]
 ·have h3 := C8 (r := r) (by omega) h1.2;have h4 := (mH (cE .and .i64 r (r - 1)).toNat (cE .and .i64 r (r - 1))).1
  change 0 ≤ fO _ at h4
  omega
theorem Rt (l : List Int) (r : Int) : yN (r :: l) = fO r + yN l := by
 have key : ∀ (l : List Int) (a : Int), l.foldl (fun n r => n + fO r) a = a + l.foldl (fun n r => n + fO r) 0 := by
  intro l
  induction l with
  | nil => intro a; simp
  | cons x l ih => intro a; simp only [List.foldl_cons]; rw [ih, ih (0 + fO x)]; omega
 unfold yN;rw [List.foldl_cons, key]; omega
theorem Li : ∀ (l : List Int), l.all pW = true → 0 ≤ yN l ∧ decide (0 < yN l) = l.any (fun r => decide (r ≠ 0))
 | [], _ => by simp [yN]
 | r :: l, h => by
  simp only [List.all_cons, Bool.and_eq_true] at h;obtain ⟨h1, h2⟩ := Li l h.2;obtain ⟨h3, h4⟩ := Nd h.1;rw [Rt, List.any_cons, ← h2];refine ⟨by omega, ?_⟩;rw [Bool.eq_iff_iff];simp only [Bool.or_eq_true, decide_eq_true_eq];omega
theorem Yc (rows : List Int) : (bE rows && decide (0 < (if bE rows then yN rows else 0))) = (bE rows && rows.any (fun r => decide (r ≠ 0))) := by
 cases h : bE rows with
 | false => rfl
 | true =>
  have h' := h;simp only [bE, Bool.and_eq_true] at h';simp [(Li rows h'.2).2]
theorem Fs (g : aI) (hg : Lx g) : aF Tryz.prog Dc 87 [aM g] [] (bS (vZ g)) [] := by
 have ha := Yc g.rows;have h0 := Bq g.rows hg.rows;have h1 := Iq g.rows hg.rows;have h2 := oin g.from_ 0 1000000;have h3 := oin g.to_ (g.from_ + 1) 1000000;have h4 := oin g.low 0 90;have h5 := oin g.high g.low 90;have h6 := oin g.low 1 8;have h7 := oin g.within 1 1000000;have h8 := oin g.days 1 60;have h9 := oin g.times 1 6;have ha1 := oin g.within 0 (1440 * g.days);have ha2 := oin g.within 0 1000000;have i1 := fun h => (aK g.from_ 0 1000000).1 h;have i2 := fun h => (aK g.days 1 60).1 h;unfold vZ;generalize (if bE g.rows then yN g.rows else 0) = n at *;generalize bE g.rows = ar at *;generalize (g.rows.any fun r => decide (r ≠ 0)) = nz at *;refine aA Ax aD Tryz.func87 (c := _) rfl Tryz.call87 300 ?_
 (repeat' ((conv => whnf); first | refine x0C (eB ?_ rfl) | (have := i1 (by assumption); refine saC ?_) | (have := i2 (by assumption); refine saC ?_) | refine cpC (h0) ?_ | refine cpC (h1) ?_ | refine cpC (h2) ?_ | refine cpC (h3) ?_ | refine cpC (h4) ?_ | refine cpC (h5) ?_ | refine cpC (h6) ?_ | refine cpC (h7) ?_ | refine cpC (h8) ?_ | refine cpC (h9) ?_ | refine cpC (ha1) ?_ | refine cpC (ha2) ?_ | refine spC (fun hb => ?_) fun hb => ?_))
 all_goals clear h0 h1 h2 h3 h4 h5 h6 h7 h8 h9 ha1 ha2
 all_goals (first | (simp_all []; done) | (simp_all []; omega) | (simp_all []; grind))
theorem Lg {g : aI} (h : okB g = true) : g.kids.length ≤ 4 := by
 simp only [okB, Bool.and_eq_true, eU, mY] at h;obtain ⟨_, ⟨⟨hm, _⟩, _⟩, _⟩ := h;split at hm
 ·simp at hm; simp [hm]
 ·split at hm
  ·have := (aK _ _ _).1 hm; omega
  ·simp at hm; omega
mutual
def pX : aI → Prop
 | ⟨kind, rows, from_, to_, low, high, clear, days, times, within, cents, kids⟩ => Lx ⟨kind, rows, from_, to_, low, high, clear, days, times, within, cents, kids⟩ ∧ GAllL kids
def GAllL : List aI → Prop
 | [] => True
 | k :: l => pX k ∧ GAllL l
end
theorem dJ (g : aI) : pX g ↔ Lx g ∧ GAllL g.kids := by cases g; rw [pX]
theorem dS : ∀ {l : List aI} {k : aI}, GAllL l → k ∈ l → pX k
 | x :: l, k, h, hk => by
  rw [GAllL] at h;rcases List.mem_cons.1 hk with rfl | hk
  ·exact h.1
  ·exact dS h.2 hk
theorem R8 : ∀ (l : List aI) (k : aI) (d : Int), sizeL (l ++ [k]) d = match sizeL l d with | none => none | some m => match bQ k d with | none => none | some n => some (m + n)
 | [], k, d => by
  simp only [List.nil_append, sizeL];cases bQ k d <;> simp
 | x :: l, k, d => by
  simp only [List.cons_append, sizeL, R8 l k d];cases bQ x d with
  | none => rfl
  | some a =>
   simp only;cases sizeL l d with
   | none => rfl
   | some b =>
    simp only;cases bQ k d with
    | none => rfl
    | some c => simp only [Option.some.injEq]; omega
theorem tC {B : Int} (hB : 0 ≤ B) : ∀ (l : List aI) (d : Int) (m : Int), (∀ k ∈ l, ∀ n, bQ k d = some n → 0 ≤ n ∧ n ≤ B) → sizeL l d = some m → 0 ≤ m ∧ m ≤ l.length * B
 | [], d, m, h, e => by simp [sizeL] at e; subst e; simp
 | k :: l, d, m, h, e => by
  rw [sizeL] at e;cases hk : bQ k d with
  | none => simp [hk] at e
  | some a =>
   cases hl : sizeL l d with
   | none => simp [hk, hl] at e
   | some b =>
    simp [hk, hl] at e;have h1 := h k (List.mem_cons_self ..) a hk;have h2 := tC hB l d b (fun x hx => h x (List.mem_cons_of_mem _ hx)) hl;have : (((k :: l).length : Nat) : Int) * B = l.length * B + B := by
     simp only [List.length_cons, Int.natCast_add, Int.add_mul]; simp
    omega
theorem oD : ∀ (j : Nat) (g : aI) (d n : Int), 4 ≤ d + j → bQ g d = some n → 1 ≤ n ∧ n ≤ 5 ^ j
 | j, g, d, n, hj, e => by
  rw [fY] at e;split at e
  ·cases e
  ·rename_i hc;simp only [Bool.or_eq_true, decide_eq_true_eq, Bool.not_eq_true', not_or, Bool.not_eq_false] at hc;cases hs : sizeL g.kids (d + 1) with
   | none => simp [hs] at e
   | some m =>
    simp [hs] at e;have hk := Lg hc.2;cases j with
    | zero =>
     have h0 : g.kids = [] := by
      cases hk : g.kids with
      | nil => rfl
      | cons k l =>
       have : sizeL g.kids (d + 1) = none := uZ _ _ ⟨k, by simp [hk], by rw [fY]; simp; omega⟩;rw [this] at hs; cases hs
     rw [h0, sizeL] at hs;injection hs with hs;simp;omega
    | succ j =>
     have hp : (0 : Int) ≤ 5 ^ j := Int.le_of_lt (Int.pow_pos (by omega));have := tC hp g.kids (d + 1) m (fun k _ n hn => by have := oD j k (d + 1) n (by omega) hn; omega) hs;have h4 : (g.kids.length : Int) * 5 ^ j ≤ 4 * 5 ^ j := Int.mul_le_mul_of_nonneg_right (by omega) hp;rw [Int.pow_succ];have h1 : (1 : Int) ≤ 5 ^ j := Int.pow_pos (by omega);omega
theorem Iy {g : aI} {d : Int} {i : Nat} {m : Int} (hd : 1 ≤ d) (hok : okB g = true) (h : sizeL (g.kids.take i) (d + 1) = some m) : 0 ≤ m ∧ m ≤ 1000 := by
 have hp := tC (B := 25) (by omega) (g.kids.take i) (d + 1) m (fun k _ n hn => by have := oD 2 k (d + 1) n (by omega) hn; omega) h;have hk := Lg hok;have : (g.kids.take i).length ≤ 4 := by simp; omega
 omega
def q7y (o : Option Int) : SV Cd := .tuple [iS (match o with | none => 0 | some n => n), bS (match o with | none => false | some _ => true)]
theorem Nt : ∀ (j : Nat) (g : aI) (d : Int), d + j = 5 → 1 ≤ d → pX g → aF Tryz.prog Dc 59 [aM g, iS d] [] (q7y (bQ g d)) [] := by
 intro j
 induction j with
 | zero =>
  intro g d hj hd hG;rw [show bQ g d = none by rw [fY]; simp; omega];refine aA Ax aD Tryz.func59 (c := _) rfl Tryz.call59 400 ?_
  (repeat' ((conv => whnf); first | (exfalso; omega) | refine x0C ?_ | refine spC (fun hb => ?_) fun hb => ?_ | refine taC ?_ | refine aE mixed ?_))
  all_goals exact vwV
 | succ j ih =>
  intro g d hj hd hG;have hgl := ((dJ g).1 hG).1;have hkl := hgl.kids;have hkk := ((dJ g).1 hG).2;have h1 := oin g.kind 1 6;have h2 := Oy g;have h3 := Hj g (oU g);have h4 := Fs g hgl;have h5 := Io g hgl;rw [fY, show decide (4 < d) = false by simp; omega, Bool.false_or];cases hok : okB g with
  | false =>
   simp only [Bool.not_false, if_true];unfold okB at hok;generalize inB g.kind 1 6 = b1 at *;generalize kC g (oU g) = b2 at *;generalize vZ g = b3 at *;generalize eU g = b4 at *;refine aA Ax aD Tryz.func59 (c := _) rfl Tryz.call59 400 ?_
   (repeat' ((conv => whnf); first | (exfalso; omega) | (exfalso; simp_all; done) | refine dpC (h1) ?_ | refine dpC (h2) ?_ | refine dpC (h3) ?_ | refine dpC (h4) ?_ | refine dpC (h5) ?_ | refine x0C ?_ | refine spC (fun hb => ?_) fun hb => ?_ | refine taC ?_ | refine aE mixed ?_))
   all_goals exact vwV
  | true =>
   simp only [Bool.not_true];have hok' := hok;unfold okB at hok';simp only [Bool.and_eq_true] at hok';rw [hok'.1.1.1] at h1;rw [hok'.1.1.2] at h3;rw [hok'.1.2] at h4;rw [hok'.2] at h5;refine aA Ax aD Tryz.func59 (c := _) rfl Tryz.call59 400 ?_
   (repeat' ((conv => whnf); first | (exfalso; omega) | refine dpC (h1) ?_ | refine dpC (h2) ?_ | refine dpC (h3) ?_ | refine dpC (h4) ?_ | refine dpC (h5) ?_ | refine spC (fun hb => ?_) fun hb => ?_ | refine taC ?_ | refine aE mixed ?_))
   clear h1 h2 h3 h4 h5 hok';refine bP (fun q : Nat × Int => [(6, iS (1 + q.2)), (39, iS q.1)]) (fun _ => []) (fun q => q.1 ≤ g.kids.length ∧ sizeL (g.kids.take q.1) (d + 1) = some q.2) (fun q => g.kids.length - q.1) (0, 0) ⟨Nat.zero_le _, by simp [sizeL]⟩ (by exact bkV) ?_;rintro ⟨i, m⟩ hi K hK;obtain ⟨hi, hm⟩ := hi;dsimp only at hi hm hK ⊢;have hr := Iy hd hok hm;rcases Nat.lt_or_ge i g.kids.length with hlt | hge
   ·have hg := getD_some (d := Cd.dflt U.goal) hlt;have hx := ih _ (d + 1) (by omega) (by omega) (dS hkk (List.mem_of_getElem? hg));have hsn := R8 (g.kids.take i) (g.kids.getD (i : Int).toNat (Cd.dflt U.goal)) (d + 1);cases hs : bQ (g.kids.getD (i : Int).toNat (Cd.dflt U.goal)) (d + 1) with
    | none =>
     rw [uZ g.kids (d + 1) ⟨_, List.mem_of_getElem? hg, hs⟩];rw [hs] at hx
     (repeat' ((conv => whnf); first | (exfalso; omega) | refine cpC (hx) ?_ | refine x0C ?_ | refine spC (fun hb => ?_) fun hb => ?_ | refine saC ?_))
     all_goals exact vwV
    | some n =>
     rw [hs] at hx hsn;rw [hm] at hsn;dsimp only [q7y] at hx;have hb := oD 4 _ (d + 1) n (by omega) hs;rw [show (5 : Int) ^ 4 = 625 by decide] at hb;have ht : g.kids.take (i + 1) = g.kids.take i ++ [g.kids.getD (i : Int).toNat (Cd.dflt U.goal)] := by rw [List.take_add_one, hg]; rfl
     rw [← ht] at hsn
     (repeat' ((conv => whnf); first | (exfalso; omega) | refine cpC (hx) ?_ | refine hK (i + 1, m + n) [some 0] _ _ ⟨by dsimp only; omega, hsn⟩ ⟨by dsimp only; omega⟩ (by (dsimp only; rw [← Int.add_assoc]; exact bkV)) | refine spC (fun hb => ?_) fun hb => ?_ | refine saC ?_))
   ·rw [List.take_of_length_le hge] at hm;rw [hm]
    (repeat' ((conv => whnf); first | (exfalso; omega) | refine x0C ?_ | refine spC (fun hb => ?_) fun hb => ?_))
    all_goals exact vwV
theorem nV (g : aI) (hG : pX g) : aF Tryz.prog Dc 34 [aM g] [] (bS (cF g)) [] := by
 have h := Nt 4 g 1 (by omega) (by omega) hG;unfold cF;cases hs : bQ g 1 with
 | none =>
  rw [hs] at h;refine aA Ax aD Tryz.func34 (c := _) rfl Tryz.call34 100 ?_
  (repeat' ((conv => whnf); first | refine x0C (eB ?_ rfl) | refine cpC (h) ?_))
  all_goals rfl
 | some n =>
  rw [hs] at h;refine aA Ax aD Tryz.func34 (c := _) rfl Tryz.call34 100 ?_
  (repeat' ((conv => whnf); first | refine x0C (eB ?_ rfl) | refine cpC (h) ?_))
  all_goals rfl
end Go.SX
namespace Go.SX
theorem Qd {x : Nat} (hx : x < 48) : (2 : Int) ^ (min (x : Int).toNat IntKind.i64.bits) = ((2 ^ x : Nat) : Int) := by
 rw [show min (x : Int).toNat IntKind.i64.bits = x by simp [IntKind.bits]; omega];simp
theorem q2t {r : Int} {x : Nat} (h0 : 0 ≤ r) (hx : x < 48) : decide (((cQ .i64 r x).tmod 2) = 1) = r.toNat.testBit x := by
 obtain ⟨m, rfl⟩ : ∃ m : Nat, r = m := ⟨r.toNat, by omega⟩;unfold cQ;have hp : (0 : Int) ≤ ((2 ^ x : Nat) : Int) := Int.natCast_nonneg _;rw [Qd hx, Int.fdiv_eq_ediv_of_nonneg _ hp];rw [show ((m : Int) / ((2 ^ x : Nat) : Int)) = ((m / 2 ^ x : Nat) : Int) from (Int.natCast_ediv _ _).symm];rw [show (((m / 2 ^ x : Nat) : Int).tmod 2) = (((m / 2 ^ x) % 2 : Nat) : Int) from rfl];simp only [Int.toNat_natCast, Nat.testBit, Nat.shiftRight_eq_div_pow, Nat.and_comm 1, Nat.and_one_is_mod];generalize m / 2 ^ x = q;rcases Nat.mod_two_eq_zero_or_one q with h | h <;> simp [h]
theorem Qh {x : Nat} (hx : x < 48) : gX .i64 1 x = ((2 ^ x : Nat) : Int) := by
 unfold gX;rw [Qd hx, Int.one_mul];have : 2 ^ x ≤ 2 ^ 47 := Nat.pow_le_pow_right (by omega) (by omega);generalize 2 ^ x = q at *;exact inR_i64 (by omega) (by omega)
theorem Qe {a b : Nat} (ha : a < 2 ^ 48) (hb : b < 2 ^ 48) : cE .or .i64 (a : Int) (b : Int) = ((a ||| b : Nat) : Int) := by
 have e : (BitVec.ofInt 64 (a : Int) ||| BitVec.ofInt 64 (b : Int)).toNat = a ||| b := by
  rw [BitVec.toNat_or];have h1 : (BitVec.ofInt 64 (a : Int)).toNat = a := by simp; omega
  have h2 : (BitVec.ofInt 64 (b : Int)).toNat = b := by simp; omega
  rw [h1, h2]
 show IntKind.i64.wrap (((BitVec.ofInt 64 (a : Int) ||| BitVec.ofInt 64 (b : Int)).toNat : Nat) : Int) = _;rw [e];have : a ||| b < 2 ^ 48 := Nat.or_lt_two_pow ha hb;exact inR_i64 (by omega) (by omega)
def I4 (a b : Int) : Nat := a.toNat &&& (2 ^ 48 - (b.toNat + 1))
theorem Tm {a b : Int} (ha : pW a = true) (hb : pW b = true) (x : Nat) : (I4 a b).testBit x = (a.toNat.testBit x && !b.toNat.testBit x) := by
 have h1 := (aK _ _ _).1 ha;have h2 := (aK _ _ _).1 hb;unfold I4;rw [Nat.testBit_and, Nat.testBit_two_pow_sub_succ (by omega)]
 by_cases hx : x < 48
 ·simp [hx]
 ·have : a.toNat.testBit x = false := Nat.testBit_lt_two_pow (Nat.lt_of_lt_of_le (show a.toNat < 2 ^ 48 by omega) (Nat.pow_le_pow_right (by omega) (by omega)));simp [this]
theorem Yl {a b : Int} (ha : pW a = true) : I4 a b < 2 ^ 48 := by
 have h1 := (aK _ _ _).1 ha;unfold I4;exact Nat.lt_of_le_of_lt Nat.and_le_left (by omega)
theorem Oj {a b : Int} (ha : pW a = true) (hb : pW b = true) : cE .andNot .i64 a b = (I4 a b : Int) := by
 have h1 := (aK _ _ _).1 ha;have h2 := (aK _ _ _).1 hb;obtain ⟨m, rfl⟩ : ∃ m : Nat, a = m := ⟨a.toNat, by omega⟩;obtain ⟨n, rfl⟩ : ∃ m : Nat, b = m := ⟨b.toNat, by omega⟩;have e : (BitVec.ofInt 64 (m : Int) &&& ~~~BitVec.ofInt 64 (n : Int)).toNat = I4 m n := by
  apply Nat.eq_of_testBit_eq;intro i;rw [Tm ha hb, BitVec.toNat_and, Nat.testBit_and, BitVec.toNat_not];have h3 : (BitVec.ofInt 64 (m : Int)).toNat = m := by simp; omega
  have h4 : (BitVec.ofInt 64 (n : Int)).toNat = n := by simp; omega
  rw [h3, h4, show 2 ^ 64 - 1 - n = 2 ^ 64 - (n + 1) by omega, Nat.testBit_two_pow_sub_succ (by omega)]
  by_cases hi : i < 64
  ·simp [hi]
  ·have : m.testBit i = false := Nat.testBit_lt_two_pow (Nat.lt_of_lt_of_le (show m < 2 ^ 48 by omega) (Nat.pow_le_pow_right (by omega) (by omega)));simp [this]
 show IntKind.i64.wrap (((BitVec.ofInt 64 (m : Int) &&& ~~~BitVec.ofInt 64 (n : Int)).toNat : Nat) : Int) = _;rw [e];have := Yl (b := n) ha;exact inR_i64 (by omega) (by omega)
end Go.SX
namespace Go.SX
open Go.Proofs
set_option maxHeartbeats 400000000
set_option maxRecDepth 100000
theorem Tw (rows : List Int) (hl : (rows.length : Int) ≤ 9223372036854775807) : aF Tryz.prog Dc 148 [sG rows] [] (bS (bE rows)) [] := by
 refine aA Ax aD Tryz.func148 (c := _) rfl Tryz.call148 200 ?_
 (repeat' ((conv => whnf); first | fail))
 refine bP (fun i : Nat => [(3, iS i)]) (fun _ => []) (fun i => i ≤ rows.length ∧ i ≤ 25 ∧ (rows.take i).all pW = true) (fun i => 25 - i) 0 ⟨by omega, by omega, by simp⟩ (by exact bkV) ?_;rintro i ⟨h1, h2, h3⟩ K hK
 by_cases hc : i < rows.length ∧ i < 25
 ·have hg := getD_some (d := Cd.dflt U.int) hc.1;cases hr : pW (rows.getD (i : Int).toNat (Cd.dflt U.int)) with
  | true =>
   have h4 := (aK _ _ _).1 hr;have h5 : (rows.take (i + 1)).all pW = true := by
    rw [List.take_add_one, hg, List.all_append, h3];simpa using hr
   (repeat' ((conv => whnf); first | (exfalso; omega) | refine hK (i + 1) [some 0] _ _ ⟨⟨by omega, by omega, h5⟩⟩ ⟨by omega⟩ (by exact bkV) | refine spC (fun hb => ?_) fun hb => ?_ | refine saC ?_))
  | false =>
   have h4 := (Ul _ _ _).1 hr;have ha : bE rows = false := by
    cases ha : bE rows with
    | false => rfl
    | true =>
     simp only [bE, Bool.and_eq_true] at ha;rw [List.all_eq_true.1 ha.2 _ (List.mem_of_getElem? hg)] at hr;cases hr
   rw [ha]
   (repeat' ((conv => whnf); first | (exfalso; omega) | refine x0C ?_ | refine spC (fun hb => ?_) fun hb => ?_ | refine saC ?_))
   all_goals exact vwV
 ·have ha : bE rows = decide ((rows.length : Int) = 24) := by
   unfold bE
   by_cases hl : rows.length = 24
   ·rw [List.take_of_length_le (by omega)] at h3;rw [h3, Bool.and_true]
   ·rw [decide_eq_false (by omega), Bool.false_and]
  rw [ha]
  (repeat' ((conv => whnf); first | refine x0C (eB ?_ rfl) | (exfalso; omega) | refine spC (fun hb => ?_) fun hb => ?_))
  all_goals rfl
def q1z (rows : List Int) (y x : Nat) : Bool := (rows.getD y 0).toNat.testBit x
theorem uR {rows : List Int} (h : bE rows = true) {y : Nat} (hy : y < 24) : pW (rows.getD y 0) = true := by
 have hlen := lA h;simp only [bE, Bool.and_eq_true] at h;refine List.all_eq_true.1 h.2 _ ?_;rw [List.getD_eq_getElem?_getD, List.getElem?_eq_getElem (by omega)];exact List.getElem_mem _
theorem Rw (rows : List Int) (h : bE rows = true) (y x : Nat) (hy : y < 24) (hx : x < 48) : aF Tryz.prog Dc 203 [sG rows, iS x, iS y] [] (bS (q1z rows y x)) [] := by
 have hlen := lA h;have hr := (aK _ _ _).1 (uR h hy);have hb := q2t (r := rows.getD y 0) hr.1 hx;unfold q1z;rw [← hb];refine aA Ax aD Tryz.func203 (c := _) rfl Tryz.call203 100 ?_
 (repeat' ((conv => whnf); first | refine x0C (eB ?_ rfl) | refine saC ?_))
 all_goals rfl
def jK (rows : List Int) : Nat → List q8g
 | 0 => []
 | n + 1 => if q1z rows (n / 48) (n % 48) then jK rows n ++ [⟨((n % 48 : Nat) : Int), ((n / 48 : Nat) : Int)⟩] else jK rows n
theorem q2f {rows : List Int} {y x : Nat} (hx : x < 48) (h : q1z rows y x = true) : jK rows (48 * y + x + 1) = jK rows (48 * y + x) ++ [⟨x, y⟩] := by
 rw [jK, show (48 * y + x) / 48 = y by omega, show (48 * y + x) % 48 = x by omega, if_pos h]
theorem q55 {rows : List Int} {y x : Nat} (hx : x < 48) (h : q1z rows y x = false) : jK rows (48 * y + x + 1) = jK rows (48 * y + x) := by
 rw [jK, show (48 * y + x) / 48 = y by omega, show (48 * y + x) % 48 = x by omega, h]; simp
theorem Df (rows : List Int) : ∀ n, (jK rows n).length ≤ n
 | 0 => by simp [jK]
 | n + 1 => by
  have := Df rows n;rw [jK];split <;> simp <;> omega
theorem In (rows : List Int) (hl : (rows.length : Int) ≤ 9223372036854775807) : aF Tryz.prog Dc 195 [sG rows] [] (.p (.dsl U.cell (if bE rows then jK rows 1152 else []))) [] := by
 have h := Tw rows hl;cases ha : bE rows with
 | false =>
  rw [ha] at h;refine aA Ax aD Tryz.func195 (c := _) rfl Tryz.call195 200 ?_
  (repeat' ((conv => whnf); first | refine cpC (h) ?_ | refine x0C ?_))
  all_goals exact vwV
 | true =>
  rw [ha] at h;refine aA Ax aD Tryz.func195 (c := _) rfl Tryz.call195 200 ?_
  (repeat' ((conv => whnf); first | refine cpC (h) ?_))
  refine yG (fun y : Nat => [(3, .slice 1 0 2 0 (jK rows (48 * y)).length), (4, iS y)]) (fun y => [.var [lS rows], .rows U.cell (jK rows (48 * y))]) (fun y => y ≤ 24) (fun y => 24 - y) 0 (Nat.zero_le _) [some 0, none] (by exact bkV) ?_;intro y hy K hK;rcases Nat.lt_or_ge y 24 with hlt | hge
  ·(repeat' ((conv => whnf); first | (exfalso; omega) | refine spC (fun hb => ?_) fun hb => ?_))
   refine yG (fun x : Nat => [(3, .slice 1 0 2 0 (jK rows (48 * y + x)).length), (5, iS x)]) (fun x => [.var [lS rows], .rows U.cell (jK rows (48 * y + x))]) (fun x => x ≤ 48) (fun x => 48 - x) 0 (Nat.zero_le _) [some 0, some 1] (by exact bkV) ?_;intro x hx K' hK';have hcl := Df rows (48 * y + x);rcases Nat.lt_or_ge x 48 with hxl | hxg
   ·have hh := Rw rows ha y x hlt hxl;cases hb : q1z rows y x with
    | true =>
     rw [hb] at hh;have he := q2f hxl hb
     (repeat' ((conv => whnf); first | (exfalso; omega) | refine cpC (hh) ?_ | refine hK' (x + 1) [some 0, some 3] _ _ ⟨by omega⟩ ⟨by omega⟩ (by (dsimp only; rw [show 48 * y + (x + 1) = 48 * y + x + 1 by omega, he, List.take_length]; exact bkV)) | refine spC (fun hb => ?_) fun hb => ?_ | refine saC ?_))
    | false =>
     rw [hb] at hh;have he := q55 hxl hb
     (repeat' ((conv => whnf); first | (exfalso; omega) | refine cpC (hh) ?_ | refine hK' (x + 1) [some 0, some 1] _ _ ⟨by omega⟩ ⟨by omega⟩ (by (dsimp only; rw [show 48 * y + (x + 1) = 48 * y + x + 1 by omega, he]; exact bkV)) | refine spC (fun hb => ?_) fun hb => ?_ | refine saC ?_))
   ·obtain rfl : x = 48 := by omega
    (repeat' ((conv => whnf); first | refine hK (y + 1) [some 0, some 1] _ _ ⟨by omega⟩ ⟨by omega⟩ (by (dsimp only; rw [show 48 * (y + 1) = 48 * y + 48 by omega]; exact bkV)) | refine saC ?_))
  ·obtain rfl : y = 24 := by omega
   (repeat' ((conv => whnf); first | refine x0C ?_))
   all_goals exact vwV
theorem Ci (rows : List Int) (hl : (rows.length : Int) ≤ 9223372036854775807) : aF Tryz.prog Dc 175 [sG rows] [] (iS (if bE rows then (jK rows 1152).length else 0)) [] := by
 have h := In rows hl;cases ha : bE rows with
 | false =>
  rw [ha] at h;refine aA Ax aD Tryz.func175 (c := _) rfl Tryz.call175 60 ?_
  (repeat' ((conv => whnf); first | refine x0C (eI ?_ rfl) | refine cpC (h) ?_))
  all_goals rfl
 | true =>
  rw [ha] at h;refine aA Ax aD Tryz.func175 (c := _) rfl Tryz.call175 60 ?_
  (repeat' ((conv => whnf); first | refine x0C (eI ?_ rfl) | refine cpC (h) ?_))
  all_goals rfl
theorem Eo {rows : List Int} : ∀ n : Nat, (0 < (jK rows n).length ↔ ∃ k, k < n ∧ q1z rows (k / 48) (k % 48) = true)
 | 0 => by simp [jK]
 | n + 1 => by
  have ih := Eo (rows := rows) n;rw [jK];split
  ·rename_i h;simp only [List.length_append, List.length_cons, List.length_nil];exact ⟨fun _ => ⟨n, by omega, h⟩, fun _ => by omega⟩
  ·rename_i h;rw [ih];constructor
   ·rintro ⟨k, h1, h2⟩; exact ⟨k, by omega, h2⟩
   ·rintro ⟨k, h1, h2⟩
    by_cases hk : k = n
    ·subst hk; exact absurd h2 h
    ·exact ⟨k, by omega, h2⟩
theorem q1u {m : Nat} (hm : m < 2 ^ 48) : m ≠ 0 ↔ ∃ x, x < 48 ∧ m.testBit x = true := by
 constructor
 ·intro h;obtain ⟨x, hx⟩ := Nat.exists_testBit_of_ne_zero h;refine ⟨x, ?_, hx⟩;rcases Nat.lt_or_ge x 48 with h1 | h1
  ·exact h1
  ·rw [Nat.testBit_lt_two_pow (Nat.lt_of_lt_of_le hm (Nat.pow_le_pow_right (by omega) h1))] at hx; cases hx
 ·rintro ⟨x, _, hx⟩ h;subst h; simp at hx
theorem Vr {rows : List Int} (h : bE rows = true) : decide (0 < ((jK rows 1152).length : Int)) = rows.any (fun r => decide (r ≠ 0)) := by
 have hlen := lA h;rw [Bool.eq_iff_iff, decide_eq_true_iff, List.any_eq_true];have := Eo (rows := rows) 1152;rw [show (0 < ((jK rows 1152).length : Int)) ↔ 0 < (jK rows 1152).length by omega, this];constructor
 ·rintro ⟨k, h1, h2⟩;have hy : k / 48 < 24 := by omega
  have hr := (aK _ _ _).1 (uR h hy);refine ⟨rows.getD (k / 48) 0, ?_, ?_⟩
  ·rw [List.getD_eq_getElem?_getD, List.getElem?_eq_getElem (by omega)]; exact List.getElem_mem _
  ·have := (q1u (m := (rows.getD (k / 48) 0).toNat) (by omega)).2 ⟨k % 48, by omega, h2⟩;simp only [decide_eq_true_eq];omega
 ·rintro ⟨r, h1, h2⟩;obtain ⟨y, hy, rfl⟩ := List.getElem_of_mem h1;have hr := (aK _ _ _).1 (uR h (show y < 24 by omega));have e : rows.getD y 0 = rows[y] := by rw [List.getD_eq_getElem?_getD, List.getElem?_eq_getElem hy]; rfl
  rw [e] at hr;simp only [decide_eq_true_eq] at h2;obtain ⟨x, hx, hb⟩ := (q1u (m := (rows[y]).toNat) (by omega)).1 (by omega);refine ⟨48 * y + x, by omega, ?_⟩;rw [show (48 * y + x) / 48 = y by omega, show (48 * y + x) % 48 = x by omega];unfold q1z;rw [e]; exact hb
theorem Iz (f t : Int) : aF Tryz.prog Dc 176 [.agg [iS f, iS t]] [] (bS (wU f t)) [] := by
 have h1 := Kl f 0 1000000;have h2 := Kl t 0 1000000;refine aA Ax aD Tryz.func176 (c := _) rfl Tryz.call176 100 ?_
 (repeat' ((conv => whnf); first | refine x0C (eB ?_ rfl) | refine cpC (h1) ?_ | refine cpC (h2) ?_ | refine spC (fun hb => ?_) fun hb => ?_))
 all_goals clear h1 h2
 all_goals (first | (simp_all [wU]; done) | (simp_all [wU]; omega) | (simp_all [wU]; grind))
theorem Ey (g : aI) (most : Int) : aF Tryz.prog Dc 178 [aM g, iS most] [] (bS (Td g most)) [] := by
 have h1 := Kl (g.kids.getD (0 : Int).toNat (Cd.dflt U.goal)).kind 1 most;refine aA Ax aD Tryz.func178 (c := _) rfl Tryz.call178 100 ?_;unfold Td
 (repeat' ((conv => whnf); first | refine x0C (eB ?_ rfl) | refine cpC (h1) ?_ | refine spC (fun hb => ?_) fun hb => ?_ | refine saC ?_))
 ·rw [decide_eq_true (by assumption), Bool.true_and]; rfl
 ·rw [decide_eq_false (by assumption), Bool.false_and]
theorem jV (g own : aI) (a c : Bool) : aF Tryz.prog Dc 174 [aM g, aM own, bS a, bS c] [] (bS (kB g own a c)) [] := by
 refine aA Ax aD Tryz.func174 (c := _) rfl Tryz.call174 200 ?_
 (repeat' ((conv => whnf); first | refine x0C (eB ?_ rfl) | refine spC (fun hb => ?_) fun hb => ?_))
 all_goals (first | (simp_all [kB]; done) | (simp_all [kB]; omega) | (simp_all [kB]; grind))
@[reducible] def q1m (f t lo hi : Int) (cl : Bool) (d tm w : Int) : aI := ⟨0, [], f, t, lo, hi, cl, d, tm, w, [], []⟩
theorem Pc (g : aI) (hg : Lx g) : aF Tryz.prog Dc 146 [aM g] [] (bS (lF g)) [] := by
 obtain ⟨hl1, hl2, hl3⟩ := hg;have b1 := jV g (q1m g.from_ g.to_ g.low g.high g.clear 0 0 0) true false;have b2 := jV g (q1m 0 0 g.low 0 false 0 0 g.within) false false;have b3 := jV g (q1m g.from_ 0 0 0 false g.days g.times g.within) false false;have b4 := jV g (q1m 0 0 0 0 false 0 0 g.within) false false;have b5 := jV g (q1m 0 0 0 0 false 0 0 0) false false;have b6 := jV g (q1m 0 0 0 0 false 0 0 0) false true;have o1 := Ey g 1;have o3 := Ey g 3;have h0 := Tw g.rows hl1;have h1 := Ci g.rows hl1;have h2 := Iz g.from_ g.to_;have h4 := Kl g.low 0 90;have h5 := Kl g.high g.low 90;have h6 := Kl g.low 1 8;have h7 := Kl g.within 1 1000000;have h8 := Kl g.days 1 60;have h9 := Kl g.times 1 6;have ha1 := Kl g.within 0 (1440 * g.days);have ha2 := Kl g.within 0 1000000;have ha3 := Kl g.from_ 0 1000000;have ha4 := Kl g.kids.length 2 4;have i2 := fun h => (aK g.days 1 60).1 h;have hcp : bE g.rows = true → decide (0 < (if bE g.rows then ((jK g.rows 1152).length : Int) else 0)) = g.rows.any (fun r => decide (r ≠ 0)) := fun h => by rw [h, if_pos rfl]; exact Vr h
 by_cases hk : g.kind = 6
 ·unfold lF;rw [if_neg (by omega), if_neg (by omega), if_neg (by omega), if_neg (by omega), if_neg (by omega), if_pos hk];clear b1 b2 b3 b4 b5 o1 o3 h0 h1 h2 h4 h5 h6 h7 h8 h9 ha1 ha2 ha3 hcp;dsimp only [q1m] at b6;generalize kB g _ _ _ = x6 at b6 ⊢;refine aA Ax aD Tryz.func146 (c := _) rfl Tryz.call146 400 ?_
  (repeat' ((conv => whnf); first | refine x0C (eB ?_ rfl) | (exfalso; omega) | refine spC (fun hb => ?_) fun hb => ?_))
  refine bP (fun i : Nat => [(4, iS i)]) (fun _ => []) (fun i => i ≤ g.cents.length ∧ (g.cents.take i).all (fun n => inB n 0 1000000000) = true) (fun i => g.cents.length - i) 0 ⟨by omega, by simp⟩ (by exact bkV) ?_;rintro i ⟨c1, c3⟩ K hK;rcases Nat.lt_or_ge i g.cents.length with hlt | hge
  ·have hg := getD_some (d := Cd.dflt U.int) hlt;have hx := Kl (g.cents.getD (i : Int).toNat (Cd.dflt U.int)) 0 1000000000;cases hr : inB (g.cents.getD (i : Int).toNat (Cd.dflt U.int)) 0 1000000000 with
   | true =>
    rw [hr] at hx;have c5 : (g.cents.take (i + 1)).all (fun n => inB n 0 1000000000) = true := by
     rw [List.take_add_one, hg, List.all_append, c3];simpa using hr
    (repeat' ((conv => whnf); first | (exfalso; omega) | refine cpC (hx) ?_ | refine hK (i + 1) [some 0, some 1] _ _ ⟨⟨by omega, c5⟩⟩ ⟨by omega⟩ (by exact bkV) | refine spC (fun hb => ?_) fun hb => ?_ | refine saC ?_))
   | false =>
    rw [hr] at hx;have ha : g.cents.all (fun n => inB n 0 1000000000) = false := by
     rw [List.all_eq_false];exact ⟨_, List.mem_of_getElem? hg, by rw [hr]; simp⟩
    rw [ha]
    (repeat' ((conv => whnf); first | refine x0C (eB ?_ rfl) | (exfalso; omega) | refine cpC (hx) ?_ | refine spC (fun hb => ?_) fun hb => ?_ | refine saC ?_))
    all_goals rfl
  ·rw [List.take_of_length_le hge] at c3;rw [c3]
   (repeat' ((conv => whnf); first | refine x0C (eB ?_ rfl) | (exfalso; omega) | refine rdC (b6) ?_ | refine cpC (ha4) ?_ | refine spC (fun hb => ?_) fun hb => ?_))
   all_goals clear b6 ha4
   all_goals (first | (simp_all []; done) | (simp_all []; omega) | (simp_all []; grind))
 ·unfold lF;generalize (if bE g.rows then ((jK g.rows 1152).length : Int) else 0) = n at *;generalize bE g.rows = ar at *;generalize (g.rows.any fun r => decide (r ≠ 0)) = nz at *;dsimp only [q1m] at b1 b2 b3 b4 b5;generalize kB g _ _ _ = x1 at b1 ⊢;generalize kB g _ _ _ = x2 at b2 ⊢;generalize kB g _ _ _ = x3 at b3 ⊢;generalize kB g _ _ _ = x4 at b4 ⊢;generalize kB g _ _ _ = x5 at b5 ⊢;generalize Td g 1 = y1 at *;generalize Td g 3 = y3 at *;generalize wU g.from_ g.to_ = sp at *;refine aA Ax aD Tryz.func146 (c := _) rfl Tryz.call146 400 ?_
  (repeat' ((conv => whnf); first | refine x0C (eB ?_ rfl) | (exfalso; omega) | (have := i2 (by assumption); refine saC ?_) | refine rdC (b1) ?_ | refine rdC (b2) ?_ | refine rdC (b3) ?_ | refine rdC (b4) ?_ | refine rdC (b5) ?_ | refine cpC (o1) ?_ | refine cpC (o3) ?_ | refine cpC (h0) ?_ | refine cpC (h1) ?_ | refine cpC (h2) ?_ | refine cpC (h4) ?_ | refine cpC (h5) ?_ | refine cpC (h6) ?_ | refine cpC (h7) ?_ | refine cpC (h8) ?_ | refine cpC (h9) ?_ | refine cpC (ha1) ?_ | refine cpC (ha2) ?_ | refine cpC (ha3) ?_ | refine cpC (ha4) ?_ | refine spC (fun hb => ?_) fun hb => ?_))
  all_goals clear b1 b2 b3 b4 b5 b6 o1 o3 h0 h1 h2 h4 h5 h6 h7 h8 h9 ha1 ha2 ha3 ha4
  all_goals (first | (simp_all []; done) | (simp_all []; omega) | (simp_all []; grind))
theorem Z9 : ∀ (l : List aI) (k : List aI) (d n : Int), cntL (l ++ k) d n = cntL k d (cntL l d n)
 | [], k, d, n => by simp [cntL]
 | x :: l, k, d, n => by
  simp only [List.cons_append, cntL];split
  ·exact Z9 l k d _
  ·rw [Lw k d n (by omega)]
theorem Kb : ∀ (j : Nat) (g : aI) (d : Int), 5 ≤ d + j → Aw g d ≤ 13 + 12 * j
 | j, g, d, hj => by
  rw [B9];split
  ·omega
  ·rename_i hc;simp only [Bool.or_eq_true, decide_eq_true_eq, not_or] at hc;cases j with
   | zero => omega
   | succ j =>
    have key : ∀ (l : List aI) (n : Int), n ≤ 12 + (13 + 12 * j) → cntL l (d + 1) n ≤ 12 + (13 + 12 * j) := by
     intro l
     induction l with
     | nil => intro n hn; rw [cntL]; exact hn
     | cons k l ih =>
      intro n hn;rw [cntL];split
      ·have := Kb j k (d + 1) (by omega);exact ih _ (by omega)
      ·exact hn
    have := key g.kids 1 (by omega);omega
theorem q5c : ∀ (j : Nat) (g : aI) (d : Int), d + j = 5 → 1 ≤ d → pX g → aF Tryz.prog Dc 108 [aM g, iS d] [] (iS (Aw g d)) [] := by
 intro j
 induction j with
 | zero =>
  intro g d hj hd hG;rw [show Aw g d = 13 by rw [B9]; simp; omega];refine aA Ax aD Tryz.func108 (c := _) rfl Tryz.call108 400 ?_
  (repeat' ((conv => whnf); first | refine x0C (eI ?_ rfl) | (exfalso; omega) | refine spC (fun hb => ?_) fun hb => ?_))
  all_goals rfl
 | succ j ih =>
  intro g d hj hd hG;have hgl := ((dJ g).1 hG).1;have hkl := hgl.kids;have hkk := ((dJ g).1 hG).2;have h1 := Pc g hgl;rw [B9, show decide (4 < d) = false by simp; omega, Bool.false_or];cases hok : lF g with
  | false =>
   rw [hok] at h1;refine aA Ax aD Tryz.func108 (c := _) rfl Tryz.call108 400 ?_
   (repeat' ((conv => whnf); first | refine x0C (eI ?_ rfl) | (exfalso; omega) | refine cpC (h1) ?_ | refine spC (fun hb => ?_) fun hb => ?_))
   all_goals rfl
  | true =>
   rw [hok] at h1;simp only [Bool.not_true];refine aA Ax aD Tryz.func108 (c := _) rfl Tryz.call108 400 ?_
   (repeat' ((conv => whnf); first | (exfalso; omega) | refine cpC (h1) ?_ | refine spC (fun hb => ?_) fun hb => ?_))
   clear h1;refine bP (fun i : Nat => [(5, iS (cntL (g.kids.take i) (d + 1) 1)), (6, iS i)]) (fun _ => []) (fun i => i ≤ g.kids.length) (fun i => g.kids.length - i) 0 (Nat.zero_le _) (by exact bkV) ?_;intro i hi K hK;have hpos := cntL_pos (g.kids.take i) (d + 1) 1 (by omega);have happ := Z9 (g.kids.take i) (g.kids.drop i) (d + 1) 1;rw [List.take_append_drop] at happ;rcases Nat.lt_or_ge i g.kids.length with hlt | hge
   ·have hg := getD_some (d := Cd.dflt U.goal) hlt;have hx := ih _ (d + 1) (by omega) (by omega) (dS hkk (List.mem_of_getElem? hg));have ht : g.kids.take (i + 1) = g.kids.take i ++ [g.kids.getD (i : Int).toNat (Cd.dflt U.goal)] := by rw [List.take_add_one, hg]; rfl
    have hs := Z9 (g.kids.take i) [g.kids.getD (i : Int).toNat (Cd.dflt U.goal)] (d + 1) 1;rw [← ht] at hs;have hm := Kb j (g.kids.getD (i : Int).toNat (Cd.dflt U.goal)) (d + 1) (by omega);have hp := uM (g.kids.getD (i : Int).toNat (Cd.dflt U.goal)) (d + 1);generalize cntL (g.kids.take i) (d + 1) 1 = n at *
    by_cases hn : n ≤ 12
    ·rw [cntL, if_pos hn, cntL] at hs
     (repeat' ((conv => whnf); first | (exfalso; omega) | refine cpC (hx) ?_ | refine hK (i + 1) [some 0] _ _ ⟨by omega⟩ ⟨by omega⟩ (by (dsimp only; rw [hs]; exact bkV)) | refine spC (fun hb => ?_) fun hb => ?_ | refine saC ?_))
    ·rw [Lw (g.kids.drop i) (d + 1) n (by omega)] at happ;rw [happ]
     (repeat' ((conv => whnf); first | refine x0C (eI ?_ rfl) | (exfalso; omega) | refine spC (fun hb => ?_) fun hb => ?_))
     all_goals rfl
   ·rw [List.drop_of_length_le hge, cntL] at happ;rw [happ];generalize cntL (g.kids.take i) (d + 1) 1 = n at *
    (repeat' ((conv => whnf); first | refine x0C (eI ?_ rfl) | (exfalso; omega) | refine spC (fun hb => ?_) fun hb => ?_))
    all_goals rfl
theorem q3y (g : aI) (hG : pX g) : aF Tryz.prog Dc 70 [aM g] [] (bS (cF g)) [] := by
 have h := q5c 4 g 1 (by omega) (by omega) hG;rw [Sm];refine aA Ax aD Tryz.func70 (c := _) rfl Tryz.call70 60 ?_
 (repeat' ((conv => whnf); first | refine x0C (eB ?_ rfl) | refine cpC (h) ?_))
 all_goals rfl
end Go.SX
