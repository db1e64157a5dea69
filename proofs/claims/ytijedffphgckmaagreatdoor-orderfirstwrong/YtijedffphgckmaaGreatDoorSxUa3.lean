/-
  Walks: Ua3, Tp2, Oq2, Ua4, Ua5, Oq3, Ua6, Oq4: what single functions of the program compute.
-/
import Derived.Test.YtijedffphgckmaaGreatDoorSxOq1
import Derived.Test.YtijedffphgckmaaGreatDoorSxTp0
set_option linter.unusedVariables false
set_option linter.unusedSimpArgs false
namespace Go.SX
open Go.Proofs
set_option maxHeartbeats 4000000
set_option maxRecDepth 100000
/-- a value of an interface as a word -/
def anyW : AnyV → Wd
 | .n i => itoaW i
 | .s l => l
def AnyOK : AnyV → Prop
 | .n i => -9223372036854775808 ≤ i ∧ i ≤ 9223372036854775807
 | .s _ => True
@[reducible] def putH (ws : List Wd) (l : List AnyV) : List (HS Cd) := [.vart none [.slice 1 0 1 0 ws.length], .rows U.str ws, .rows U.anyv l]
@[reducible] def putD (n : Nat) (ws : List Wd) (l : List AnyV) : List (HS Cd) := [.vart none [.slice 3 0 1 0 n], .dead, .rows U.anyv l, .rows U.str ws]
theorem putN (l : List AnyV) (x : AnyV) (r : List AnyV) (hl : l = x :: r) (ws : List Wd) (hO : ∀ x ∈ l, AnyOK x) (hn : ws.length + l.length ≤ 1000000) :
  Meets Tryz.prog Dc 37 [.ptr 0 0, .slice 2 0 1 0 l.length] (putH ws l) (.tuple []) (putD (ws.length + l.length) (ws ++ l.map anyW) l) := by
 refine meets_of_gx Ax tab_ok Tryz.func37 (c := _) rfl Tryz.call37 200 ?_
 have hlen : 0 < l.length := by rw [hl]; simp
 have hmap : (l.map anyW).length = l.length := List.length_map ..
 refine loop_up (fun i : Nat => [(10, iS i)]) (fun i => match i with
  | 0 => []
  | i + 1 => [(0, .vart none [.slice 3 0 1 0 (ws.length + (i + 1))]), (1, .dead), (3, .rows U.str (ws ++ (l.take (i + 1)).map anyW))]) (fun i => i ≤ l.length) (fun i => l.length - i) 0 (Nat.zero_le _) (by exact bkI) ?_
 rintro i hi K hK
 rcases Nat.lt_or_ge i l.length with hlt | hge
 ·have hx := hO _ (List.mem_of_getElem? (getD_some (d := Cd.dflt U.anyv) hlt))
  have ht := take_getD (d := Cd.dflt U.anyv) hlt
  obtain ⟨a, ha⟩ : ∃ a, l.getD (i : Int).toNat (Cd.dflt U.anyv) = a := ⟨_, rfl⟩
  have hs : l.getD (0 + (i : Int).toNat) (Cd.dflt U.anyv) = a := by rw [Nat.zero_add]; exact ha
  rw [show l.getD i (Cd.dflt U.anyv) = a from ha] at ht
  rw [ha] at hx
  have hm : (l.take (i + 1)).map anyW = (l.take i).map anyW ++ [anyW a] := by rw [ht, List.map_append]; rfl
  have hi1 : (i : Int) + 1 = ((i + 1 : Nat) : Int) := rfl
  cases i with
  | zero =>
   have hw : ∀ b : Wd, b = anyW a → List.take ws.length ws ++ List.take 1 (List.drop 0 [b]) = ws ++ (l.take (0 + 1)).map anyW := fun b e => by rw [hm, e]; simp
   (repeat' ((conv => whnf); first | (exfalso; omega) | refine x0C ?_ | refine spC (fun hb => ?_) fun hb => ?_ | refine nilC (fun hb => ?_) ?_ | refine taC ?_ | refine saC ?_ | exact sdV | refine side_and ?_ ?_ | refine drawX_of mixed ?_))
   rw [hs]
   cases a with
   | s w =>
    have hw1 := hw w rfl
    (repeat' ((conv => whnf); first | (exfalso; omega) | refine hK 1 [some 0, some 1, some 2, some 4] _ _ ⟨by omega⟩ ⟨by omega⟩ (by exact bkW) | refine x0C ?_ | refine spC (fun hb => ?_) fun hb => ?_ | refine nilC (fun hb => ?_) ?_ | refine taC ?_ | refine saC ?_ | exact sdV | refine side_and ?_ ?_ | refine drawX_of mixed ?_))
   | n z =>
    have h1 := kitoa z hx
    have hw1 := hw (itoaW z) rfl
    (repeat' ((conv => whnf); first | (exfalso; omega) | refine cpC (h1) ?_ | refine dpC (h1) ?_ | refine hK 1 [some 0, some 1, some 2, some 4] _ _ ⟨by omega⟩ ⟨by omega⟩ (by exact bkW) | refine x0C ?_ | refine spC (fun hb => ?_) fun hb => ?_ | refine nilC (fun hb => ?_) ?_ | refine taC ?_ | refine saC ?_ | exact sdV | refine side_and ?_ ?_ | refine drawX_of mixed ?_))
  | succ i =>
   have hw : ∀ b : Wd, b = anyW a → List.take (ws.length + (i + 1)) (ws ++ (l.take (i + 1)).map anyW) ++ List.take 1 (List.drop 0 [b]) = ws ++ (l.take (i + 1 + 1)).map anyW := fun b e => by
    rw [hm, e, List.take_of_length_le (by simp; omega)]; simp
   (repeat' ((conv => whnf); first | (exfalso; omega) | refine x0C ?_ | refine spC (fun hb => ?_) fun hb => ?_ | refine nilC (fun hb => ?_) ?_ | refine taC ?_ | refine saC ?_ | exact sdV | refine side_and ?_ ?_ | refine drawX_of mixed ?_))
   rw [hs]
   cases a with
   | s w =>
    have hw1 := hw w rfl
    (repeat' ((conv => whnf); first | (exfalso; omega) | refine hK (i + 2) [some 0, some 1, some 2, some 5] _ _ ⟨by omega⟩ ⟨by omega⟩ (by exact bkW) | refine x0C ?_ | refine spC (fun hb => ?_) fun hb => ?_ | refine nilC (fun hb => ?_) ?_ | refine taC ?_ | refine saC ?_ | exact sdV | refine side_and ?_ ?_ | refine drawX_of mixed ?_))
   | n z =>
    have h1 := kitoa z hx
    have hw1 := hw (itoaW z) rfl
    (repeat' ((conv => whnf); first | (exfalso; omega) | refine cpC (h1) ?_ | refine dpC (h1) ?_ | refine hK (i + 2) [some 0, some 1, some 2, some 5] _ _ ⟨by omega⟩ ⟨by omega⟩ (by exact bkW) | refine x0C ?_ | refine spC (fun hb => ?_) fun hb => ?_ | refine nilC (fun hb => ?_) ?_ | refine taC ?_ | refine saC ?_ | exact sdV | refine side_and ?_ ?_ | refine drawX_of mixed ?_))
 ·cases i with
  | zero => omega
  | succ i =>
   have hw1 : ws ++ (l.take (i + 1)).map anyW = ws ++ l.map anyW := by rw [List.take_of_length_le hge]
   have hi2 : i + 1 = l.length := by omega
   (repeat' ((conv => whnf); first | (exfalso; omega) | (refine end_fn [some 0, some 1, some 2, some 3] (.inl rfl) ?_ ?_ rfl rfl; (focus exact vwV); exact hsW) | refine x0C ?_ | refine spC (fun hb => ?_) fun hb => ?_ | refine nilC (fun hb => ?_) ?_ | refine taC ?_ | refine saC ?_ | exact sdV | refine side_and ?_ ?_ | refine drawX_of mixed ?_))
@[reducible] def putH0 (l : List AnyV) : List (HS Cd) := [.vart none [.p (.lit (.slice none 0 0))], .rows U.anyv l]
@[reducible] def putD0 (n : Nat) (ws : List Wd) (l : List AnyV) : List (HS Cd) := [.vart none [.slice 2 0 1 0 n], .rows U.anyv l, .rows U.str ws]
theorem put0 (l : List AnyV) (x : AnyV) (r : List AnyV) (hl : l = x :: r) (hO : ∀ x ∈ l, AnyOK x) (hn : l.length ≤ 1000000) :
  Meets Tryz.prog Dc 37 [.ptr 0 0, .slice 1 0 1 0 l.length] (putH0 l) (.tuple []) (putD0 l.length (l.map anyW) l) := by
 refine meets_of_gx Ax tab_ok Tryz.func37 (c := _) rfl Tryz.call37 200 ?_
 have hlen : 0 < l.length := by rw [hl]; simp
 have hmap : (l.map anyW).length = l.length := List.length_map ..
 refine loop_up (fun i : Nat => [(10, iS i)]) (fun i => match i with
  | 0 => []
  | i + 1 => [(0, .vart none [.slice 2 0 1 0 (i + 1)]), (2, .rows U.str ((l.take (i + 1)).map anyW))]) (fun i => i ≤ l.length) (fun i => l.length - i) 0 (Nat.zero_le _) (by exact bkI) ?_
 rintro i hi K hK
 rcases Nat.lt_or_ge i l.length with hlt | hge
 ·have hx := hO _ (List.mem_of_getElem? (getD_some (d := Cd.dflt U.anyv) hlt))
  have ht := take_getD (d := Cd.dflt U.anyv) hlt
  obtain ⟨a, ha⟩ : ∃ a, l.getD (i : Int).toNat (Cd.dflt U.anyv) = a := ⟨_, rfl⟩
  have hs : l.getD (0 + (i : Int).toNat) (Cd.dflt U.anyv) = a := by rw [Nat.zero_add]; exact ha
  rw [show l.getD i (Cd.dflt U.anyv) = a from ha] at ht
  rw [ha] at hx
  have hm : (l.take (i + 1)).map anyW = (l.take i).map anyW ++ [anyW a] := by rw [ht, List.map_append]; rfl
  cases i with
  | zero =>
   have hw : ∀ b : Wd, b = anyW a → List.take 1 (List.drop 0 [b]) = (l.take (0 + 1)).map anyW := fun b e => by rw [hm, e]; simp
   (repeat' ((conv => whnf); first | (exfalso; omega) | refine x0C ?_ | refine spC (fun hb => ?_) fun hb => ?_ | refine nilC (fun hb => ?_) ?_ | refine taC ?_ | refine saC ?_ | exact sdV | refine side_and ?_ ?_ | refine drawX_of mixed ?_))
   rw [hs]
   cases a with
   | s w =>
    have hw1 := hw w rfl
    (repeat' ((conv => whnf); first | (exfalso; omega) | refine hK 1 [some 0, some 1, some 3] _ _ ⟨by omega⟩ ⟨by omega⟩ (by exact bkW) | refine x0C ?_ | refine spC (fun hb => ?_) fun hb => ?_ | refine nilC (fun hb => ?_) ?_ | refine taC ?_ | refine saC ?_ | exact sdV | refine side_and ?_ ?_ | refine drawX_of mixed ?_))
   | n z =>
    have h1 := kitoa z hx
    have hw1 := hw (itoaW z) rfl
    (repeat' ((conv => whnf); first | (exfalso; omega) | refine cpC (h1) ?_ | refine dpC (h1) ?_ | refine hK 1 [some 0, some 1, some 3] _ _ ⟨by omega⟩ ⟨by omega⟩ (by exact bkW) | refine x0C ?_ | refine spC (fun hb => ?_) fun hb => ?_ | refine nilC (fun hb => ?_) ?_ | refine taC ?_ | refine saC ?_ | exact sdV | refine side_and ?_ ?_ | refine drawX_of mixed ?_))
  | succ i =>
   have hw : ∀ b : Wd, b = anyW a → List.take (i + 1) ((l.take (i + 1)).map anyW) ++ List.take 1 (List.drop 0 [b]) = (l.take (i + 1 + 1)).map anyW := fun b e => by
    rw [hm, e, List.take_of_length_le (by simp; omega)]; simp
   (repeat' ((conv => whnf); first | (exfalso; omega) | refine x0C ?_ | refine spC (fun hb => ?_) fun hb => ?_ | refine nilC (fun hb => ?_) ?_ | refine taC ?_ | refine saC ?_ | exact sdV | refine side_and ?_ ?_ | refine drawX_of mixed ?_))
   rw [hs]
   cases a with
   | s w =>
    have hw1 := hw w rfl
    (repeat' ((conv => whnf); first | (exfalso; omega) | refine hK (i + 2) [some 0, some 1, some 4] _ _ ⟨by omega⟩ ⟨by omega⟩ (by exact bkW) | refine x0C ?_ | refine spC (fun hb => ?_) fun hb => ?_ | refine nilC (fun hb => ?_) ?_ | refine taC ?_ | refine saC ?_ | exact sdV | refine side_and ?_ ?_ | refine drawX_of mixed ?_))
   | n z =>
    have h1 := kitoa z hx
    have hw1 := hw (itoaW z) rfl
    (repeat' ((conv => whnf); first | (exfalso; omega) | refine cpC (h1) ?_ | refine dpC (h1) ?_ | refine hK (i + 2) [some 0, some 1, some 4] _ _ ⟨by omega⟩ ⟨by omega⟩ (by exact bkW) | refine x0C ?_ | refine spC (fun hb => ?_) fun hb => ?_ | refine nilC (fun hb => ?_) ?_ | refine taC ?_ | refine saC ?_ | exact sdV | refine side_and ?_ ?_ | refine drawX_of mixed ?_))
 ·cases i with
  | zero => omega
  | succ i =>
   have hw1 : (l.take (i + 1)).map anyW = l.map anyW := by rw [List.take_of_length_le hge]
   have hi2 : i + 1 = l.length := by omega
   (repeat' ((conv => whnf); first | (exfalso; omega) | (refine end_fn [some 0, some 1, some 2] (.inl rfl) ?_ ?_ rfl rfl; (focus exact vwV); exact hsW) | refine x0C ?_ | refine spC (fun hb => ?_) fun hb => ?_ | refine nilC (fun hb => ?_) ?_ | refine taC ?_ | refine saC ?_ | exact sdV | refine side_and ?_ ?_ | refine drawX_of mixed ?_))
/-! one of two words -/
@[reducible] def writH (ws : List Wd) : List (HS Cd) := [.vart none [.slice 1 0 1 0 ws.length], .rows U.str ws]
@[reducible] def writD (n : Nat) (ws : List Wd) : List (HS Cd) := [.vart none [.slice 2 0 1 0 n], .dead, .rows U.str ws]
theorem chooseN (b : Bool) (x y : Wd) (ws : List Wd) (hn : ws.length ≤ 900000) :
  Meets Tryz.prog Dc 38 [.ptr 0 0, bS b, wS x, wS y] (writH ws) (.tuple []) (writD (ws.length + 1) (ws ++ [if b then x else y])) := by
 have h1 := putN [.s x] (.s x) [] rfl ws (fun a ha => by simp at ha; subst ha; trivial) (by simp; omega)
 have h2 := putN [.s y] (.s y) [] rfl ws (fun a ha => by simp at ha; subst ha; trivial) (by simp; omega)
 cases b with
 | true =>
  refine meets_of_gx Ax tab_ok Tryz.func38 (c := _) rfl Tryz.call38 100 ?_
  (repeat' ((conv => whnf); first | (exfalso; omega) | (refine callh [some 0, some 1, some 2] h1 rfl rfl ⟨rfl, rfl, rfl, trivial⟩ ?_) | (refine end_fn [some 0, some 1, some 3] (.inl rfl) ?_ ?_ rfl rfl; (focus exact vwV); exact hsW) | refine x0C ?_ | refine spC (fun hb => ?_) fun hb => ?_ | refine nilC (fun hb => ?_) ?_ | refine taC ?_ | refine saC ?_ | exact sdV | refine side_and ?_ ?_ | refine drawX_of mixed ?_))
 | false =>
  refine meets_of_gx Ax tab_ok Tryz.func38 (c := _) rfl Tryz.call38 100 ?_
  (repeat' ((conv => whnf); first | (exfalso; omega) | (refine callh [some 0, some 1, some 2] h2 rfl rfl ⟨rfl, rfl, rfl, trivial⟩ ?_) | (refine end_fn [some 0, some 1, some 3] (.inl rfl) ?_ ?_ rfl rfl; (focus exact vwV); exact hsW) | refine x0C ?_ | refine spC (fun hb => ?_) fun hb => ?_ | refine nilC (fun hb => ?_) ?_ | refine taC ?_ | refine saC ?_ | exact sdV | refine side_and ?_ ?_ | refine drawX_of mixed ?_))
/-! the same, where the length is spelled otherwise -/
@[reducible] def putHn (n : Nat) (ws : List Wd) (l : List AnyV) : List (HS Cd) := [.vart none [.slice 1 0 1 0 n], .rows U.str ws, .rows U.anyv l]
@[reducible] def writHn (n : Nat) (ws : List Wd) : List (HS Cd) := [.vart none [.slice 1 0 1 0 n], .rows U.str ws]
theorem putM (n : Nat) (l : List AnyV) (x : AnyV) (r : List AnyV) (hl : l = x :: r) (ws : List Wd) (hO : ∀ x ∈ l, AnyOK x) (hw : n = ws.length) (hn : n + l.length ≤ 1000000) :
  Meets Tryz.prog Dc 37 [.ptr 0 0, .slice 2 0 1 0 l.length] (putHn n ws l) (.tuple []) (putD (n + l.length) (ws ++ l.map anyW) l) := by
 subst hw; exact putN l x r hl ws hO hn
theorem chooseM (n : Nat) (b : Bool) (x y : Wd) (ws : List Wd) (hw : n = ws.length) (hn : n ≤ 900000) :
  Meets Tryz.prog Dc 38 [.ptr 0 0, bS b, wS x, wS y] (writHn n ws) (.tuple []) (writD (n + 1) (ws ++ [if b then x else y])) := by
 subst hw; exact chooseN b x y ws hn
end Go.SX

/-
 Plain law: bits of rows.
-/
namespace Go.SX
theorem pow_min {x : Nat} (hx : x < 48) : (2 : Int) ^ (min (x : Int).toNat IntKind.i64.bits) = ((2 ^ x : Nat) : Int) := by
 rw [show min (x : Int).toNat IntKind.i64.bits = x by simp [IntKind.bits]; omega]
 simp
theorem shr_bit {r : Int} {x : Nat} (h0 : 0 ≤ r) (hx : x < 48) : decide (((shrop .i64 r x).tmod 2) = 1) = r.toNat.testBit x := by
 obtain ⟨m, rfl⟩ : ∃ m : Nat, r = m := ⟨r.toNat, by omega⟩
 unfold shrop
 have hp : (0 : Int) ≤ ((2 ^ x : Nat) : Int) := Int.natCast_nonneg _
 rw [pow_min hx, Int.fdiv_eq_ediv_of_nonneg _ hp]
 rw [show ((m : Int) / ((2 ^ x : Nat) : Int)) = ((m / 2 ^ x : Nat) : Int) from (Int.natCast_ediv _ _).symm]
 rw [show (((m / 2 ^ x : Nat) : Int).tmod 2) = (((m / 2 ^ x) % 2 : Nat) : Int) from rfl]
 simp only [Int.toNat_natCast, Nat.testBit, Nat.shiftRight_eq_div_pow, Nat.and_comm 1, Nat.and_one_is_mod]
 generalize m / 2 ^ x = q
 rcases Nat.mod_two_eq_zero_or_one q with h | h <;> simp [h]
theorem shl_one {x : Nat} (hx : x < 48) : shlop .i64 1 x = ((2 ^ x : Nat) : Int) := by
 unfold shlop
 rw [pow_min hx, Int.one_mul]
 have : 2 ^ x ≤ 2 ^ 47 := Nat.pow_le_pow_right (by omega) (by omega)
 generalize 2 ^ x = q at *
 exact inR_i64 (by omega) (by omega)
theorem or_nat {a b : Nat} (ha : a < 2 ^ 48) (hb : b < 2 ^ 48) : bitop .or .i64 (a : Int) (b : Int) = ((a ||| b : Nat) : Int) := by
 have e : (BitVec.ofInt 64 (a : Int) ||| BitVec.ofInt 64 (b : Int)).toNat = a ||| b := by
  rw [BitVec.toNat_or]
  have h1 : (BitVec.ofInt 64 (a : Int)).toNat = a := by simp; omega
  have h2 : (BitVec.ofInt 64 (b : Int)).toNat = b := by simp; omega
  rw [h1, h2]
 show IntKind.i64.wrap (((BitVec.ofInt 64 (a : Int) ||| BitVec.ofInt 64 (b : Int)).toNat : Nat) : Int) = _
 rw [e]
 have : a ||| b < 2 ^ 48 := Nat.or_lt_two_pow ha hb
 exact inR_i64 (by omega) (by omega)
theorem mod_step_t {m x : Nat} (hx : x < 48) (h : m.testBit x = true) : bitop .or .i64 ((m % 2 ^ x : Nat) : Int) (shlop .i64 1 x) = ((m % 2 ^ (x + 1) : Nat) : Int) := by
 have h1 : 2 ^ x ≤ 2 ^ 47 := Nat.pow_le_pow_right (by omega) (by omega)
 have h2 : m % 2 ^ x < 2 ^ x := Nat.mod_lt _ (Nat.two_pow_pos x)
 rw [shl_one hx, or_nat (by omega) (by omega)]
 congr 1
 apply Nat.eq_of_testBit_eq
 intro i
 simp only [Nat.testBit_or, Nat.testBit_mod_two_pow, Nat.testBit_two_pow]
 by_cases hi : i = x
 ·subst hi; simp [h]
 ·by_cases hl : i < x
  ·simp [hl, show i < x + 1 by omega, Ne.symm hi]
  ·simp [hl, show ¬ i < x + 1 by omega, Ne.symm hi]
theorem mod_step_f {m x : Nat} (h : m.testBit x = false) : m % 2 ^ (x + 1) = m % 2 ^ x := by
 apply Nat.eq_of_testBit_eq
 intro i
 simp only [Nat.testBit_mod_two_pow]
 by_cases hi : i = x
 ·subst hi; simp [h]
 ·by_cases hl : i < x
  ·simp [hl, show i < x + 1 by omega]
  ·simp [hl, show ¬ i < x + 1 by omega]
/-- the bits of a that b has not -/
def lessN (a b : Int) : Nat := a.toNat &&& (2 ^ 48 - (b.toNat + 1))
theorem lessN_bit {a b : Int} (ha : rowOK a = true) (hb : rowOK b = true) (x : Nat) : (lessN a b).testBit x = (a.toNat.testBit x && !b.toNat.testBit x) := by
 have h1 := (inB_iff _ _ _).1 ha
 have h2 := (inB_iff _ _ _).1 hb
 unfold lessN
 rw [Nat.testBit_and, Nat.testBit_two_pow_sub_succ (by omega)]
 by_cases hx : x < 48
 ·simp [hx]
 ·have : a.toNat.testBit x = false := Nat.testBit_lt_two_pow (Nat.lt_of_lt_of_le (show a.toNat < 2 ^ 48 by omega) (Nat.pow_le_pow_right (by omega) (by omega)))
  simp [this]
theorem lessN_lt {a b : Int} (ha : rowOK a = true) : lessN a b < 2 ^ 48 := by
 have h1 := (inB_iff _ _ _).1 ha
 unfold lessN
 exact Nat.lt_of_le_of_lt Nat.and_le_left (by omega)
/-- the program's way: a &^ b -/
theorem andNot_row {a b : Int} (ha : rowOK a = true) (hb : rowOK b = true) : bitop .andNot .i64 a b = (lessN a b : Int) := by
 have h1 := (inB_iff _ _ _).1 ha
 have h2 := (inB_iff _ _ _).1 hb
 obtain ⟨m, rfl⟩ : ∃ m : Nat, a = m := ⟨a.toNat, by omega⟩
 obtain ⟨n, rfl⟩ : ∃ m : Nat, b = m := ⟨b.toNat, by omega⟩
 have e : (BitVec.ofInt 64 (m : Int) &&& ~~~BitVec.ofInt 64 (n : Int)).toNat = lessN m n := by
  apply Nat.eq_of_testBit_eq
  intro i
  rw [lessN_bit ha hb, BitVec.toNat_and, Nat.testBit_and, BitVec.toNat_not]
  have h3 : (BitVec.ofInt 64 (m : Int)).toNat = m := by simp; omega
  have h4 : (BitVec.ofInt 64 (n : Int)).toNat = n := by simp; omega
  rw [h3, h4, show 2 ^ 64 - 1 - n = 2 ^ 64 - (n + 1) by omega, Nat.testBit_two_pow_sub_succ (by omega)]
  by_cases hi : i < 64
  ·simp [hi]
  ·have : m.testBit i = false := Nat.testBit_lt_two_pow (Nat.lt_of_lt_of_le (show m < 2 ^ 48 by omega) (Nat.pow_le_pow_right (by omega) (by omega)))
   simp [this]
 show IntKind.i64.wrap (((BitVec.ofInt 64 (m : Int) &&& ~~~BitVec.ofInt 64 (n : Int)).toNat : Nat) : Int) = _
 rw [e]
 have := lessN_lt (b := n) ha
 exact inR_i64 (by omega) (by omega)
end Go.SX

/-
 Plain: the runs of a row.
-/
namespace Go.SX
def runLen (n : Nat) : Nat := tzF 64 n + toF 64 (n / 2 ^ tzF 64 n)
def stepR (n : Nat) : Nat := n / 2 ^ runLen n * 2 ^ runLen n
def runAt (n : Nat) : Nat × Nat := (tzF 64 n, runLen n - 1)
theorem runsF_succ (f n : Nat) : runsF (f + 1) n = if n = 0 then [] else runAt n :: runsF f (stepR n) := rfl
def leftJ : Nat → Nat → Nat
 | n, 0 => n
 | n, j + 1 => stepR (leftJ n j)
theorem leftJ_comm : ∀ n j : Nat, leftJ (stepR n) j = stepR (leftJ n j)
 | n, 0 => rfl
 | n, j + 1 => by show stepR (leftJ (stepR n) j) = stepR (stepR (leftJ n j)); rw [leftJ_comm n j]
theorem tzF_spec : ∀ (f n : Nat), n ≠ 0 → n < 2 ^ f → n % 2 ^ tzF f n = 0 ∧ n / 2 ^ tzF f n % 2 = 1 ∧ tzF f n < f
 | 0, n, h0, h => by omega
 | f + 1, n, h0, h => by
  unfold tzF
  split
  ·rename_i h1; simp; omega
  ·rename_i h1
   have h2 : n / 2 < 2 ^ f := by rw [Nat.pow_succ] at h; omega
   obtain ⟨a, b, c⟩ := tzF_spec f (n / 2) (by omega) h2
   have e : n / 2 ^ (1 + tzF f (n / 2)) = n / 2 / 2 ^ tzF f (n / 2) := by rw [Nat.pow_add, Nat.pow_one, Nat.div_div_eq_div_mul]
   refine ⟨?_, by rw [e]; exact b, by omega⟩
   rw [Nat.pow_add, Nat.pow_one, Nat.mod_mul, a]; omega
theorem toF_le : ∀ (f n : Nat), toF f n ≤ f
 | 0, n => Nat.le_refl _
 | f + 1, n => by unfold toF; split <;> have := toF_le f (n / 2) <;> omega
theorem toF_pos {n : Nat} (h : n % 2 = 1) : 1 ≤ toF 64 n := by
 show 1 ≤ toF (63 + 1) n
 unfold toF; rw [if_pos h]; omega
theorem stepR_lt {n : Nat} (h0 : n ≠ 0) (h : n < 2 ^ 64) : stepR n < n := by
 obtain ⟨a, b, c⟩ := tzF_spec 64 n h0 h
 have ht := toF_pos b
 have h1 : n % 2 ^ runLen n ≠ 0 := fun e => by
  have h2 : 2 ^ (tzF 64 n + 1) ∣ n := Nat.dvd_trans (Nat.pow_dvd_pow 2 (by unfold runLen; omega)) (Nat.dvd_of_mod_eq_zero e)
  obtain ⟨q, hq⟩ := h2
  have h3 : n / 2 ^ tzF 64 n = 2 * q := Nat.div_eq_of_eq_mul_right (Nat.two_pow_pos _) (by rw [← Nat.mul_assoc, ← Nat.pow_succ]; exact hq)
  omega
 have h4 := Nat.div_add_mod n (2 ^ runLen n)
 have h5 : stepR n = 2 ^ runLen n * (n / 2 ^ runLen n) := Nat.mul_comm _ _
 omega
theorem stepR_zero : stepR 0 = 0 := by unfold stepR; simp
theorem leftJ_le {n : Nat} (h : n < 2 ^ 64) : ∀ j : Nat, leftJ n j ≤ n
 | 0 => Nat.le_refl _
 | j + 1 => by
  have := leftJ_le h j
  show stepR (leftJ n j) ≤ n
  by_cases h0 : leftJ n j = 0
  ·rw [h0, stepR_zero]; omega
  ·have := stepR_lt h0 (by omega); omega
theorem runs_get : ∀ (f n j : Nat), n ≤ f → n < 2 ^ 64 → (runsF f n)[j]? = if leftJ n j = 0 then none else some (runAt (leftJ n j))
 | 0, n, j, hn, _ => by
  obtain rfl : n = 0 := by omega
  have : leftJ 0 j = 0 := by have := leftJ_le (n := 0) (by decide) j; omega
  rw [this]; rfl
 | f + 1, n, j, hn, h64 => by
  rw [runsF_succ]
  by_cases h0 : n = 0
  ·rw [if_pos h0]
   subst h0
   have : leftJ 0 j = 0 := by have := leftJ_le (n := 0) (by decide) j; omega
   rw [this]; rfl
  ·rw [if_neg h0]
   cases j with
   | zero => rw [show leftJ n 0 = n from rfl, if_neg h0]; rfl
   | succ j =>
    have hs := stepR_lt h0 h64
    rw [List.getElem?_cons_succ, runs_get f (stepR n) j (by omega) (by omega), leftJ_comm]
    rfl
def runsN (n : Nat) : List (Nat × Nat) := runsF n n
theorem runsN_get {n j : Nat} (h : n < 2 ^ 64) (h0 : leftJ n j ≠ 0) : (runsN n)[j]? = some (runAt (leftJ n j)) := by
 unfold runsN; rw [runs_get n n j (Nat.le_refl _) h, if_neg h0]
theorem runsN_len {n j : Nat} (h : n < 2 ^ 64) (h0 : leftJ n j ≠ 0) : j < (runsN n).length := by
 rcases Nat.lt_or_ge j (runsN n).length with h1 | h1
 ·exact h1
 ·have := runsN_get h h0
  rw [List.getElem?_eq_none h1] at this; cases this
theorem runsN_end {n j : Nat} (h : n < 2 ^ 64) (h0 : leftJ n j = 0) : (runsN n).length ≤ j := by
 rcases Nat.lt_or_ge j (runsN n).length with h1 | h1
 ·have := runs_get n n j (Nat.le_refl _) h
  rw [if_pos h0] at this
  have h2 : (runsN n)[j]? = none := this
  rw [List.getElem?_eq_none_iff] at h2; omega
 ·exact h1
theorem runsN_take {n j : Nat} (h : n < 2 ^ 64) (h0 : leftJ n j ≠ 0) : (runsN n).take (j + 1) = (runsN n).take j ++ [runAt (leftJ n j)] := by
 rw [List.take_add_one, runsN_get h h0]; rfl
theorem rowsW_snoc (y : Nat) : ∀ (l : List Int) (r : Int), rowsW y (l ++ [r]) = rowsW y l ++ (runsN r.toNat).flatMap (runW (y + l.length))
 | [], r => by simp [rowsW, runsN]
 | a :: l, r => by
  simp only [List.cons_append, rowsW, rowsW_snoc (y + 1) l r, List.append_assoc, List.length_cons]
  rw [show y + 1 + l.length = y + (l.length + 1) by omega]
/-! the program's arithmetic on bits -/
theorem u64_lt {n : Nat} (h : n < 2 ^ 64) : IntKind.u64.wrap (n : Int) = n := by
 simp only [IntKind.wrap, IntKind.signed, IntKind.bits]
 simp
 omega
theorem and_neg {n : Nat} (h0 : n ≠ 0) (h : n < 2 ^ 64) : n &&& (2 ^ 64 - n) = 2 ^ tzF 64 n := by
 obtain ⟨a, b, c⟩ := tzF_spec 64 n h0 h
 generalize tzF 64 n = k at *
 obtain ⟨m, hm⟩ := Nat.dvd_of_mod_eq_zero a
 have hm2 : n / 2 ^ k = m := by rw [hm, Nat.mul_div_cancel_left _ (Nat.two_pow_pos _)]
 rw [hm2] at b
 obtain ⟨j, rfl⟩ : ∃ j, m = 2 * j + 1 := ⟨m / 2, by omega⟩
 refine Nat.eq_of_testBit_eq fun i => ?_
 rw [Nat.testBit_and, show 2 ^ 64 - n = 2 ^ 64 - ((n - 1) + 1) by omega, Nat.testBit_two_pow_sub_succ (by omega), Nat.testBit_two_pow]
 have hn1 : n - 1 = 2 ^ k * (2 * j) + (2 ^ k - 1) := by rw [hm, Nat.mul_add]; have := Nat.two_pow_pos k; omega
 rcases Nat.lt_trichotomy i k with hi | hi | hi
 ·have e1 : n.testBit i = false := by
   rw [hm, Nat.testBit_two_pow_mul]; simp; omega
  rw [e1]; simp; omega
 ·subst hi
  have e1 : n.testBit i = true := by
   rw [hm, Nat.testBit_two_pow_mul]; simp
  have e2 : (n - 1).testBit i = false := by
   rw [Nat.testBit_eq_decide_div_mod_eq, hn1]
   have : (2 ^ i * (2 * j) + (2 ^ i - 1)) / 2 ^ i = 2 * j := by
    rw [Nat.add_comm, Nat.add_mul_div_left _ _ (Nat.two_pow_pos i), Nat.div_eq_of_lt (by have := Nat.two_pow_pos i; omega)]; omega
   rw [this]; simp
  rw [e1, e2]; simp; omega
 ·have e1 : (n - 1).testBit i = n.testBit i := by
   obtain ⟨t, rfl⟩ : ∃ t, i = (k + 1) + t := ⟨i - (k + 1), by omega⟩
   have d1 : n / 2 ^ (k + 1) = j := by
    rw [hm, Nat.pow_succ, ← Nat.div_div_eq_div_mul, Nat.mul_div_cancel_left _ (Nat.two_pow_pos _)]; omega
   have d2 : (n - 1) / 2 ^ (k + 1) = j := by
    have h5 : n - 1 = 2 ^ (k + 1) * j + (2 ^ k - 1) := by rw [hn1, Nat.pow_succ, Nat.mul_assoc]
    have h6 : 2 ^ (k + 1) = 2 * 2 ^ k := by rw [Nat.pow_succ, Nat.mul_comm]
    have h7 := Nat.two_pow_pos k
    rw [h5, Nat.add_comm, Nat.add_mul_div_left _ _ (Nat.two_pow_pos (k + 1)), Nat.div_eq_of_lt (by omega), Nat.zero_add]
   rw [Nat.add_comm (k + 1) t, ← Nat.testBit_div_two_pow, ← Nat.testBit_div_two_pow, d1, d2]
  rw [e1]
  cases n.testBit i <;> simp <;> omega
theorem toF_spec : ∀ (f m : Nat), m % 2 ^ toF f m = 2 ^ toF f m - 1
 | 0, m => by simp [toF, Nat.mod_one]
 | f + 1, m => by
  unfold toF
  split
  ·rename_i h1
   have ih := toF_spec f (m / 2)
   have hp := Nat.two_pow_pos (toF f (m / 2))
   rw [Nat.add_comm 1, Nat.pow_succ, Nat.mul_comm _ 2, Nat.mod_mul, ih]; omega
  ·simp [Nat.mod_one]
theorem tzF_not : ∀ (f m : Nat), m < 2 ^ f → tzF f (2 ^ f - 1 - m) = toF f m
 | 0, m, h => rfl
 | f + 1, m, h => by
  have hp := Nat.two_pow_pos f
  have e : 2 ^ (f + 1) = 2 * 2 ^ f := by rw [Nat.pow_succ, Nat.mul_comm]
  unfold tzF toF
  by_cases h1 : m % 2 = 1
  ·rw [if_pos h1, if_neg (by omega), show (2 ^ (f + 1) - 1 - m) / 2 = 2 ^ f - 1 - m / 2 by omega, tzF_not f (m / 2) (by omega)]
  ·rw [if_neg h1, if_pos (by omega)]
theorem runLen_le {n : Nat} (h0 : n ≠ 0) (h : n < 2 ^ 48) : tzF 64 n < runLen n ∧ runLen n ≤ 48 := by
 obtain ⟨a, b, c⟩ := tzF_spec 64 n h0 (by omega)
 have ht := toF_pos b
 have h2 := toF_spec 64 (n / 2 ^ tzF 64 n)
 refine ⟨by unfold runLen; omega, ?_⟩
 have h3 : 2 ^ toF 64 (n / 2 ^ tzF 64 n) - 1 ≤ n / 2 ^ tzF 64 n := by rw [← h2]; exact Nat.mod_le _ _
 have h4 : 2 ^ (toF 64 (n / 2 ^ tzF 64 n) - 1) ≤ n / 2 ^ tzF 64 n := by
  obtain ⟨t, ht'⟩ : ∃ t, toF 64 (n / 2 ^ tzF 64 n) = t + 1 := ⟨toF 64 (n / 2 ^ tzF 64 n) - 1, by omega⟩
  rw [ht', Nat.pow_succ] at h3
  rw [ht', Nat.add_sub_cancel]
  have := Nat.two_pow_pos t
  omega
 have h5 : 2 ^ (toF 64 (n / 2 ^ tzF 64 n) - 1) * 2 ^ tzF 64 n ≤ n := Nat.le_trans (Nat.mul_le_mul_right _ h4) (Nat.div_mul_le_self _ _)
 rw [← Nat.pow_add] at h5
 have h6 : 2 ^ (toF 64 (n / 2 ^ tzF 64 n) - 1 + tzF 64 n) < 2 ^ 48 := Nat.lt_of_le_of_lt h5 h
 have h7 := (Nat.pow_lt_pow_iff_right (a := 2) (by omega)).1 h6
 unfold runLen
 omega
theorem stepR_bits {n : Nat} (h0 : n ≠ 0) (h : n < 2 ^ 64) : n &&& (2 ^ 64 - 1 - (2 ^ (runLen n - tzF 64 n) - 1) * 2 ^ tzF 64 n) = stepR n := by
 obtain ⟨a, b, c⟩ := tzF_spec 64 n h0 h
 have ht := toF_pos b
 have hlt : tzF 64 n < runLen n := by unfold runLen; omega
 unfold stepR
 generalize runLen n = e at *
 generalize tzF 64 n = k at *
 refine Nat.eq_of_testBit_eq fun i => ?_
 have hm : ((2 ^ (e - k) - 1) * 2 ^ k).testBit i = (decide (k ≤ i) && decide (i < e)) := by
  rw [Nat.mul_comm, Nat.testBit_two_pow_mul, Nat.testBit_two_pow_sub_one]
  by_cases h1 : k ≤ i
  ·simp [h1]; omega
  ·simp [h1]
 have hbit : n.testBit i = true → k ≤ i ∧ i < 64 := fun hb => by
  refine ⟨?_, ?_⟩
  ·rcases Nat.lt_or_ge i k with h1 | h1
   ·exfalso
    obtain ⟨q, hq⟩ := Nat.dvd_of_mod_eq_zero a
    rw [hq, Nat.testBit_two_pow_mul] at hb
    simp at hb; omega
   ·exact h1
  ·rcases Nat.lt_or_ge i 64 with h1 | h1
   ·exact h1
   ·rw [Nat.testBit_lt_two_pow (Nat.lt_of_lt_of_le h (Nat.pow_le_pow_right (by omega) h1))] at hb; cases hb
 rw [Nat.testBit_and, Nat.mul_comm (n / 2 ^ e), Nat.testBit_two_pow_mul]
 by_cases hb : n.testBit i = true
 ·obtain ⟨h1, h2⟩ := hbit hb
  have hr : e ≤ i → (n / 2 ^ e).testBit (i - e) = true := fun h3 => by rw [Nat.testBit_div_two_pow, Nat.sub_add_cancel h3]; exact hb
  rcases Nat.lt_or_ge ((2 ^ (e - k) - 1) * 2 ^ k) (2 ^ 64) with h4 | h4
  ·rw [show 2 ^ 64 - 1 - (2 ^ (e - k) - 1) * 2 ^ k = 2 ^ 64 - ((2 ^ (e - k) - 1) * 2 ^ k + 1) by omega, Nat.testBit_two_pow_sub_succ h4, hm, hb]
   by_cases h3 : e ≤ i
   ·simp [h1, h2, h3, hr h3]
   ·simp [h1, h2, h3]; omega
  ·rw [show 2 ^ 64 - 1 - (2 ^ (e - k) - 1) * 2 ^ k = 0 by omega]
   by_cases h3 : e ≤ i
   ·exfalso
    have h5 : (2 ^ (e - k) - 1) * 2 ^ k < 2 ^ e := by
     have : 2 ^ (e - k) * 2 ^ k = 2 ^ e := by rw [← Nat.pow_add, Nat.sub_add_cancel (by omega)]
     have h6 := Nat.two_pow_pos k
     have h7 := Nat.two_pow_pos (e - k)
     have h9 := Nat.two_pow_pos e
     rw [Nat.sub_mul, this]; omega
    have h8 : 2 ^ e ≤ 2 ^ 64 := Nat.pow_le_pow_right (by omega) (by omega)
    omega
   ·simp [h3]
 ·have hb : n.testBit i = false := by simpa using hb
  rw [hb, Bool.false_and]
  by_cases h3 : e ≤ i
  ·have : (n / 2 ^ e).testBit (i - e) = false := by rw [Nat.testBit_div_two_pow, Nat.sub_add_cancel h3]; exact hb
   rw [this]; simp
  ·simp [h3]
theorem rowsW_append : ∀ (y : Nat) (a b : List Int), rowsW y (a ++ b) = rowsW y a ++ rowsW (y + a.length) b
 | y, [], b => by simp [rowsW]
 | y, x :: a, b => by
  simp only [List.cons_append, rowsW, rowsW_append (y + 1) a b, List.append_assoc, List.length_cons]
  rw [show y + 1 + a.length = y + (a.length + 1) by omega]
theorem rowsW_take_len (rows : List Int) (i : Nat) : (rowsW 0 (rows.take i)).length ≤ (rowsW 0 rows).length := by
 have : rowsW 0 rows = rowsW 0 (rows.take i) ++ rowsW (0 + (rows.take i).length) (rows.drop i) := by rw [← rowsW_append, List.take_append_drop]
 rw [this]; simp
theorem flat_take_len {α β : Type} (f : α → List β) (l : List α) (j : Nat) : ((l.take j).flatMap f).length ≤ (l.flatMap f).length := by
 have : l.flatMap f = (l.take j).flatMap f ++ (l.drop j).flatMap f := by rw [← List.flatMap_append, List.take_append_drop]
 rw [this]; simp
end Go.SX

namespace Go.SX
open Go.Proofs
set_option maxHeartbeats 4000000
set_option maxRecDepth 100000
theorem bits_u64 {n : Nat} (h : n < 2 ^ 64) : (BitVec.ofInt 64 (n : Int)).toNat = n := by simp; omega
theorem tz_tab : ∀ k : Fin 64, intAt tzL (0 + (shrop .u64 (IntKind.u64.wrap (((2 ^ k.val : Nat) : Int) * 285870213051353865)) 58).toNat) = k.val := by decide +kernel
theorem tzN_nat {n : Nat} (h0 : n ≠ 0) (h : n < 2 ^ 64) : tzN (n : Int) = (tzF 64 n : Nat) := by
 unfold tzN tzI
 rw [if_neg (by omega)]
 have h1 : IntKind.u64.wrap (0 - (n : Int)) = ((2 ^ 64 - n : Nat) : Int) := by
  simp only [IntKind.wrap, IntKind.signed, IntKind.bits]
  simp
  omega
 have h2 : bitop .and .u64 (n : Int) (IntKind.u64.wrap (0 - (n : Int))) = ((2 ^ tzF 64 n : Nat) : Int) := by
  rw [h1]
  unfold bitop
  rw [show IntKind.u64.bits = 64 from rfl]
  have : ((BitVec.ofInt 64 (n : Int) &&& BitVec.ofInt 64 ((2 ^ 64 - n : Nat) : Int)).toNat : Int) = ((2 ^ tzF 64 n : Nat) : Int) := by
   rw [BitVec.toNat_and, bits_u64 h, bits_u64 (by omega), and_neg h0 h]
  simp only [this]
  refine u64_lt ?_
  exact Nat.pow_lt_pow_right (by omega) (tzF_spec 64 n h0 h).2.2
 rw [h2]
 exact tz_tab ⟨tzF 64 n, (tzF_spec 64 n h0 h).2.2⟩
theorem ktz (n : Nat) (h0 : n ≠ 0) (h : n < 2 ^ 64) : Meets Tryz.prog Dc 88 [.p (.int .u64 n)] [] (iS (tzF 64 n : Nat)) [] := by
 have := tz (n : Int)
 rw [tzN_nat h0 h] at this
 exact this
theorem shr_nat {n k : Nat} (h : k ≤ 64) : shrop .u64 (n : Int) (k : Int) = ((n / 2 ^ k : Nat) : Int) := by
 unfold shrop
 rw [show min (k : Int).toNat IntKind.u64.bits = k by simp [IntKind.bits]; omega, Int.fdiv_eq_ediv_of_nonneg _ (Int.le_of_lt (Int.pow_pos (by omega)))]
 simp
theorem xor_all {m : Nat} (h : m < 2 ^ 64) : bitop .xor .u64 (if IntKind.u64.signed then -1 else IntKind.u64.max) (m : Int) = ((2 ^ 64 - 1 - m : Nat) : Int) := by
 unfold bitop
 rw [show IntKind.u64.bits = 64 from rfl, show (if IntKind.u64.signed = true then (-1 : Int) else IntKind.u64.max) = ((2 ^ 64 - 1 : Nat) : Int) from rfl]
 have : ((BitVec.ofInt 64 ((2 ^ 64 - 1 : Nat) : Int) ^^^ BitVec.ofInt 64 (m : Int)).toNat : Int) = ((2 ^ 64 - 1 - m : Nat) : Int) := by
  rw [BitVec.toNat_xor, bits_u64 h, bits_u64 (by omega)]
  refine congrArg _ (Nat.eq_of_testBit_eq fun i => ?_)
  rw [Nat.testBit_xor, Nat.testBit_two_pow_sub_one, show 2 ^ 64 - 1 - m = 2 ^ 64 - (m + 1) by omega, Nat.testBit_two_pow_sub_succ h]
  by_cases h1 : i < 64
  ·simp [h1]
  ·rw [Nat.testBit_lt_two_pow (Nat.lt_of_lt_of_le h (Nat.pow_le_pow_right (by omega) (by omega)))]; simp [h1]
 simp only [this]
 exact u64_lt (by omega)
theorem ktz2 (n : Nat) (h0 : n ≠ 0) (h : n < 2 ^ 48) : Meets Tryz.prog Dc 88 [.p (.int .u64 (bitop .xor .u64 (if IntKind.u64.signed then -1 else IntKind.u64.max) (shrop .u64 (n : Int) ((tzF 64 n : Nat) : Int))))] [] (iS ((runLen n - tzF 64 n : Nat) : Int)) [] := by
 obtain ⟨a, b, c⟩ := tzF_spec 64 n h0 (by omega)
 have hle : n / 2 ^ tzF 64 n ≤ n := Nat.div_le_self _ _
 rw [shr_nat (by omega), xor_all (by omega), show runLen n - tzF 64 n = toF 64 (n / 2 ^ tzF 64 n) by unfold runLen; omega, ← tzF_not 64 (n / 2 ^ tzF 64 n) (by omega)]
 clear a
 generalize n / 2 ^ tzF 64 n = m at *
 exact ktz (2 ^ 64 - 1 - m) (by omega) (by omega)
theorem shl_nat {n k : Nat} (h : k ≤ 64) (h2 : n * 2 ^ k < 2 ^ 64) : shlop .u64 (n : Int) (k : Int) = ((n * 2 ^ k : Nat) : Int) := by
 unfold shlop
 rw [show min (k : Int).toNat IntKind.u64.bits = k by simp [IntKind.bits]; omega]
 rw [← u64_lt h2]; simp
theorem step_bits {n : Nat} (h0 : n ≠ 0) (h : n < 2 ^ 48) : bitop .andNot .u64 (n : Int) (shlop .u64 (IntKind.u64.wrap (shlop .u64 1 ((runLen n - tzF 64 n : Nat) : Int) - 1)) ((tzF 64 n : Nat) : Int)) = ((stepR n : Nat) : Int) := by
 obtain ⟨e1, e2⟩ := runLen_le h0 h
 have h64 : n < 2 ^ 64 := by omega
 have hp : 2 ^ (runLen n - tzF 64 n) * 2 ^ tzF 64 n ≤ 2 ^ 48 := by
  rw [← Nat.pow_add, Nat.sub_add_cancel (by omega)]; exact Nat.pow_le_pow_right (by omega) e2
 have hq : 2 ^ (runLen n - tzF 64 n) ≤ 2 ^ 48 := Nat.pow_le_pow_right (by omega) (by omega)
 have q1 := Nat.two_pow_pos (runLen n - tzF 64 n)
 have q2 := Nat.two_pow_pos (tzF 64 n)
 have s1 : shlop .u64 1 ((runLen n - tzF 64 n : Nat) : Int) = ((2 ^ (runLen n - tzF 64 n) : Nat) : Int) := by
  have := shl_nat (n := 1) (k := runLen n - tzF 64 n) (by omega) (by omega)
  rw [Nat.one_mul] at this
  exact this
 have s2 : IntKind.u64.wrap (((2 ^ (runLen n - tzF 64 n) : Nat) : Int) - 1) = ((2 ^ (runLen n - tzF 64 n) - 1 : Nat) : Int) := by
  rw [show ((2 ^ (runLen n - tzF 64 n) : Nat) : Int) - 1 = ((2 ^ (runLen n - tzF 64 n) - 1 : Nat) : Int) by omega]
  exact u64_lt (by omega)
 have hm : (2 ^ (runLen n - tzF 64 n) - 1) * 2 ^ tzF 64 n < 2 ^ 64 := by rw [Nat.sub_mul]; omega
 rw [s1, s2, shl_nat (by omega) hm, ← stepR_bits h0 h64]
 unfold bitop
 rw [show IntKind.u64.bits = 64 from rfl]
 generalize (2 ^ (runLen n - tzF 64 n) - 1) * 2 ^ tzF 64 n = M at *
 have : ((BitVec.ofInt 64 (n : Int) &&& ~~~BitVec.ofInt 64 (M : Int)).toNat : Int) = ((n &&& (2 ^ 64 - 1 - M) : Nat) : Int) := by
  rw [BitVec.toNat_and, bits_u64 h64, BitVec.toNat_not, bits_u64 hm]
 simp only [this]
 exact u64_lt (Nat.lt_of_le_of_lt Nat.and_le_left h64)
@[reducible] def boxG (g : Goal) : HS Cd := .vart none [iS g.kind, lS g.rows, iS g.from_, iS g.to_, iS g.low, iS g.high, bS g.clear, iS g.days, iS g.times, iS g.within, lS g.cents, .p (.dsl U.goal g.kids)]
def rowsK1 (ws : List Wd) (rows : List Int) (i : Nat) : List Wd := ws ++ [w_see] ++ rowsW 0 (rows.take i)
theorem wsee (g : Goal) (hk : g.kind = 1) (hG : GLen g) (hr : areaB g.rows = true) (ws : List Wd) (hn : ws.length + (seeW g).length ≤ 100000)
  (hbd : ∀ n ∈ [g.from_, g.to_, g.low, g.high], -9223372036854775808 ≤ n ∧ n ≤ 9223372036854775807) :
  Meets Tryz.prog Dc 39 [.ptr 0 0, goalA g] (writH ws) (.tuple []) (writD (ws.length + (seeW g).length) (ws ++ seeW g)) := by
 have hl := area_len hr
 have p1 := putN [.s w_see] (.s w_see) [] rfl ws (fun a ha => by simp at ha; subst ha; trivial) (by simp; omega)
 refine meets_of_gx Ax tab_ok Tryz.func39 (c := _) rfl Tryz.call39 600 ?_
 (repeat' ((conv => whnf); first | (exfalso; omega) | (refine callh [some 0, some 1, some 4] p1 rfl rfl ⟨rfl, rfl, rfl, trivial⟩ ?_) | refine x0C ?_ | refine spC (fun hb => ?_) fun hb => ?_ | refine nilC (fun hb => ?_) ?_ | refine taC ?_ | refine saC ?_ | exact sdV | refine side_and ?_ ?_ | refine drawX_of mixed ?_))
 have w0 : ws ++ List.map anyW [AnyV.s w_see] = rowsK1 ws g.rows 0 := by simp [rowsK1, anyW, rowsW]
 have w0l : (rowsK1 ws g.rows 0).length = ws.length + 1 := by rw [← w0]; simp
 refine loop_up (fun i : Nat => [(65, iS i)]) (fun i => [(0, .vart none [.slice 5 0 1 0 (rowsK1 ws g.rows i).length]), (5, .rows U.str (rowsK1 ws g.rows i))]) (fun i => i ≤ 24) (fun i => 24 - i) 0 (Nat.zero_le _) (by exact bkW) ?_
 intro i hi K hK
 rcases Nat.lt_or_ge i 24 with hlt | hge
 ·have hg := getD_some (d := Cd.dflt U.int) (show i < g.rows.length by omega)
  have hrow : rowOK (g.rows.getD (i : Int).toNat (Cd.dflt U.int)) = true := by
   simp only [areaB, Bool.and_eq_true] at hr
   exact List.all_eq_true.1 hr.2 _ (List.mem_of_getElem? hg)
  have h3 := (inB_iff _ _ _).1 hrow
  obtain ⟨r, hrr⟩ : ∃ r : Nat, g.rows.getD (i : Int).toNat (Cd.dflt U.int) = (r : Int) := ⟨(g.rows.getD (i : Int).toNat (Cd.dflt U.int)).toNat, by omega⟩
  rw [hrr] at h3
  have hr48 : r < 2 ^ 48 := by omega
  have hwr : IntKind.u64.wrap (g.rows.getD (i : Int).toNat (Cd.dflt U.int)) = ((leftJ r 0 : Nat) : Int) := by rw [hrr, u64_lt (by omega)]; rfl
  (repeat' ((conv => whnf); first | (exfalso; omega) | (refine call_in Ax tab_ok Tryz.func62 (c := _) rfl Tryz.call62 60 ?_) | (refine range_in Ax tab_ok rfl Tryz.func87 (c := _) rfl Tryz.call87 rfl rfl 300 ?_) | refine x0C ?_ | refine spC (fun hb => ?_) fun hb => ?_ | refine nilC (fun hb => ?_) ?_ | refine taC ?_ | refine saC ?_ | exact sdV | refine side_and ?_ ?_ | refine drawX_of mixed ?_))
  intro gn tmps bd
  (repeat' ((conv => whnf); first | (exfalso; omega) | refine x0C ?_ | refine spC (fun hb => ?_) fun hb => ?_ | refine nilC (fun hb => ?_) ?_ | refine taC ?_ | refine saC ?_ | exact sdV | refine side_and ?_ ?_ | refine drawX_of mixed ?_))
  refine loop_up (fun j : Nat => [(3, .p (.int .u64 (leftJ r j : Nat)))]) (fun j => match j with
   | 0 => []
   | j + 1 => [(0, .vart none [.slice 9 0 1 0 (rowsK1 ws g.rows i ++ ((runsN r).take (j + 1)).flatMap (runW i)).length]), (5, .dead), (9, .rows U.str (rowsK1 ws g.rows i ++ ((runsN r).take (j + 1)).flatMap (runW i)))]) (fun j => j ≤ (runsN r).length) (fun j => leftJ r j) 0 (Nat.zero_le _) (by (rw [hwr]; exact bkW)) ?_
  intro j hj K' hK'
  have hnext : rowsK1 ws g.rows (i + 1) = rowsK1 ws g.rows i ++ (runsN r).flatMap (runW i) := by
   unfold rowsK1
   rw [take_getD (d := Cd.dflt U.int) (show i < g.rows.length by omega), show g.rows.getD i (Cd.dflt U.int) = (r : Int) from hrr, rowsW_snoc, List.length_take, Nat.zero_add, Nat.min_eq_left (by omega), Int.toNat_natCast]
   simp [List.append_assoc]
  have hsz : (rowsK1 ws g.rows i).length + ((runsN r).flatMap (runW i)).length ≤ 100000 := by
   have h1 := rowsW_take_len g.rows (i + 1)
   have h2 : (rowsK1 ws g.rows (i + 1)).length = (rowsK1 ws g.rows i).length + ((runsN r).flatMap (runW i)).length := by rw [hnext]; simp
   rw [← h2]
   unfold rowsK1 seeW at *
   simp only [List.length_append, List.length_cons, List.length_nil] at *
   omega
  by_cases h0 : leftJ r j = 0
  ·have he := runsN_end (by omega) h0
   have hall : (runsN r).take j = runsN r := List.take_of_length_le he
   cases j with
   | zero =>
    have hnil : rowsK1 ws g.rows i = rowsK1 ws g.rows (i + 1) := by
     rw [hnext, List.eq_nil_of_length_eq_zero (by omega : (runsN r).length = 0)]; simp
    have hz : ((leftJ r 0 : Nat) : Int) = 0 := by rw [h0]; rfl
    rw [hnil] at *
    (repeat' ((conv => whnf); first | (exfalso; omega) | refine hK (i + 1) [some 0, some 1, some 2, some 3, some 4, some 5] _ _ ⟨by omega⟩ ⟨by omega⟩ (by exact bkW) | refine x0C ?_ | refine spC (fun hb => ?_) fun hb => ?_ | refine nilC (fun hb => ?_) ?_ | refine taC ?_ | refine saC ?_ | exact sdV | refine side_and ?_ ?_ | refine drawX_of mixed ?_))
   | succ j =>
    have hV : rowsK1 ws g.rows i ++ ((runsN r).take (j + 1)).flatMap (runW i) = rowsK1 ws g.rows (i + 1) := by rw [hall, ← hnext]
    have hVl := congrArg List.length hV
    have hz : ((leftJ r (j + 1) : Nat) : Int) = 0 := by rw [h0]; rfl
    (repeat' ((conv => whnf); first | (exfalso; omega) | refine hK (i + 1) [some 0, some 1, some 2, some 3, some 4, some 9] _ _ ⟨by omega⟩ ⟨by omega⟩ (by exact bkW) | refine x0C ?_ | refine spC (fun hb => ?_) fun hb => ?_ | refine nilC (fun hb => ?_) ?_ | refine taC ?_ | refine saC ?_ | exact sdV | refine side_and ?_ ?_ | refine drawX_of mixed ?_))
  ·have hjle := leftJ_le (n := r) (by omega) j
   have hk1 := ktz (leftJ r j) h0 (by omega)
   have hk2 := ktz2 (leftJ r j) h0 (by omega)
   have hst := step_bits (n := leftJ r j) h0 (by omega)
   obtain ⟨hl1, hl2⟩ := runLen_le (n := leftJ r j) h0 (by omega)
   have hdec := stepR_lt (n := leftJ r j) h0 (by omega)
   have hlenj := runsN_len (n := r) (j := j) (by omega) h0
   have htk := runsN_take (n := r) (j := j) (by omega) h0
   have hst' : bitop .andNot .u64 ((leftJ r j : Nat) : Int) (shlop .u64 (IntKind.u64.wrap (shlop .u64 1 ((runLen (leftJ r j) - tzF 64 (leftJ r j) : Nat) : Int) - 1)) ((tzF 64 (leftJ r j) : Nat) : Int)) = ((leftJ r (j + 1) : Nat) : Int) := hst
   have hne : ¬ ((leftJ r j : Nat) : Int) = 0 := by omega
   have hdec2 : leftJ r (j + 1) < leftJ r j := hdec
   generalize hM : (runLen (leftJ r j) - tzF 64 (leftJ r j) : Nat) = M at *
   have hW : List.map anyW [.s w_at, .n (i : Int), .n ((tzF 64 (leftJ r j) : Nat) : Int), .n (((tzF 64 (leftJ r j) : Nat) : Int) + (M : Int) - 1)] = runW i (runAt (leftJ r j)) := by
    simp only [List.map, anyW, runW, runAt]
    rw [show ((tzF 64 (leftJ r j) : Nat) : Int) + (M : Int) - 1 = ((runLen (leftJ r j) - 1 : Nat) : Int) by omega]
   have hO : ∀ x ∈ [AnyV.s w_at, .n (i : Int), .n ((tzF 64 (leftJ r j) : Nat) : Int), .n (((tzF 64 (leftJ r j) : Nat) : Int) + (M : Int) - 1)], AnyOK x := fun x hx => by
    simp at hx; rcases hx with rfl | rfl | rfl | rfl <;> simp only [AnyOK] <;> omega
   have hsj := flat_take_len (runW i) (runsN r) j
   cases j with
   | zero =>
    have p2 := putN _ _ _ rfl (rowsK1 ws g.rows i) hO (by simp; omega)
    have hV : rowsK1 ws g.rows i ++ List.map anyW [.s w_at, .n (i : Int), .n ((tzF 64 (leftJ r 0) : Nat) : Int), .n (((tzF 64 (leftJ r 0) : Nat) : Int) + (M : Int) - 1)] = rowsK1 ws g.rows i ++ ((runsN r).take (0 + 1)).flatMap (runW i) := by
     rw [hW, htk]; simp
    have hVl := congrArg List.length hV
    rw [List.length_append, List.length_map] at hVl
    have hst0 : bitop .andNot .u64 ((leftJ r 0 : Nat) : Int) (shlop .u64 (IntKind.u64.wrap (shlop .u64 1 (M : Int) - 1)) ((tzF 64 (leftJ r 0) : Nat) : Int)) = ((leftJ r 1 : Nat) : Int) := hst'
    have hdec1 : leftJ r 1 < leftJ r 0 := hdec2
    (repeat' ((conv => whnf); first | (exfalso; omega) | refine cpC (hk1) ?_ | refine dpC (hk1) ?_ | refine cpC (hk2) ?_ | refine dpC (hk2) ?_ | (refine yield_in Ax tab_ok rfl rfl rfl 200 200 ?_) | (refine callh [some 0, some 5, some 9] p2 rfl rfl ⟨rfl, rfl, rfl, trivial⟩ ?_) | refine hK' 1 [some 0, some 1, some 2, some 3, some 4, some 5, some 6, some 7, some 8, some 10] _ _ ⟨by omega⟩ ⟨by omega⟩ (by exact bkW) | refine x0C ?_ | refine spC (fun hb => ?_) fun hb => ?_ | refine nilC (fun hb => ?_) ?_ | refine taC ?_ | refine saC ?_ | exact sdV | refine side_and ?_ ?_ | refine drawX_of mixed ?_))
   | succ j =>
    have p2 := putN _ _ _ rfl (rowsK1 ws g.rows i ++ ((runsN r).take (j + 1)).flatMap (runW i)) hO (by rw [List.length_append]; simp only [List.length_cons, List.length_nil]; omega)
    have hV : (rowsK1 ws g.rows i ++ ((runsN r).take (j + 1)).flatMap (runW i)) ++ List.map anyW [.s w_at, .n (i : Int), .n ((tzF 64 (leftJ r (j + 1)) : Nat) : Int), .n (((tzF 64 (leftJ r (j + 1)) : Nat) : Int) + (M : Int) - 1)] = rowsK1 ws g.rows i ++ ((runsN r).take (j + 1 + 1)).flatMap (runW i) := by
     rw [hW, htk]; simp [List.append_assoc]
    have hVl := congrArg List.length hV
    rw [List.length_append, List.length_map] at hVl
    (repeat' ((conv => whnf); first | (exfalso; omega) | refine cpC (hk1) ?_ | refine dpC (hk1) ?_ | refine cpC (hk2) ?_ | refine dpC (hk2) ?_ | (refine yield_in Ax tab_ok rfl rfl rfl 200 200 ?_) | (refine callh [some 0, some 9, some 10] p2 rfl rfl ⟨rfl, rfl, rfl, trivial⟩ ?_) | refine hK' (j + 2) [some 0, some 1, some 2, some 3, some 4, some 5, some 6, some 7, some 8, some 11] _ _ ⟨by omega⟩ ⟨by omega⟩ (by exact bkW) | refine x0C ?_ | refine spC (fun hb => ?_) fun hb => ?_ | refine nilC (fun hb => ?_) ?_ | refine taC ?_ | refine saC ?_ | exact sdV | refine side_and ?_ ?_ | refine drawX_of mixed ?_))
 ·have hV : rowsK1 ws g.rows i = ws ++ [w_see] ++ rowsW 0 g.rows := by unfold rowsK1; rw [List.take_of_length_le (by omega)]
  have hsz := rowsW_take_len g.rows i
  have hO : ∀ x ∈ [AnyV.s w_from, .n g.from_, .s w_to, .n g.to_, .s w_sun, .n g.low, .s w_to, .n g.high], AnyOK x := fun x hx => by
   have b1 := hbd g.from_ (by simp)
   have b2 := hbd g.to_ (by simp)
   have b3 := hbd g.low (by simp)
   have b4 := hbd g.high (by simp)
   simp at hx; rcases hx with rfl | rfl | rfl | rfl | rfl | rfl | rfl | rfl <;> simp only [AnyOK] <;> omega
  have p3 := putN _ _ _ rfl (rowsK1 ws g.rows i) hO (by rw [hV]; simp [seeW] at *; omega)
  have p4 := chooseM ((rowsK1 ws g.rows i).length + [AnyV.s w_from, .n g.from_, .s w_to, .n g.to_, .s w_sun, .n g.low, .s w_to, .n g.high].length) g.clear w_clear w_any (rowsK1 ws g.rows i ++ List.map anyW [AnyV.s w_from, .n g.from_, .s w_to, .n g.to_, .s w_sun, .n g.low, .s w_to, .n g.high]) (by rw [List.length_append, List.length_map]) (by rw [hV]; simp [seeW] at *; omega)
  have hF : (rowsK1 ws g.rows i ++ List.map anyW [AnyV.s w_from, .n g.from_, .s w_to, .n g.to_, .s w_sun, .n g.low, .s w_to, .n g.high]) ++ [if g.clear then w_clear else w_any] = ws ++ seeW g := by
   rw [hV]; simp [seeW, anyW, List.append_assoc]
  have hFl := congrArg List.length hF
  simp only [List.length_append, List.length_map] at hFl
  (repeat' ((conv => whnf); first | (exfalso; omega) | (refine callh [some 0, some 5, some 6] p3 rfl rfl ⟨rfl, rfl, rfl, trivial⟩ ?_) | (refine callh [some 0, some 7] p4 rfl rfl ⟨rfl, rfl, trivial⟩ ?_) | (refine end_fn [some 0, some 1, some 8] (.inr rfl) ?_ ?_ rfl rfl; (focus exact vwV); exact hsW) | refine x0C ?_ | refine spC (fun hb => ?_) fun hb => ?_ | refine nilC (fun hb => ?_) ?_ | refine taC ?_ | refine saC ?_ | exact sdV | refine side_and ?_ ?_ | refine drawX_of mixed ?_))
end Go.SX

/-
 Plain: the words of the parts of a goal.
-/
namespace Go.SX
theorem goalW_eq (g : Goal) : goalW g = if g.kind = 1 then seeW g else if g.kind = 2 ∨ g.kind = 3 ∨ g.kind = 4 then headW g ++ firstW g.kids else [if g.kind = 5 then w_all else w_any, w_open] ++ kidsW (decide (g.kind = 6)) true g.cents g.kids ++ [w_close] := by
 cases g; rw [goalW]
theorem kidsW_append (any : Bool) : ∀ (a b : List Goal) (f : Bool) (c : List Int), kidsW any f c (a ++ b) = kidsW any f c a ++ kidsW any (f && a.isEmpty) (c.drop a.length) b
 | [], b, f, c => by simp [kidsW]
 | k :: a, b, f, c => by
  rw [List.cons_append, kidsW, kidsW, kidsW_append any a b false c.tail]
  simp [List.append_assoc]
theorem kidsW_snoc (any : Bool) (a : List Goal) (k : Goal) (c : List Int) : kidsW any true c (a ++ [k]) = kidsW any true c a ++ ((if a.isEmpty then [] else [w_comma]) ++ (if any then [itoaW (c.getD a.length 0)] else []) ++ goalW k) := by
 rw [kidsW_append, kidsW, kidsW]
 have : (c.drop a.length).headD 0 = c.getD a.length 0 := by
  rw [List.getD_eq_getElem?_getD, List.headD_eq_head?_getD, List.head?_drop]
 rw [this]
 simp
theorem kidsW_take_len (any : Bool) (c : List Int) (l : List Goal) (i : Nat) : (kidsW any true c (l.take i)).length ≤ (kidsW any true c l).length := by
 have : kidsW any true c l = kidsW any true c (l.take i) ++ kidsW any (true && (l.take i).isEmpty) (c.drop (l.take i).length) (l.drop i) := by rw [← kidsW_append, List.take_append_drop]
 rw [this]; simp
/-! what a valid goal holds -/
theorem sizeG_parts {g : Goal} {d n : Int} (h : sizeG g d = some n) : d ≤ 4 ∧ okB g = true ∧ ∃ m, sizeL g.kids (d + 1) = some m ∧ n = 1 + m := by
 rw [sizeG_eq] at h
 split at h
 ·cases h
 ·rename_i hc
  simp only [Bool.or_eq_true, decide_eq_true_eq, Bool.not_eq_true', not_or, Bool.not_eq_false] at hc
  refine ⟨by omega, hc.2, ?_⟩
  cases hs : sizeL g.kids (d + 1) with
  | none => rw [hs] at h; cases h
  | some m => rw [hs] at h; injection h with h; exact ⟨m, rfl, h.symm⟩
theorem sizeL_mem : ∀ {l : List Goal} {d m : Int} {k : Goal}, sizeL l d = some m → k ∈ l → ∃ n, sizeG k d = some n
 | [], d, m, k, h, hk => by cases hk
 | a :: l, d, m, k, h, hk => by
  rw [sizeL] at h
  cases ha : sizeG a d with
  | none => rw [ha] at h; cases h
  | some x =>
   rw [ha] at h
   cases hl : sizeL l d with
   | none => rw [hl] at h; cases h
   | some y =>
    rcases List.mem_cons.1 hk with rfl | hk
    ·exact ⟨x, ha⟩
    ·exact sizeL_mem hl hk
structure OkG (g : Goal) : Prop where
 kind : 1 ≤ g.kind ∧ g.kind ≤ 6
 lim : limB g = true
 plain : plainB g (restG g) = true
 parts : partsB g = true
theorem okG {g : Goal} (h : okB g = true) : OkG g := by
 simp only [okB, Bool.and_eq_true] at h
 exact ⟨(inB_iff _ _ _).1 h.1.1.1, h.1.2, h.1.1.2, h.2⟩
theorem OkG.see {g : Goal} (h : OkG g) (hk : g.kind = 1) : areaB g.rows = true ∧ (0 ≤ g.from_ ∧ g.from_ ≤ 1000000) ∧ (g.from_ + 1 ≤ g.to_ ∧ g.to_ ≤ 1000000) ∧ (0 ≤ g.low ∧ g.low ≤ 90) ∧ (g.low ≤ g.high ∧ g.high ≤ 90) ∧ g.kids = [] ∧ g.cents = [] := by
 have h1 := h.lim
 have h2 := h.parts
 unfold limB at h1
 rw [if_pos hk] at h1
 simp only [Bool.and_eq_true, inB_iff] at h1
 simp only [partsB, manyB, centsB, hk, if_pos, Bool.and_eq_true] at h2
 simp only [show ¬ ((1 : Int) = 6) by decide, if_neg, decide_eq_true_eq, not_false_iff] at h2
 obtain ⟨⟨⟨h3, h4⟩, _⟩, _⟩ := h2
 exact ⟨h1.1.1.1.1.1, h1.1.1.1.2, h1.1.1.2, h1.1.2, h1.2, List.eq_nil_of_length_eq_zero (by simpa using h3), List.eq_nil_of_length_eq_zero (by simpa using h4)⟩
theorem OkG.one {g : Goal} (h : OkG g) (hk : g.kind = 2 ∨ g.kind = 3 ∨ g.kind = 4) : g.kids.length = 1 ∧ g.cents = [] := by
 have h2 := h.parts
 have n1 : ¬ g.kind = 1 := by omega
 have n2 : ¬ (g.kind = 5 ∨ g.kind = 6) := by omega
 have n3 : ¬ g.kind = 6 := by omega
 simp only [partsB, manyB, centsB, if_neg n1, if_neg n2, if_neg n3, Bool.and_eq_true, decide_eq_true_eq] at h2
 obtain ⟨⟨⟨h3, h4⟩, _⟩, _⟩ := h2
 exact ⟨by omega, List.eq_nil_of_length_eq_zero (by omega)⟩
theorem OkG.many {g : Goal} (h : OkG g) (hk : g.kind = 5 ∨ g.kind = 6) : 2 ≤ g.kids.length ∧ g.kids.length ≤ 4 ∧ (g.kind = 6 → g.cents.length = g.kids.length ∧ ∀ c ∈ g.cents, 0 ≤ c ∧ c ≤ 1000000000) ∧ (g.kind = 5 → g.cents = []) := by
 have h2 := h.parts
 have n1 : ¬ g.kind = 1 := by omega
 simp only [partsB, manyB, centsB, if_neg n1, if_pos hk, Bool.and_eq_true, inB_iff] at h2
 obtain ⟨⟨⟨h3, h4⟩, _⟩, _⟩ := h2
 refine ⟨by omega, by omega, fun h6 => ?_, fun h5 => ?_⟩
 ·rw [if_pos h6] at h4
  simp only [Bool.and_eq_true, decide_eq_true_eq, Bool.not_eq_true', List.any_eq_false] at h4
  refine ⟨by omega, fun c hc => ?_⟩
  have := h4.2 c hc
  exact (inB_iff _ _ _).1 (by simpa using this)
 ·rw [if_neg (by omega)] at h4
  simp only [decide_eq_true_eq] at h4
  exact List.eq_nil_of_length_eq_zero (by omega)
theorem OkG.lim2 {g : Goal} (h : OkG g) (hk : g.kind = 2) : (1 ≤ g.low ∧ g.low ≤ 8) ∧ (1 ≤ g.within ∧ g.within ≤ 1000000) := by
 have h1 := h.lim
 unfold limB at h1
 rw [if_neg (by omega), if_pos hk] at h1
 simpa only [Bool.and_eq_true, inB_iff] using h1
theorem OkG.lim3 {g : Goal} (h : OkG g) (hk : g.kind = 3) : (1 ≤ g.days ∧ g.days ≤ 60) ∧ (1 ≤ g.times ∧ g.times ≤ 6) ∧ (0 ≤ g.within ∧ g.within ≤ 1440 * g.days) ∧ (0 ≤ g.from_ ∧ g.from_ ≤ 1000000) := by
 have h1 := h.lim
 unfold limB at h1
 rw [if_neg (by omega), if_neg (by omega), if_pos hk] at h1
 simp only [Bool.and_eq_true, inB_iff] at h1
 exact ⟨h1.1.1.1, h1.1.1.2, h1.1.2, h1.2⟩
theorem OkG.lim4 {g : Goal} (h : OkG g) (hk : g.kind = 4) : 0 ≤ g.within ∧ g.within ≤ 1000000 := by
 have h1 := h.lim
 unfold limB at h1
 rw [if_neg (by omega), if_neg (by omega), if_neg (by omega), if_pos hk] at h1
 simpa only [inB_iff] using h1
end Go.SX

namespace Go.SX
open Go.Proofs
set_option maxHeartbeats 4000000
set_option maxRecDepth 100000
theorem wseeM (m : Nat) (g : Goal) (hk : g.kind = 1) (hG : GLen g) (hr : areaB g.rows = true) (ws : List Wd) (hm : m = ws.length) (hn : m + (seeW g).length ≤ 100000)
  (hbd : ∀ n ∈ [g.from_, g.to_, g.low, g.high], -9223372036854775808 ≤ n ∧ n ≤ 9223372036854775807) :
  Meets Tryz.prog Dc 39 [.ptr 0 0, goalA g] (writHn m ws) (.tuple []) (writD (m + (seeW g).length) (ws ++ seeW g)) := by
 subst hm; exact wsee g hk hG hr ws hn hbd
/-- a goal with one part -/
theorem wone (g : Goal) (m : Nat) (ws : List Wd) (hm : m = ws.length) (hok : OkG g) (hkl : (g.kids.length : Int) = 1) (hn : m + (headW g).length + (goalW (g.kids.getD (Int.toNat 0) (Cd.dflt U.goal))).length ≤ 100000) (hk : g.kind = 2 ∨ g.kind = 3 ∨ g.kind = 4)
  (ih : ∀ (m : Nat) (ws : List Wd), m = ws.length → m + (goalW (g.kids.getD (Int.toNat 0) (Cd.dflt U.goal))).length ≤ 100000 → Meets Tryz.prog Dc 39 [.ptr 0 0, goalA (g.kids.getD (Int.toNat 0) (Cd.dflt U.goal))] (writHn m ws) (.tuple []) (writD (m + (goalW (g.kids.getD (Int.toNat 0) (Cd.dflt U.goal))).length) (ws ++ goalW (g.kids.getD (Int.toNat 0) (Cd.dflt U.goal))))) :
  Meets Tryz.prog Dc 39 [.ptr 0 0, goalA g] (writHn m ws) (.tuple []) (writD (m + (headW g).length + (goalW (g.kids.getD (Int.toNat 0) (Cd.dflt U.goal))).length) (ws ++ headW g ++ goalW (g.kids.getD (Int.toNat 0) (Cd.dflt U.goal)))) := by
 rcases hk with hk | hk | hk
 ·obtain ⟨b1, b2⟩ := hok.lim2 hk
  have hL : List.map anyW [AnyV.s w_pair, .s w_looks, .n g.low, .s w_within, .n g.within, .s w_of] = headW g := by unfold headW; rw [if_pos hk]; rfl
  have hlen : (headW g).length = 6 := by rw [← hL]; rfl
  have p1 := putM m [AnyV.s w_pair, .s w_looks, .n g.low, .s w_within, .n g.within, .s w_of] _ _ rfl ws (fun x hx => by
   simp at hx; rcases hx with rfl | rfl | rfl | rfl | rfl | rfl <;> simp only [AnyOK] <;> omega) hm (by simp; omega)
  have p2 := ih (m + [AnyV.s w_pair, .s w_looks, .n g.low, .s w_within, .n g.within, .s w_of].length) (ws ++ List.map anyW [AnyV.s w_pair, .s w_looks, .n g.low, .s w_within, .n g.within, .s w_of]) (by rw [List.length_append, List.length_map, hm]) (by have h := hn; rw [hlen] at h; exact h)
  have hfin : ws ++ List.map anyW [AnyV.s w_pair, .s w_looks, .n g.low, .s w_within, .n g.within, .s w_of] ++ goalW (g.kids.getD (Int.toNat 0) (Cd.dflt U.goal)) = ws ++ headW g ++ goalW (g.kids.getD (Int.toNat 0) (Cd.dflt U.goal)) := by rw [hL]
  clear ih hok
  refine meets_of_gx Ax tab_ok Tryz.func39 (c := _) rfl Tryz.call39 600 ?_
  (repeat' ((conv => whnf); first | (exfalso; omega) | (refine callh [some 0, some 1, some 4] p1 rfl rfl ⟨rfl, rfl, rfl, trivial⟩ ?_) | (refine dcallh [some 0, some 5] p2 rfl rfl ⟨rfl, rfl, trivial⟩ ?_) | (refine end_fn [some 0, some 1, some 6] (.inl rfl) ?_ ?_ rfl rfl; (focus exact vwV); exact hsW) | refine x0C ?_ | refine spC (fun hb => ?_) fun hb => ?_ | refine nilC (fun hb => ?_) ?_ | refine taC ?_ | refine saC ?_ | exact sdV | refine side_and ?_ ?_ | refine drawX_of mixed ?_))
 ·obtain ⟨b1, b2, b3, b4⟩ := hok.lim3 hk
  have hL : List.map anyW [AnyV.s w_every, .n g.days, .s w_days, .n g.times, .s w_times, .s w_apart, .n g.within, .s w_from, .n g.from_, .s w_of] = headW g := by unfold headW; rw [if_neg (by omega), if_pos hk]; rfl
  have hlen : (headW g).length = 10 := by rw [← hL]; rfl
  have p1 := putM m [AnyV.s w_every, .n g.days, .s w_days, .n g.times, .s w_times, .s w_apart, .n g.within, .s w_from, .n g.from_, .s w_of] _ _ rfl ws (fun x hx => by
   simp at hx; rcases hx with rfl | rfl | rfl | rfl | rfl | rfl | rfl | rfl | rfl | rfl <;> simp only [AnyOK] <;> omega) hm (by simp; omega)
  have p2 := ih (m + [AnyV.s w_every, .n g.days, .s w_days, .n g.times, .s w_times, .s w_apart, .n g.within, .s w_from, .n g.from_, .s w_of].length) (ws ++ List.map anyW [AnyV.s w_every, .n g.days, .s w_days, .n g.times, .s w_times, .s w_apart, .n g.within, .s w_from, .n g.from_, .s w_of]) (by rw [List.length_append, List.length_map, hm]) (by have h := hn; rw [hlen] at h; exact h)
  have hfin : ws ++ List.map anyW [AnyV.s w_every, .n g.days, .s w_days, .n g.times, .s w_times, .s w_apart, .n g.within, .s w_from, .n g.from_, .s w_of] ++ goalW (g.kids.getD (Int.toNat 0) (Cd.dflt U.goal)) = ws ++ headW g ++ goalW (g.kids.getD (Int.toNat 0) (Cd.dflt U.goal)) := by rw [hL]
  clear ih hok
  refine meets_of_gx Ax tab_ok Tryz.func39 (c := _) rfl Tryz.call39 600 ?_
  (repeat' ((conv => whnf); first | (exfalso; omega) | (refine callh [some 0, some 1, some 4] p1 rfl rfl ⟨rfl, rfl, rfl, trivial⟩ ?_) | (refine dcallh [some 0, some 5] p2 rfl rfl ⟨rfl, rfl, trivial⟩ ?_) | (refine end_fn [some 0, some 1, some 6] (.inl rfl) ?_ ?_ rfl rfl; (focus exact vwV); exact hsW) | refine x0C ?_ | refine spC (fun hb => ?_) fun hb => ?_ | refine nilC (fun hb => ?_) ?_ | refine taC ?_ | refine saC ?_ | exact sdV | refine side_and ?_ ?_ | refine drawX_of mixed ?_))
 ·obtain ⟨b1, b2⟩ := hok.lim4 hk
  have hL : List.map anyW [AnyV.s w_deliver, .s w_within, .n g.within, .s w_of] = headW g := by unfold headW; rw [if_neg (by omega), if_neg (by omega)]; rfl
  have hlen : (headW g).length = 4 := by rw [← hL]; rfl
  have p1 := putM m [AnyV.s w_deliver, .s w_within, .n g.within, .s w_of] _ _ rfl ws (fun x hx => by
   simp at hx; rcases hx with rfl | rfl | rfl | rfl <;> simp only [AnyOK] <;> omega) hm (by simp; omega)
  have p2 := ih (m + [AnyV.s w_deliver, .s w_within, .n g.within, .s w_of].length) (ws ++ List.map anyW [AnyV.s w_deliver, .s w_within, .n g.within, .s w_of]) (by rw [List.length_append, List.length_map, hm]) (by have h := hn; rw [hlen] at h; exact h)
  have hfin : ws ++ List.map anyW [AnyV.s w_deliver, .s w_within, .n g.within, .s w_of] ++ goalW (g.kids.getD (Int.toNat 0) (Cd.dflt U.goal)) = ws ++ headW g ++ goalW (g.kids.getD (Int.toNat 0) (Cd.dflt U.goal)) := by rw [hL]
  clear ih hok
  refine meets_of_gx Ax tab_ok Tryz.func39 (c := _) rfl Tryz.call39 600 ?_
  (repeat' ((conv => whnf); first | (exfalso; omega) | (refine callh [some 0, some 1, some 4] p1 rfl rfl ⟨rfl, rfl, rfl, trivial⟩ ?_) | (refine dcallh [some 0, some 5] p2 rfl rfl ⟨rfl, rfl, trivial⟩ ?_) | (refine end_fn [some 0, some 1, some 6] (.inl rfl) ?_ ?_ rfl rfl; (focus exact vwV); exact hsW) | refine x0C ?_ | refine spC (fun hb => ?_) fun hb => ?_ | refine nilC (fun hb => ?_) ?_ | refine taC ?_ | refine saC ?_ | exact sdV | refine side_and ?_ ?_ | refine drawX_of mixed ?_))
def kidsP (g : Goal) (ws : List Wd) (i : Nat) : List Wd := ws ++ [if (decide (g.kind = 5)) = true then w_all else w_any] ++ [w_open] ++ kidsW (decide (g.kind = 6)) true g.cents (g.kids.take i)
theorem kidsP_succ (g : Goal) (ws : List Wd) {i : Nat} (h : i < g.kids.length) : kidsP g ws (i + 1) = kidsP g ws i ++ ((if i = 0 then [] else [w_comma]) ++ (if g.kind = 6 then [itoaW (g.cents.getD i 0)] else []) ++ goalW (g.kids.getD (i : Int).toNat (Cd.dflt U.goal))) := by
 unfold kidsP
 rw [take_getD (d := Cd.dflt U.goal) h, kidsW_snoc, List.length_take, Nat.min_eq_left (by omega)]
 have e1 : (g.kids.take i).isEmpty = decide (i = 0) := by
  cases i with
  | zero => simp
  | succ i => cases hk : g.kids with
   | nil => rw [hk] at h; simp at h
   | cons a l => simp
 rw [e1]
 have e2 : g.kids.getD (i : Int).toNat (Cd.dflt U.goal) = g.kids.getD i (Cd.dflt U.goal) := rfl
 rw [e2]
 by_cases h0 : i = 0 <;> by_cases h6 : g.kind = 6 <;> simp [h0, h6, List.append_assoc]
theorem wmany (g : Goal) (m : Nat) (ws : List Wd) (hm : m = ws.length) (hok : OkG g) (hn : m + (goalW g).length ≤ 100000) (hk : g.kind = 5 ∨ g.kind = 6)
  (ih : ∀ k ∈ g.kids, ∀ (m : Nat) (ws : List Wd), m = ws.length → m + (goalW k).length ≤ 100000 → Meets Tryz.prog Dc 39 [.ptr 0 0, goalA k] (writHn m ws) (.tuple []) (writD (m + (goalW k).length) (ws ++ goalW k))) :
  Meets Tryz.prog Dc 39 [.ptr 0 0, goalA g] (writHn m ws) (.tuple []) (writD (m + (goalW g).length) (ws ++ goalW g)) := by
 obtain ⟨k2, k4, hc6, hc5⟩ := hok.many hk
 have hend : kidsP g ws g.kids.length ++ [w_close] = ws ++ goalW g := by
  rw [goalW_eq, if_neg (by omega), if_neg (by omega)]
  unfold kidsP
  rw [List.take_length]
  rcases hk with hk | hk <;> simp [hk, List.append_assoc]
 have hendl := congrArg List.length hend
 rw [List.length_append, List.length_append] at hendl
 have hpre : ∀ i, i ≤ g.kids.length → (kidsP g ws i).length ≤ (kidsP g ws g.kids.length).length := fun i _ => by
  unfold kidsP
  have := kidsW_take_len (decide (g.kind = 6)) g.cents g.kids i
  rw [List.take_length]
  simp only [List.length_append]
  omega
 have p1 := chooseM m (decide (g.kind = 5)) w_all w_any ws hm (by omega)
 have p2 := putM (m + 1) [.s w_open] _ _ rfl (ws ++ [if (decide (g.kind = 5)) = true then w_all else w_any]) (fun x hx => by simp at hx; subst hx; trivial) (by rw [List.length_append, hm]; rfl) (by simp; omega)
 have w0 : ws ++ [if (decide (g.kind = 5)) = true then w_all else w_any] ++ List.map anyW [AnyV.s w_open] = kidsP g ws 0 := by simp [kidsP, kidsW, anyW]
 have w0l : (kidsP g ws 0).length = m + 2 := by rw [← w0, hm]; simp
 have p9 : ∀ i, i = g.kids.length → Meets Tryz.prog Dc 37 [.ptr 0 0, .slice 2 0 1 0 [AnyV.s w_close].length] (putHn (kidsP g ws i).length (kidsP g ws i) [.s w_close]) (.tuple []) (putD ((kidsP g ws i).length + [AnyV.s w_close].length) (kidsP g ws i ++ List.map anyW [AnyV.s w_close]) [.s w_close]) := fun i hi =>
  putM (kidsP g ws i).length [.s w_close] _ _ rfl (kidsP g ws i) (fun x hx => by simp at hx; subst hx; trivial) rfl (by have := hpre i (by omega); simp at *; omega)
 refine meets_of_gx Ax tab_ok Tryz.func39 (c := _) rfl Tryz.call39 600 ?_
 (repeat' ((conv => whnf); first | (exfalso; omega) | (refine callh [some 0, some 1] p1 rfl rfl ⟨rfl, rfl, trivial⟩ ?_) | (refine callh [some 0, some 4, some 5] p2 rfl rfl ⟨rfl, rfl, rfl, trivial⟩ ?_) | refine x0C ?_ | refine spC (fun hb => ?_) fun hb => ?_ | refine nilC (fun hb => ?_) ?_ | refine taC ?_ | refine saC ?_ | exact sdV | refine side_and ?_ ?_ | refine drawX_of mixed ?_))
 refine loop_up (fun i : Nat => [(24, iS i)]) (fun i => [(0, .vart none [.slice 6 0 1 0 (kidsP g ws i).length]), (6, .rows U.str (kidsP g ws i))]) (fun i => i ≤ g.kids.length) (fun i => g.kids.length - i) 0 (Nat.zero_le _) (by exact bkW) ?_
 intro i hi K hK
 rcases Nat.lt_or_ge i g.kids.length with hlt | hge
 ·have hmem : g.kids.getD (i : Int).toNat (Cd.dflt U.goal) ∈ g.kids := List.mem_of_getElem? (getD_some (d := Cd.dflt U.goal) hlt)
  have hs := kidsP_succ g ws hlt
  have hsl := congrArg List.length hs
  have hp1 := hpre (i + 1) hlt
  have ihk := ih _ hmem
  clear ih p1 p2 p9
  have hcb : ∀ hk6 : g.kind = 6, AnyOK (.n (g.cents.getD (i : Int).toNat (Cd.dflt U.int))) := fun hk6 => by
   have := (hc6 hk6).2 _ (List.mem_of_getElem? (getD_some (d := Cd.dflt U.int) (show i < g.cents.length by have := (hc6 hk6).1; omega)))
   exact ⟨Int.le_trans (by decide) this.1, Int.le_trans this.2 (by decide)⟩
  have hcl : g.kind = 6 → g.cents.length = g.kids.length := fun h => (hc6 h).1
  clear hsl
  have hl1 : [w_close].length = 1 := rfl
  cases i with
  | zero =>
   rcases hk with hk | hk
   ·have hsl : (kidsP g ws (0 + 1)).length = (kidsP g ws (0)).length + 0 + (goalW (g.kids.getD ((0 : Nat) : Int).toNat (Cd.dflt U.goal))).length := by rw [hs]; simp [hk]; try omega
    have hq : ((kidsP g ws 0).length) + (goalW (g.kids.getD ((0 : Nat) : Int).toNat (Cd.dflt U.goal))).length ≤ 100000 := by (show ((kidsP g ws 0).length) + (goalW (g.kids.getD ((0 : Nat) : Int).toNat (Cd.dflt U.goal))).length ≤ 100000; omega)
    have qg := ihk ((kidsP g ws 0).length) ((kidsP g ws 0)) (by simp) hq
    have hfin : (kidsP g ws 0) ++ goalW (g.kids.getD ((0 : Nat) : Int).toNat (Cd.dflt U.goal)) = kidsP g ws (0 + 1) := by rw [hs]; simp [hk, List.append_assoc]
    have hfl := congrArg List.length hfin
    simp only [List.length_append, List.length_map] at hfl
    clear ihk
    (repeat' ((conv => whnf); first | (exfalso; omega) | (refine callh [some 0, some 6] qg rfl rfl ⟨rfl, rfl, trivial⟩ ?_) | refine hK (0 + 1) [some 0, some 1, some 2, some 3, some 4, some 5, some 8] _ _ ⟨by omega⟩ ⟨by omega⟩ (by exact bkW) | refine x0C ?_ | refine spC (fun hb => ?_) fun hb => ?_ | refine nilC (fun hb => ?_) ?_ | refine taC ?_ | refine saC ?_ | exact sdV | refine side_and ?_ ?_ | refine drawX_of mixed ?_))
   ·have hcb := hcb hk
    have hcl := hcl hk
    have hsl : (kidsP g ws (0 + 1)).length = (kidsP g ws (0)).length + 1 + (goalW (g.kids.getD ((0 : Nat) : Int).toNat (Cd.dflt U.goal))).length := by rw [hs]; simp [hk]; try omega
    have q0 := putM ((kidsP g ws 0).length) [AnyV.n (g.cents.getD ((0 : Nat) : Int).toNat (Cd.dflt U.int))] _ _ rfl ((kidsP g ws 0)) (fun x hx => by simp at hx; subst hx; exact hcb) (by simp) (by simp only [List.length_cons, List.length_nil]; omega)
    have hq : ((kidsP g ws 0).length + [AnyV.n (g.cents.getD ((0 : Nat) : Int).toNat (Cd.dflt U.int))].length) + (goalW (g.kids.getD ((0 : Nat) : Int).toNat (Cd.dflt U.goal))).length ≤ 100000 := by (show ((kidsP g ws 0).length + 1) + (goalW (g.kids.getD ((0 : Nat) : Int).toNat (Cd.dflt U.goal))).length ≤ 100000; omega)
    have qg := ihk ((kidsP g ws 0).length + [AnyV.n (g.cents.getD ((0 : Nat) : Int).toNat (Cd.dflt U.int))].length) ((kidsP g ws 0) ++ List.map anyW [AnyV.n (g.cents.getD ((0 : Nat) : Int).toNat (Cd.dflt U.int))]) (by simp) hq
    have hfin : (kidsP g ws 0) ++ List.map anyW [AnyV.n (g.cents.getD ((0 : Nat) : Int).toNat (Cd.dflt U.int))] ++ goalW (g.kids.getD ((0 : Nat) : Int).toNat (Cd.dflt U.goal)) = kidsP g ws (0 + 1) := by rw [hs]; simp [hk, anyW, List.append_assoc]; try rfl
    have hfl := congrArg List.length hfin
    simp only [List.length_append, List.length_map] at hfl
    clear ihk
    (repeat' ((conv => whnf); first | (exfalso; omega) | (refine dcallh [some 0, some 6, some 8] q0 rfl rfl ⟨rfl, rfl, rfl, trivial⟩ ?_) | (refine callh [some 0, some 9] qg rfl rfl ⟨rfl, rfl, trivial⟩ ?_) | refine hK (0 + 1) [some 0, some 1, some 2, some 3, some 4, some 5, some 10] _ _ ⟨by omega⟩ ⟨by omega⟩ (by exact bkW) | refine x0C ?_ | refine spC (fun hb => ?_) fun hb => ?_ | refine nilC (fun hb => ?_) ?_ | refine taC ?_ | refine saC ?_ | exact sdV | refine side_and ?_ ?_ | refine drawX_of mixed ?_))
  | succ i =>
   rcases hk with hk | hk
   ·have hsl : (kidsP g ws (i + 1 + 1)).length = (kidsP g ws (i + 1)).length + 1 + (goalW (g.kids.getD ((i + 1 : Nat) : Int).toNat (Cd.dflt U.goal))).length := by rw [hs]; simp [hk]; try omega
    have q0 := putM ((kidsP g ws (i + 1)).length) [AnyV.s w_comma] _ _ rfl ((kidsP g ws (i + 1))) (fun x hx => by simp at hx; subst hx; trivial) (by simp) (by simp only [List.length_cons, List.length_nil]; omega)
    have hq : ((kidsP g ws (i + 1)).length + [AnyV.s w_comma].length) + (goalW (g.kids.getD ((i + 1 : Nat) : Int).toNat (Cd.dflt U.goal))).length ≤ 100000 := by (show ((kidsP g ws (i + 1)).length + 1) + (goalW (g.kids.getD ((i + 1 : Nat) : Int).toNat (Cd.dflt U.goal))).length ≤ 100000; omega)
    have qg := ihk ((kidsP g ws (i + 1)).length + [AnyV.s w_comma].length) ((kidsP g ws (i + 1)) ++ List.map anyW [AnyV.s w_comma]) (by simp) hq
    have hfin : (kidsP g ws (i + 1)) ++ List.map anyW [AnyV.s w_comma] ++ goalW (g.kids.getD ((i + 1 : Nat) : Int).toNat (Cd.dflt U.goal)) = kidsP g ws (i + 1 + 1) := by rw [hs]; simp [hk, anyW, List.append_assoc]; try rfl
    have hfl := congrArg List.length hfin
    simp only [List.length_append, List.length_map] at hfl
    clear ihk
    (repeat' ((conv => whnf); first | (exfalso; omega) | (refine callh [some 0, some 6, some 8] q0 rfl rfl ⟨rfl, rfl, rfl, trivial⟩ ?_) | (refine callh [some 0, some 9] qg rfl rfl ⟨rfl, rfl, trivial⟩ ?_) | refine hK (i + 1 + 1) [some 0, some 1, some 2, some 3, some 4, some 5, some 10] _ _ ⟨by omega⟩ ⟨by omega⟩ (by exact bkW) | refine x0C ?_ | refine spC (fun hb => ?_) fun hb => ?_ | refine nilC (fun hb => ?_) ?_ | refine taC ?_ | refine saC ?_ | exact sdV | refine side_and ?_ ?_ | refine drawX_of mixed ?_))
   ·have hcb := hcb hk
    have hcl := hcl hk
    have hsl : (kidsP g ws (i + 1 + 1)).length = (kidsP g ws (i + 1)).length + 2 + (goalW (g.kids.getD ((i + 1 : Nat) : Int).toNat (Cd.dflt U.goal))).length := by rw [hs]; simp [hk]; try omega
    have q0 := putM ((kidsP g ws (i + 1)).length) [AnyV.s w_comma] _ _ rfl ((kidsP g ws (i + 1))) (fun x hx => by simp at hx; subst hx; trivial) (by simp) (by simp only [List.length_cons, List.length_nil]; omega)
    have q1 := putM ((kidsP g ws (i + 1)).length + [AnyV.s w_comma].length) [AnyV.n (g.cents.getD ((i + 1 : Nat) : Int).toNat (Cd.dflt U.int))] _ _ rfl ((kidsP g ws (i + 1)) ++ List.map anyW [AnyV.s w_comma]) (fun x hx => by simp at hx; subst hx; exact hcb) (by simp) (by simp only [List.length_cons, List.length_nil]; omega)
    have hq : ((kidsP g ws (i + 1)).length + [AnyV.s w_comma].length + [AnyV.n (g.cents.getD ((i + 1 : Nat) : Int).toNat (Cd.dflt U.int))].length) + (goalW (g.kids.getD ((i + 1 : Nat) : Int).toNat (Cd.dflt U.goal))).length ≤ 100000 := by (show ((kidsP g ws (i + 1)).length + 1 + 1) + (goalW (g.kids.getD ((i + 1 : Nat) : Int).toNat (Cd.dflt U.goal))).length ≤ 100000; omega)
    have qg := ihk ((kidsP g ws (i + 1)).length + [AnyV.s w_comma].length + [AnyV.n (g.cents.getD ((i + 1 : Nat) : Int).toNat (Cd.dflt U.int))].length) ((kidsP g ws (i + 1)) ++ List.map anyW [AnyV.s w_comma] ++ List.map anyW [AnyV.n (g.cents.getD ((i + 1 : Nat) : Int).toNat (Cd.dflt U.int))]) (by simp) hq
    have hfin : (kidsP g ws (i + 1)) ++ List.map anyW [AnyV.s w_comma] ++ List.map anyW [AnyV.n (g.cents.getD ((i + 1 : Nat) : Int).toNat (Cd.dflt U.int))] ++ goalW (g.kids.getD ((i + 1 : Nat) : Int).toNat (Cd.dflt U.goal)) = kidsP g ws (i + 1 + 1) := by rw [hs]; simp [hk, anyW, List.append_assoc]; try rfl
    have hfl := congrArg List.length hfin
    simp only [List.length_append, List.length_map] at hfl
    clear ihk
    (repeat' ((conv => whnf); first | (exfalso; omega) | (refine callh [some 0, some 6, some 8] q0 rfl rfl ⟨rfl, rfl, rfl, trivial⟩ ?_) | (refine dcallh [some 0, some 9, some 10] q1 rfl rfl ⟨rfl, rfl, rfl, trivial⟩ ?_) | (refine callh [some 0, some 11] qg rfl rfl ⟨rfl, rfl, trivial⟩ ?_) | refine hK (i + 1 + 1) [some 0, some 1, some 2, some 3, some 4, some 5, some 12] _ _ ⟨by omega⟩ ⟨by omega⟩ (by exact bkW) | refine x0C ?_ | refine spC (fun hb => ?_) fun hb => ?_ | refine nilC (fun hb => ?_) ?_ | refine taC ?_ | refine saC ?_ | exact sdV | refine side_and ?_ ?_ | refine drawX_of mixed ?_))
 ·obtain rfl : i = g.kids.length := by omega
  have q := p9 _ rfl
  clear p1 p2 p9 ih
  have hfin : kidsP g ws g.kids.length ++ List.map anyW [AnyV.s w_close] = ws ++ goalW g := hend
  have hl1 : [w_close].length = 1 := rfl
  (repeat' ((conv => whnf); first | (exfalso; omega) | (refine callh [some 0, some 6, some 7] q rfl rfl ⟨rfl, rfl, rfl, trivial⟩ ?_) | (refine end_fn [some 0, some 1, some 8] (.inr rfl) ?_ ?_ rfl rfl; (focus exact vwV); exact hsW) | refine x0C ?_ | refine spC (fun hb => ?_) fun hb => ?_ | refine nilC (fun hb => ?_) ?_ | refine taC ?_ | refine saC ?_ | exact sdV | refine side_and ?_ ?_ | refine drawX_of mixed ?_))
theorem wgoal : ∀ (j : Nat) (g : Goal) (d n : Int), d + j = 5 → sizeG g d = some n → GAll g → ∀ (m : Nat) (ws : List Wd), m = ws.length → m + (goalW g).length ≤ 100000 →
  Meets Tryz.prog Dc 39 [.ptr 0 0, goalA g] (writHn m ws) (.tuple []) (writD (m + (goalW g).length) (ws ++ goalW g))
 | 0, g, d, n, hd, hs, hG, m, ws, hm, hn => by
  have := (sizeG_parts hs).1
  omega
 | j + 1, g, d, n, hd, hs, hG, m, ws, hm, hn => by
  obtain ⟨h4, hok, q, hq, _⟩ := sizeG_parts hs
  have hO := okG hok
  have hG' := (GAll_iff g).1 hG
  have ih : ∀ k ∈ g.kids, ∀ (m : Nat) (ws : List Wd), m = ws.length → m + (goalW k).length ≤ 100000 → Meets Tryz.prog Dc 39 [.ptr 0 0, goalA k] (writHn m ws) (.tuple []) (writD (m + (goalW k).length) (ws ++ goalW k)) := fun k hk m ws hm hn => by
   obtain ⟨z, hz⟩ := sizeL_mem hq hk
   exact wgoal j k (d + 1) z (by omega) hz (GAllL_mem hG'.2 hk) m ws hm hn
  have hkind := hO.kind
  by_cases k1 : g.kind = 1
  ·obtain ⟨s1, s2, s3, s4, s5, _, _⟩ := hO.see k1
   have e : goalW g = seeW g := by rw [goalW_eq, if_pos k1]
   rw [e] at hn ⊢
   refine wseeM m g k1 hG'.1 s1 ws hm hn fun n hn => ?_
   simp at hn
   rcases hn with rfl | rfl | rfl | rfl <;> omega
  ·by_cases k2 : g.kind = 2 ∨ g.kind = 3 ∨ g.kind = 4
   ·obtain ⟨o1, _⟩ := hO.one k2
    have e : goalW g = headW g ++ goalW (g.kids.getD (Int.toNat 0) (Cd.dflt U.goal)) := by
     rw [goalW_eq, if_neg k1, if_pos k2]
     cases hk : g.kids with
     | nil => rw [hk] at o1; simp at o1
     | cons a l => rw [firstW]; rfl
    rw [e] at hn ⊢
    rw [List.length_append] at hn ⊢
    have hmem : g.kids.getD (Int.toNat 0) (Cd.dflt U.goal) ∈ g.kids := by
     cases hk : g.kids with
     | nil => rw [hk] at o1; simp at o1
     | cons a l => exact List.mem_cons_self ..
    rw [← Nat.add_assoc] at hn ⊢
    rw [← List.append_assoc]
    exact wone g m ws hm hO (by omega) hn k2 (ih _ hmem)
   ·exact wmany g m ws hm hO hn (by omega) ih
end Go.SX

/-
 Plain: how many words there are, and how long they are.
-/
namespace Go.SX
theorem itoaF_len : ∀ f n : Nat, (itoaF f n).length ≤ f
 | 0, n => Nat.le_refl _
 | f + 1, n => by
  unfold itoaF
  split
  ·simp
  ·have := itoaF_len f (n / 10); simp; exact this
theorem itoaW_len (n : Int) : (itoaW n).length ≤ 21 := by
 unfold itoaW
 split
 ·have := itoaF_len 20 n.natAbs; simp only [List.length_cons]; omega
 ·have := itoaF_len 20 n.toNat; omega
def Sh (l : List Wd) : Prop := ∀ w ∈ l, w.length ≤ 21
theorem Sh.nil : Sh [] := fun w h => by cases h
theorem Sh.cons {w : Wd} {l : List Wd} (h : w.length ≤ 21) (hl : Sh l) : Sh (w :: l) := fun x hx => by
 rcases List.mem_cons.1 hx with rfl | hx
 ·exact h
 ·exact hl x hx
theorem Sh.app {a b : List Wd} (h : Sh a) (h' : Sh b) : Sh (a ++ b) := fun x hx => by
 rcases List.mem_append.1 hx with hx | hx
 ·exact h x hx
 ·exact h' x hx
theorem runW_sh (y : Nat) (p : Nat × Nat) : Sh (runW y p) := .cons (by decide) (.cons (itoaW_len _) (.cons (itoaW_len _) (.cons (itoaW_len _) .nil)))
theorem flat_sh {α : Type} (f : α → List Wd) (h : ∀ a, Sh (f a)) : ∀ l : List α, Sh (l.flatMap f)
 | [] => .nil
 | a :: l => by rw [List.flatMap_cons]; exact (h a).app (flat_sh f h l)
theorem rowsW_sh : ∀ (y : Nat) (l : List Int), Sh (rowsW y l)
 | _, [] => .nil
 | y, r :: l => (flat_sh _ (runW_sh y) _).app (rowsW_sh (y + 1) l)
theorem seeW_sh (g : Goal) : Sh (seeW g) := by
 unfold seeW
 refine .app (.cons (by decide) (rowsW_sh _ _)) (.cons (by decide) (.cons (itoaW_len _) (.cons (by decide) (.cons (itoaW_len _) (.cons (by decide) (.cons (itoaW_len _) (.cons (by decide) (.cons (itoaW_len _) (.cons ?_ .nil)))))))))
 split <;> decide
theorem headW_sh (g : Goal) : Sh (headW g) := by
 unfold headW
 split
 ·exact .cons (by decide) (.cons (by decide) (.cons (itoaW_len _) (.cons (by decide) (.cons (itoaW_len _) (.cons (by decide) .nil)))))
 ·split
  ·exact .cons (by decide) (.cons (itoaW_len _) (.cons (by decide) (.cons (itoaW_len _) (.cons (by decide) (.cons (by decide) (.cons (itoaW_len _) (.cons (by decide) (.cons (itoaW_len _) (.cons (by decide) .nil)))))))))
  ·exact .cons (by decide) (.cons (by decide) (.cons (itoaW_len _) (.cons (by decide) .nil)))
mutual
theorem goalW_sh : ∀ g : Goal, Sh (goalW g)
 | ⟨kind, rows, from_, to_, low, high, clear, days, times, within, cents, kids⟩ => by
  rw [goalW]
  split
  ·exact seeW_sh _
  ·split
   ·exact (headW_sh _).app (firstW_sh kids)
   ·refine .app (.app (.cons ?_ (.cons (by decide) .nil)) (kidsW_sh _ _ _ kids)) (.cons (by decide) .nil)
    split <;> decide
theorem firstW_sh : ∀ l : List Goal, Sh (firstW l)
 | [] => .nil
 | k :: _ => by rw [firstW]; exact goalW_sh k
theorem kidsW_sh : ∀ (any first : Bool) (cents : List Int) (l : List Goal), Sh (kidsW any first cents l)
 | _, _, _, [] => by rw [kidsW]; exact .nil
 | any, first, cents, k :: l => by
  rw [kidsW]
  refine .app (.app (.app ?_ ?_) (goalW_sh k)) (kidsW_sh any false cents.tail l)
  ·split
   ·exact .nil
   ·exact .cons (by decide) .nil
  ·split
   ·exact .cons (itoaW_len _) .nil
   ·exact .nil
end
theorem joinTail_len {l : List Wd} (h : Sh l) : (Go.Lib.joinTail [32] l).length ≤ 22 * l.length := by
 unfold Go.Lib.joinTail
 induction l with
 | nil => simp
 | cons w l ih =>
  have h1 := h w (List.mem_cons_self ..)
  have h2 := ih fun x hx => h x (List.mem_cons_of_mem _ hx)
  simp only [List.map_cons, List.flatten_cons, List.length_append, List.length_cons, List.length_nil] at *
  omega
theorem joinW_len {l : List Wd} (h : Sh l) : (joinW l).length ≤ 22 * l.length := by
 unfold joinW
 cases l with
 | nil => simp [Go.Lib.join_nil]
 | cons w l =>
  rw [Go.Lib.join_cons]
  have h1 := h w (List.mem_cons_self ..)
  have h2 := joinTail_len (l := l) fun x hx => h x (List.mem_cons_of_mem _ hx)
  simp only [List.length_append, List.length_cons]
  omega
/-! how many words -/
theorem leftJ_dvd {n : Nat} (h : n < 2 ^ 48) : ∀ j : Nat, 2 ^ j ∣ leftJ n j
 | 0 => by simp
 | j + 1 => by
  show 2 ^ (j + 1) ∣ stepR (leftJ n j)
  by_cases h0 : leftJ n j = 0
  ·rw [h0, stepR_zero]; exact Nat.dvd_zero _
  ·have hle := leftJ_le (n := n) (by omega) j
   obtain ⟨a, b, c⟩ := tzF_spec 64 (leftJ n j) h0 (by omega)
   have h1 := (runLen_le h0 (by omega)).1
   have h2 := leftJ_dvd h j
   have h3 : j ≤ tzF 64 (leftJ n j) := by
    rcases Nat.lt_or_ge (tzF 64 (leftJ n j)) j with h4 | h4
    ·exfalso
     obtain ⟨q, hq⟩ := Nat.dvd_trans (Nat.pow_dvd_pow 2 (show tzF 64 (leftJ n j) + 1 ≤ j by omega)) h2
     have h5 : leftJ n j / 2 ^ tzF 64 (leftJ n j) = 2 * q := Nat.div_eq_of_eq_mul_right (Nat.two_pow_pos _) (by rw [← Nat.mul_assoc, ← Nat.pow_succ]; exact hq)
     omega
    ·exact h4
   exact Nat.dvd_trans (Nat.pow_dvd_pow 2 (show j + 1 ≤ runLen (leftJ n j) by omega)) ⟨_, Nat.mul_comm _ _⟩
theorem runsN_le {n : Nat} (h : n < 2 ^ 48) : (runsN n).length ≤ 48 := by
 rcases Nat.lt_or_ge 48 (runsN n).length with h1 | h1
 ·exfalso
  have h2 : leftJ n 48 ≠ 0 := fun e => by have := runsN_end (n := n) (j := 48) (by omega) e; omega
  have h3 := Nat.le_of_dvd (by omega) (leftJ_dvd h 48)
  have h4 := leftJ_le (n := n) (by omega) 48
  omega
 ·exact h1
theorem flat_run_len (y : Nat) : ∀ l : List (Nat × Nat), (l.flatMap (runW y)).length = 4 * l.length
 | [] => rfl
 | p :: l => by rw [List.flatMap_cons, List.length_append, flat_run_len y l]; simp only [runW, List.length_cons, List.length_nil]; omega
theorem rowsW_len : ∀ (y : Nat) (l : List Int), l.all rowOK = true → (rowsW y l).length ≤ 192 * l.length
 | _, [], _ => by simp [rowsW]
 | y, r :: l, h => by
  rw [List.all_cons, Bool.and_eq_true] at h
  have h1 := (inB_iff _ _ _).1 h.1
  have h2 := rowsW_len (y + 1) l h.2
  have h3 := runsN_le (n := r.toNat) (by omega)
  rw [rowsW, List.length_append, show runsF r.toNat r.toNat = runsN r.toNat from rfl, flat_run_len, List.length_cons]
  omega
theorem seeW_len {g : Goal} (h : areaB g.rows = true) : (seeW g).length ≤ 4700 := by
 simp only [areaB, Bool.and_eq_true, decide_eq_true_eq] at h
 have := rowsW_len 0 g.rows h.2
 simp only [seeW, List.length_append, List.length_cons, List.length_nil]
 omega
theorem headW_len (g : Goal) : (headW g).length ≤ 10 := by
 unfold headW
 split
 ·simp
 ·split <;> simp
mutual
theorem goalW_len : ∀ (g : Goal) (d n : Int), sizeG g d = some n → ((goalW g).length : Int) ≤ 5000 * n ∧ 1 ≤ n
 | ⟨kind, rows, from_, to_, low, high, clear, days, times, within, cents, kids⟩, d, n, h => by
  obtain ⟨_, hok, m, hm, rfl⟩ := sizeG_parts h
  have hO := okG hok
  have ih := kidsW_len kids (d + 1) m hm
  have hkind := hO.kind
  rw [goalW]
  by_cases h1 : kind = 1
  ·rw [if_pos h1]
   have := seeW_len (hO.see h1).1
   omega
  ·rw [if_neg h1]
   by_cases h2 : kind = 2 ∨ kind = 3 ∨ kind = 4
   ·rw [if_pos h2, List.length_append]
    have := headW_len ⟨kind, rows, from_, to_, low, high, clear, days, times, within, cents, kids⟩
    have := ih.2.1
    omega
   ·rw [if_neg h2]
    have := ih.1 (decide (kind = 6)) true cents
    have := (hO.many (show kind = 5 ∨ kind = 6 by have : (⟨kind, rows, from_, to_, low, high, clear, days, times, within, cents, kids⟩ : Goal).kind = kind := rfl; omega)).2.1
    have : kids.length ≤ 4 := this
    simp only [List.length_append, List.length_cons, List.length_nil]
    omega
theorem kidsW_len : ∀ (l : List Goal) (d m : Int), sizeL l d = some m → (∀ (any first : Bool) (c : List Int), ((kidsW any first c l).length : Int) ≤ 5000 * m + 2 * l.length) ∧ ((firstW l).length : Int) ≤ 5000 * m ∧ 0 ≤ m
 | [], d, m, h => by
  simp [sizeL] at h
  subst h
  refine ⟨fun a f c => by rw [kidsW]; simp, by rw [firstW]; simp, by omega⟩
 | k :: l, d, m, h => by
  rw [sizeL] at h
  cases ha : sizeG k d with
  | none => rw [ha] at h; cases h
  | some x =>
   rw [ha] at h
   cases hl : sizeL l d with
   | none => rw [hl] at h; cases h
   | some y =>
    rw [hl] at h
    injection h with h
    subst h
    have h1 := goalW_len k d x ha
    have h2 := kidsW_len l d y hl
    refine ⟨fun a f c => ?_, by rw [firstW]; omega, by omega⟩
    rw [kidsW]
    have := h2.1 a false c.tail
    have e1 : (if f = true then ([] : List Wd) else [w_comma]).length ≤ 1 := by split <;> simp
    have e2 : (if a = true then [itoaW (c.headD 0)] else []).length ≤ 1 := by split <;> simp
    simp only [List.length_append, List.length_cons]
    omega
end
theorem goalW_valid {g : Goal} (h : validG g = true) : (goalW g).length ≤ 60000 := by
 unfold validG at h
 split at h
 ·cases h
 ·rename_i n hs
  have := goalW_len g 1 n hs
  simp only [decide_eq_true_eq] at h
  omega
theorem orderW_sh (o : Order) : Sh (orderW o) := by
 unfold orderW
 refine .app (.app (.cons (by decide) (.cons (itoaW_len _) (.cons (by decide) (.cons (itoaW_len _) (.cons (by decide) (.cons (itoaW_len _) (.cons (by decide) (.cons ?_ (.cons ?_ (.cons (by decide) (.cons (itoaW_len _) (.cons (by decide) (.cons (itoaW_len _) (.cons (by decide) .nil)))))))))))))) (goalW_sh _)) (.cons (by decide) .nil)
 ·split
  ·decide
  ·exact itoaW_len _
 ·split <;> decide
theorem orderW_len (o : Order) : (orderW o).length = 15 + (goalW o.goal).length := by
 unfold orderW; simp only [List.length_append, List.length_cons, List.length_nil]; omega
end Go.SX
