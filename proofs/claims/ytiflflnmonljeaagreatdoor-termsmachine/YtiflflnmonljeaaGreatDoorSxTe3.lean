/-
  Walks: Te3, Tq2, Tq3, Tq4, Tr1, Mc4, Z, Z2, Mk1: what single functions of the program compute.
-/
import Derived.Test.YtiflflnmonljeaaGreatDoorSxTd7
import Derived.Test.YtiflflnmonljeaaGreatDoorSxTd9
import Derived.Test.YtiflflnmonljeaaGreatDoorSxTp6
import Derived.Test.YtiflflnmonljeaaGreatDoorSxMb9
import Derived.Test.YtiflflnmonljeaaGreatDoorSxV6
import Derived.ProofKit
import Derived.OpenShut
import Derived.ShutString
import Derived.ChangeOld
import Derived.Below
import Derived.Carry
import Derived.Deep.Slices
import Derived.LaidMore
import Derived.ChangeMaps5
import Derived.Lay
import Derived.SevenTiedAt
import Derived.Stop.Joined
import Derived.SizedLaws
import Derived.Test.YtiflflnmonljeaaGreatDoorTie
import Derived.Test.YtiflflnmonljeaaGreatDoorCards
set_option linter.unusedVariables false
set_option linter.unusedSimpArgs false
namespace Go.SX
open Go.Proofs
set_option maxHeartbeats 400000000
set_option maxRecDepth 100000
mutual
theorem J5 : ∀ (g : aK) (d n : Int), cB g d = some n → oN g
 | ⟨kind, rows, from_, to_, low, high, clear, days, times, within, cents, kids⟩, d, n, hs => by
  have hL := sizeL_gall kids
  obtain ⟨hok, hd, m, hm, rfl⟩ := cR hs
  rw [dF]
  refine ⟨?_, hL _ _ hm⟩
  unfold okB at hok
  simp only [Bool.and_eq_true] at hok
  obtain ⟨⟨⟨h1, h2⟩, h3⟩, h4⟩ := hok
  unfold dU at h4
  simp only [Bool.and_eq_true, Bool.or_eq_true, decide_eq_true_eq] at h4
  obtain ⟨⟨⟨h5, h6⟩, h7⟩, h8⟩ := h4
  have hk : (kids.length : Int) ≤ 4 := by
   unfold kI at h5
   split at h5
   ·simp only [decide_eq_true_eq] at h5; (try dsimp only at h5); omega
   ·split at h5
    ·rw [aM] at h5; exact h5.2
    ·simp only [decide_eq_true_eq] at h5; (try dsimp only at h5); omega
  have hc : (cents.length : Int) ≤ 4 := by
   unfold fW at h6
   split at h6
   ·simp only [Bool.and_eq_true, decide_eq_true_eq] at h6; (try dsimp only at h6); omega
   ·simp only [decide_eq_true_eq] at h6; (try dsimp only at h6); omega
  have hr : (rows.length : Int) ≤ 24 := by
   rcases h7 with h7 | h7
   ·unfold E6 at h3
    rw [if_pos h7] at h3
    simp only [Bool.and_eq_true] at h3
    have ha := h3.1.1.1.1.1
    unfold bC at ha
    simp only [Bool.and_eq_true, decide_eq_true_eq] at ha
    try dsimp only at ha
    omega
   ·(try dsimp only at h7); omega
  exact ⟨by dsimp only; omega, by dsimp only; omega, by dsimp only; omega⟩
theorem sizeL_gall : ∀ (l : List aK) (d n : Int), sizeL l d = some n → GAllL l
 | [], d, n, hs => by rw [GAllL]; trivial
 | k :: l, d, n, hs => by
  rw [sizeL] at hs
  rw [GAllL]
  split at hs
  ·cases hs
  ·rename_i m hm
   split at hs
   ·cases hs
   ·rename_i q hq
    exact ⟨J5 k d m hm, sizeL_gall l d q hq⟩
end
theorem xP {g : aK} (h : cA g = true) : oN g := by
 unfold cA at h
 split at h
 ·cases h
 ·rename_i n hn
  exact J5 g 1 n hn
theorem Dw {g : aK} (h : cA g = true) : ∃ n, cB g 1 = some n := by
 unfold cA at h
 split at h
 ·cases h
 ·rename_i n hn
  exact ⟨n, hn⟩
theorem q0c (xs : List A5) (ys : List A4) (hx : ∀ y ∈ xs, S1 y) (hxl : (xs.length : Int) ≤ 9223372036854775807) (hy : ∀ y ∈ ys, Vv y) (hyl : (ys.length : Int) ≤ 9223372036854775807) : aG Tryz.prog Dc 5 [.agg [a5S xs, a4S ys]] [] (.tuple [aP (mF xs), eS (kO (mF xs) ys)]) [] := by
 have h1 := q10 xs hx hxl
 have h2 := Si (mF xs) (xP (yN xs)) ys hy hyl
 generalize kO (mF xs) ys = l at *
 generalize mF xs = g at *
 refine aC Ax aF Tryz.func5 (c := _) rfl Tryz.call5 100 ?_
 (repeat' ((conv => whnf); first | (exfalso; omega) | refine cpC (h1) ?_ | refine dpC (h1) ?_ | refine cpC (h2) ?_ | refine dpC (h2) ?_ | refine x0C ?_ | refine spC (fun hb => ?_) fun hb => ?_ | refine aJ (fun hb => ?_) ?_ | refine taC ?_ | refine saC ?_ | exact sdV | refine aA ?_ ?_ | refine aB mixed ?_))
 all_goals exact vwV
theorem Kg {g : aK} {l : List aD} (hg : cA g = true) (hl : aX l = true) : sB g l = match dD g l with | some (p, im) => (p, im, true, 0) | none => (0, [], false, 0) := by
 unfold sB
 rw [hg, hl]; rfl
end Go.SX
namespace Go.SX
def leE (a b : aD) : Prop := fU b a = false
def Vk (x e : aD) : Bool := decide (x.at_ = e.at_) && decide (x.kind = e.kind) && decide (x.image = e.image)
theorem Oq {x e : aD} : Vk x e = true ↔ x.at_ = e.at_ ∧ x.kind = e.kind ∧ x.image = e.image := by
 unfold Vk; simp only [Bool.and_eq_true, decide_eq_true_eq, and_assoc]
theorem sJ {a b : aD} : fU a b = true ↔ a.at_ < b.at_ ∨ a.at_ = b.at_ ∧ (a.kind < b.kind ∨ a.kind = b.kind ∧ a.image < b.image) := by
 unfold fU; simp only [Bool.or_eq_true, Bool.and_eq_true, decide_eq_true_eq]
theorem Q6 {a b : aD} : leE a b ↔ a.at_ < b.at_ ∨ a.at_ = b.at_ ∧ (a.kind < b.kind ∨ a.kind = b.kind ∧ a.image ≤ b.image) := by
 unfold leE
 rw [← Bool.not_eq_true, sJ]; omega
theorem Ko (x : aD) : Vk x x = true := by rw [Oq]; exact ⟨rfl, rfl, rfl⟩
theorem Ln (x : aD) : leE x x := by rw [Q6]; omega
theorem Jj {a b c : aD} (h1 : fU a b = true) (h2 : leE b c) : fU a c = true := by rw [Q6] at h2; rw [sJ] at *; omega
theorem Im {a b c : aD} (h1 : leE a b) (h2 : fU b c = true) : fU a c = true := by rw [Q6] at h1; rw [sJ] at *; omega
def Zw (l : List aD) : Prop := l.Pairwise leE
def nU (l m : List aD) : Prop := ∀ x, l.filter (Vk x) = m.filter (Vk x)
theorem nU.rfl {l : List aD} : nU l l := fun _ => _root_.rfl
theorem nU.symm {l m : List aD} (h : nU l m) : nU m l := fun x => (h x).symm
theorem nU.trans {l m n : List aD} (h : nU l m) (h2 : nU m n) : nU l n := fun x => (h x).trans (h2 x)
theorem nU.app {l l' m m' : List aD} (h : nU l l') (h2 : nU m m') : nU (l ++ m) (l' ++ m') := fun x => by
 rw [List.filter_append, List.filter_append, h x, h2 x]
theorem nU.mem {l m : List aD} (h : nU l m) {x : aD} (hx : x ∈ l) : x ∈ m := by
 have : x ∈ l.filter (Vk x) := List.mem_filter.2 ⟨hx, Ko x⟩
 rw [h x] at this
 exact (List.mem_filter.1 this).1
def Zj (x : aD) : List aD → List aD
 | [] => [x]
 | y :: l => if fU y x then y :: Zj x l else x :: y :: l
def X5 : List aD → List aD
 | [] => []
 | x :: l => Zj x (X5 l)
theorem As (x : aD) : ∀ l : List aD, (Zj x l).length = l.length + 1
 | [] => rfl
 | y :: l => by
  rw [Zj]
  split
  ·rw [List.length_cons, As x l]; rfl
  ·rfl
theorem F6 : ∀ l : List aD, (X5 l).length = l.length
 | [] => rfl
 | x :: l => by rw [X5, As, F6 l]; rfl
def q1b (l : List aD) : Prop := l.Pairwise (fun a b => fU a b = true)
end Go.SX
namespace Go.SX
def swS (D : List aD) (x y : Nat) : List aD := (D.set x (D.getD y (U.dflt .event))).set y (D.getD x (U.dflt .event))
theorem Qy (A B C : List aD) (u v : aD) {x y : Nat} (hx : x = A.length) (hy : y = A.length + 1 + B.length) : swS (A ++ u :: (B ++ v :: C)) x y = A ++ v :: (B ++ u :: C) := by
 subst hx hy
 unfold swS
 have e1 : (A ++ u :: (B ++ v :: C)).getD A.length (U.dflt .event) = u := by simp [List.getD_eq_getElem?_getD]
 have e2 : (A ++ u :: (B ++ v :: C)).getD (A.length + 1 + B.length) (U.dflt .event) = v := by
  rw [List.getD_eq_getElem?_getD, List.getElem?_append_right (by omega), show A.length + 1 + B.length - A.length = B.length + 1 by omega, List.getElem?_cons_succ, List.getElem?_append_right (by omega)]
  simp
 rw [e1, e2, List.set_append_right _ _ (Nat.le_refl _), Nat.sub_self, List.set_cons_zero, List.set_append_right _ _ (by omega), show A.length + 1 + B.length - A.length = B.length + 1 by omega, List.set_cons_succ, List.set_append_right _ _ (Nat.le_refl _), Nat.sub_self, List.set_cons_zero]
theorem Ng (D : List aD) {x y : Nat} (h : x ≠ y) : swS D x y = swS D y x := by
 unfold swS
 rw [List.set_comm _ _ (Ne.symm h)]
theorem D3 {l : List aD} {k : Nat} (h : k < l.length) : l.drop k = l.getD k (U.dflt .event) :: l.drop (k + 1) := jK (d := U.dflt .event) h
theorem zP {l : List aD} {k : Nat} (h : k < l.length) : l.take (k + 1) = l.take k ++ [l.getD k (U.dflt .event)] := dW (d := U.dflt .event) h
def Aq (P V Q W S : List aD) (k : Nat) : List aD := P ++ (W.take k ++ V.drop k) ++ Q ++ (V.take k ++ W.drop k) ++ S
theorem K0 (P V Q W S : List aD) : Aq P V Q W S 0 = P ++ V ++ Q ++ W ++ S := by simp [Aq]
theorem Bo (P V Q W S : List aD) (h : V.length = W.length) : Aq P V Q W S V.length = P ++ W ++ Q ++ V ++ S := by
 unfold Aq
 rw [List.take_of_length_le (l := W) (by omega), List.drop_of_length_le (l := V) (Nat.le_refl _), List.take_of_length_le (l := V) (Nat.le_refl _), List.drop_of_length_le (l := W) (by omega)]
 simp
theorem Au (P V Q W S : List aD) {k : Nat} (h : V.length = W.length) (hk : k ≤ V.length) : (Aq P V Q W S k).length = (P ++ V ++ Q ++ W ++ S).length := by
 unfold Aq
 simp only [List.length_append, List.length_take, List.length_drop]; omega
theorem L8 (P V Q W S : List aD) {k a b : Nat} (h : V.length = W.length) (hk : k < V.length) (ha : a = P.length) (hb : b = P.length + V.length + Q.length) : swS (Aq P V Q W S k) (a + k) (b + k) = Aq P V Q W S (k + 1) := by
 have e1 : Aq P V Q W S k = (P ++ W.take k) ++ V.getD k (U.dflt .event) :: ((V.drop (k + 1) ++ Q ++ V.take k) ++ W.getD k (U.dflt .event) :: (W.drop (k + 1) ++ S)) := by
  unfold Aq
  rw [D3 hk, D3 (l := W) (by omega)]
  simp [List.append_assoc]
 have e2 : Aq P V Q W S (k + 1) = (P ++ W.take k) ++ W.getD k (U.dflt .event) :: ((V.drop (k + 1) ++ Q ++ V.take k) ++ V.getD k (U.dflt .event) :: (W.drop (k + 1) ++ S)) := by
  unfold Aq
  rw [zP hk, zP (l := W) (by omega)]
  simp [List.append_assoc]
 rw [e1, e2]
 refine Qy _ _ _ _ _ ?_ ?_
 ·simp only [List.length_append, List.length_take]; omega
 ·simp only [List.length_append, List.length_take, List.length_drop]; omega
theorem Af (A C : List aD) (u v : aD) {x y : Nat} (hx : x = A.length) (hy : y = A.length + 1) : swS (A ++ u :: v :: C) x y = A ++ v :: u :: C := by
 have := Qy A [] C u v (x := x) (y := y) hx (by simpa using hy)
 simpa using this
theorem zV {A L B : List aD} {k a : Nat} (h : k < L.length) (ha : a = A.length) : (A ++ L ++ B).getD (a + k) (U.dflt .event) = L.getD k (U.dflt .event) := by
 subst ha
 simp only [List.getD_eq_getElem?_getD]
 rw [List.append_assoc, List.getElem?_append_right (by omega), show A.length + k - A.length = k by omega, List.getElem?_append_left h]
theorem Fp {l : List aD} (h : Zw l) {i j : Nat} (hij : i ≤ j) (hj : j < l.length) : leE (l.getD i (U.dflt .event)) (l.getD j (U.dflt .event)) := by
 rcases Nat.lt_or_ge i j with hlt | hge
 ·have := List.pairwise_iff_getElem.1 h i j (by omega) hj hlt
  simp only [List.getD_eq_getElem?_getD, List.getElem?_eq_getElem hj, List.getElem?_eq_getElem (show i < l.length by omega)]
  exact this
 ·rw [show i = j by omega]; exact Ln _
end Go.SX
namespace Go.SX
structure Rot (T J : List aD) (m i j : Nat) : Prop where
 ex : ∃ P V W S : List aD, J = P ++ V ++ W ++ S ∧ T = P ++ W ++ V ++ S ∧ P.length + V.length = m ∧ V.length = i ∧ W.length = j ∧ 0 < i ∧ 0 < j
theorem Rot.bd {T J : List aD} {m i j : Nat} (h : Rot T J m i j) : i ≤ m ∧ m + j ≤ J.length ∧ 0 < i ∧ 0 < j ∧ J.length = T.length := by
 obtain ⟨P, V, W, S, rfl, rfl, h1, h2, h3, h4, h5⟩ := h
 simp only [List.length_append]; omega
theorem Rot.lt {T J : List aD} {m i j : Nat} (h : Rot T J m i j) (hij : i < j) : ∃ f : Nat → List aD, f 0 = J ∧ (∀ k, k ≤ i → (f k).length = J.length) ∧ (∀ k, k < i → swS (f k) (m - i + k) (m + j - i + k) = f (k + 1)) ∧ Rot T (f i) m i (j - i) := by
 obtain ⟨P, V, W, S, rfl, rfl, h1, h2, h3, h4, h5⟩ := h
 have hs : W = W.take (j - i) ++ W.drop (j - i) := (List.take_append_drop (j - i) W).symm
 have hl : V.length = (W.drop (j - i)).length := by rw [List.length_drop]; omega
 have e0 : P ++ V ++ W ++ S = P ++ V ++ W.take (j - i) ++ W.drop (j - i) ++ S := by
  conv => lhs; rw [hs]
  simp [List.append_assoc]
 refine ⟨Aq P V (W.take (j - i)) (W.drop (j - i)) S, by rw [K0, e0], fun k hk => by rw [Au _ _ _ _ _ hl (by omega), e0], fun k hk => L8 _ _ _ _ _ hl (by omega) (by omega) (by simp only [List.length_take]; omega), ?_⟩
 have e1 := Bo P V (W.take (j - i)) (W.drop (j - i)) S hl
 rw [h2] at e1
 refine ⟨P, W.drop (j - i), W.take (j - i), V ++ S, by rw [e1]; simp [List.append_assoc], ?_, ?_, ?_, ?_, h4, by omega⟩
 ·conv => lhs; rw [hs]
  simp [List.append_assoc]
 ·omega
 ·omega
 ·simp only [List.length_take]; omega
theorem Rot.eq {T J : List aD} {m i : Nat} (h : Rot T J m i i) : ∃ f : Nat → List aD, f 0 = J ∧ (∀ k, k ≤ i → (f k).length = J.length) ∧ (∀ k, k < i → swS (f k) (m - i + k) (m + k) = f (k + 1)) ∧ f i = T := by
 obtain ⟨P, V, W, S, rfl, rfl, h1, h2, h3, h4, h5⟩ := h
 have hl : V.length = W.length := by omega
 have e1 := Bo P V [] W S hl
 rw [h2] at e1
 refine ⟨Aq P V [] W S, by rw [K0]; simp, fun k hk => by rw [Au _ _ _ _ _ hl (by omega)]; simp, fun k hk => L8 _ _ _ _ _ hl (by omega) (by omega) (by simp; omega), by rw [e1]; simp⟩
structure Sym (T D : List aD) (a m b : Nat) : Prop where
 ex : ∃ A L R B : List aD, D = A ++ L ++ R ++ B ∧ T = A ++ X5 (L ++ R) ++ B ∧ Zw L ∧ Zw R ∧ A.length = a ∧ a + L.length = m ∧ m + R.length = b ∧ 0 < L.length ∧ 0 < R.length
theorem Sym.bd {T D : List aD} {a m b : Nat} (h : Sym T D a m b) : a < m ∧ m < b ∧ b ≤ D.length ∧ D.length = T.length := by
 obtain ⟨A, L, R, B, rfl, rfl, h1, h2, h3, h4, h5, h6, h7⟩ := h
 simp only [List.length_append, F6]; omega
abbrev dE : aD := U.dflt .event
theorem Sym.srt {T D : List aD} {a m b : Nat} (h : Sym T D a m b) : (∀ x y, a ≤ x → x ≤ y → y < m → leE (D.getD x dE) (D.getD y dE)) ∧ (∀ x y, m ≤ x → x ≤ y → y < b → leE (D.getD x dE) (D.getD y dE)) := by
 obtain ⟨A, L, R, B, rfl, rfl, h1, h2, h3, h4, h5, h6, h7⟩ := h
 refine ⟨fun x y hx hy hm => ?_, fun x y hx hy hm => ?_⟩
 ·have e1 := zV (A := A) (L := L) (B := R ++ B) (k := x - a) (a := a) (by omega) h3.symm
  have e2 := zV (A := A) (L := L) (B := R ++ B) (k := y - a) (a := a) (by omega) h3.symm
  rw [← List.append_assoc, show a + (x - a) = x by omega] at e1
  rw [← List.append_assoc, show a + (y - a) = y by omega] at e2
  rw [show (dE : aD) = U.dflt .event from rfl, e1, e2]
  exact Fp h1 (by omega) (by omega)
 ·have e1 := zV (A := A ++ L) (L := R) (B := B) (k := x - m) (a := m) (by omega) (by rw [List.length_append]; omega)
  have e2 := zV (A := A ++ L) (L := R) (B := B) (k := y - m) (a := m) (by omega) (by rw [List.length_append]; omega)
  rw [show m + (x - m) = x by omega] at e1
  rw [show m + (y - m) = y by omega] at e2
  rw [show (dE : aD) = U.dflt .event from rfl, e1, e2]
  exact Fp h2 (by omega) (by omega)
structure MvA (T J : List aD) (i k : Nat) : Prop where
 ex : ∃ (A R B : List aD) (x : aD) (s t : Nat), T = A ++ R.take s ++ x :: R.drop s ++ B ∧ J = A ++ R.take t ++ x :: R.drop t ++ B ∧ A.length + s + 1 = i ∧ k = A.length + t ∧ t ≤ s ∧ s ≤ R.length
theorem MvA.bd {T J : List aD} {i k : Nat} (h : MvA T J i k) : k + 1 ≤ i ∧ i ≤ J.length ∧ J.length = T.length := by
 obtain ⟨A, R, B, x, s, t, rfl, rfl, h1, h2, h3, h4⟩ := h
 simp only [List.length_append, List.length_cons, List.length_take, List.length_drop]; omega
theorem MvA.step {T J : List aD} {i k : Nat} (h : MvA T J i k) (hk : k + 1 < i) : MvA T (swS J k (k + 1)) i (k + 1) := by
 obtain ⟨A, R, B, x, s, t, rfl, rfl, h1, h2, h3, h4⟩ := h
 refine ⟨A, R, B, x, s, t + 1, rfl, ?_, h1, by omega, by omega, h4⟩
 have e : A ++ R.take t ++ x :: R.drop t ++ B = (A ++ R.take t) ++ x :: R.getD t dE :: (R.drop (t + 1) ++ B) := by
  rw [D3 (l := R) (k := t) (by omega)]; simp [List.append_assoc]
 rw [e, Af _ _ _ _ (by simp only [List.length_append, List.length_take]; omega) (by simp only [List.length_append, List.length_take]; omega), zP (l := R) (k := t) (by omega)]
 simp [List.append_assoc]
structure SrA (D : List aD) (a m b i j : Nat) : Prop where
 bd : m ≤ i ∧ i ≤ j ∧ j ≤ b
 lo : ∀ k, m ≤ k → k < i → fU (D.getD k dE) (D.getD a dE) = true
 hi : ∀ k, j ≤ k → k < b → fU (D.getD k dE) (D.getD a dE) = false
theorem SrA.start {D : List aD} {a m b : Nat} (h : m ≤ b) : SrA D a m b m b := ⟨by omega, fun k h1 h2 => by omega, fun k h1 h2 => by omega⟩
theorem SrA.up {T D : List aD} {a m b i j h : Nat} (hs : Sym T D a m b) (hr : SrA D a m b i j) (h1 : i ≤ h) (h2 : h < j) (hb : fU (D.getD h dE) (D.getD a dE) = true) : SrA D a m b (h + 1) j := by
 have hbd := hr.bd
 refine ⟨by omega, fun k k1 k2 => ?_, hr.hi⟩
 exact Im (hs.srt.2 k h k1 (by omega) (by omega)) hb
theorem SrA.down {T D : List aD} {a m b i j h : Nat} (hs : Sym T D a m b) (hr : SrA D a m b i j) (h1 : i ≤ h) (h2 : h < j) (hb : fU (D.getD h dE) (D.getD a dE) = false) : SrA D a m b i h := by
 have hbd := hr.bd
 refine ⟨by omega, hr.lo, fun k k1 k2 => ?_⟩
 rcases hB : fU (D.getD k dE) (D.getD a dE) with _ | _
 ·rfl
 ·rw [Im (hs.srt.2 h k (by omega) k1 k2) hB] at hb; cases hb
structure MvB (T J : List aD) (i k : Nat) : Prop where
 ex : ∃ (A R B : List aD) (x : aD) (s t : Nat), T = A ++ R.take s ++ x :: R.drop s ++ B ∧ J = A ++ R.take t ++ x :: R.drop t ++ B ∧ A.length + s = i ∧ k = A.length + t ∧ s ≤ t ∧ t ≤ R.length
theorem MvB.bd {T J : List aD} {i k : Nat} (h : MvB T J i k) : i ≤ k ∧ k < J.length ∧ J.length = T.length := by
 obtain ⟨A, R, B, x, s, t, rfl, rfl, h1, h2, h3, h4⟩ := h
 simp only [List.length_append, List.length_cons, List.length_take, List.length_drop]; omega
theorem MvB.step {T J : List aD} {i k : Nat} (h : MvB T J i k) (hk : i < k) : MvB T (swS J k (k - 1)) i (k - 1) := by
 obtain ⟨A, R, B, x, s, t, rfl, rfl, h1, h2, h3, h4⟩ := h
 obtain ⟨u, rfl⟩ : ∃ u, t = u + 1 := ⟨t - 1, by omega⟩
 refine ⟨A, R, B, x, s, u, rfl, ?_, h1, by omega, by omega, by omega⟩
 have e : A ++ R.take (u + 1) ++ x :: R.drop (u + 1) ++ B = (A ++ R.take u) ++ R.getD u dE :: x :: (R.drop (u + 1) ++ B) := by
  rw [zP (l := R) (k := u) (by omega)]; simp [List.append_assoc]
 rw [Ng _ (by omega), e, Af _ _ _ _ (by simp only [List.length_append, List.length_take]; omega) (by simp only [List.length_append, List.length_take]; omega), D3 (l := R) (k := u) (by omega)]
 simp [List.append_assoc]
structure SrB (D : List aD) (a m b i j : Nat) : Prop where
 bd : a ≤ i ∧ i ≤ j ∧ j ≤ m
 lo : ∀ k, a ≤ k → k < i → fU (D.getD m dE) (D.getD k dE) = false
 hi : ∀ k, j ≤ k → k < m → fU (D.getD m dE) (D.getD k dE) = true
theorem SrB.start {D : List aD} {a m b : Nat} (h : a ≤ m) : SrB D a m b a m := ⟨by omega, fun k h1 h2 => by omega, fun k h1 h2 => by omega⟩
theorem SrB.up {T D : List aD} {a m b i j h : Nat} (hs : Sym T D a m b) (hr : SrB D a m b i j) (h1 : i ≤ h) (h2 : h < j) (hb : fU (D.getD m dE) (D.getD h dE) = false) : SrB D a m b (h + 1) j := by
 have hbd := hr.bd
 refine ⟨by omega, fun k k1 k2 => ?_, hr.hi⟩
 rcases hB : fU (D.getD m dE) (D.getD k dE) with _ | _
 ·rfl
 ·rw [Jj hB (hs.srt.1 k h k1 (by omega) (by omega))] at hb; cases hb
theorem SrB.down {T D : List aD} {a m b i j h : Nat} (hs : Sym T D a m b) (hr : SrB D a m b i j) (h1 : i ≤ h) (h2 : h < j) (hb : fU (D.getD m dE) (D.getD h dE) = true) : SrB D a m b i h := by
 have hbd := hr.bd
 refine ⟨by omega, hr.lo, fun k k1 k2 => ?_⟩
 exact Jj hb (hs.srt.1 h k (by omega) k1 k2)
structure SrC (D : List aD) (p lo hi s r : Nat) : Prop where
 bd : lo ≤ s ∧ s ≤ r ∧ r ≤ hi
 dn : ∀ c, lo ≤ c → c < s → fU (D.getD (p - c) dE) (D.getD c dE) = false
 up : ∀ c, r ≤ c → c < hi → fU (D.getD (p - c) dE) (D.getD c dE) = true
structure Bds (a m b mid lo hi : Nat) : Prop where
 hm : mid = (a + b) / 2
 am : a < m ∧ m < b
 hb : (mid < m ∧ lo = mid + m - b ∧ hi = mid) ∨ (m ≤ mid ∧ lo = a ∧ hi = m)
theorem SrC.start {D : List aD} {a m b mid lo hi : Nat} (h : Bds a m b mid lo hi) : SrC D (mid + m - 1) lo hi lo hi := by
 obtain ⟨h1, h2, h3⟩ := h
 exact ⟨by omega, fun c h1 h2 => by omega, fun c h1 h2 => by omega⟩
theorem SrC.dec {T D : List aD} {a m b mid lo hi s r c : Nat} (hs : Sym T D a m b) (hB : Bds a m b mid lo hi) (hr : SrC D (mid + m - 1) lo hi s r) (h1 : s ≤ c) (h2 : c < r) (hb : fU (D.getD (mid + m - 1 - c) dE) (D.getD c dE) = true) : SrC D (mid + m - 1) lo hi s c := by
 have hbd := hr.bd
 obtain ⟨g1, g2, g3⟩ := hB
 refine ⟨by omega, hr.dn, fun k k1 k2 => ?_⟩
 have e1 := hs.srt.1 c k (by omega) (by omega) (by omega)
 have e2 := hs.srt.2 (mid + m - 1 - k) (mid + m - 1 - c) (by omega) (by omega) (by omega)
 exact Im e2 (Jj hb e1)
end Go.SX
namespace Go.SX
theorem zW (x : A5) : ∀ s ∈ mH (sA x), s.from_ ≤ 3000 := by
 intro s hs
 rw [oI, if_pos (show (sA x).kind = 1 from rfl)] at hs
 rw [List.mem_singleton.1 hs]
 have := aN (c := x.c) (n := 3000) (by omega)
 unfold sA; dsimp only; omega
theorem G9 {rec : Int → Int → aK × Int × Int} (hr : ∀ a m, ∀ s ∈ mH (rec a m).1, s.from_ ≤ 3000) (y : A5) (at_ most : Int) : ∀ i : Nat, ∀ s ∈ seesL (aW rec y at_ most i).kids, s.from_ ≤ 3000
 | 0 => fun s hs => by rw [aW, seesL] at hs; cases hs
 | i + 1 => fun s hs => by
  rw [aW] at hs
  dsimp only at hs
  rw [qU] at hs
  rcases List.mem_append.1 hs with h | h
  ·exact G9 hr y at_ most i s h
  ·exact hr _ _ s h
theorem yP : ∀ (j : Nat) (x : List A5) (at_ most : Int), ∀ s ∈ mH (cL j x at_ most).1, s.from_ ≤ 3000
 | 0, x, at_, most => by rw [cL]; exact zW _
 | j + 1, x, at_, most => by
  have one : ∀ g : aK, g.kind ≠ 1 → (∃ z, g.kids = [sA z]) → ∀ s ∈ mH g, s.from_ ≤ 3000 := fun g hk ⟨z, hz⟩ s hs => by
   rw [oI, if_neg hk, hz, seesL, seesL, List.append_nil] at hs
   exact zW z s hs
  rw [cL]
  dsimp only
  split
  ·exact one _ (by show (2 : Int) ≠ 1; omega) ⟨_, rfl⟩
  ·split
   ·exact one _ (by show (3 : Int) ≠ 1; omega) ⟨_, rfl⟩
   ·split
    ·exact one _ (by show (4 : Int) ≠ 1; omega) ⟨_, rfl⟩
    ·split
     ·rename_i e
      intro s hs
      rw [oI, if_neg (by dsimp only; omega)] at hs
      exact G9 (fun a m => yP j x a m) _ _ _ _ s hs
     ·exact zW _
theorem Ez (x : List A5) : ∀ s ∈ kE (mF x), s.from_ ≤ 3000 := by
 unfold kE mF
 split
 ·exact yP 3 x 0 9
 ·intro s hs; cases hs
theorem rT (shots : List aK) (xs : List A4) (h : ∀ s ∈ shots, s.from_ ≤ 3000) : ∀ i : Nat, i ≤ 1000 → (aE shots xs i).at_ ≤ 3000 + 400 * i ∧ ∀ e ∈ (aE shots xs i).out, e.at_ ≤ 3000 + 400 * i ∧ e.image < i
 | 0, _ => ⟨by simp [aE], fun e he => by simp [aE] at he⟩
 | i + 1, hi => by
  obtain ⟨h1, h2⟩ := rT shots xs h i (by omega)
  have hb := aN (c := (xs.getD i oG).b) (n := 400) (by omega)
  have hm : (dJ shots (xs.getD i oG) i (aE shots xs i).at_).2 ≤ 3000 + 400 * ((i : Int) + 1) ∧ (dJ shots (xs.getD i oG) i (aE shots xs i).at_).1.at_ ≤ 3000 + 400 * ((i : Int) + 1) ∧ (dJ shots (xs.getD i oG) i (aE shots xs i).at_).1.image < (i : Int) + 1 := by
   unfold dJ
   split
   ·rename_i hc
    have hbd := aN (c := (xs.getD i oG).a.tdiv 3) (n := shots.length) (by omega)
    have hm : shots.getD (aI ((xs.getD i oG).a.tdiv 3) shots.length).toNat (U.dflt .goal) ∈ shots := by
     rw [List.getD_eq_getElem?_getD, List.getElem?_eq_getElem (by omega)]
     exact List.getElem_mem _
    have := h _ hm
    dsimp only
    split <;> omega
   ·have := aN (c := (xs.getD i oG).a) (n := (i : Int) + 1) (by omega)
    dsimp only; omega
  rw [aE]
  unfold oA
  refine ⟨by dsimp only; omega, fun e he => ?_⟩
  dsimp only at he
  split at he
  ·rcases mB he with he | rfl
   ·have := h2 e he; omega
   ·omega
  ·have := h2 e he; omega
theorem K9 (xs : List A5) (ys : List A4) : ∀ e ∈ kO (mF xs) ys, e.at_ ≤ 9400 ∧ e.image < 16 := by
 intro e he
 have := (rT (kE (mF xs)) ys (Ez xs) (min ys.length 16) (by omega)).2 e he
 omega
theorem T9 {l : List aD} (h : aX l = true) : (l.length : Int) ≤ 120 ∧ (∀ e ∈ l, eJ e = true) ∧ q1b l ∧ l.Pairwise Vw := by
 unfold aX at h
 simp only [Bool.and_eq_true, decide_eq_true_eq] at h
 obtain ⟨h1, h2⟩ := h
 rw [B6] at h2
 exact ⟨h1, h2.1, h2.2.1, h2.2.2⟩
end Go.SX
namespace Go.SX
open Go.Proofs
set_option linter.unusedSectionVars false
set_option maxHeartbeats 400000000
set_option maxRecDepth 100000
theorem Sl {x : Int} (h0 : 0 ≤ x) (h1 : x < 1024) : decide (bL .and .i64 x 1 = 1) = decide (x.tmod 2 = 1) := by
 have h : ∀ m : Nat, m < 1024 → decide (bL .and .i64 (m : Int) 1 = 1) = decide ((m : Int).tmod 2 = 1) := by decide +kernel
 have := h x.toNat (by omega)
 rwa [show ((x.toNat : Nat) : Int) = x by omega] at this
theorem No {set : Int} (h0 : 0 ≤ set) (h1 : set < 1024) (j : Nat) : Q2 set j = Ku set j := by
 unfold Q2 Ku
 have h2 : nO .i64 set j = set / 2 ^ (min (j : Int).toNat IntKind.i64.bits) := Int.fdiv_eq_ediv_of_nonneg _ (Int.le_of_lt (Int.pow_pos (by omega)))
 have h3 : 0 ≤ set / 2 ^ (min (j : Int).toNat IntKind.i64.bits) := Int.ediv_nonneg h0 (Int.le_of_lt (Int.pow_pos (by omega)))
 have h4 : set / 2 ^ (min (j : Int).toNat IntKind.i64.bits) ≤ set := Int.ediv_le_self _ h0
 rw [h2]
 exact Sl h3 (by omega)
theorem Tg {p : Int} {n : Nat} (hn : n ≤ 10) : 0 ≤ bL .and .i64 p (2 ^ n - 1) ∧ bL .and .i64 p (2 ^ n - 1) < 2 ^ n := by
 have hp : 2 ^ n ≤ 2 ^ 10 := Nat.pow_le_pow_right (by omega) hn
 have hq : 0 < 2 ^ n := Nat.two_pow_pos n
 have e1 : ((2 : Int) ^ n - 1) = ((2 ^ n - 1 : Nat) : Int) := by
  rw [Int.ofNat_sub hq]; simp
 have e2 : ((2 : Int) ^ n) = ((2 ^ n : Nat) : Int) := by simp
 rw [e1, e2]
 generalize 2 ^ n = q at *
 have e : (BitVec.ofInt 64 p &&& BitVec.ofInt 64 ((q - 1 : Nat) : Int)).toNat ≤ q - 1 := by
  rw [BitVec.toNat_and]
  have b : (BitVec.ofInt 64 ((q - 1 : Nat) : Int)).toNat = q - 1 := by simp; omega
  rw [b]
  exact Nat.and_le_right
 have hw : bL .and .i64 p ((q - 1 : Nat) : Int) = (((BitVec.ofInt 64 p &&& BitVec.ofInt 64 ((q - 1 : Nat) : Int)).toNat : Nat) : Int) := by
  show IntKind.i64.wrap (((BitVec.ofInt 64 p &&& BitVec.ofInt 64 ((q - 1 : Nat) : Int)).toNat : Nat) : Int) = _
  exact nI (by omega) (by omega)
 rw [hw]
 omega
theorem Wv {l : List aD} (h : q1b l) : Rp l := fun i j hij hj => by
 unfold evL
 rw [List.getD_eq_getElem?_getD, List.getD_eq_getElem?_getD, List.getElem?_eq_getElem hj, List.getElem?_eq_getElem (by omega)]
 have := List.pairwise_iff_getElem.1 h i j (by omega) hj hij
 rw [sJ] at this
 show l[i].at_ ≤ l[j].at_
 omega
theorem Ns (xs : List A5) (ys : List A4) (hx : ∀ y ∈ xs, S1 y) (hxl : (xs.length : Int) ≤ 9223372036854775807) (hy : ∀ y ∈ ys, Vv y) (hyl : (ys.length : Int) ≤ 9223372036854775807) (sets : List Int) (hsl : (sets.length : Int) ≤ 17592186043904) (hsi : ∀ z ∈ sets, I64 z) : aG Tryz.prog Dc 3 [.agg [a5S xs, a4S ys], lS sets] [] (bS true) [] := by
 have h0 := q03
 have h1 := q0c xs ys hx hxl hy hyl
 have hgv := yN xs
 have hsm := K9 xs ys
 obtain ⟨hev, hel⟩ := M4 (mF xs) ys
 generalize kO (mF xs) ys = l at *
 generalize mF xs = g at *
 have hG := xP hgv
 obtain ⟨m, hs⟩ := Dw hgv
 obtain ⟨L, hL⟩ : ∃ L, L = List.drop (Int.toNat 0) (List.take (min ((l.length : Nat) : Int) 10).toNat l) := ⟨_, rfl⟩
 have hLt : L = l.take (min ((l.length : Nat) : Int) 10).toNat := hL
 have hsub : L.Sublist l := by rw [hLt]; exact List.take_sublist _ _
 have hLl : L.length ≤ 10 := by rw [hLt, List.length_take]; omega
 have hLv := xX hsub hev
 have hE := gE hLv
 obtain ⟨hlen, hform, hstr, hdup⟩ := T9 hLv
 have hat : ∀ e ∈ L, (0 ≤ e.at_ ∧ e.at_ ≤ 1000000) ∧ e.image ≤ 63 := fun e he => by
  have h5 := hsm e (hsub.subset he)
  have h6 := hform e he
  unfold eJ at h6
  simp only [Bool.and_eq_true, aM] at h6
  omega
 have hlk : ∀ e ∈ L, -4 ≤ e.look ∧ e.look ≤ 4 := fun e he => by
  have h6 := hform e he
  unfold eJ at h6
  simp only [Bool.and_eq_true] at h6
  have h7 := h6.2
  split at h7
  ·simp only [Bool.and_eq_true, aM] at h7
   omega
  ·split at h7
   ·simp only [Bool.and_eq_true, decide_eq_true_eq] at h7
    omega
   ·cases h7
 obtain ⟨N, k, n1, n2, h2⟩ := Ou L hLl hLv (fun e he => (hat e he).1) hlk hE (fun e he => (hat e he).2) g hgv hG hs
 have hkey : ∀ set : Int, 0 ≤ set → set < 2 ^ L.length → aG Tryz.prog Dc 10 [wJ L.length k N, iS set] [] (bS (dD g (ofS L set)).isSome) [] := fun set s0 s1 => by
  have h3 := Mr L.length hLl n1 set ⟨s0, s1⟩
  have hp : 2 ^ L.length ≤ 2 ^ 10 := Nat.pow_le_pow_right (by omega) hLl
  have hp2 : (2 : Int) ^ L.length = ((2 ^ L.length : Nat) : Int) := by simp
  have s2 : set < 1024 := by rw [hp2] at s1; generalize 2 ^ L.length = q at hp s1; omega
  have e : (fun j : Nat => Q2 set j) = Ku set := by funext j; exact No s0 s2 j
  rw [n2, e] at h3
  rw [show ofS L set = Ej L (Ku set) from rfl, Fs g 1 m L (Ku set) hs (Wv hstr)]
  exact h3
 have hmet : ∀ set : Int, aG Tryz.prog Dc 8 [aP g, eS (ofS L set)] [] (.tuple [bS (dD g (ofS L set)).isSome, iS 0]) [] := fun set => by
  have hs2 := Rd L set
  have h3 := Zv g hG (ofS L set) (by have := hs2.length_le; omega) (fun e he => hE e (hs2.subset he))
  have e5 : (sB g (ofS L set)).2.2.1 = (dD g (ofS L set)).isSome ∧ (sB g (ofS L set)).2.2.2 = 0 := by
   rw [Kg hgv (xX hs2 hLv)]; cases dD g (ofS L set) <;> exact ⟨rfl, rfl⟩
  rw [e5.1, e5.2] at h3
  exact h3
 have hof := fun set => lof L set (by omega)
 have hsh := Gb hLl
 have hsb : 1 ≤ iT .i64 1 (L.length : Int) ∧ iT .i64 1 (L.length : Int) ≤ 1024 := by
  have hp : 2 ^ L.length ≤ 2 ^ 10 := Nat.pow_le_pow_right (by omega) hLl
  have hp1 : 0 < 2 ^ L.length := Nat.two_pow_pos _
  have hp2 : (2 : Int) ^ L.length = ((2 ^ L.length : Nat) : Int) := by simp
  rw [hsh, hp2]; generalize 2 ^ L.length = q at *; omega
 have hcut : ∀ p : Int, 0 ≤ bL .and .i64 p (iT .i64 1 (L.length : Int) - 1) ∧ bL .and .i64 p (iT .i64 1 (L.length : Int) - 1) < 2 ^ L.length := fun p => by
  rw [hsh]; exact Tg hLl
 rw [hL] at h2 hsb hcut hkey hmet hof
 have hall : ∀ i : Nat, i < (List.take 2 [0, 1023] ++ sets).length → I64 ((List.take 2 [0, 1023] ++ sets).getD (i : Int).toNat (Cd.dflt U.int)) := fun i hi => by
  have hg := getD_some (d := Cd.dflt U.int) hi
  have hm := List.mem_of_getElem? hg
  clear hg
  generalize (List.take 2 [0, 1023] ++ sets).getD (i : Int).toNat (Cd.dflt U.int) = z at *
  rcases List.mem_append.1 hm with hm | hm
  ·have : (List.take 2 [0, 1023] : List Int) = [0, 1023] := rfl
   rw [this] at hm
   simp only [List.mem_cons, List.not_mem_nil, or_false] at hm
   rcases hm with e | e <;> rw [e] <;> exact ⟨by omega, by omega⟩
  ·exact hsi _ hm
 have hlen2 : (List.take 2 [0, 1023] ++ sets).length = 2 + sets.length := by rw [List.length_append]; rfl
 refine aC Ax aF Tryz.func3 (c := _) rfl Tryz.call3 400 ?_
 (repeat' ((conv => whnf); first | refine x0C (eB ?_ rfl) | (exfalso; omega) | refine cpC (h0) ?_ | refine dpC (h0) ?_ | refine cpC (h1) ?_ | refine dpC (h1) ?_ | refine cpC (h2) ?_ | refine dpC (h2) ?_ | refine x0C ?_ | refine spC (fun hb => ?_) fun hb => ?_ | refine aJ (fun hb => ?_) ?_ | refine taC ?_ | refine saC ?_ | exact sdV | refine aA ?_ ?_ | refine aB mixed ?_))
 ·refine aT [some 0, some 1, some 2, some 3, some 4] (fun i : Nat => [(10, iS i)]) (fun i => []) (fun i => i ≤ (List.take 2 [0, 1023] ++ sets).length) (fun i => (List.take 2 [0, 1023] ++ sets).length - i) 0 (Nat.zero_le _) (by exact bkI) ?_
  intro i hi KK hKK
  rcases Nat.lt_or_ge i (List.take 2 [0, 1023] ++ sets).length with hlt | hge
  ·have hI := hall i hlt
   generalize (List.take 2 [0, 1023] ++ sets) = all at *
   rw [← Nat.zero_add (i : Int).toNat] at hI
   have hp := q0o _ 1024 hI (by omega)
   have bp := aN (c := all.getD (0 + (i : Int).toNat) (Cd.dflt U.int)) (n := 1024) (by omega)
   generalize aI (all.getD (0 + (i : Int).toNat) (Cd.dflt U.int)) 1024 = p at *
   obtain ⟨z0, z1⟩ := hcut p
   have m1 := hof (bL .and .i64 p (iT .i64 1 ((List.drop (Int.toNat 0) (List.take (min ((l.length : Nat) : Int) 10).toNat l)).length : Int) - 1))
   have m2 := hmet (bL .and .i64 p (iT .i64 1 ((List.drop (Int.toNat 0) (List.take (min ((l.length : Nat) : Int) 10).toNat l)).length : Int) - 1))
   have m3 := hkey (bL .and .i64 p (iT .i64 1 ((List.drop (Int.toNat 0) (List.take (min ((l.length : Nat) : Int) 10).toNat l)).length : Int) - 1)) z0 z1
   clear z0 z1 hcut hof hmet hkey
   (repeat' ((conv => whnf); first | refine x0C (eB ?_ rfl) | (exfalso; omega) | refine cpC (hp) ?_ | refine dpC (hp) ?_ | refine cpC (m1) ?_ | refine dpC (m1) ?_ | refine cpC (m2) ?_ | refine dpC (m2) ?_ | refine cpC (m3) ?_ | refine dpC (m3) ?_ | refine hKK (i + 1) [some 0, some 1, some 2, some 3, some 4] _ _ ⟨by omega⟩ ⟨by omega⟩ (by exact bkI) | refine x0C ?_ | refine spC (fun hb => ?_) fun hb => ?_ | refine aJ (fun hb => ?_) ?_ | refine taC ?_ | refine saC ?_ | exact sdV | refine aA ?_ ?_ | refine aB mixed ?_))
   all_goals first | rfl | (rename_i hb; exact absurd hb (by rw [beq_self_eq_true]; exact Bool.noConfusion))
  ·(repeat' ((conv => whnf); first | refine x0C (eB ?_ rfl) | (exfalso; omega) | refine x0C ?_ | refine spC (fun hb => ?_) fun hb => ?_ | refine aJ (fun hb => ?_) ?_ | refine taC ?_ | refine saC ?_ | exact sdV | refine aA ?_ ?_ | refine aB mixed ?_))
   all_goals rfl
end Go.SX
namespace Go.SX
open Go.ChangeShapes Go.WideShapes Go.RowKit Go.Deep
variable {C : Cod} {D : aL C} {H : Type} {enc : TypeId × Value → H} {P : Program} {W : World}
def Old (W : World) : Nat → Prop := fun b => b < W.heap.size
structure vX (D : aL C) (enc : TypeId × Value → H) (P : Program) (W : World) (e : TypeId) (u : C.U) (Ok : C.El u → Prop) : Prop where
 n : P.cellsOf e = C.n u
 el : ∀ fuel cs x, DataW.trod enc P W 0 (fun _ => true) true fuel e cs = some x → ∃ y : C.El u, bE D W (Old W) (D.enc u y) cs ∧ Ok y
theorem Lz {a : Addr} {v : Value} (h : W.cell? a = some v) : a.block < W.heap.size := by
 unfold World.cell? at h
 rcases Nat.lt_or_ge a.block W.heap.size with h' | h'
 ·exact h'
 ·rw [Array.getElem?_eq_none h'] at h
  simp at h
theorem An (b o i : Nat) : (⟨b, o, none⟩ : Addr).add i = ⟨b, o + i, none⟩ := by
 unfold Addr.add
 split <;> simp_all
theorem vD {t e : TypeId} {u : C.U} {Ok : C.El u → Prop} (R : vX D enc P W e u Ok) (ht : P.underlying t = some (.slice e)) {fuel : Nat} {cs : List Value} {x : DataW H × List MemPlace}
  (h : DataW.trod enc P W 0 (fun _ => true) true fuel t cs = some x) :
  ∃ (v : Value) (l : List (C.El u)), cs = [v] ∧ eM D W (Old W) (.dsl u l) v ∧ (∀ y ∈ l, Ok y) ∧ l.length ≤ maxLen := by
 rcases open_slice ht h with ⟨rfl, _⟩ | ⟨a, len, cap, m, n, Dd, Pl, rfl, _, hl, hm, hmm, _, hx⟩
 ·exact ⟨_, [], rfl, .dslNil u none 0, by simp, by simp⟩
 ·have hlm : len ≤ m := by rw [hmm]; split <;> omega
  by_cases h0 : len = 0
  ·subst h0; exact ⟨_, [], rfl, .dslNil u (some a) cap, by simp, by simp⟩
  haveI : Inhabited (C.El u) := ⟨C.dflt u⟩
  obtain ⟨f, hf⟩ := choose_lt (n := len) (p := fun i (y : C.El u) => ∃ cs', W.cells? 0 (a.add (i * P.cellsOf e)) (P.cellsOf e) = some cs' ∧ bE D W (Old W) (D.enc u y) cs' ∧ Ok y) (fun i hi => by
   obtain ⟨cs', h1, h2⟩ := hx i (by omega)
   obtain ⟨y, h3, h4⟩ := R.el n cs' _ h2
   exact ⟨y, cs', h1, h3, h4⟩)
  have hn := R.n
  have hnp := D.n_pos u
  have hspot : a.spot = none := by
   obtain ⟨cs', h1, h2, _⟩ := hf 0 (by omega)
   obtain ⟨_, hlen, hc⟩ := World.cells?_some h1
   have := hc 0 (by omega)
   have hv : ∃ v, cs'[0]? = some v := ⟨cs'[0]'(by omega), by rw [List.getElem?_eq_getElem]⟩
   obtain ⟨v, hv⟩ := hv
   rw [hv] at this
   have hs := World.cell?_spot this
   simpa [Addr.add] using hs
  obtain ⟨b, o, sp⟩ := a
  simp only at hspot
  subst hspot
  have hcell : ∀ i, i < len → ∀ j, j < C.n u → ∃ v, W.cell? ⟨b, o + i * C.n u + j, none⟩ = some v ∧ ∀ pv, (D.enc u (f i))[j]? = some pv → eM D W (Old W) pv v := by
   intro i hi j hj
   obtain ⟨cs', h1, h2, _⟩ := hf i hi
   rw [hn, An] at h1
   obtain ⟨_, hlen, hc⟩ := World.cells?_some h1
   have := hc j hj
   rw [An] at this
   have hv : cs'[j]? = some (cs'[j]'(by omega)) := by rw [List.getElem?_eq_getElem]
   rw [hv] at this
   exact ⟨_, this, fun pv hp => h2.2 j pv _ hp hv⟩
  have hen : ∀ y, (D.enc u y).length = C.n u := D.enc_len u
  refine ⟨_, (List.range len).map f, rfl, ?_, ?_, ?_⟩
  ·have key := eM.dsl (D := D) (w := W) (F := Old W) u ((List.range len).map f) b o cap (fun i j => (W.cell? ⟨b, o + i * C.n u + j, none⟩).getD (.bool false)) ?_ (by simpa using hl) ?_ ?_
   ·simpa using key
   ·intro _
    obtain ⟨v, hv, _⟩ := hcell 0 (by omega) 0 hnp
    exact Lz hv
   ·intro i x hx j pv hp
    have hi : i < len := by
     rcases Nat.lt_or_ge i len with h' | h'
     ·exact h'
     ·rw [List.getElem?_eq_none (by simpa using h')] at hx; cases hx
    have hxe : x = f i := by simpa [hi] using hx.symm
    subst hxe
    have hj : j < C.n u := by
     rw [← hen (f i)]
     rcases Nat.lt_or_ge j (D.enc u (f i)).length with h' | h'
     ·exact h'
     ·rw [List.getElem?_eq_none h'] at hp; cases hp
    obtain ⟨v, hv, _⟩ := hcell i hi j hj
    rw [hv]; rfl
   ·intro i x hx j pv hp
    have hi : i < len := by
     rcases Nat.lt_or_ge i len with h' | h'
     ·exact h'
     ·rw [List.getElem?_eq_none (by simpa using h')] at hx; cases hx
    have hxe : x = f i := by simpa [hi] using hx.symm
    subst hxe
    have hj : j < C.n u := by
     rw [← hen (f i)]
     rcases Nat.lt_or_ge j (D.enc u (f i)).length with h' | h'
     ·exact h'
     ·rw [List.getElem?_eq_none h'] at hp; cases hp
    obtain ⟨v, hv, hd⟩ := hcell i hi j hj
    rw [hv]; exact hd pv hp
  ·intro y hy
   obtain ⟨i, hi, rfl⟩ := List.mem_map.1 hy
   obtain ⟨_, _, _, hok⟩ := hf i (List.mem_range.1 hi)
   exact hok
  ·simp only [List.length_map, List.length_range]; omega
def Zr (P : Program) (t : TypeId) : Bool := (match P.underlying t with | some (.int .i64) => true | _ => false) && P.cellsOf t == 1
theorem Xe {t : TypeId} (h : Zr P t = true) : P.underlying t = some (.int .i64) ∧ P.cellsOf t = 1 := by
 unfold Zr at h
 simp only [Bool.and_eq_true, beq_iff_eq] at h
 refine ⟨?_, h.2⟩
 have h1 := h.1
 split at h1
 ·assumption
 ·cases h1
structure Z64 (n : Int) : Prop where
 h : -9223372036854775808 ≤ n ∧ n ≤ 9223372036854775807
theorem Qi {n : Int} (h : (Lit.int .i64 n).wf = true) : Z64 n := by
 simp only [Lit.wf, Bool.and_eq_true, decide_eq_true_eq] at h
 exact ⟨⟨h.1, h.2⟩⟩
theorem Mb {t : TypeId} (ht : P.underlying t = some (.int .i64)) {fuel : Nat} {cs : List Value} {x : DataW H × List MemPlace} (h : DataW.trod enc P W 0 (fun _ => true) true fuel t cs = some x) :
  ∃ n, cs = [.int .i64 n] ∧ Z64 n := by
 obtain ⟨n, h1, _, h2⟩ := DataW.trod_int ht h
 exact ⟨n, h1, Qi h2⟩
theorem Sk {n : Nat} {cs : List Value} (hlen : cs.length = n) (h : ∀ i, i < n → ∃ z, (cs.drop i).take 1 = [.int .i64 z] ∧ Z64 z) :
  ∃ zs : List Int, zs.length = n ∧ cs = zs.map (Value.int .i64) ∧ ∀ z ∈ zs, Z64 z := by
 induction cs generalizing n with
 | nil => exact ⟨[], by simpa using hlen, rfl, by simp⟩
 | cons c cs ih =>
  cases n with
  | zero => simp at hlen
  | succ n =>
   obtain ⟨zs, h1, h2, h3⟩ := ih (n := n) (by simpa using hlen) (fun i hi => by simpa using h (i + 1) (by omega))
   obtain ⟨z, hz, hz'⟩ := h 0 (by omega)
   simp at hz
   refine ⟨z :: zs, by simp [h1], by simp [hz, h2], ?_⟩
   intro y hy
   rcases List.mem_cons.1 hy with rfl | hy
   ·exact hz'
   ·exact h3 y hy
theorem kQ {t e : TypeId} {n : Nat} (ht : P.underlying t = some (.array n e)) (he : Zr P e = true) (hn : P.cellsOf t = n) {fuel : Nat} {cs : List Value} {x : DataW H × List MemPlace}
  (h : DataW.trod enc P W 0 (fun _ => true) true fuel t cs = some x) : ∃ zs : List Int, zs.length = n ∧ cs = zs.map (Value.int .i64) ∧ ∀ z ∈ zs, Z64 z := by
 obtain ⟨xs, m, _, _, hlen, hxs, hel⟩ := DataW.trod_array ht h
 obtain ⟨hu, hc⟩ := Xe he
 refine Sk (hlen.trans hn) fun i hi => ?_
 have := hel i hi
 rw [List.getElem?_eq_getElem (by omega), hc, Nat.mul_one] at this
 exact Mb hu this
theorem qS (D : aL C) (w : World) (F : Nat → Prop) (zs : List Int) : bE D w F (zs.map (PV.int .i64)) (zs.map (Value.int .i64)) := by
 refine ⟨by simp, fun j pv v hp hv => ?_⟩
 simp only [List.getElem?_map, Option.map_eq_some_iff] at hp hv
 obtain ⟨z, hz, rfl⟩ := hp
 obtain ⟨z', hz', rfl⟩ := hv
 rw [hz] at hz'
 injection hz' with e
 subst e
 exact .int _ _
theorem Ck {f : FuncId} {svs : List (SV C)} (hM : aG P D f svs [] (.p (.bool true)) []) {args : Array Value} (hG : pD C W ⟨Old W, fun _ => .fresh⟩) (hd : DenA D W ⟨Old W, fun _ => .fresh⟩ svs args.toList) :
  Calls P f args W fun e W' => e = .returned (.bool true) ∧ Below W.heap.size W W' := by
 have hs : Sat D W ⟨Old W, fun _ => .fresh⟩ (aS ([] : List (HS C))) := ⟨fun c => (by simp [aS, HS.ok]), fun c b e => (by cases e), fun c c' b e => (by cases e), fun b hb => hb, hG⟩
 refine ((hM.calls W ⟨Old W, fun _ => .fresh⟩ (fun c _ => rfl) args.toList hs hd).calls (fun k => by simp [Fence.room, Fc])).mono ?_
 rintro e w' ⟨v, E', rfl, hv, _, hfr⟩
 simp only [Den] at hv
 cases hv
 exact ⟨rfl, hfr.os, hfr.tape, hfr.output, hfr.size, fun b hb => hfr.same b hb (by rintro ⟨c, hc⟩; cases hc)⟩
end Go.SX
namespace Go.SX
open Go.ChangeShapes Go.WideShapes Go.RowKit Go.Deep
variable {C : Cod} {D : aL C} {H : Type} {enc : TypeId × Value → H} {P : Program} {W : World} {r : Reach} {b0 : Nat} {t : TypeId} {v : Value} {d : DataW H} {ps : List MemPlace}
def En (W : World) : Env := ⟨Old W, fun _ => .fresh⟩
theorem Lv {e : TypeId} {u : C.U} {Ok : C.El u → Prop} (R : vX D enc P W e u Ok) (ht : P.underlying t = some (.slice e)) (ho : Value.okWide P W r b0 t v) (h : DataW.Trod enc P W 0 (fun _ => true) true t v d ps) :
  ∃ l : List (C.El u), Den D W (En W) (.p (.dsl u l)) v ∧ (∀ y ∈ l, Ok y) ∧ (l.length : Int) ≤ 9223372036854775807 := by
 obtain ⟨a, len, cap, rfl⟩ := okWide_slice ht ho
 obtain ⟨fuel, hf⟩ := h
 obtain ⟨v', l, hcs, hd, hok, hlen⟩ := vD R ht hf
 have e : v' = .slice a len cap := by simpa [Value.cells] using hcs.symm
 subst e
 have hm : maxLen = 9223372036854775807 := rfl
 exact ⟨l, by simp only [Den]; exact hd, hok, by omega⟩
theorem Bx {w : World} {E : Env} {u : C.U} {l : List (C.El u)} {v : Value} {xs : List (SV C)} {vs : List Value} (hd : eM D w E.F (.dsl u l) v) (h : DenC D w E xs vs) : DenC D w E (.p (.dsl u l) :: xs) (v :: vs) := by
 simp only [DenC]
 exact ⟨_, _, rfl, hd.oneCell, by simp only [Den]; exact hd, h⟩
theorem Nx {w : World} {E : Env} : DenC D w E [] [] := by simp only [DenC]
theorem L9 {w : World} {E : Env} {x : SV C} {v : Value} {xs : List (SV C)} {vs : List Value} (hd : Den D w E x v) (h : DenA D w E xs vs) : DenA D w E (x :: xs) (v :: vs) := by
 simp only [DenA]; exact ⟨_, _, rfl, hd, h⟩
theorem Nb {w : World} {E : Env} : DenA D w E [] [] := by simp only [DenA]
end Go.SX
namespace Go.SX
open Go.Proofs Go.Proofs.YtiflflnmonljeaaGreatDoor Go.ChangeShapes Go.WideShapes Go.ChangeAt Go.RowKit
set_option maxHeartbeats 400000000
set_option maxRecDepth 100000
theorem q1r : ownKnob Tryz.prog.godebug = none := by kernel_rfl
theorem Xv : laidOutB Tryz.prog = true := by kernel_rfl
abbrev Ft : List (String × DataW Unit) := [("math/bits.deBruijn32tab", Rows.laid_math_bits_deBruijn32tab), ("math/bits.deBruijn64tab", Rows.laid_math_bits_deBruijn64tab)]
def rK : List Int := (U.glob 1).map fun v => match v with | .int _ n => n | _ => 0
theorem Xu : U.glob 1 = rK.map (Value.int .u8) := by kernel_rfl
theorem q0w : (Rows.laid_math_bits_deBruijn64tab : DataW Unit) = .agg (rK.map fun n => .lit (.int .u8 n)) := by kernel_rfl
theorem Rq {W : World} (h : laidMetH Tryz.prog Ft W) : pD Cd W ⟨Old W, fun _ => .fresh⟩ := by
 rw [MakeChecks.laidMetH_plain _ _ _ (by kernel_rfl)] at h
 obtain ⟨ps, ⟨g1, t1, cs1, fuel1, p1, q1, _, _, _, _, ⟨g, t, cs, fuel, p, q, hg, ht, hv, hd, _, _⟩, _⟩, _, _⟩ := h
 obtain rfl := Option.some.inj ((show Tryz.prog.globalNamed "math/bits.deBruijn64tab" = some 1 by kernel_rfl).symm.trans hg)
 obtain rfl := Option.some.inj ((show (Tryz.prog.globals[1]?).map (·.type) = some 191 by kernel_rfl).symm.trans ht)
 obtain ⟨xs, m, _, ex, hcl, hl, hel⟩ := DataW.trod_array Tryz.underlying191 hd
 have c84 : Tryz.prog.cellsOf 5 = 1 := by kernel_rfl
 have hlen : rK.length = 64 := by kernel_rfl
 have hct : Tryz.prog.cellsOf 191 = 64 := by kernel_rfl
 have hcs : cs.toList.length = 64 := by rw [← hct]; exact hcl
 have e3 : (xs.map (·.1)) = rK.map fun n => (.lit (.int .u8 n) : DataW Unit) := by
  have := (Prod.mk.inj ex).1
  rw [q0w] at this
  exact (DataW.agg.inj this).symm
 have key : cs.toList = rK.map (Value.int .u8) := by
  refine List.ext_getElem (by rw [hcs, List.length_map, hlen]) fun r h1 h2 => ?_
  have hr : r < 64 := by omega
  have hE := hel r hr
  rw [c84, Nat.mul_one, List.getElem?_eq_getElem (by omega)] at hE
  obtain ⟨z, e1, e2, _⟩ := DataW.trod_int Tryz.underlying5 hE
  have e4 : (xs.map (·.1))[r]? = (rK.map fun n => (DataW.lit (.int .u8 n) : DataW Unit))[r]? := by rw [e3]
  rw [List.getElem?_map, List.getElem?_map, List.getElem?_eq_getElem (by omega : r < xs.length), List.getElem?_eq_getElem (by omega : r < rK.length), e2] at e4
  simp only [Option.map_some, Option.some.injEq, DataW.lit.injEq, Lit.int.injEq, true_and] at e4
  have e4 : z = rK[r] := by first | exact e4 | exact e4.2
  have : cs.toList[r]? = some (.int .u8 z) := by
   have h0 : ((cs.toList.drop r).take 1)[0]? = some (.int .u8 z) := by rw [e1]; rfl
   simpa using h0
  rw [List.getElem?_eq_getElem h1] at this
  rw [Option.some.inj this, List.getElem_map]
  exact congrArg _ e4
 refine ⟨fun g hgl => ?_, fun g hgl => by cases hgl⟩
 match g, hgl with
 | 1, _ =>
  unfold World.var? at hv
  rw [hg] at hv
  simp only [Option.bind_some] at hv
  split at hv
  ·rename_i c T z hh
   obtain rfl := Option.some.inj hv
   refine ⟨?_, ⟨_, _, _, hh, key.trans Xu.symm⟩, ?_⟩
   ·show 1 < W.heap.size
    rcases Nat.lt_or_ge 1 W.heap.size with h' | h'
    ·exact h'
    ·rw [Array.getElem?_eq_none h'] at hh; cases hh
   ·intro v hv2
    have hv3 : v ∈ U.glob 1 := hv2
    rw [Xu] at hv3
    obtain ⟨n, _, rfl⟩ := List.mem_map.1 hv3
    rfl
  ·cases hv
 | 0, hgl => exact absurd rfl hgl
 | g + 2, hgl => exact absurd rfl hgl
variable {H : Type} {enc : TypeId × Value → H} {W : World}
theorem q15 : vX (C := Cd) Dc enc Tryz.prog W 123 U.arr5 S1 := by
 refine ⟨by kernel_rfl, fun fuel cs x h => ?_⟩
 obtain ⟨zs, hlen, rfl, hz⟩ := kQ Tryz.underlying123 (by kernel_rfl) (by kernel_rfl) h
 match zs, hlen, hz with
 | [a, b, c, d, e], _, hz => exact ⟨⟨a, b, c, d, e⟩, qS Dc W (Old W) [a, b, c, d, e], ⟨(hz a (by simp)).h, (hz b (by simp)).h, (hz c (by simp)).h, (hz d (by simp)).h, (hz e (by simp)).h⟩⟩
theorem Zo : vX (C := Cd) Dc enc Tryz.prog W 95 U.arr4 Vv := by
 refine ⟨by kernel_rfl, fun fuel cs x h => ?_⟩
 obtain ⟨zs, hlen, rfl, hz⟩ := kQ Tryz.underlying95 (by kernel_rfl) (by kernel_rfl) h
 match zs, hlen, hz with
 | [a, b, c, d], _, hz => exact ⟨⟨a, b, c, d⟩, qS Dc W (Old W) [a, b, c, d], ⟨(hz a (by simp)).h, (hz b (by simp)).h, (hz c (by simp)).h, (hz d (by simp)).h⟩⟩
variable {r : Reach} {b0' : Nat} {v : Value} {d : DataW H} {ps : List MemPlace}
structure Wd (x : List A5 × List A4) : Prop where
 hx : ∀ y ∈ x.1, S1 y
 hxl : (x.1.length : Int) ≤ 9223372036854775807
 hy : ∀ y ∈ x.2, Vv y
 hyl : (x.2.length : Int) ≤ 9223372036854775807
theorem Uh (ho : Value.okWide Tryz.prog W r b0' 25 v) (h : DataW.Trod enc Tryz.prog W 0 (fun _ => true) true 25 v d ps) : ∃ x : List A5 × List A4, Den Dc W (En W) (.agg [a5S x.1, a4S x.2]) v ∧ Wd x := by
 obtain ⟨cs, rfl, hsz⟩ := okWide_struct Tryz.underlying25 ho
 obtain ⟨fuel, hx⟩ := h
 obtain ⟨xs, n, _, _, hlen, hxs, hel⟩ := DataW.trod_struct Tryz.underlying25 hx
 have hlen' : cs.toList.length = 2 := hlen.trans (by kernel_rfl)
 have hxs' : xs.length = 2 := hxs
 have e0 : DataW.trod enc Tryz.prog W 0 (fun _ => true) true n 22 ((cs.toList.drop 0).take (Tryz.prog.cellsOf 22)) = xs[0]? := hel 0 _ rfl
 have e1 : DataW.trod enc Tryz.prog W 0 (fun _ => true) true n 23 ((cs.toList.drop 1).take (Tryz.prog.cellsOf 23)) = xs[1]? := hel 1 _ rfl
 have k0 : Tryz.prog.cellsOf 22 = 1 := by kernel_rfl
 have k1 : Tryz.prog.cellsOf 23 = 1 := by kernel_rfl
 rw [List.getElem?_eq_getElem (by omega)] at e0 e1
 rw [k0] at e0
 rw [k1] at e1
 obtain ⟨l⟩ := cs
 match l, hlen' with
 | [c0, c1], _ =>
  simp only [List.drop, List.take] at e0 e1
  obtain ⟨v0, l0, h0, i0, j0, m0⟩ := vD q15 Tryz.underlying22 e0
  obtain ⟨v1, l1, h1, i1, j1, m1⟩ := vD Zo Tryz.underlying23 e1
  injection h0 with h0; injection h1 with h1
  subst h0 h1
  have hm : maxLen = 9223372036854775807 := rfl
  refine ⟨⟨l0, l1⟩, ?_, ⟨j0, by show (l0.length : Int) ≤ _; omega, j1, by show (l1.length : Int) ≤ _; omega⟩⟩
  simp only [a5S, a4S, Den]
  exact ⟨_, rfl, Bx i0 (Bx i1 Nx)⟩
theorem q1q : vX (C := Cd) Dc enc Tryz.prog W 3 U.int I64 := by
 refine ⟨by kernel_rfl, fun fuel cs x h => ?_⟩
 obtain ⟨z, rfl, _, hz⟩ := DataW.trod_int Tryz.underlying3 h
 exact ⟨z, qS Dc W (Old W) [z], (Qi hz).h⟩
theorem Ug {D : aL Cd} {F : Nat → Prop} {u : U} {l : List (Cd.El u)} {a : Option Addr} {len cap : Nat} (h : eM D W F (.dsl u l) (.slice a len cap)) : l.length = len := by
 cases h <;> simp_all
theorem Sv (hsz : ∀ elems spare : List (DataW H), d = .slice elems spare → (elems.length + spare.length) * 8 ≤ reachBytes) (ho : Value.okWide Tryz.prog W r b0' 26 v) (h : DataW.Trod enc Tryz.prog W 0 (fun _ => true) true 26 v d ps) : ∃ l : List Int, Den Dc W (En W) (lS l) v ∧ (∀ z ∈ l, I64 z) ∧ (l.length : Int) ≤ 17592186043904 := by
 obtain ⟨l, h1, h2, h3⟩ := Lv q1q Tryz.underlying26 ho h
 refine ⟨l, h1, h2, ?_⟩
 obtain ⟨a, len, cap, rfl⟩ := okWide_slice Tryz.underlying26 ho
 have hlen : l.length = len := by
  simp only [Den] at h1
  exact Ug h1
 obtain ⟨fuel, hf⟩ := h
 rcases Deep.open_slice Tryz.underlying26 hf with ⟨e, _⟩ | ⟨a', len', cap', m, n, Dd, Pl, e, _, hl, hm, hmm, hx, _⟩
 ·have : (Value.slice a len cap) = .slice none 0 0 := by simpa [Value.cells] using e
  injection this with _ e2 _
  omega
 ·have e1 : (Value.slice a len cap) = .slice (some a') len' cap' := by simpa [Value.cells] using e
  injection e1 with _ e2 _
  have h4 := hsz _ _ (Prod.mk.inj hx).1
  have h5 : reachBytes = 140737488351232 := rfl
  simp only [List.length_map, List.length_range] at h4
  omega
end Go.SX
