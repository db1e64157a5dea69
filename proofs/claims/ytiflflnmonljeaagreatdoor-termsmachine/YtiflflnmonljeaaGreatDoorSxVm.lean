/-
  SX, part Vm: a call in a drawn region; what it leaves as it was counts as read alone.
-/
import Derived.Test.YtiflflnmonljeaaGreatDoorSxV6
set_option linter.unusedVariables false
set_option linter.unusedSimpArgs false
namespace Go.SX
variable {C : Cod}
def Vx : List Nat → Nat → Bool
 | [], _ => false
 | d :: l, c => match Nat.beq d c with
  | true => true
  | false => Vx l c
def xV (dr : List Nat) : List (Nat × HS C) → List (Nat × HS C)
 | [] => []
 | (c, h) :: l => match Vx dr c with
  | true => xV dr l
  | false => (c, h) :: xV dr l
def Jh (Hp : List (HS C)) (dr : List Nat) : List (Nat × HS C) → Prop
  | [] => True
  | (c, h) :: l => (match Vx dr c with
    | true => h = aS Hp c
    | false => True) ∧ Jh Hp dr l
structure Yv (p Y : Prop) : Prop where
 h : p ∧ Y
theorem dxC {p Y : Prop} (h2 : Y) (h1 : p := by (repeat' (first | exact trivial | exact rfl | refine And.intro ?_ ?_))) : Yv p Y := ⟨h1, h2⟩
theorem V0 (dr : List Nat) : ∀ (ws : List (Nat × HS C)) (H : Nat → HS C), (∀ c h, (c, h) ∈ ws → Vx dr c = true → h = H c) → kH H (xV dr ws) = kH H ws
 | [], H, _ => rfl
 | (c, h) :: l, H, hd => by
  unfold xV
  split
  ·rename_i hm
   have e : upH H c h = H := by
    funext x
    unfold upH
    split
    ·rename_i hx; rw [hx]; exact hd c h (List.mem_cons_self ..) hm
    ·rfl
   simp only [kH, e]
   exact V0 dr l H fun c' h' hi hm' => hd c' h' (List.mem_cons_of_mem _ hi) hm'
  ·rename_i hm
   simp only [kH]
   refine V0 dr l (upH H c h) fun c' h' hi hm' => ?_
   have hne : c' ≠ c := fun e => by rw [e, hm] at hm'; cases hm'
   unfold upH
   rw [if_neg hne]
   exact hd c' h' (List.mem_cons_of_mem _ hi) hm'
theorem Bb {Hp : List (HS C)} {dr : List Nat} : ∀ {ws : List (Nat × HS C)}, Jh Hp dr ws → ∀ c h, (c, h) ∈ ws → Vx dr c = true → h = aS Hp c
 | [], _, c, h, hi, _ => by cases hi
 | (d, g) :: l, hd, c, h, hi, hm => by
  rcases List.mem_cons.1 hi with e | hi
  ·injection e with e1 e2; subst e1; subst e2
   have := hd.1
   rw [hm] at this; exact this
  ·exact Bb hd.2 c h hi hm
section
variable {P : Program} {D : aL C} {T : List (SV C)} {Hp : List (HS C)}
theorem I8 : ∀ (θ : List (Option Nat)) (m : List (HS C)) (c : Nat) (h : HS C), (c, h) ∈ wA θ m → c ∈ Q0 θ
 | [], _, c, h, hi => by simp [wA] at hi
 | none :: _, _, c, h, hi => by simp [wA] at hi
 | some d :: l, [], c, h, hi => by simp [wA] at hi
 | some d :: l, y :: m, c, h, hi => by
  simp only [wA] at hi
  rcases List.mem_cons.1 hi with e | hi
  ·injection e with e1 e2; subst e1; simp [Q0]
  ·exact List.mem_cons_of_mem _ (I8 l m c h hi)
theorem dcm {next : DK C} {f : FuncId} {args0 args : List (SV C)} {H0 H0' H1 : List (HS C)} {ret0 : SV C} {dst : Option Nat} {fs fc : List Nat} {tr : List Ent} (ρ : List (Option Nat)) (dr : List Nat) (hM : aG P D f args0 H0 ret0 H1)
  (h : U3 Hp ρ H0.length H1 ret0 fun ret θ ws => Yv (Jh Hp dr ws) (cK (fc ++ Q0 θ) fun fc => cK (mJ (xV dr ws)) fun ids => cO T dst ret fun T' => dI Hp (xV dr ws) fun Hp' => next (⟨dst, fs, fc, ids⟩ :: tr) T' Hp'))
  (hargs : renL ρ args0 = some args := by rfl) (hH0 : fA ρ H0 = some H0' := by rfl) (hat : dC (aS Hp) ρ H0' := by (repeat' (first | exact trivial | exact rfl | refine And.intro ?_ ?_))) : yH P D next f args dst fs fc tr T Hp := by
 unfold U3 at h
 rw [eF, Nat.add_zero, hZ] at h
 unfold Nk at h
 split at h
 ·rename_i hc
  simp only [Bool.and_eq_true] at hc
  unfold Hs at h
  split at h
  ·rename_i H1' hH1
   split at h
   ·rename_i ret hret
    obtain ⟨hd, h2⟩ := h.h
    rw [bA, bA, bB, bQ] at h2
    have hF := mO hM ρ hargs hH0 hat _ rfl hc.1 (Nat.le_of_ble_eq_true hc.2) hH1 hret
    refine ⟨ret, _, _, ⟨fun H hH => ?_⟩, h2⟩
    have hA := hF.at_ H hH
    have e := V0 dr _ H fun c g hi hm => (Bb hd c g hi hm).trans (hH c (I8 _ _ c g hi)).symm
    obtain ⟨hrun⟩ := hA
    rw [← e] at hrun
    exact ⟨hrun⟩
   ·exact h.elim
  ·exact h.elim
 ·exact h.elim
end
end Go.SX
namespace Go.SX
def Hw {α : Type} (p : α → Bool) (xs : List α) : Int := match xs.findIdx? p with
 | some i => i
 | none => -1
theorem yS {α : Type} {p : α → Bool} {xs : List α} {i : Nat} {x : α} (h1 : xs[i]? = some x) (h2 : p x = true) (h3 : (xs.take i).any p = false) : Hw p xs = i := by
 have : xs.findIdx? p = some i := by
  rw [List.findIdx?_eq_some_iff_getElem]
  obtain ⟨hi, hx⟩ := List.getElem?_eq_some_iff.1 h1
  refine ⟨hi, by rw [hx]; exact h2, fun j hj => ?_⟩
  rw [List.any_eq_false] at h3
  exact h3 _ (List.mem_iff_getElem.2 ⟨j, by simp; omega, by simp⟩)
 unfold Hw; rw [this]
theorem lL {α : Type} {p : α → Bool} {xs : List α} (h : xs.any p = false) : Hw p xs = -1 := by
 have : xs.findIdx? p = none := by
  rw [List.findIdx?_eq_none_iff]
  rw [List.any_eq_false] at h
  intro x hx; simpa using h x hx
 unfold Hw; rw [this]
theorem nN {α : Type} (p : α → Bool) (xs : List α) : decide (0 ≤ Hw p xs) = xs.any p := by
 cases h : xs.any p with
 | false => rw [lL h]; rfl
 | true =>
  have : ∃ i, xs.findIdx? p = some i := by
   cases hf : xs.findIdx? p with
   | some i => exact ⟨i, rfl⟩
   | none =>
    rw [List.findIdx?_eq_none_iff] at hf
    obtain ⟨x, hx, hp⟩ := List.any_eq_true.1 h
    rw [hf x hx] at hp; cases hp
  obtain ⟨i, hi⟩ := this
  unfold Hw; rw [hi]; simp
theorem fY {α : Type} {p : α → Bool} {xs : List α} {i : Nat} {x : α} (h1 : xs[i]? = some x) (h2 : p x = false) (h3 : (xs.take i).any p = false) : (xs.take (i + 1)).any p = false := by
 rw [List.take_add_one, h1]
 simp [List.any_append, h3, h2]
theorem iN {α : Type} {p : α → Bool} {xs : List α} {i : Nat} (hi : xs.length ≤ i) (h : (xs.take i).any p = false) : xs.any p = false := by
 rwa [List.take_of_length_le hi] at h
def Bk : List Int → Int → List Int
 | [], n => [n]
 | a :: l, n => if a < n then a :: Bk l n else if a = n then a :: l else n :: a :: l
def L7 (l : List Int) : List Int := l.foldl Bk []
def O3 (a b : List Int) : Bool := bC a && bC b && (List.range 24).all fun y => decide ((b.getD y 0).toNat &&& (2 ^ 48 - ((a.getD y 0).toNat + 1)) = 0)
def gO (g : aK) (e : aD) : Bool := decide (e.kind = 1) && decide (g.from_ ≤ e.at_) && decide (e.at_ < g.to_) && inB e.sun g.low g.high && (e.clear || !g.clear) && O3 e.rows g.rows
def kU (g : aK) (l : List aD) : List aD := l.filter (gO g)
def eJ (e : aD) : Bool := inB e.at_ 0 1000000 && inB e.image 0 999 && (if e.kind = 1 then inB e.sun (-90) 90 && inB e.look (-4) 4 && bC e.rows else if e.kind = 2 then decide ((e.rows.length : Int) = 0) && decide (e.sun = 0) && decide (e.look = 0) && !e.clear else false)
def fU (a b : aD) : Bool := decide (a.at_ < b.at_) || decide (a.at_ = b.at_) && (decide (a.kind < b.kind) || decide (a.kind = b.kind) && decide (a.image < b.image))
def Da (a b : Int) : Int := max (a - b) (b - a)
def bG (g : aK) (a b : aD) : Bool := inB (b.at_ - a.at_) g.within (1440 * g.days)
def jW (g : aK) (a : aD) : Bool := decide (a.at_ ≤ g.from_ + 1440 * g.days)
def bD (g : aK) : List aD → List Int
 | [] => []
 | a :: l => ((l.zip (bD g l)).foldl (fun m p => if bG g a p.1 then max m (1 + p.2) else m) 1) :: bD g l
def uQ (g : aK) : List aD → Int → Option aD → Option (List Int)
 | l, need, last => if need = 0 then some [] else match l with
  | [] => none
  | a :: l' => if decide (need ≤ (bD g (a :: l')).headD 0) && (match last with | none => jW g a | some b => bG g b a) then (match uQ g l' (need - 1) (some a) with | some r => some (a.image :: r) | none => none) else uQ g l' need last
termination_by l => l.length
def Qt (l : List aD) (e : aD) (within : Int) : Bool := l.any fun d => decide (d.kind = 2) && decide (d.image = e.image) && inB (d.at_ - e.at_) 0 within
def G8 (l : List aD) (within : Int) : List aD := l.filter fun e => !(decide (e.kind = 1) && !Qt l e within)
def rZ (g : aK) : List aD → Option (aD × aD)
 | [] => none
 | a :: l => match l.find? (fun b => decide (g.low ≤ Da a.look b.look) && decide (Da a.at_ b.at_ ≤ g.within)) with
  | some b => some (a, b)
  | none => rZ g l
end Go.SX
namespace Go.SX
open Go.Proofs
set_option maxHeartbeats 400000000
set_option maxRecDepth 100000
inductive Es : List (SV Cd) → Prop
 | c0 : Es []
 | c1 (c : List (PV Cd)) : Es [.dptr c 0]
 | c2 (n : Int) : Es [iS n]
 | c3 (c d : List (PV Cd)) : Es [.dptr c 0, .dptr d 0]
 | c5 (l : List Int) : Es [lS l]
theorem getD_some {α : Type} {xs : List α} {i : Nat} {d : α} (h : i < xs.length) : xs[i]? = some (xs.getD (i : Int).toNat d) := by simp [List.getD_eq_getElem?_getD, List.getElem?_eq_getElem h]
theorem Xx {f : FuncId} {caps : List (SV Cd)} (hc : Es caps) {p : Int → Bool} (xs : List Int) (hl : (xs.length : Int) ≤ 9223372036854775807) (hf : ∀ x ∈ xs, aG Tryz.prog Dc f (iS x :: caps) [] (bS (p x)) []) :
  aG Tryz.prog Dc 115 [(.p (.dsl U.int xs)), .fn (.func f) [] caps] [] (iS (Hw p xs)) [] := by
 cases hc <;>
 ·refine aC Ax aF Tryz.func115 (c := _) rfl Tryz.call115 200 ?_
  (repeat' ((conv => whnf); first | (exfalso; omega) | refine x0C ?_ | refine spC (fun hb => ?_) fun hb => ?_ | refine aJ (fun hb => ?_) ?_ | refine taC ?_ | refine saC ?_ | exact sdV | refine aA ?_ ?_ | refine aB mixed ?_))
  refine bW (fun i : Nat => [(8, iS i)]) (fun _ => []) (fun i => i ≤ xs.length ∧ (xs.take i).any p = false) (fun i => xs.length - i) 0 ⟨Nat.zero_le _, by simp⟩ (by exact bkV) ?_
  intro i hi K hK
  rcases Nat.lt_or_ge i xs.length with hlt | hge
  ·have hg := getD_some (d := Cd.dflt U.int) hlt
   have hx := hf _ (List.mem_of_getElem? hg)
   cases hp : p (xs.getD (i : Int).toNat (Cd.dflt U.int)) with
   | false =>
    rw [hp] at hx
    (repeat' ((conv => whnf); first | (exfalso; omega) | refine cpC (hx) ?_ | refine dpC (hx) ?_ | refine hK (i + 1) [] _ _ ⟨by omega, fY hg hp hi.2⟩ ⟨by omega⟩ (by exact bkV) | refine x0C ?_ | refine spC (fun hb => ?_) fun hb => ?_ | refine aJ (fun hb => ?_) ?_ | refine taC ?_ | refine saC ?_ | exact sdV | refine aA ?_ ?_ | refine aB mixed ?_))
   | true =>
    rw [hp] at hx
    (repeat' ((conv => whnf); first | (exfalso; omega) | refine cpC (hx) ?_ | refine dpC (hx) ?_ | refine x0C (eI (yS hg hp hi.2).symm rfl) | refine x0C ?_ | refine spC (fun hb => ?_) fun hb => ?_ | refine aJ (fun hb => ?_) ?_ | refine taC ?_ | refine saC ?_ | exact sdV | refine aA ?_ ?_ | refine aB mixed ?_))
  ·have := lL (iN hge hi.2)
   (repeat' ((conv => whnf); first | (exfalso; omega) | refine x0C (eI this.symm rfl) | refine x0C ?_ | refine spC (fun hb => ?_) fun hb => ?_ | refine aJ (fun hb => ?_) ?_ | refine taC ?_ | refine saC ?_ | exact sdV | refine aA ?_ ?_ | refine aB mixed ?_))
theorem Pn {f : FuncId} {caps : List (SV Cd)} (hc : Es caps) {p : Int → Bool} (xs : List Int) (hl : (xs.length : Int) ≤ 9223372036854775807) (hf : ∀ x ∈ xs, aG Tryz.prog Dc f (iS x :: caps) [] (bS (p x)) []) :
  aG Tryz.prog Dc 82 [(.p (.dsl U.int xs)), .fn (.func f) [] caps] [] (bS (xs.any p)) [] := by
 have h := Xx hc xs hl hf
 rw [← nN]
 cases hc <;>
 ·refine aC Ax aF Tryz.func82 (c := _) rfl Tryz.call82 200 ?_
  (repeat' ((conv => whnf); first | (exfalso; omega) | refine cpC (h) ?_ | refine dpC (h) ?_ | refine x0C (eB rfl rfl) | refine x0C ?_ | refine spC (fun hb => ?_) fun hb => ?_ | refine aJ (fun hb => ?_) ?_ | refine taC ?_ | refine saC ?_ | exact sdV | refine aA ?_ ?_ | refine aB mixed ?_))
theorem Sj {f : FuncId} {caps : List (SV Cd)} (hc : Es caps) {p : aK → Bool} (xs : List aK) (hl : (xs.length : Int) ≤ 9223372036854775807) (hf : ∀ x ∈ xs, aG Tryz.prog Dc f (aP x :: caps) [] (bS (p x)) []) :
  aG Tryz.prog Dc 139 [(.p (.dsl U.goal xs)), .fn (.func f) [] caps] [] (iS (Hw p xs)) [] := by
 cases hc <;>
 ·refine aC Ax aF Tryz.func139 (c := _) rfl Tryz.call139 200 ?_
  (repeat' ((conv => whnf); first | (exfalso; omega) | refine x0C ?_ | refine spC (fun hb => ?_) fun hb => ?_ | refine aJ (fun hb => ?_) ?_ | refine taC ?_ | refine saC ?_ | exact sdV | refine aA ?_ ?_ | refine aB mixed ?_))
  refine bW (fun i : Nat => [(8, iS i)]) (fun _ => []) (fun i => i ≤ xs.length ∧ (xs.take i).any p = false) (fun i => xs.length - i) 0 ⟨Nat.zero_le _, by simp⟩ (by exact bkV) ?_
  intro i hi K hK
  rcases Nat.lt_or_ge i xs.length with hlt | hge
  ·have hg := getD_some (d := Cd.dflt U.goal) hlt
   have hx := hf _ (List.mem_of_getElem? hg)
   cases hp : p (xs.getD (i : Int).toNat (Cd.dflt U.goal)) with
   | false =>
    rw [hp] at hx
    (repeat' ((conv => whnf); first | (exfalso; omega) | refine cpC (hx) ?_ | refine dpC (hx) ?_ | refine hK (i + 1) [] _ _ ⟨by omega, fY hg hp hi.2⟩ ⟨by omega⟩ (by exact bkV) | refine x0C ?_ | refine spC (fun hb => ?_) fun hb => ?_ | refine aJ (fun hb => ?_) ?_ | refine taC ?_ | refine saC ?_ | exact sdV | refine aA ?_ ?_ | refine aB mixed ?_))
   | true =>
    rw [hp] at hx
    (repeat' ((conv => whnf); first | (exfalso; omega) | refine cpC (hx) ?_ | refine dpC (hx) ?_ | refine x0C (eI (yS hg hp hi.2).symm rfl) | refine x0C ?_ | refine spC (fun hb => ?_) fun hb => ?_ | refine aJ (fun hb => ?_) ?_ | refine taC ?_ | refine saC ?_ | exact sdV | refine aA ?_ ?_ | refine aB mixed ?_))
  ·have := lL (iN hge hi.2)
   (repeat' ((conv => whnf); first | (exfalso; omega) | refine x0C (eI this.symm rfl) | refine x0C ?_ | refine spC (fun hb => ?_) fun hb => ?_ | refine aJ (fun hb => ?_) ?_ | refine taC ?_ | refine saC ?_ | exact sdV | refine aA ?_ ?_ | refine aB mixed ?_))
theorem Uj {f : FuncId} {caps : List (SV Cd)} (hc : Es caps) {p : aK → Bool} (xs : List aK) (hl : (xs.length : Int) ≤ 9223372036854775807) (hf : ∀ x ∈ xs, aG Tryz.prog Dc f (aP x :: caps) [] (bS (p x)) []) :
  aG Tryz.prog Dc 114 [(.p (.dsl U.goal xs)), .fn (.func f) [] caps] [] (bS (xs.any p)) [] := by
 have h := Sj hc xs hl hf
 rw [← nN]
 cases hc <;>
 ·refine aC Ax aF Tryz.func114 (c := _) rfl Tryz.call114 200 ?_
  (repeat' ((conv => whnf); first | (exfalso; omega) | refine cpC (h) ?_ | refine dpC (h) ?_ | refine x0C (eB rfl rfl) | refine x0C ?_ | refine spC (fun hb => ?_) fun hb => ?_ | refine aJ (fun hb => ?_) ?_ | refine taC ?_ | refine saC ?_ | exact sdV | refine aA ?_ ?_ | refine aB mixed ?_))
theorem Yt {f : FuncId} {caps : List (SV Cd)} (hc : Es caps) {p : aD → Bool} (xs : List aD) (hl : (xs.length : Int) ≤ 9223372036854775807) (hf : ∀ x ∈ xs, aG Tryz.prog Dc f (evA x :: caps) [] (bS (p x)) []) :
  aG Tryz.prog Dc 63 [(.p (.dsl U.event xs)), .fn (.func f) [] caps] [] (iS (Hw p xs)) [] := by
 cases hc <;>
 ·refine aC Ax aF Tryz.func63 (c := _) rfl Tryz.call63 200 ?_
  (repeat' ((conv => whnf); first | (exfalso; omega) | refine x0C ?_ | refine spC (fun hb => ?_) fun hb => ?_ | refine aJ (fun hb => ?_) ?_ | refine taC ?_ | refine saC ?_ | exact sdV | refine aA ?_ ?_ | refine aB mixed ?_))
  refine bW (fun i : Nat => [(8, iS i)]) (fun _ => []) (fun i => i ≤ xs.length ∧ (xs.take i).any p = false) (fun i => xs.length - i) 0 ⟨Nat.zero_le _, by simp⟩ (by exact bkV) ?_
  intro i hi K hK
  rcases Nat.lt_or_ge i xs.length with hlt | hge
  ·have hg := getD_some (d := Cd.dflt U.event) hlt
   have hx := hf _ (List.mem_of_getElem? hg)
   cases hp : p (xs.getD (i : Int).toNat (Cd.dflt U.event)) with
   | false =>
    rw [hp] at hx
    (repeat' ((conv => whnf); first | (exfalso; omega) | refine cpC (hx) ?_ | refine dpC (hx) ?_ | refine hK (i + 1) [] _ _ ⟨by omega, fY hg hp hi.2⟩ ⟨by omega⟩ (by exact bkV) | refine x0C ?_ | refine spC (fun hb => ?_) fun hb => ?_ | refine aJ (fun hb => ?_) ?_ | refine taC ?_ | refine saC ?_ | exact sdV | refine aA ?_ ?_ | refine aB mixed ?_))
   | true =>
    rw [hp] at hx
    (repeat' ((conv => whnf); first | (exfalso; omega) | refine cpC (hx) ?_ | refine dpC (hx) ?_ | refine x0C (eI (yS hg hp hi.2).symm rfl) | refine x0C ?_ | refine spC (fun hb => ?_) fun hb => ?_ | refine aJ (fun hb => ?_) ?_ | refine taC ?_ | refine saC ?_ | exact sdV | refine aA ?_ ?_ | refine aB mixed ?_))
  ·have := lL (iN hge hi.2)
   (repeat' ((conv => whnf); first | (exfalso; omega) | refine x0C (eI this.symm rfl) | refine x0C ?_ | refine spC (fun hb => ?_) fun hb => ?_ | refine aJ (fun hb => ?_) ?_ | refine taC ?_ | refine saC ?_ | exact sdV | refine aA ?_ ?_ | refine aB mixed ?_))
theorem Yw {f : FuncId} {caps : List (SV Cd)} (hc : Es caps) {p : aD → Bool} (xs : List aD) (hl : (xs.length : Int) ≤ 9223372036854775807) (hf : ∀ x ∈ xs, aG Tryz.prog Dc f (evA x :: caps) [] (bS (p x)) []) :
  aG Tryz.prog Dc 30 [(.p (.dsl U.event xs)), .fn (.func f) [] caps] [] (bS (xs.any p)) [] := by
 have h := Yt hc xs hl hf
 rw [← nN]
 cases hc <;>
 ·refine aC Ax aF Tryz.func30 (c := _) rfl Tryz.call30 200 ?_
  (repeat' ((conv => whnf); first | (exfalso; omega) | refine cpC (h) ?_ | refine dpC (h) ?_ | refine x0C (eB rfl rfl) | refine x0C ?_ | refine spC (fun hb => ?_) fun hb => ?_ | refine aJ (fun hb => ?_) ?_ | refine taC ?_ | refine saC ?_ | exact sdV | refine aA ?_ ?_ | refine aB mixed ?_))
theorem min_ (n low high : Int) : aG Tryz.prog Dc 46 [iS n, iS low, iS high] [] (bS (inB n low high)) [] := by
 refine aC Ax aF Tryz.func46 (c := _) rfl Tryz.call46 60 ?_
 (repeat' ((conv => whnf); first | (exfalso; omega) | refine x0C (eB ?_ rfl) | refine x0C ?_ | refine spC (fun hb => ?_) fun hb => ?_ | refine aJ (fun hb => ?_) ?_ | refine taC ?_ | refine saC ?_ | exact sdV | refine aA ?_ ?_ | refine aB mixed ?_))
 all_goals (first | (simp_all [inB]; done) | (simp_all [inB]; omega) | (simp_all [inB]; grind))
theorem Oy (n : Int) : aG Tryz.prog Dc 24 [iS n] [] (.ptr 0 0) (bdH n (.map #[] 0) []) := by
 refine aC Ax aF Tryz.func24 (c := _) rfl Tryz.call24 60 ?_
 (repeat' ((conv => whnf); first | (exfalso; omega) | exact enC [some 1, some 0, none] | refine x0C ?_ | refine spC (fun hb => ?_) fun hb => ?_ | refine aJ (fun hb => ?_) ?_ | refine taC ?_ | refine saC ?_ | exact sdV | refine aA ?_ ?_ | refine aB mixed ?_))
def Uu (X : List Int) (s : Int) : Int := if s < 0 then s else X.getD s.toNat 0
theorem mat (X : List Int) (L : Nat) (hL : X.length = L) (s : Int) (hs : St X.length s) : aG Tryz.prog Dc 125 [iS s, .ptr 0 0] [.vart none [.slice 1 0 1 0 L], .rows U.int X] (iS (Uu X s)) [.vart none [.slice 1 0 1 0 L], .rows U.int X] := by
 subst hL
 have h2 := hs.2
 by_cases h : s < 0
 ·rw [show Uu X s = s by unfold Uu; rw [if_pos h]]
  refine aC Ax aF Tryz.func125 (c := _) rfl Tryz.call125 100 ?_
  (repeat' ((conv => whnf); first | (exfalso; omega) | exact enC [some 0, some 1] | refine x0C ?_ | refine spC (fun hb => ?_) fun hb => ?_ | refine aJ (fun hb => ?_) ?_ | refine taC ?_ | refine saC ?_ | exact sdV | refine aA ?_ ?_ | refine aB mixed ?_))
 ·rw [show Uu X s = X.getD (0 + s.toNat) (Cd.dflt U.int) by unfold Uu; rw [if_neg h, Nat.zero_add]; rfl]
  refine aC Ax aF Tryz.func125 (c := _) rfl Tryz.call125 100 ?_
  (repeat' ((conv => whnf); first | (exfalso; omega) | exact enC [some 0, some 1] | refine x0C ?_ | refine spC (fun hb => ?_) fun hb => ?_ | refine aJ (fun hb => ?_) ?_ | refine taC ?_ | refine saC ?_ | exact sdV | refine aA ?_ ?_ | refine aB mixed ?_))
def yT (m i : Nat) : List Int := (List.range m).map fun j => if j < i then (j : Int) else 0
theorem sL (m i : Nat) : (yT m i).length = m := by simp [yT]
theorem Kw {m i j : Nat} (hj : j < m) (hi : j < i) : (yT m i).getD j 0 = j := by
 unfold yT
 rw [List.getD_eq_getElem?_getD, List.getElem?_map, List.getElem?_range hj]
 simp [hi]
theorem Hq (m : Nat) : yT m 0 = List.replicate m 0 := by
 unfold yT
 apply List.ext_getElem
 ·simp
 ·intro i h1 h2; simp
theorem Mc {m i : Nat} (hi : i < m) : (yT m i).set i (i : Int) = yT m (i + 1) := by
 apply List.ext_getElem
 ·simp [yT]
 ·intro j h1 h2
  simp only [List.getElem_set, yT, List.getElem_map, List.getElem_range]
  by_cases e : i = j
  ·subst e; simp
  ·rw [if_neg e]
   by_cases h : j < i
   ·rw [if_pos h, if_pos (by omega)]
   ·rw [if_neg h, if_neg (by omega)]
theorem T8 {m i : Nat} {s : Int} (hs : St i s) (him : i ≤ m) : Uu (yT m i) s = s := by
 unfold Uu
 split
 ·rfl
 ·have := hs.2
  rw [Kw (by omega) (by omega)]; omega
theorem Jq {N : List Nd} (hn : N.Nodup) {i : Nat} {d : Nd} (h : N[i]? = some d) : d ∉ N.take i := by
 intro hm
 obtain ⟨j, hj, e⟩ := List.getElem_of_mem hm
 rw [List.length_take] at hj
 rw [List.getElem_take] at e
 have := (List.getElem?_inj (show j < N.length by omega) hn).1 (show N[j]? = N[i]? by rw [h, List.getElem?_eq_getElem (by omega), e])
 omega
theorem Zq (n : Nat) {N : List Nd} {k : Int} (hM : R6 n N k) (hl : N.length ≤ 100000) : ∃ K', aU K' N ∧ aG Tryz.prog Dc 91 [.ptr 0 0, wJ n k N] (bdH n (.map #[] 0) []) (iS k) (bdD n K' N) := by
 have step : ∀ (i : Nat) (K : Obj), i < N.length → aU K (N.take i) → ∃ K', aU K' (N.take (i + 1)) ∧ aG Tryz.prog Dc 60 [.ptr 0 0, iS (N.getD (i : Int).toNat (Cd.dflt U.node)).ev, iS (N.getD (i : Int).toNat (Cd.dflt U.node)).no, iS (N.getD (i : Int).toNat (Cd.dflt U.node)).yes] (bdH n K (N.take i)) (iS i) (bdD n K' (N.take (i + 1))) := by
  intro i K hi hK
  have hg := getD_some (d := Cd.dflt U.node) hi
  obtain ⟨g1, g2, g3, g4, g5, g6, g7⟩ := hM.wf.ok _ _ hg
  obtain ⟨B', K', s, hN, hK', hm⟩ := Np n hK (N.getD (i : Int).toNat (Cd.dflt U.node)).ev (N.getD (i : Int).toNat (Cd.dflt U.node)).no (N.getD (i : Int).toNat (Cd.dflt U.node)).yes (by rw [List.length_take]; omega)
  have ht : N.take i ++ [N.getD (i : Int).toNat (Cd.dflt U.node)] = N.take (i + 1) := by rw [List.take_add_one, hg]; rfl
  rcases hN with ⟨h, _⟩ | ⟨_, ⟨q, hq, _⟩, _⟩ | ⟨_, _, rfl, rfl⟩
  ·exact absurd h g3
  ·exact absurd (List.mem_of_getElem? hq) (Jq hM.wf.nd hg)
  ·have e : ((N.take i).length : Int) = i := by rw [List.length_take]; omega
   rw [e] at hm
   have ht' : N.take i ++ [(⟨(N.getD (i : Int).toNat (Cd.dflt U.node)).ev, (N.getD (i : Int).toNat (Cd.dflt U.node)).no, (N.getD (i : Int).toNat (Cd.dflt U.node)).yes⟩ : Nd)] = N.take (i + 1) := ht
   rw [ht'] at hm hK'
   exact ⟨K', hK', hm⟩
 obtain ⟨f, hf0, hfP, hfR⟩ := dP (n := N.length) (P := fun i K => aU K (N.take i)) (R := fun i K K' => aG Tryz.prog Dc 60 [.ptr 0 0, iS (N.getD (i : Int).toNat (Cd.dflt U.node)).ev, iS (N.getD (i : Int).toNat (Cd.dflt U.node)).no, iS (N.getD (i : Int).toNat (Cd.dflt U.node)).yes] (bdH n K (N.take i)) (iS i) (bdD n K' (N.take (i + 1)))) (.map #[] 0) ⟨#[], 0, rfl, J4⟩ step
 have e0 : List.replicate (N.length : Int).toNat (Cd.dflt U.int) = yT N.length 0 := by rw [Hq, Int.toNat_natCast]; rfl
 have hend := hfP N.length (Nat.le_refl _)
 rw [List.take_length] at hend
 refine ⟨f N.length, hend, ?_⟩
 rw [← hf0]
 refine aC Ax aF Tryz.func91 (c := _) rfl Tryz.call91 300 ?_
 (repeat' ((conv => whnf); first | (exfalso; omega) | refine x0C ?_ | refine spC (fun hb => ?_) fun hb => ?_ | refine aJ (fun hb => ?_) ?_ | refine taC ?_ | refine saC ?_ | exact sdV | refine aA ?_ ?_ | refine aB mixed ?_))
 refine aT [some 0, some 1, none, some 3, some 4, some 5, some 2] (fun i : Nat => [(17, iS i)]) (fun i => [(0, .vart none [iS n, .slice 6 0 3 0 (N.take i).length, .mapp 1]), (1, .obj (f i)), (2, .dead), (4, .rows U.int (yT N.length i)), (6, .rows U.node (N.take i))]) (fun i => i ≤ N.length) (fun i => N.length - i) 0 (Nat.zero_le _) (by exact bkI) ?_
 intro i hi KK hKK
 have hL : (yT N.length i).length = (N.length : Int).toNat := by rw [sL, Int.toNat_natCast]
 rcases Nat.lt_or_ge i N.length with hlt | hge
 ·have hm := hfR i hlt
  have hg := getD_some (d := Cd.dflt U.node) hlt
  obtain ⟨g1, g2, g3, g4, g5, g6, g7⟩ := hM.wf.ok _ _ hg
  have h1 := mat (yT N.length i) _ hL (N.getD (i : Int).toNat (Cd.dflt U.node)).no (by rw [sL]; exact g4.mono (by omega))
  have h2 := mat (yT N.length i) _ hL (N.getD (i : Int).toNat (Cd.dflt U.node)).yes (by rw [sL]; exact g5.mono (by omega))
  rw [T8 g4 (by omega)] at h1
  rw [T8 g5 (by omega)] at h2
  have hS : (yT N.length i).set (0 + (i : Int).toNat) (i : Int) = yT N.length (i + 1) := by rw [Nat.zero_add, Int.toNat_natCast]; exact Mc hlt
  (repeat' ((conv => whnf); first | (exfalso; omega) | refine dxC ?_ | refine dcm [some 5, some 4] [5, 4] h1 ?_ | refine dcm [some 5, some 4] [5, 4] h2 ?_ | (refine bZ [some 0, some 1, some 6] hm rfl rfl ⟨rfl, rfl, rfl, trivial⟩ ?_) | refine hKK (i + 1) [some 0, some 1, some 2, some 3, some 4, some 5, some 8] _ _ ⟨by omega⟩ ⟨by omega⟩ (by exact bkI) | refine x0C ?_ | refine spC (fun hb => ?_) fun hb => ?_ | refine aJ (fun hb => ?_) ?_ | refine taC ?_ | refine saC ?_ | exact sdV | refine aA ?_ ?_ | refine aB mixed ?_))
 ·have hiN : i = N.length := by omega
  subst hiN
  have h3 := mat (yT N.length N.length) _ hL k (by rw [sL]; exact hM.st)
  rw [T8 hM.st (Nat.le_refl _)] at h3
  have ht := List.take_length (l := N)
  (repeat' ((conv => whnf); first | (exfalso; omega) | refine chC [some 5, some 4] h3 ?_ | refine dxC ?_ | refine dcm [some 5, some 4] [5, 4] h3 ?_ | exact enC [some 0, some 1, some 2, some 6] (hv := by exact hsW) | refine x0C ?_ | refine spC (fun hb => ?_) fun hb => ?_ | refine aJ (fun hb => ?_) ?_ | refine taC ?_ | refine saC ?_ | exact sdV | refine aA ?_ ?_ | refine aB mixed ?_))
theorem Ym (N : List Nd) (hl : N.length ≤ 100000) : aG Tryz.prog Dc 124 [.p (.dsl U.node N), .p (.dsl U.node N)] [] (bS true) [] := by
 refine aC Ax aF Tryz.func124 (c := _) rfl Tryz.call124 300 ?_
 (repeat' ((conv => whnf); first | refine x0C (eB ?_ rfl) | (exfalso; omega) | refine x0C ?_ | refine spC (fun hb => ?_) fun hb => ?_ | refine aJ (fun hb => ?_) ?_ | refine taC ?_ | refine saC ?_ | exact sdV | refine aA ?_ ?_ | refine aB mixed ?_))
 refine aT [] (fun i : Nat => [(13, iS i)]) (fun i => []) (fun i => i ≤ N.length) (fun i => N.length - i) 0 (Nat.zero_le _) (by exact bkI) ?_
 intro i hi KK hKK
 (repeat' ((conv => whnf); first | refine x0C (eB ?_ rfl) | (exfalso; omega) | refine hKK (i + 1) [] _ _ ⟨by omega⟩ ⟨by omega⟩ (by exact bkI) | refine x0C ?_ | refine spC (fun hb => ?_) fun hb => ?_ | refine aJ (fun hb => ?_) ?_ | refine taC ?_ | refine saC ?_ | exact sdV | refine aA ?_ ?_ | refine aB mixed ?_))
 all_goals first | rfl | (simp_all; done)
theorem Zx (n : Nat) (N : List Nd) (k : Int) (hl : N.length ≤ 100000) : aG Tryz.prog Dc 90 [wJ n k N, wJ n k N] [] (bS true) [] := by
 have h := Ym N hl
 refine aC Ax aF Tryz.func90 (c := _) rfl Tryz.call90 100 ?_
 (repeat' ((conv => whnf); first | refine x0C (eB ?_ rfl) | (exfalso; omega) | refine cpC (h) ?_ | refine dpC (h) ?_ | refine x0C ?_ | refine spC (fun hb => ?_) fun hb => ?_ | refine aJ (fun hb => ?_) ?_ | refine taC ?_ | refine saC ?_ | exact sdV | refine aA ?_ ?_ | refine aB mixed ?_))
 all_goals first | rfl | (simp_all; done)
theorem Wb (n : Nat) (hn : n ≤ 10) {N : List Nd} {k : Int} (hM : R6 n N k) : aG Tryz.prog Dc 62 [wJ n k N] [] (bS true) [] := by
 have hpow : 2 ^ n ≤ 1024 := Nat.pow_le_pow_right (by omega) hn
 have hfew := hM.few
 have hst := hM.st
 have s1 := hst.1
 have s2 := hst.2
 obtain ⟨K', hK', h2⟩ := Zq n hM (by omega)
 have h1 := Oy n
 obtain ⟨P', N', k', h3, h4⟩ := X8 n (K := K') hM.wf (by omega) k hst
 have h5 := Zx n N k (by omega)
 obtain ⟨_, rfl, rfl⟩ := Nu hM.again h3
 have b1 := min_ n 0 16
 have b2 := min_ k (-2) (N.length - 1)
 rw [(aM _ _ _).2 ⟨by omega, by omega⟩] at b1 b2
 refine aC Ax aF Tryz.func62 (c := _) rfl Tryz.call62 400 ?_
 (repeat' ((conv => whnf); first | refine x0C (eB ?_ rfl) | (exfalso; omega) | refine cpC (b1) ?_ | refine dpC (b1) ?_ | refine cpC (b2) ?_ | refine dpC (b2) ?_ | refine x0C ?_ | refine spC (fun hb => ?_) fun hb => ?_ | refine aJ (fun hb => ?_) ?_ | refine taC ?_ | refine saC ?_ | exact sdV | refine aA ?_ ?_ | refine aB mixed ?_))
 refine aT [some 0] (fun i : Nat => [(31, iS i)]) (fun i => []) (fun i => i ≤ N.length) (fun i => N.length - i) 0 (Nat.zero_le _) (by exact bkI) ?_
 intro i hi KK hKK
 rcases Nat.lt_or_ge i N.length with hlt | hge
 ·have hg := getD_some (d := Cd.dflt U.node) hlt
  obtain ⟨g1, g2, g3, g4, g5, g6, g7⟩ := hM.wf.ok _ _ hg
  have top : ∀ s : Int, (N.getD (i : Int).toNat (Cd.dflt U.node)).ev < cD n N s → s < 0 ∨ (N.getD (i : Int).toNat (Cd.dflt U.node)).ev < (N.getD s.toNat (Cd.dflt U.node)).ev := fun s h => by
   unfold cD at h
   split at h
   ·left; assumption
   ·exact .inr h
  have t1 := top _ g6
  have t2 := top _ g7
  have a1 := g4.1
  have a2 := g4.2
  have a3 := g5.1
  have a4 := g5.2
  have c3 := min_ (N.getD (i : Int).toNat (Cd.dflt U.node)).ev 0 (n - 1)
  rw [(aM _ _ _).2 ⟨by omega, by omega⟩] at c3
  have hv : ∀ j : Nat, j < 2 → ∀ v, v = [(N.getD (i : Int).toNat (Cd.dflt U.node)).no, (N.getD (i : Int).toNat (Cd.dflt U.node)).yes].getD (j : Int).toNat (Cd.dflt U.int) → (-2 ≤ v ∧ v < i ∧ (v < 0 ∨ (N.getD (i : Int).toNat (Cd.dflt U.node)).ev < (N.getD v.toNat (Cd.dflt U.node)).ev)) ∧ aG Tryz.prog Dc 46 [iS v, iS (-2), iS (i - 1)] [] (bS true) [] := by
   intro j hj v hv
   have key : -2 ≤ v ∧ v < i ∧ (v < 0 ∨ (N.getD (i : Int).toNat (Cd.dflt U.node)).ev < (N.getD v.toNat (Cd.dflt U.node)).ev) := by
    match j, hj with
    | 0, _ => rw [hv]; exact ⟨a1, a2, t1⟩
    | 1, _ => rw [hv]; exact ⟨a3, a4, t2⟩
   refine ⟨key, ?_⟩
   have := min_ v (-2) (i - 1)
   rwa [(aM _ _ _).2 ⟨by omega, by omega⟩] at this
  clear top g4 g5 g6 g7 h1 h2 h3 h4 h5 hM hK' b1 b2
  (repeat' ((conv => whnf); first | refine x0C (eB ?_ rfl) | (exfalso; omega) | refine x0C ?_ | refine spC (fun hb => ?_) fun hb => ?_ | refine aJ (fun hb => ?_) ?_ | refine taC ?_ | refine saC ?_ | exact sdV | refine aA ?_ ?_ | refine aB mixed ?_))
  refine aT [some 0, some 1] (fun j : Nat => [(41, iS j)]) (fun j => []) (fun j => j ≤ 2) (fun j => 2 - j) 0 (Nat.zero_le _) (by exact bkI) ?_
  intro j hj K2 hK2
  rcases Nat.lt_or_ge j 2 with hj2 | hj2
  ·obtain ⟨⟨v1, v2, v3⟩, c1⟩ := hv j hj2 _ rfl
   (repeat' ((conv => whnf); first | refine x0C (eB ?_ rfl) | (exfalso; omega) | refine cpC (c1) ?_ | refine dpC (c1) ?_ | refine hK2 (j + 1) [some 0, some 1] _ _ ⟨by omega⟩ ⟨by omega⟩ (by exact bkI) | refine x0C ?_ | refine spC (fun hb => ?_) fun hb => ?_ | refine aJ (fun hb => ?_) ?_ | refine taC ?_ | refine saC ?_ | exact sdV | refine aA ?_ ?_ | refine aB mixed ?_))
  ·(repeat' ((conv => whnf); first | refine x0C (eB ?_ rfl) | (exfalso; omega) | refine cpC (c3) ?_ | refine dpC (c3) ?_ | refine hKK (i + 1) [some 0] _ _ ⟨by omega⟩ ⟨by omega⟩ (by exact bkI) | refine x0C ?_ | refine spC (fun hb => ?_) fun hb => ?_ | refine aJ (fun hb => ?_) ?_ | refine taC ?_ | refine saC ?_ | exact sdV | refine aA ?_ ?_ | refine aB mixed ?_))
 ·(repeat' ((conv => whnf); first | refine x0C (eB ?_ rfl) | (exfalso; omega) | refine chC [] h1 ?_ | (refine bZ [some 1, some 2, some 3] h2 rfl rfl ⟨rfl, rfl, rfl, trivial⟩ ?_) | (refine bZ [some 1, some 2, some 4] h4 rfl rfl ⟨rfl, rfl, rfl, trivial⟩ ?_) | refine cpC (h5) ?_ | refine dpC (h5) ?_ | refine x0C ?_ | refine spC (fun hb => ?_) fun hb => ?_ | refine aJ (fun hb => ?_) ?_ | refine taC ?_ | refine saC ?_ | exact sdV | refine aA ?_ ?_ | refine aB mixed ?_))
  all_goals rfl
def Q2 (set e : Int) : Bool := decide (bL .and .i64 (nO .i64 set e) 1 = 1)
theorem Gb {n : Nat} (hn : n ≤ 10) : iT .i64 1 (n : Int) = 2 ^ n := by
 have : ∀ m : Nat, m < 11 → iT .i64 1 (m : Int) = 2 ^ m := by decide +kernel
 exact this n (by omega)
theorem Yy (n : Nat) (hn : n ≤ 10) {N : List Nd} {k : Int} (hM : R6 n N k) (set : Int) (hs : 0 ≤ set ∧ set < 2 ^ n) : aG Tryz.prog Dc 29 [wJ n k N, iS n, iS set] [] (.tuple [bS (cM (Q2 set) N k), bS (!decide (gX N (Q2 set) n (N.length + 1) k = -1)), iS 0]) [] := by
 have h1 := Wb n hn hM
 have b1 := min_ n 0 n
 have b2 := min_ set 0 (iT .i64 1 n - 1)
 have hsh := Gb hn
 have hpow : (2 : Int) ^ n ≤ 1024 := by
  have : 2 ^ n ≤ 1024 := Nat.pow_le_pow_right (by omega) hn
  exact_mod_cast this
 rw [(aM _ _ _).2 ⟨by omega, by omega⟩] at b1 b2
 have k1 := hM.st.1
 have k2 := hM.st.2
 rw [A2 hM.wf (N.length + 1) k hM.st (by omega)]
 have hB := hM.wf
 generalize hW : gX N (Q2 set) n (N.length + 1) k = W
 refine aC Ax aF Tryz.func29 (c := _) rfl Tryz.call29 300 ?_
 (repeat' ((conv => whnf); first | (exfalso; omega) | refine cpC (h1) ?_ | refine dpC (h1) ?_ | refine cpC (b1) ?_ | refine dpC (b1) ?_ | refine cpC (b2) ?_ | refine dpC (b2) ?_ | refine x0C ?_ | refine spC (fun hb => ?_) fun hb => ?_ | refine aJ (fun hb => ?_) ?_ | refine taC ?_ | refine saC ?_ | exact sdV | refine aA ?_ ?_ | refine aB mixed ?_))
 refine aT [some 0] (fun s : Int => [(9, iS s)]) (fun s => []) (fun s => St N.length s ∧ gX N (Q2 set) n (N.length + 1) s = W) (fun s => (s + 2).toNat) k ⟨hM.st, hW⟩ (by exact bkI) ?_
 rintro s ⟨hst, hw⟩ KK hKK
 have s1 := hst.1
 have s2 := hst.2
 have hend : (s < 0 ∨ ¬ (N.getD s.toNat (Cd.dflt U.node)).ev < n) → W = s := fun h => by
  rw [← hw]
  refine eE _ ?_
  rcases h with h | h
  ·exact .inl h
  ·right
   unfold cD
   split
   ·exact Int.le_refl _
   ·exact Int.not_lt.1 h
 have hgo : 0 ≤ s → (N.getD s.toNat (Cd.dflt U.node)).ev < n → ∀ b, b = Q2 set (N.getD s.toNat (Cd.dflt U.node)).ev → (0 ≤ (N.getD s.toNat (Cd.dflt U.node)).ev ∧ St N.length (if b then (N.getD s.toNat (Cd.dflt U.node)).yes else (N.getD s.toNat (Cd.dflt U.node)).no)) ∧ gX N (Q2 set) n (N.length + 1) (if b then (N.getD s.toNat (Cd.dflt U.node)).yes else (N.getD s.toNat (Cd.dflt U.node)).no) = W ∧ (if b then (N.getD s.toNat (Cd.dflt U.node)).yes else (N.getD s.toNat (Cd.dflt U.node)).no) < s := fun h0 he b hb => by
  have hss : ((s.toNat : Nat) : Int) = s := by omega
  have hg := getD_some (d := Cd.dflt U.node) (show s.toNat < N.length by omega)
  rw [Int.toNat_natCast] at hg
  obtain ⟨g1, g2, g3, g4, g5, g6, g7⟩ := hB.ok _ _ hg
  have hn := kY (σ := Q2 set) (e := n) (f := N.length) hg he
  rw [hss, hw, ← hb] at hn
  have c1 := g4.2
  have c2 := g5.2
  have c0 : St N.length (if b then (N.getD s.toNat (Cd.dflt U.node)).yes else (N.getD s.toNat (Cd.dflt U.node)).no) := by
   split
   ·exact g5.mono (by omega)
   ·exact g4.mono (by omega)
  have c3 := c0.2
  refine ⟨⟨g1, c0⟩, ?_, by split <;> omega⟩
  rw [hn]
  exact pG hB _ _ _ c0 (by omega) (by omega)
 by_cases h0 : 0 ≤ s
 ·by_cases he : (N.getD s.toNat (Cd.dflt U.node)).ev < n
  ·have hg2 := hgo h0 he _ rfl
   by_cases hbit : bL .and .i64 (nO .i64 set (N.getD s.toNat (Cd.dflt U.node)).ev) 1 = 1
   ·rw [show Q2 set (N.getD s.toNat (Cd.dflt U.node)).ev = true from decide_eq_true hbit] at hg2
    obtain ⟨⟨q0, q1⟩, q2, q3⟩ := hg2
    have q1 : St N.length (N.getD s.toNat (Cd.dflt U.node)).yes := q1
    have q2 : gX N (Q2 set) n (N.length + 1) (N.getD s.toNat (Cd.dflt U.node)).yes = W := q2
    have q3 : (N.getD s.toNat (Cd.dflt U.node)).yes < s := q3
    have q1' := q1.1
    clear hgo hend
    (repeat' ((conv => whnf); first | (exfalso; omega) | refine hKK (N.getD s.toNat (Cd.dflt U.node)).yes [some 0] _ _ ⟨⟨q1, q2⟩⟩ ⟨by omega⟩ (by exact bkI) | refine x0C ?_ | refine spC (fun hb => ?_) fun hb => ?_ | refine aJ (fun hb => ?_) ?_ | refine taC ?_ | refine saC ?_ | exact sdV | refine aA ?_ ?_ | refine aB mixed ?_))
   ·rw [show Q2 set (N.getD s.toNat (Cd.dflt U.node)).ev = false from decide_eq_false hbit] at hg2
    obtain ⟨⟨q0, q1⟩, q2, q3⟩ := hg2
    have q1 : St N.length (N.getD s.toNat (Cd.dflt U.node)).no := q1
    have q2 : gX N (Q2 set) n (N.length + 1) (N.getD s.toNat (Cd.dflt U.node)).no = W := q2
    have q3 : (N.getD s.toNat (Cd.dflt U.node)).no < s := q3
    have q1' := q1.1
    clear hgo hend
    (repeat' ((conv => whnf); first | (exfalso; omega) | refine hKK (N.getD s.toNat (Cd.dflt U.node)).no [some 0] _ _ ⟨⟨q1, q2⟩⟩ ⟨by omega⟩ (by exact bkI) | refine x0C ?_ | refine spC (fun hb => ?_) fun hb => ?_ | refine aJ (fun hb => ?_) ?_ | refine taC ?_ | refine saC ?_ | exact sdV | refine aA ?_ ?_ | refine aB mixed ?_))
  ·have hW := hend (.inr he)
   subst hW
   clear hgo hend
   (repeat' ((conv => whnf); first | (exfalso; omega) | refine x0C ?_ | refine spC (fun hb => ?_) fun hb => ?_ | refine aJ (fun hb => ?_) ?_ | refine taC ?_ | refine saC ?_ | exact sdV | refine aA ?_ ?_ | refine aB mixed ?_))
   all_goals exact vwV
 ·have hW := hend (.inl (by omega))
  subst hW
  clear hgo hend
  (repeat' ((conv => whnf); first | (exfalso; omega) | refine x0C ?_ | refine spC (fun hb => ?_) fun hb => ?_ | refine aJ (fun hb => ?_) ?_ | refine taC ?_ | refine saC ?_ | exact sdV | refine aA ?_ ?_ | refine aB mixed ?_))
  all_goals exact vwV
theorem Mr (n : Nat) (hn : n ≤ 10) {N : List Nd} {k : Int} (hM : R6 n N k) (set : Int) (hs : 0 ≤ set ∧ set < 2 ^ n) : aG Tryz.prog Dc 10 [wJ n k N, iS set] [] (bS (cM (Q2 set) N k)) [] := by
 have h1 := Yy n hn hM set hs
 generalize cM (Q2 set) N k = b at *
 refine aC Ax aF Tryz.func10 (c := _) rfl Tryz.call10 100 ?_
 (repeat' ((conv => whnf); first | refine x0C (eB ?_ rfl) | (exfalso; omega) | refine cpC (h1) ?_ | refine dpC (h1) ?_ | refine x0C ?_ | refine spC (fun hb => ?_) fun hb => ?_ | refine aJ (fun hb => ?_) ?_ | refine taC ?_ | refine saC ?_ | exact sdV | refine aA ?_ ?_ | refine aB mixed ?_))
 all_goals first | rfl | (simp_all; done)
theorem Tr {α : Type} (p : α → Bool) (l : List α) : (l.any fun x => !p x) = !l.all p := by
 induction l with
 | nil => rfl
 | cons a l ih => simp [ih]
theorem Sa (r : Int) : aG Tryz.prog Dc 83 [iS r] [] (bS (!nM r)) [] := by
 have h := gin r 0 281474976710655
 refine aC Ax aF Tryz.func83 (c := _) rfl Tryz.call83 60 ?_
 (repeat' ((conv => whnf); first | refine cpC (h) ?_ | refine dpC (h) ?_ | refine x0C (eB rfl rfl) | refine x0C ?_ | refine spC (fun hb => ?_) fun hb => ?_ | refine aJ (fun hb => ?_) ?_ | refine taC ?_ | refine saC ?_ | exact sdV | refine aA ?_ ?_ | refine aB mixed ?_))
theorem yM (rows : List Int) (hl : (rows.length : Int) ≤ 9223372036854775807) : aG Tryz.prog Dc 45 [pC rows] [] (bS (bC rows)) [] := by
 have h := Pn (f := 83) (.c0) rows hl fun x _ => Sa x
 rw [Tr] at h
 refine aC Ax aF Tryz.func45 (c := _) rfl Tryz.call45 100 ?_
 (repeat' ((conv => whnf); first | (exfalso; omega) | refine cpC (h) ?_ | refine dpC (h) ?_ | refine x0C (eB ?_ rfl) | refine x0C ?_ | refine spC (fun hb => ?_) fun hb => ?_ | refine aJ (fun hb => ?_) ?_ | refine taC ?_ | refine saC ?_ | exact sdV | refine aA ?_ ?_ | refine aB mixed ?_))
 all_goals (first | (simp_all [bC]; done) | (simp_all [bC]; omega) | (simp_all [bC]; grind))
theorem Ye (n : Int) : aG Tryz.prog Dc 111 [iS n] [] (bS (!inB n 0 1000000000)) [] := by
 have h := oin n 0 1000000000
 refine aC Ax aF Tryz.func111 (c := _) rfl Tryz.call111 60 ?_
 (repeat' ((conv => whnf); first | refine cpC (h) ?_ | refine dpC (h) ?_ | refine x0C (eB rfl rfl) | refine x0C ?_ | refine spC (fun hb => ?_) fun hb => ?_ | refine aJ (fun hb => ?_) ?_ | refine taC ?_ | refine saC ?_ | exact sdV | refine aA ?_ ?_ | refine aB mixed ?_))
@[reducible] def Mq (g : aK) : List (PV Cd) := [.int .i64 g.kind, .dsl U.int g.rows, .int .i64 g.from_, .int .i64 g.to_, .int .i64 g.low, .int .i64 g.high, .bool g.clear, .int .i64 g.days, .int .i64 g.times, .int .i64 g.within, .dsl U.int g.cents, .dsl U.goal g.kids]
theorem Wk (g k : aK) : aG Tryz.prog Dc 112 [aP k, .dptr (Mq g) 0] [] (bS (decide (qF g.kind < k.kind))) [] := by
 have h := Cg g.kind
 refine aC Ax aF Tryz.func112 (c := _) rfl Tryz.call112 60 ?_
 (repeat' ((conv => whnf); first | refine cpC (h) ?_ | refine dpC (h) ?_ | refine x0C (eB rfl rfl) | refine x0C ?_ | refine spC (fun hb => ?_) fun hb => ?_ | refine aJ (fun hb => ?_) ?_ | refine taC ?_ | refine saC ?_ | exact sdV | refine aA ?_ ?_ | refine aB mixed ?_))
structure Fu (g : aK) : Prop where
 rows : (g.rows.length : Int) ≤ 9223372036854775807
 cents : (g.cents.length : Int) ≤ 9223372036854775807
 kids : (g.kids.length : Int) ≤ 9223372036854775807
theorem S6 (g : aK) (hg : Fu g) : aG Tryz.prog Dc 81 [aP g] [] (bS (dU g)) [] := by
 obtain ⟨hl1, hl2, hl3⟩ := hg
 have h1 := Pn (f := 111) (.c0) g.cents hl2 fun x _ => Ye x
 have h2 := Uj (f := 112) (.c1 _) g.kids hl3 fun x _ => Wk g x
 have h3 := oin g.kids.length 2 4
 refine aC Ax aF Tryz.func81 (c := _) rfl Tryz.call81 400 ?_
 (repeat' ((conv => whnf); first | (exfalso; omega) | refine cpC (h1) ?_ | refine dpC (h1) ?_ | refine cpC (h3) ?_ | refine dpC (h3) ?_ | refine rdC (h2) ?_ | refine x0C (eB ?_ rfl) | refine x0C ?_ | refine spC (fun hb => ?_) fun hb => ?_ | refine aJ (fun hb => ?_) ?_ | refine taC ?_ | refine saC ?_ | exact sdV | refine aA ?_ ?_ | refine aB mixed ?_))
 all_goals clear h1 h2 h3
 all_goals (first | (simp_all [dU, kI, fW]; done) | (simp_all [dU, kI, fW]; omega) | (simp_all [dU, kI, fW]; grind))
theorem jQ {rows : List Int} (h : bC rows = true) : rows.length = 24 := by
 simp only [bC, Bool.and_eq_true, decide_eq_true_eq] at h
 omega
theorem Xq (n : Int) : 0 ≤ nO .u64 (IntKind.u64.wrap n) 58 ∧ nO .u64 (IntKind.u64.wrap n) 58 < 64 := by
 have h : 0 ≤ IntKind.u64.wrap n ∧ IntKind.u64.wrap n < 18446744073709551616 := by
  simp only [IntKind.wrap, IntKind.signed, IntKind.bits]
  simp
  omega
 generalize IntKind.u64.wrap n = m at *
 unfold nO
 have e : (2 : Int) ^ (min (58 : Int).toNat IntKind.u64.bits) = 288230376151711744 := by decide
 rw [e, Int.fdiv_eq_ediv_of_nonneg _ (by omega)]
 omega
def tzL : List (PV Cd) := (U.glob 1).map Yi
def tzI (n : Int) : Int := nO .u64 (IntKind.u64.wrap (bL .and .u64 n (IntKind.u64.wrap (0 - n)) * 285870213051353865)) 58
def tzN (n : Int) : Int := if n = 0 then 64 else C7 tzL (0 + (tzI n).toNat)
theorem uK (n : Int) : 0 ≤ tzN n ∧ tzN n ≤ 64 := by
 unfold tzN
 split
 ·omega
 ·have h : ∀ i : Fin 64, 0 ≤ C7 tzL i ∧ C7 tzL i ≤ 63 := by decide
  have h1 := Xq (bL .and .u64 n (IntKind.u64.wrap (0 - n)) * 285870213051353865)
  have := h ⟨0 + (tzI n).toNat, by unfold tzI; omega⟩
  simp only at this
  omega
theorem q1k (n : Int) : aG Tryz.prog Dc 160 [.p (.int .u64 n)] [] (iS (tzN n)) [] := by
 have h1 := Xq (bL .and .u64 n (IntKind.u64.wrap (0 - n)) * 285870213051353865)
 have h2 := uK n
 have h3 : n ≠ 0 → tzN n = C7 tzL (0 + (tzI n).toNat) := fun h => by unfold tzN; rw [if_neg h]
 have hr : ¬ n = 0 → InR .i64 (C7 tzL (0 + (tzI n).toNat)) := fun h => by rw [← h3 h]; exact nI (by omega) (by omega)
 have h4 : n = 0 → tzN n = 64 := fun h => by unfold tzN; rw [if_pos h]
 refine aC Ax aF Tryz.func160 (c := _) rfl Tryz.call160 60 ?_
 (repeat' ((conv => whnf); first | (exfalso; omega) | refine aA ⟨hr (by assumption)⟩ ?_ | refine x0C (eI ?_ rfl) | refine x0C ?_ | refine spC (fun hb => ?_) fun hb => ?_ | refine aJ (fun hb => ?_) ?_ | refine taC ?_ | refine saC ?_ | exact sdV | refine aA ?_ ?_ | refine aB mixed ?_))
 ·exact (h4 (by assumption)).symm
 ·exact (h3 (by assumption)).symm
theorem tz (n : Int) : aG Tryz.prog Dc 154 [.p (.int .u64 n)] [] (iS (tzN n)) [] := by
 have h := q1k n
 have h2 := uK n
 refine aC Ax aF Tryz.func154 (c := _) rfl Tryz.call154 60 ?_
 (repeat' ((conv => whnf); first | (exfalso; omega) | refine cpC (h) ?_ | refine dpC (h) ?_ | refine x0C (eI rfl rfl) | refine x0C ?_ | refine spC (fun hb => ?_) fun hb => ?_ | refine aJ (fun hb => ?_) ?_ | refine taC ?_ | refine saC ?_ | exact sdV | refine aA ?_ ?_ | refine aB mixed ?_))
def Eo : Nat → Int → Int
 | 0, _ => 0
 | f + 1, r => if r = 0 then 0 else 1 + Eo f (bL .and .i64 r (r - 1))
def dK (r : Int) : Int := Eo r.toNat r
theorem T6 {r : Int} (h0 : 0 < r) (h1 : r ≤ 281474976710655) : 0 ≤ bL .and .i64 r (r - 1) ∧ bL .and .i64 r (r - 1) < r := by
 obtain ⟨m, rfl⟩ : ∃ m : Nat, r = m := ⟨r.toNat, by omega⟩
 have e : (BitVec.ofInt 64 (m : Int) &&& BitVec.ofInt 64 ((m : Int) - 1)).toNat = m &&& (m - 1) := by
  rw [BitVec.toNat_and]
  have a : (BitVec.ofInt 64 (m : Int)).toNat = m := by simp; omega
  have b : (BitVec.ofInt 64 ((m : Int) - 1)).toNat = m - 1 := by
   rw [show (m : Int) - 1 = ((m - 1 : Nat) : Int) by omega]
   simp; omega
  rw [a, b]
 have hle : m &&& (m - 1) ≤ m - 1 := Nat.and_le_right
 have hw : bL .and .i64 (m : Int) ((m : Int) - 1) = ((m &&& (m - 1) : Nat) : Int) := by
  show IntKind.i64.wrap (((BitVec.ofInt 64 (m : Int) &&& BitVec.ofInt 64 ((m : Int) - 1)).toNat : Nat) : Int) = _
  rw [e]
  exact nI (by omega) (by omega)
 rw [hw]
 omega
theorem vH : ∀ (f f' : Nat) (r : Int), 0 ≤ r → r ≤ 281474976710655 → r.toNat ≤ f → r.toNat ≤ f' → Eo f r = Eo f' r
 | 0, 0, r, _, _, _, _ => rfl
 | 0, f' + 1, r, h0, h1, h2, h3 => by
  have : r = 0 := by omega
  subst this; simp [Eo]
 | f + 1, 0, r, h0, h1, h2, h3 => by
  have : r = 0 := by omega
  subst this; simp [Eo]
 | f + 1, f' + 1, r, h0, h1, h2, h3 => by
  simp only [Eo]
  split
  ·rfl
  ·have := T6 (r := r) (by omega) h1
   rw [vH f f' _ (by omega) (by omega) (by omega) (by omega)]
theorem tG : dK 0 = 0 := rfl
theorem vV {r : Int} (h0 : 0 < r) (h1 : r ≤ 281474976710655) : dK r = 1 + dK (bL .and .i64 r (r - 1)) := by
 have := T6 h0 h1
 unfold dK
 rw [show r.toNat = (r.toNat - 1) + 1 by omega]
 simp only [Eo]
 rw [if_neg (by omega), vH _ (bL .and .i64 r (r - 1)).toNat _ (by omega) (by omega) (by omega) (by omega)]
theorem jE : ∀ (f : Nat) (r : Int), 0 ≤ Eo f r ∧ Eo f r ≤ f
 | 0, r => by simp [Eo]
 | f + 1, r => by
  simp only [Eo]
  have := jE f (bL .and .i64 r (r - 1))
  split <;> omega
def sH (rows : List Int) : Int := rows.foldl (fun n r => n + dK r) 0
theorem Hg (l : List Int) (r : Int) : sH (l ++ [r]) = sH l + dK r := by simp [sH]
theorem J2 {rows : List Int} {i : Nat} {r : Int} (h : rows[i]? = some r) : sH (rows.take (i + 1)) = sH (rows.take i) + dK r := by
 rw [List.take_add_one, h]; exact Hg _ _
theorem pQ {rows : List Int} (h : bC rows = true) : ∀ i : Nat, i ≤ 24 → 0 ≤ sH (rows.take i) ∧ sH (rows.take i) ≤ i * 281474976710655
 | 0, _ => by simp [sH]
 | i + 1, hi => by
  have ih := pQ h i (by omega)
  have hlen := jQ h
  have hg := getD_some (d := (0 : Int)) (show i < rows.length by omega)
  simp only [bC, Bool.and_eq_true] at h
  have hr := List.all_eq_true.1 h.2 _ (List.mem_of_getElem? hg)
  rw [J2 hg]
  generalize rows.getD (i : Int).toNat (0 : Int) = r at *
  have h2 := (aM _ _ _).1 hr
  have h3 := jE r.toNat r
  unfold dK
  omega
theorem W8 (rows : List Int) (hl : (rows.length : Int) ≤ 9223372036854775807) : aG Tryz.prog Dc 110 [pC rows] [] (iS (if bC rows then sH rows else 0)) [] := by
 have h := yM rows hl
 cases ha : bC rows with
 | false =>
  rw [ha] at h
  refine aC Ax aF Tryz.func110 (c := _) rfl Tryz.call110 200 ?_
  (repeat' ((conv => whnf); first | (exfalso; omega) | refine cpC (h) ?_ | refine dpC (h) ?_ | refine x0C (eI rfl rfl) | refine x0C ?_ | refine spC (fun hb => ?_) fun hb => ?_ | refine aJ (fun hb => ?_) ?_ | refine taC ?_ | refine saC ?_ | exact sdV | refine aA ?_ ?_ | refine aB mixed ?_))
 | true =>
  rw [ha] at h
  have hlen := jQ ha
  refine aC Ax aF Tryz.func110 (c := _) rfl Tryz.call110 200 ?_
  (repeat' ((conv => whnf); first | (exfalso; omega) | refine cpC (h) ?_ | refine dpC (h) ?_ | (refine U8 Ax aF Tryz.func138 (c := _) rfl Tryz.call138 60 ?_) | (refine Me Ax aF rfl Tryz.func153 (c := _) rfl Tryz.call153 rfl rfl 300 ?_) | refine x0C ?_ | refine spC (fun hb => ?_) fun hb => ?_ | refine aJ (fun hb => ?_) ?_ | refine taC ?_ | refine saC ?_ | exact sdV | refine aA ?_ ?_ | refine aB mixed ?_))
  intro gn tmps bd
  (repeat' ((conv => whnf); first | (exfalso; omega) | refine x0C ?_ | refine spC (fun hb => ?_) fun hb => ?_ | refine aJ (fun hb => ?_) ?_ | refine taC ?_ | refine saC ?_ | exact sdV | refine aA ?_ ?_ | refine aB mixed ?_))
  refine bW (fun i : Nat => [(9, iS i)]) (fun i => [(1, .var [iS (sH (rows.take i))])]) (fun i => i ≤ 24) (fun i => 24 - i) 0 (Nat.zero_le _) (by exact bkV) ?_
  intro i hi K hK
  rcases Nat.lt_or_ge i 24 with hlt | hge
  ·have hg := getD_some (d := Cd.dflt U.int) (show i < rows.length by omega)
   have h1 := J2 hg
   have h2 := pQ ha (i + 1) (by omega)
   have h5 := pQ ha i (by omega)
   have hr : nM (rows.getD (i : Int).toNat (Cd.dflt U.int)) = true := by
    have h' := ha
    simp only [bC, Bool.and_eq_true] at h'
    exact List.all_eq_true.1 h'.2 _ (List.mem_of_getElem? hg)
   have h3 := (aM _ _ _).1 hr
   (repeat' ((conv => whnf); first | (exfalso; omega) | refine x0C ?_ | refine spC (fun hb => ?_) fun hb => ?_ | refine aJ (fun hb => ?_) ?_ | refine taC ?_ | refine saC ?_ | exact sdV | refine aA ?_ ?_ | refine aB mixed ?_))
   refine bW (fun r : Int => [(4, iS r)]) (fun r => [(1, .var [iS (sH (rows.take (i + 1)) - dK r)])]) (fun r => 0 ≤ r ∧ r ≤ 281474976710655 ∧ 0 ≤ sH (rows.take (i + 1)) - dK r) (fun r => r.toNat) (rows.getD (i : Int).toNat (Cd.dflt U.int)) ⟨h3.1, h3.2, by rw [h1]; omega⟩ (by (rw [h1, Int.add_sub_cancel]; exact bkV)) ?_
   intro r hr K' hK'
   obtain ⟨hr1, hr2, hr4⟩ := hr
   have hz := tz (IntKind.u64.wrap r)
   have hz2 := uK (IntKind.u64.wrap r)
   by_cases hr0 : r = 0
   ·subst hr0
    rw [show sH (rows.take (i + 1)) - dK 0 = sH (rows.take (i + 1)) by rw [tG]; omega]
    (repeat' ((conv => whnf); first | (exfalso; omega) | refine hK (i + 1) [some 0, some 1, some 2, some 3] _ _ ⟨by omega⟩ ⟨by omega⟩ (by exact bkV) | refine x0C ?_ | refine spC (fun hb => ?_) fun hb => ?_ | refine aJ (fun hb => ?_) ?_ | refine taC ?_ | refine saC ?_ | exact sdV | refine aA ?_ ?_ | refine aB mixed ?_))
   ·have hs := vV (r := r) (by omega) hr2
    have hl := T6 (r := r) (by omega) hr2
    have h4 := (jE (bL .and .i64 r (r - 1)).toNat (bL .and .i64 r (r - 1))).1
    change 0 ≤ dK _ at h4
    rw [hs] at hr4 ⊢
    (repeat' ((conv => whnf); first | (exfalso; omega) | refine cpC (hz) ?_ | refine dpC (hz) ?_ | (refine Of Ax aF rfl rfl rfl 200 200 ?_) | refine x0C ?_ | refine spC (fun hb => ?_) fun hb => ?_ | refine aJ (fun hb => ?_) ?_ | refine taC ?_ | refine saC ?_ | exact sdV | refine aA ?_ ?_ | refine aB mixed ?_))
    conv => whnf
    refine hK' (bL .and .i64 r (r - 1)) [some 0, some 1, some 2, some 3] _ _ ⟨by omega⟩ ⟨by omega⟩ (by (dsimp only; rw [show sH (rows.take (i + 1)) - dK (bL .and .i64 r (r - 1)) = sH (rows.take (i + 1)) - (1 + dK (bL .and .i64 r (r - 1))) + 1 by omega]; exact bkV))
  ·rw [show rows.take i = rows by exact List.take_of_length_le (by omega)]
   (repeat' ((conv => whnf); first | (exfalso; omega) | refine x0C (eI rfl rfl) | refine x0C ?_ | refine spC (fun hb => ?_) fun hb => ?_ | refine aJ (fun hb => ?_) ?_ | refine taC ?_ | refine saC ?_ | exact sdV | refine aA ?_ ?_ | refine aB mixed ?_))
theorem Dq {r : Int} (h : nM r = true) : 0 ≤ dK r ∧ (0 < dK r ↔ r ≠ 0) := by
 have h1 := (aM _ _ _).1 h
 have h2 := (jE r.toNat r).1
 change 0 ≤ dK r at h2
 refine ⟨h2, ?_⟩
 by_cases h0 : r = 0
 ·subst h0; simp [tG]
 ·have h3 := vV (r := r) (by omega) h1.2
  have h4 := (jE (bL .and .i64 r (r - 1)).toNat (bL .and .i64 r (r - 1))).1
  change 0 ≤ dK _ at h4
  omega
theorem Ho (l : List Int) (r : Int) : sH (r :: l) = dK r + sH l := by
 have key : ∀ (l : List Int) (a : Int), l.foldl (fun n r => n + dK r) a = a + l.foldl (fun n r => n + dK r) 0 := by
  intro l
  induction l with
  | nil => intro a; simp
  | cons x l ih => intro a; simp only [List.foldl_cons]; rw [ih, ih (0 + dK x)]; omega
 unfold sH
 rw [List.foldl_cons, key]; omega
theorem Bj : ∀ (l : List Int), l.all nM = true → 0 ≤ sH l ∧ decide (0 < sH l) = l.any (fun r => decide (r ≠ 0))
 | [], _ => by simp [sH]
 | r :: l, h => by
  simp only [List.all_cons, Bool.and_eq_true] at h
  obtain ⟨h1, h2⟩ := Bj l h.2
  obtain ⟨h3, h4⟩ := Dq h.1
  rw [Ho, List.any_cons, ← h2]
  refine ⟨by omega, ?_⟩
  rw [Bool.eq_iff_iff]
  simp only [Bool.or_eq_true, decide_eq_true_eq]
  omega
theorem Nf (rows : List Int) : (bC rows && decide (0 < (if bC rows then sH rows else 0))) = (bC rows && rows.any (fun r => decide (r ≠ 0))) := by
 cases h : bC rows with
 | false => rfl
 | true =>
  have h' := h
  simp only [bC, Bool.and_eq_true] at h'
  simp [(Bj rows h'.2).2]
theorem N5 (g : aK) (hg : Fu g) : aG Tryz.prog Dc 80 [aP g] [] (bS (E6 g)) [] := by
 have ha := Nf g.rows
 have h0 := yM g.rows hg.rows
 have h1 := W8 g.rows hg.rows
 have h2 := oin g.from_ 0 1000000
 have h3 := oin g.to_ (g.from_ + 1) 1000000
 have h4 := oin g.low 0 90
 have h5 := oin g.high g.low 90
 have h6 := oin g.low 1 8
 have h7 := oin g.within 1 1000000
 have h8 := oin g.days 1 60
 have h9 := oin g.times 1 6
 have ha1 := oin g.within 0 (1440 * g.days)
 have ha2 := oin g.within 0 1000000
 have i1 := fun h => (aM g.from_ 0 1000000).1 h
 have i2 := fun h => (aM g.days 1 60).1 h
 unfold E6
 generalize (if bC g.rows then sH g.rows else 0) = n at *
 generalize bC g.rows = ar at *
 generalize (g.rows.any fun r => decide (r ≠ 0)) = nz at *
 refine aC Ax aF Tryz.func80 (c := _) rfl Tryz.call80 300 ?_
 (repeat' ((conv => whnf); first | refine x0C (eB ?_ rfl) | (exfalso; omega) | (have := i1 (by assumption); refine saC ?_) | (have := i2 (by assumption); refine saC ?_) | refine cpC (h0) ?_ | refine dpC (h0) ?_ | refine cpC (h1) ?_ | refine dpC (h1) ?_ | refine cpC (h2) ?_ | refine dpC (h2) ?_ | refine cpC (h3) ?_ | refine dpC (h3) ?_ | refine cpC (h4) ?_ | refine dpC (h4) ?_ | refine cpC (h5) ?_ | refine dpC (h5) ?_ | refine cpC (h6) ?_ | refine dpC (h6) ?_ | refine cpC (h7) ?_ | refine dpC (h7) ?_ | refine cpC (h8) ?_ | refine dpC (h8) ?_ | refine cpC (h9) ?_ | refine dpC (h9) ?_ | refine cpC (ha1) ?_ | refine dpC (ha1) ?_ | refine cpC (ha2) ?_ | refine dpC (ha2) ?_ | refine x0C ?_ | refine spC (fun hb => ?_) fun hb => ?_ | refine aJ (fun hb => ?_) ?_ | refine taC ?_ | refine saC ?_ | exact sdV | refine aA ?_ ?_ | refine aB mixed ?_))
 all_goals clear h0 h1 h2 h3 h4 h5 h6 h7 h8 h9 ha1 ha2
 all_goals (first | (simp_all []; done) | (simp_all []; omega) | (simp_all []; grind))
theorem zG {g : aK} (h : okB g = true) : g.kids.length ≤ 4 := by
 simp only [okB, Bool.and_eq_true, dU, kI] at h
 obtain ⟨_, ⟨⟨hm, _⟩, _⟩, _⟩ := h
 split at hm
 ·simp at hm; simp [hm]
 ·split at hm
  ·have := (aM _ _ _).1 hm; omega
  ·simp at hm; omega
mutual
def oN : aK → Prop
 | ⟨kind, rows, from_, to_, low, high, clear, days, times, within, cents, kids⟩ => Fu ⟨kind, rows, from_, to_, low, high, clear, days, times, within, cents, kids⟩ ∧ GAllL kids
def GAllL : List aK → Prop
 | [] => True
 | k :: l => oN k ∧ GAllL l
end
theorem dF (g : aK) : oN g ↔ Fu g ∧ GAllL g.kids := by cases g; rw [oN]
theorem fM : ∀ {l : List aK} {k : aK}, GAllL l → k ∈ l → oN k
 | x :: l, k, h, hk => by
  rw [GAllL] at h
  rcases List.mem_cons.1 hk with rfl | hk
  ·exact h.1
  ·exact fM h.2 hk
theorem yG : ∀ (l : List aK) (k : aK) (d : Int), sizeL (l ++ [k]) d = match sizeL l d with | none => none | some m => match cB k d with | none => none | some n => some (m + n)
 | [], k, d => by
  simp only [List.nil_append, sizeL]
  cases cB k d <;> simp
 | x :: l, k, d => by
  simp only [List.cons_append, sizeL, yG l k d]
  cases cB x d with
  | none => rfl
  | some a =>
   simp only
   cases sizeL l d with
   | none => rfl
   | some b =>
    simp only
    cases cB k d with
    | none => rfl
    | some c => simp only [Option.some.injEq]; omega
theorem nA {B : Int} (hB : 0 ≤ B) : ∀ (l : List aK) (d : Int) (m : Int), (∀ k ∈ l, ∀ n, cB k d = some n → 0 ≤ n ∧ n ≤ B) → sizeL l d = some m → 0 ≤ m ∧ m ≤ l.length * B
 | [], d, m, h, e => by simp [sizeL] at e; subst e; simp
 | k :: l, d, m, h, e => by
  rw [sizeL] at e
  cases hk : cB k d with
  | none => simp [hk] at e
  | some a =>
   cases hl : sizeL l d with
   | none => simp [hk, hl] at e
   | some b =>
    simp [hk, hl] at e
    have h1 := h k (List.mem_cons_self ..) a hk
    have h2 := nA hB l d b (fun x hx => h x (List.mem_cons_of_mem _ hx)) hl
    have : (((k :: l).length : Nat) : Int) * B = l.length * B + B := by
     simp only [List.length_cons, Int.natCast_add, Int.add_mul]; simp
    omega
theorem jZ : ∀ (j : Nat) (g : aK) (d n : Int), 4 ≤ d + j → cB g d = some n → 1 ≤ n ∧ n ≤ 5 ^ j
 | j, g, d, n, hj, e => by
  rw [eZ] at e
  split at e
  ·cases e
  ·rename_i hc
   simp only [Bool.or_eq_true, decide_eq_true_eq, Bool.not_eq_true', not_or, Bool.not_eq_false] at hc
   cases hs : sizeL g.kids (d + 1) with
   | none => simp [hs] at e
   | some m =>
    simp [hs] at e
    have hk := zG hc.2
    cases j with
    | zero =>
     have h0 : g.kids = [] := by
      cases hk : g.kids with
      | nil => rfl
      | cons k l =>
       have : sizeL g.kids (d + 1) = none := oO _ _ ⟨k, by simp [hk], by rw [eZ]; simp; omega⟩
       rw [this] at hs; cases hs
     rw [h0, sizeL] at hs
     injection hs with hs
     simp
     omega
    | succ j =>
     have hp : (0 : Int) ≤ 5 ^ j := Int.le_of_lt (Int.pow_pos (by omega))
     have := nA hp g.kids (d + 1) m (fun k _ n hn => by have := jZ j k (d + 1) n (by omega) hn; omega) hs
     have h4 : (g.kids.length : Int) * 5 ^ j ≤ 4 * 5 ^ j := Int.mul_le_mul_of_nonneg_right (by omega) hp
     rw [Int.pow_succ]
     have h1 : (1 : Int) ≤ 5 ^ j := Int.pow_pos (by omega)
     omega
theorem V4 {g : aK} {d : Int} {i : Nat} {m : Int} (hd : 1 ≤ d) (hok : okB g = true) (h : sizeL (g.kids.take i) (d + 1) = some m) : 0 ≤ m ∧ m ≤ 1000 := by
 have hp := nA (B := 25) (by omega) (g.kids.take i) (d + 1) m (fun k _ n hn => by have := jZ 2 k (d + 1) n (by omega) hn; omega) h
 have hk := zG hok
 have : (g.kids.take i).length ≤ 4 := by simp; omega
 omega
def Ww (o : Option Int) : SV Cd := .tuple [iS (match o with | none => 0 | some n => n), bS (match o with | none => false | some _ => true)]
theorem Cu : ∀ (j : Nat) (g : aK) (d : Int), d + j = 5 → 1 ≤ d → oN g → aG Tryz.prog Dc 44 [aP g, iS d] [] (Ww (cB g d)) [] := by
 intro j
 induction j with
 | zero =>
  intro g d hj hd hG
  rw [show cB g d = none by rw [eZ]; simp; omega]
  refine aC Ax aF Tryz.func44 (c := _) rfl Tryz.call44 400 ?_
  (repeat' ((conv => whnf); first | (exfalso; omega) | refine x0C ?_ | refine spC (fun hb => ?_) fun hb => ?_ | refine aJ (fun hb => ?_) ?_ | refine taC ?_ | refine saC ?_ | exact sdV | refine aA ?_ ?_ | refine aB mixed ?_))
  all_goals exact vwV
 | succ j ih =>
  intro g d hj hd hG
  have hgl := ((dF g).1 hG).1
  have hkl := hgl.kids
  have hkk := ((dF g).1 hG).2
  have h1 := oin g.kind 1 6
  have h2 := Eg g
  have h3 := U2 g (qJ g)
  have h4 := N5 g hgl
  have h5 := S6 g hgl
  rw [eZ, show decide (4 < d) = false by simp; omega, Bool.false_or]
  cases hok : okB g with
  | false =>
   simp only [Bool.not_false, if_true]
   unfold okB at hok
   generalize inB g.kind 1 6 = b1 at *
   generalize kG g (qJ g) = b2 at *
   generalize E6 g = b3 at *
   generalize dU g = b4 at *
   refine aC Ax aF Tryz.func44 (c := _) rfl Tryz.call44 400 ?_
   (repeat' ((conv => whnf); first | (exfalso; omega) | (exfalso; simp_all; done) | refine cpC (h1) ?_ | refine dpC (h1) ?_ | refine cpC (h2) ?_ | refine dpC (h2) ?_ | refine cpC (h3) ?_ | refine dpC (h3) ?_ | refine cpC (h4) ?_ | refine dpC (h4) ?_ | refine cpC (h5) ?_ | refine dpC (h5) ?_ | refine x0C ?_ | refine spC (fun hb => ?_) fun hb => ?_ | refine aJ (fun hb => ?_) ?_ | refine taC ?_ | refine saC ?_ | exact sdV | refine aA ?_ ?_ | refine aB mixed ?_))
   all_goals exact vwV
  | true =>
   simp only [Bool.not_true]
   have hok' := hok
   unfold okB at hok'
   simp only [Bool.and_eq_true] at hok'
   rw [hok'.1.1.1] at h1
   rw [hok'.1.1.2] at h3
   rw [hok'.1.2] at h4
   rw [hok'.2] at h5
   refine aC Ax aF Tryz.func44 (c := _) rfl Tryz.call44 400 ?_
   (repeat' ((conv => whnf); first | (exfalso; omega) | (exfalso; simp_all; done) | refine cpC (h1) ?_ | refine dpC (h1) ?_ | refine cpC (h2) ?_ | refine dpC (h2) ?_ | refine cpC (h3) ?_ | refine dpC (h3) ?_ | refine cpC (h4) ?_ | refine dpC (h4) ?_ | refine cpC (h5) ?_ | refine dpC (h5) ?_ | refine x0C ?_ | refine spC (fun hb => ?_) fun hb => ?_ | refine aJ (fun hb => ?_) ?_ | refine taC ?_ | refine saC ?_ | exact sdV | refine aA ?_ ?_ | refine aB mixed ?_))
   clear h1 h2 h3 h4 h5 hok'
   refine bW (fun q : Nat × Int => [(6, iS (1 + q.2)), (39, iS q.1)]) (fun _ => []) (fun q => q.1 ≤ g.kids.length ∧ sizeL (g.kids.take q.1) (d + 1) = some q.2) (fun q => g.kids.length - q.1) (0, 0) ⟨Nat.zero_le _, by simp [sizeL]⟩ (by exact bkV) ?_
   rintro ⟨i, m⟩ hi K hK
   obtain ⟨hi, hm⟩ := hi
   dsimp only at hi hm hK ⊢
   have hr := V4 hd hok hm
   rcases Nat.lt_or_ge i g.kids.length with hlt | hge
   ·have hg := getD_some (d := Cd.dflt U.goal) hlt
    have hx := ih _ (d + 1) (by omega) (by omega) (fM hkk (List.mem_of_getElem? hg))
    have hsn := yG (g.kids.take i) (g.kids.getD (i : Int).toNat (Cd.dflt U.goal)) (d + 1)
    cases hs : cB (g.kids.getD (i : Int).toNat (Cd.dflt U.goal)) (d + 1) with
    | none =>
     rw [oO g.kids (d + 1) ⟨_, List.mem_of_getElem? hg, hs⟩]
     rw [hs] at hx
     (repeat' ((conv => whnf); first | (exfalso; omega) | refine cpC (hx) ?_ | refine dpC (hx) ?_ | refine x0C ?_ | refine spC (fun hb => ?_) fun hb => ?_ | refine aJ (fun hb => ?_) ?_ | refine taC ?_ | refine saC ?_ | exact sdV | refine aA ?_ ?_ | refine aB mixed ?_))
     all_goals exact vwV
    | some n =>
     rw [hs] at hx hsn
     rw [hm] at hsn
     dsimp only [Ww] at hx
     have hb := jZ 4 _ (d + 1) n (by omega) hs
     rw [show (5 : Int) ^ 4 = 625 by decide] at hb
     have ht : g.kids.take (i + 1) = g.kids.take i ++ [g.kids.getD (i : Int).toNat (Cd.dflt U.goal)] := by rw [List.take_add_one, hg]; rfl
     rw [← ht] at hsn
     (repeat' ((conv => whnf); first | (exfalso; omega) | refine cpC (hx) ?_ | refine dpC (hx) ?_ | refine hK (i + 1, m + n) [some 0] _ _ ⟨by dsimp only; omega, hsn⟩ ⟨by dsimp only; omega⟩ (by (dsimp only; rw [← Int.add_assoc]; exact bkV)) | refine x0C ?_ | refine spC (fun hb => ?_) fun hb => ?_ | refine aJ (fun hb => ?_) ?_ | refine taC ?_ | refine saC ?_ | exact sdV | refine aA ?_ ?_ | refine aB mixed ?_))
   ·rw [List.take_of_length_le hge] at hm
    rw [hm]
    (repeat' ((conv => whnf); first | (exfalso; omega) | refine x0C ?_ | refine spC (fun hb => ?_) fun hb => ?_ | refine aJ (fun hb => ?_) ?_ | refine taC ?_ | refine saC ?_ | exact sdV | refine aA ?_ ?_ | refine aB mixed ?_))
    all_goals exact vwV
theorem jV (g : aK) (hG : oN g) : aG Tryz.prog Dc 22 [aP g] [] (bS (cA g)) [] := by
 have h := Cu 4 g 1 (by omega) (by omega) hG
 unfold cA
 cases hs : cB g 1 with
 | none =>
  rw [hs] at h
  refine aC Ax aF Tryz.func22 (c := _) rfl Tryz.call22 100 ?_
  (repeat' ((conv => whnf); first | refine x0C (eB ?_ rfl) | (exfalso; omega) | refine cpC (h) ?_ | refine dpC (h) ?_ | refine x0C ?_ | refine spC (fun hb => ?_) fun hb => ?_ | refine aJ (fun hb => ?_) ?_ | refine taC ?_ | refine saC ?_ | exact sdV | refine aA ?_ ?_ | refine aB mixed ?_))
  all_goals rfl
 | some n =>
  rw [hs] at h
  refine aC Ax aF Tryz.func22 (c := _) rfl Tryz.call22 100 ?_
  (repeat' ((conv => whnf); first | refine x0C (eB ?_ rfl) | (exfalso; omega) | refine cpC (h) ?_ | refine dpC (h) ?_ | refine x0C ?_ | refine spC (fun hb => ?_) fun hb => ?_ | refine aJ (fun hb => ?_) ?_ | refine taC ?_ | refine saC ?_ | exact sdV | refine aA ?_ ?_ | refine aB mixed ?_))
  all_goals rfl
end Go.SX
namespace Go.SX
theorem Is {x : Nat} (hx : x < 48) : (2 : Int) ^ (min (x : Int).toNat IntKind.i64.bits) = ((2 ^ x : Nat) : Int) := by
 rw [show min (x : Int).toNat IntKind.i64.bits = x by simp [IntKind.bits]; omega]
 simp
theorem Uq {r : Int} {x : Nat} (h0 : 0 ≤ r) (hx : x < 48) : decide (((nO .i64 r x).tmod 2) = 1) = r.toNat.testBit x := by
 obtain ⟨m, rfl⟩ : ∃ m : Nat, r = m := ⟨r.toNat, by omega⟩
 unfold nO
 have hp : (0 : Int) ≤ ((2 ^ x : Nat) : Int) := Int.natCast_nonneg _
 rw [Is hx, Int.fdiv_eq_ediv_of_nonneg _ hp]
 rw [show ((m : Int) / ((2 ^ x : Nat) : Int)) = ((m / 2 ^ x : Nat) : Int) from (Int.natCast_ediv _ _).symm]
 rw [show (((m / 2 ^ x : Nat) : Int).tmod 2) = (((m / 2 ^ x) % 2 : Nat) : Int) from rfl]
 simp only [Int.toNat_natCast, Nat.testBit, Nat.shiftRight_eq_div_pow, Nat.and_comm 1, Nat.and_one_is_mod]
 generalize m / 2 ^ x = q
 rcases Nat.mod_two_eq_zero_or_one q with h | h <;> simp [h]
theorem Tp {x : Nat} (hx : x < 48) : iT .i64 1 x = ((2 ^ x : Nat) : Int) := by
 unfold iT
 rw [Is hx, Int.one_mul]
 have : 2 ^ x ≤ 2 ^ 47 := Nat.pow_le_pow_right (by omega) (by omega)
 generalize 2 ^ x = q at *
 exact nI (by omega) (by omega)
theorem Vz {a b : Nat} (ha : a < 2 ^ 48) (hb : b < 2 ^ 48) : bL .or .i64 (a : Int) (b : Int) = ((a ||| b : Nat) : Int) := by
 have e : (BitVec.ofInt 64 (a : Int) ||| BitVec.ofInt 64 (b : Int)).toNat = a ||| b := by
  rw [BitVec.toNat_or]
  have h1 : (BitVec.ofInt 64 (a : Int)).toNat = a := by simp; omega
  have h2 : (BitVec.ofInt 64 (b : Int)).toNat = b := by simp; omega
  rw [h1, h2]
 show IntKind.i64.wrap (((BitVec.ofInt 64 (a : Int) ||| BitVec.ofInt 64 (b : Int)).toNat : Nat) : Int) = _
 rw [e]
 have : a ||| b < 2 ^ 48 := Nat.or_lt_two_pow ha hb
 exact nI (by omega) (by omega)
def wN (a b : Int) : Nat := a.toNat &&& (2 ^ 48 - (b.toNat + 1))
theorem Fd {a b : Int} (ha : nM a = true) (hb : nM b = true) (x : Nat) : (wN a b).testBit x = (a.toNat.testBit x && !b.toNat.testBit x) := by
 have h1 := (aM _ _ _).1 ha
 have h2 := (aM _ _ _).1 hb
 unfold wN
 rw [Nat.testBit_and, Nat.testBit_two_pow_sub_succ (by omega)]
 by_cases hx : x < 48
 ·simp [hx]
 ·have : a.toNat.testBit x = false := Nat.testBit_lt_two_pow (Nat.lt_of_lt_of_le (show a.toNat < 2 ^ 48 by omega) (Nat.pow_le_pow_right (by omega) (by omega)))
  simp [this]
theorem Lr {a b : Int} (ha : nM a = true) : wN a b < 2 ^ 48 := by
 have h1 := (aM _ _ _).1 ha
 unfold wN
 exact Nat.lt_of_le_of_lt Nat.and_le_left (by omega)
theorem Du {a b : Int} (ha : nM a = true) (hb : nM b = true) : bL .andNot .i64 a b = (wN a b : Int) := by
 have h1 := (aM _ _ _).1 ha
 have h2 := (aM _ _ _).1 hb
 obtain ⟨m, rfl⟩ : ∃ m : Nat, a = m := ⟨a.toNat, by omega⟩
 obtain ⟨n, rfl⟩ : ∃ m : Nat, b = m := ⟨b.toNat, by omega⟩
 have e : (BitVec.ofInt 64 (m : Int) &&& ~~~BitVec.ofInt 64 (n : Int)).toNat = wN m n := by
  apply Nat.eq_of_testBit_eq
  intro i
  rw [Fd ha hb, BitVec.toNat_and, Nat.testBit_and, BitVec.toNat_not]
  have h3 : (BitVec.ofInt 64 (m : Int)).toNat = m := by simp; omega
  have h4 : (BitVec.ofInt 64 (n : Int)).toNat = n := by simp; omega
  rw [h3, h4, show 2 ^ 64 - 1 - n = 2 ^ 64 - (n + 1) by omega, Nat.testBit_two_pow_sub_succ (by omega)]
  by_cases hi : i < 64
  ·simp [hi]
  ·have : m.testBit i = false := Nat.testBit_lt_two_pow (Nat.lt_of_lt_of_le (show m < 2 ^ 48 by omega) (Nat.pow_le_pow_right (by omega) (by omega)))
   simp [this]
 show IntKind.i64.wrap (((BitVec.ofInt 64 (m : Int) &&& ~~~BitVec.ofInt 64 (n : Int)).toNat : Nat) : Int) = _
 rw [e]
 have := Lr (b := n) ha
 exact nI (by omega) (by omega)
end Go.SX
