/-
  Plain: goals are read as they are written.
-/
import Derived.Test.YtfbicphocelpeaaGreatDoorSxDf
import Derived.Test.YtfbicphocelpeaaGreatDoorSxTp8
import Derived.Test.YtfbicphocelpeaaGreatDoorSxTg9
import Derived.Test.YtfbicphocelpeaaGreatDoorSxTe3
import Derived.Test.YtfbicphocelpeaaGreatDoorSxOq0
import Derived.LaidMore
import Derived.ChangeMaps5
import Derived.Lay
import Derived.SevenTiedAt
import Derived.Stop.Joined
import Derived.Test.YtfbicphocelpeaaGreatDoorTie
import Derived.Test.YtfbicphocelpeaaGreatDoorCards
set_option linter.unusedVariables false
set_option linter.unusedSimpArgs false
namespace Go.SX
theorem sV (p : Nat × Run) (L : List (Nat × Run)) : xB (p :: L) = Nw :: bJ p.1 :: bJ p.2.1 :: bJ p.2.2 :: xB L := rfl
theorem qZ : ∀ L : List (Nat × Run), (xB L).length = 4 * L.length
 | [] => rfl
 | p :: L => by rw [sV]; simp only [List.length_cons, qZ L]; omega
theorem Rr {ws : List Wd} : ∀ (L : List (Nat × Run)) (y c fuel : Nat) (rows : List Int) (a : Nat) (m : Int) (w : Wd) (r : List Wd), L ≠ [] → J5 y c L → L.length ≤ fuel → ws.drop a = xB L ++ w :: r → w ≠ Nw → xT ws fuel y c rows a m = .ok (build rows L) ((a + 4 * L.length : Nat) : Int) m
 | [], y, c, fuel, rows, a, m, w, r, h, _, _, _, _ => absurd rfl h
 | p :: L, y, c, 0, rows, a, m, w, r, _, _, hf, _, _ => by simp at hf
 | p :: L, y, c, fuel + 1, rows, a, m, w, r, _, hc, hf, hd, hw => by
  obtain ⟨c1, c2, c3, c4, c5, c6⟩ := hc;rw [sV] at hd;have d1 := aU hd;have d2 := aU d1;have d3 := aU d2;have d4 := aU d3;rw [xT, if_neg (by intro h; have := c3 (by omega); omega)];rw [jS hd];dsimp only [Rs.bind];have q1 : (if (48 : Int) ≤ c then (y : Int) + 1 else y) ≤ p.1 := by
   by_cases h48 : (48 : Int) ≤ c
   ·rw [if_pos h48];rcases Nat.lt_or_eq_of_le c1 with h | h
    ·omega
    ·have := c3 h.symm; omega
   ·rw [if_neg h48]; omega
  have q2 : (if (p.1 : Int) > (if (48 : Int) ≤ c then (y : Int) + 1 else y) ∨ (48 : Int) ≤ c then (0 : Int) else c) ≤ p.2.1 := by
   by_cases h48 : (48 : Int) ≤ c
   ·rw [if_pos (.inr h48)]; omega
   ·rw [if_neg h48]
    by_cases hp : (p.1 : Int) > y
    ·rw [if_pos (.inl hp)]; omega
    ·rw [if_neg (by intro h; rcases h with h | h; exact hp h; exact h48 h)];have := c3 (by omega); omega
  rw [fW d1 q1 (by omega) (by omega) (by omega)];dsimp only;rw [fW d2 q2 (by omega) (by omega) (by omega)];dsimp only;rw [fW d3 (by omega) (by omega) (by omega) (by omega)];dsimp only;cases L with
  | nil =>
   rw [oI (w := w) (r := r) d4, if_neg hw];rfl
  | cons q L =>
   rw [sV] at d4;rw [oI (w := Nw) d4, if_pos rfl];have ih := Rr (q :: L) p.1 (p.2.2 + 2) fuel (Vn rows p) (a + 1 + 1 + 1 + 1) m w r (by simp) c6 (by simpa using hf) d4 hw;rw [show a + 4 * (p :: q :: L).length = a + 1 + 1 + 1 + 1 + 4 * (q :: L).length by simp only [List.length_cons]; omega];exact ih
theorem Vc {g : aI} (h : OkG g) (hk : g.kind = 1) : g = ⟨1, g.rows, g.from_, g.to_, g.low, g.high, g.clear, 0, 0, 0, [], []⟩ := by
 have h1 := wM.1 h.plain;obtain ⟨_, _, _, _, _, k1, k2⟩ := h.see hk;unfold oU at h1;rw [if_pos hk] at h1;cases g;simp only at *;simp [h1, k1, k2, hk]
theorem Vq {g : aI} (h : OkG g) (hk : g.kind = 2 ∨ g.kind = 3 ∨ g.kind = 4) : ∃ k, g.kids = [k] ∧ k.kind ≤ dM g.kind ∧ g = (if g.kind = 2 then ⟨2, [], 0, 0, g.low, 0, false, 0, 0, g.within, [], [k]⟩ else if g.kind = 3 then ⟨3, [], g.from_, 0, 0, 0, false, g.days, g.times, g.within, [], [k]⟩ else ⟨4, [], 0, 0, 0, 0, false, 0, 0, g.within, [], [k]⟩) := by
 have h1 := wM.1 h.plain;obtain ⟨k1, k2⟩ := h.one hk;have h3 := h.parts;simp only [eU, Bool.and_eq_true, Bool.or_eq_true, decide_eq_true_eq, Bool.not_eq_true', List.any_eq_false] at h3;obtain ⟨⟨⟨_, _⟩, h4⟩, h5⟩ := h3;have hr : g.rows = [] := by
  rcases h4 with h4 | h4
  ·omega
  ·exact List.eq_nil_of_length_eq_zero (by omega)
 unfold oU at h1;obtain ⟨k, hk1⟩ : ∃ k, g.kids = [k] := by
  match hg : g.kids, k1 with
  | [k], _ => exact ⟨k, rfl⟩
 have h6 := h5 k (by rw [hk1]; simp);refine ⟨k, hk1, by simpa using h6, ?_⟩;rw [if_neg (by omega)] at h1;cases g;simp only at *;subst hr hk1 k2;rcases hk with hk | hk | hk <;> subst hk <;> simp at h1 ⊢ <;> simp [h1]
theorem Og {g : aI} (h : OkG g) (hk : g.kind = 5 ∨ g.kind = 6) : (∀ k ∈ g.kids, k.kind ≤ 6) ∧ g = ⟨g.kind, [], 0, 0, 0, 0, false, 0, 0, 0, g.cents, g.kids⟩ := by
 have h1 := wM.1 h.plain;have h3 := h.parts;simp only [eU, Bool.and_eq_true, Bool.or_eq_true, decide_eq_true_eq, Bool.not_eq_true', List.any_eq_false] at h3;obtain ⟨⟨⟨_, _⟩, h4⟩, h5⟩ := h3;have hr : g.rows = [] := by
  rcases h4 with h4 | h4
  ·omega
  ·exact List.eq_nil_of_length_eq_zero (by omega)
 have hl : dM g.kind = 6 := by unfold dM; rw [if_neg (by omega), if_neg (by omega)]
 refine ⟨fun k hk => ?_, ?_⟩
 ·have := h5 k hk;rw [hl] at this;simpa using this
 ·unfold oU at h1;rw [if_neg (by omega), if_neg (by omega), if_neg (by omega), if_neg (by omega)] at h1;cases g;simp only at *;subst hr;simp [h1]
theorem q7t {ws r : List Wd} {g : aI} (h : OkG g) (hk : g.kind = 1) {a : Nat} {m : Int} (hd : ws.drop a = aP g ++ r) : Zx ws ((a + 1 : Nat) : Int) m = .ok g ((a + (aP g).length : Nat) : Int) m := by
 obtain ⟨b1, b2, b3, b4, b5, _, _⟩ := h.see hk;obtain ⟨L, l1, l2, l3⟩ := Of b1;have hne : L ≠ [] := fun e => by
  have h1 := h.lim;unfold vZ at h1;rw [if_pos hk] at h1;simp only [Bool.and_eq_true, List.any_eq_true, decide_eq_true_eq] at h1;obtain ⟨x, hx, hx0⟩ := h1.1.1.1.1.2;rw [← l3, e] at hx;exact hx0 (List.mem_replicate.1 hx).2
 have hlen := A6 0 g.rows (by simp only [bE, Bool.and_eq_true] at b1; exact b1.2);have hrl : g.rows.length = 24 := by simp only [bE, Bool.and_eq_true, decide_eq_true_eq] at b1; omega
 rw [l2, qZ] at hlen;have eW : aP g = uK :: (xB L ++ [gM, bJ g.from_, Cn, bJ g.to_, X6, bJ g.low, Cn, bJ g.high, if g.clear then wF else mZ]) := by
  rw [jP, if_pos hk, xV, l2]; rfl
 have hlW : (aP g).length = 1 + 4 * L.length + 9 := by rw [eW]; simp [qZ]; omega
 rw [eW] at hd;have d0 := Zz hd;rw [List.append_assoc] at d0;have d1 := rK d0;rw [qZ] at d1;have ha := Rr L 0 0 1200 (List.replicate 24 0) (a + 1) m gM _ hne l1 (by omega) d0 (by decide);rw [l3] at ha;unfold Zx;rw [show xT ws 1200 0 0 (List.replicate 24 0) ((a + 1 : Nat) : Int) m = _ from ha];dsimp only [Rs.bind];have d2 := aU d1;have d3 := aU d2;have d4 := aU d3;have d5 := aU d4;have d6 := aU d5;have d7 := aU d6;have d8 := aU d7;have d9 := aU d8;rw [jS d1];dsimp only;rw [fW d2 (by omega) (by omega) (by omega) (by omega)];dsimp only;rw [jS d3];dsimp only;rw [fW d4 (by omega) (by omega) (by omega) (by omega)];dsimp only;rw [jS d5];dsimp only;rw [fW d6 (by omega) (by omega) (by omega) (by omega)];dsimp only;rw [jS d7];dsimp only;rw [fW d8 (by omega) (by omega) (by omega) (by omega)];dsimp only;rw [Tu (by decide) d9];dsimp only;rw [← Vc h hk, hlW];congr 2;omega
end Go.SX
namespace Go.SX
theorem q3j (g : aI) (h : OkG g) : ∃ w l, aP g = w :: l ∧ Y0 w = some (g.kind, if g.kind = 1 then 0 else if g.kind = 5 ∨ g.kind = 6 then 2 else 1) := by
 have hk := h.kind;rw [jP]
 by_cases h1 : g.kind = 1
 ·rw [if_pos h1, h1];exact ⟨uK, _, rfl, rfl⟩
 ·rw [if_neg h1]
  by_cases h2 : g.kind = 2 ∨ g.kind = 3 ∨ g.kind = 4
  ·rw [if_pos h2];unfold iG;rcases h2 with h2 | h2 | h2
   ·rw [if_pos h2, h2]; exact ⟨lL, _, rfl, rfl⟩
   ·rw [if_neg (by omega), if_pos h2, h2]; exact ⟨gV, _, rfl, rfl⟩
   ·rw [if_neg (by omega), if_neg (by omega), h2]; exact ⟨dF, _, rfl, rfl⟩
  ·rw [if_neg h2];rcases (show g.kind = 5 ∨ g.kind = 6 by omega) with h3 | h3
   ·rw [if_pos h3, h3]; exact ⟨uU, _, rfl, rfl⟩
   ·rw [if_neg (by omega), h3]; exact ⟨mZ, _, rfl, rfl⟩
theorem uQ {g : aI} {d n : Int} (h : bQ g d = some n) : 1 ≤ n := (uJ g d n h).2
def Tt (ws : List Wd) (f : Nat) (d : Int) : Prop := ∀ (g : aI) (of_ : Int) (n : Int) (a : Nat) (m : Int) (r : List Wd), bQ g d = some n → g.kind ≤ dM of_ → n - 1 ≤ m → ws.drop a = aP g ++ r → hU ws f of_ d a m = .ok g ((a + (aP g).length : Nat) : Int) (m - (n - 1))
theorem q2s {ws r : List Wd} {g k : aI} {f : Nat} {d : Int} (ih : Tt ws f (d + 1)) (h : OkG g) (hk : g.kind = 2) (hkid : g.kids = [k]) (hkk : k.kind ≤ dM g.kind) (hg : g = ⟨2, [], 0, 0, g.low, 0, false, 0, 0, g.within, [], [k]⟩) {n : Int} (hn : bQ k (d + 1) = some n) {a : Nat} {m : Int} (hm : n - 1 ≤ m) (hd : ws.drop a = aP g ++ r) : S4 ws (hU ws f 2 (d + 1)) ((a + 1 : Nat) : Int) m = .ok g ((a + (aP g).length : Nat) : Int) (m - (n - 1)) := by
 obtain ⟨b1, b2⟩ := h.lim2 hk;have eW : aP g = [lL, lU, bJ g.low, cM, bJ g.within, tK] ++ aP k := by
  rw [jP, if_neg (by omega), if_pos (.inl hk), hkid, firstW, iG, if_pos hk]
 rw [eW] at hd;have d1 := aU hd;have d2 := aU d1;have d3 := aU d2;have d4 := aU d3;have d5 := aU d4;have d6 := aU d5;unfold S4;rw [jS d1];dsimp only [Rs.bind];rw [fW d2 (by omega) (by omega) (by omega) (by omega)];dsimp only;rw [jS d3];dsimp only;rw [fW d4 (by omega) (by omega) (by omega) (by omega)];dsimp only;rw [jS d5];dsimp only;rw [ih k 2 n _ m r hn (by rw [hk] at hkk; exact hkk) hm d6];dsimp only;rw [← hg, eW];congr 2;simp only [List.length_append, List.length_cons, List.length_nil];omega
theorem Zn {ws r : List Wd} {g k : aI} {f : Nat} {d : Int} (ih : Tt ws f (d + 1)) (h : OkG g) (hk : g.kind = 3) (hkid : g.kids = [k]) (hkk : k.kind ≤ dM g.kind) (hg : g = ⟨3, [], g.from_, 0, 0, 0, false, g.days, g.times, g.within, [], [k]⟩) {n : Int} (hn : bQ k (d + 1) = some n) {a : Nat} {m : Int} (hm : n - 1 ≤ m) (hd : ws.drop a = aP g ++ r) : uP ws (hU ws f 3 (d + 1)) ((a + 1 : Nat) : Int) m = .ok g ((a + (aP g).length : Nat) : Int) (m - (n - 1)) := by
 obtain ⟨b1, b2, b3, b4⟩ := h.lim3 hk;have eW : aP g = [gV, bJ g.days, rT, bJ g.times, mA, lY, bJ g.within, gM, bJ g.from_, tK] ++ aP k := by
  rw [jP, if_neg (by omega), if_pos (.inr (.inl hk)), hkid, firstW, iG, if_neg (by omega), if_pos hk]
 rw [eW] at hd;have d1 := aU hd;have d2 := aU d1;have d3 := aU d2;have d4 := aU d3;have d5 := aU d4;have d6 := aU d5;have d7 := aU d6;have d8 := aU d7;have d9 := aU d8;have d10 := aU d9;unfold uP;rw [fW d1 (by omega) (by omega) (by omega) (by omega)];dsimp only [Rs.bind];rw [jS d2];dsimp only;rw [fW d3 (by omega) (by omega) (by omega) (by omega)];dsimp only;rw [q8p d4];dsimp only;rw [fW d6 (by omega) (by omega) (by omega) (by omega)];dsimp only;rw [jS d7];dsimp only;rw [fW d8 (by omega) (by omega) (by omega) (by omega)];dsimp only;rw [jS d9];dsimp only;rw [ih k 3 n _ m r hn (by rw [hk] at hkk; exact hkk) hm d10];dsimp only;rw [← hg, eW];congr 2;simp only [List.length_append, List.length_cons, List.length_nil];omega
theorem q6p {ws r : List Wd} {g k : aI} {f : Nat} {d : Int} (ih : Tt ws f (d + 1)) (h : OkG g) (hk : g.kind = 4) (hkid : g.kids = [k]) (hkk : k.kind ≤ dM g.kind) (hg : g = ⟨4, [], 0, 0, 0, 0, false, 0, 0, g.within, [], [k]⟩) {n : Int} (hn : bQ k (d + 1) = some n) {a : Nat} {m : Int} (hm : n - 1 ≤ m) (hd : ws.drop a = aP g ++ r) : q03 ws (hU ws f 4 (d + 1)) ((a + 1 : Nat) : Int) m = .ok g ((a + (aP g).length : Nat) : Int) (m - (n - 1)) := by
 have b1 := h.lim4 hk;have eW : aP g = [dF, cM, bJ g.within, tK] ++ aP k := by
  rw [jP, if_neg (by omega), if_pos (.inr (.inr hk)), hkid, firstW, iG, if_neg (by omega), if_neg (by omega)]
 rw [eW] at hd;have d1 := aU hd;have d2 := aU d1;have d3 := aU d2;have d4 := aU d3;unfold q03;rw [jS d1];dsimp only [Rs.bind];rw [fW d2 (by omega) (by omega) (by omega) (by omega)];dsimp only;rw [jS d3];dsimp only;rw [ih k 4 n _ m r hn (by rw [hk] at hkk; exact hkk) hm d4];dsimp only;rw [← hg, eW];congr 2;simp only [List.length_append, List.length_cons, List.length_nil];omega
theorem mT {k : aI} {l : List aI} {d n : Int} (h : sizeL (k :: l) d = some n) : ∃ x y, bQ k d = some x ∧ sizeL l d = some y ∧ n = x + y := by
 rw [sizeL] at h;cases ha : bQ k d with
 | none => rw [ha] at h; cases h
 | some x =>
  rw [ha] at h;cases hl : sizeL l d with
  | none => rw [hl] at h; cases h
  | some y => rw [hl] at h; injection h with h; exact ⟨x, y, rfl, rfl, h.symm⟩
theorem tM : ∀ {l : List aI} {d n : Int}, sizeL l d = some n → (l.length : Int) ≤ n
 | [], d, n, h => by rw [sizeL] at h; injection h with h; subst h; simp
 | k :: l, d, n, h => by
  obtain ⟨x, y, h1, h2, rfl⟩ := mT h;have := uQ h1;have := tM h2;rw [List.length_cons]; omega
theorem Lp {ws : List Wd} {f : Nat} {d k : Int} (hk : k = 5 ∨ k = 6) (ih : Tt ws f d) : ∀ (l : List aI) (g : aI) (fuel : Nat) (cents cs : List Int) (kids : List aI) (a : Nat) (m n : Int) (r : List Wd),
  l.length < fuel → kids.length + 1 + l.length ≤ 4 → 2 ≤ kids.length + 1 + l.length → (∀ x ∈ g :: l, x.kind ≤ 6) → sizeL (g :: l) d = some n → n - 1 - (if kids = [] then 1 else 0) ≤ m → (k = 6 → cs.length = l.length + 1 ∧ ∀ c ∈ cs, 0 ≤ c ∧ c ≤ 1000000000) → (k = 5 → cs = []) →
  ws.drop a = (if k = 6 then [bJ (cs.headD 0)] else []) ++ aP g ++ kidsW (decide (k = 6)) false cs.tail l ++ cP :: r →
  lI ws (hU ws f k d) k fuel cents kids a m = .ok ⟨k, [], 0, 0, 0, 0, false, 0, 0, 0, cents ++ cs, kids ++ g :: l⟩ ((a + ((if k = 6 then [bJ (cs.headD 0)] else []) ++ aP g ++ kidsW (decide (k = 6)) false cs.tail l).length + 1 : Nat) : Int) (m - (n - 1 - (if kids = [] then 1 else 0)))
 | l, g, 0, cents, cs, kids, a, m, n, r, hf, _, _, _, _, _, _, _, _ => by omega
 | l, g, fuel + 1, cents, cs, kids, a, m, n, r, hf, h4, h2, hkd, hn, hm, hc6, hc5, hd => by
  obtain ⟨x, y, n1, n2, rfl⟩ := mT hn;have hx := uQ n1;have hy := tM n2;have hlk : dM k = 6 := by unfold dM; rw [if_neg (by omega), if_neg (by omega)]
  have hi0 : (0 : Int) ≤ (if kids = [] then 1 else 0) ∧ (if kids = [] then (1 : Int) else 0) ≤ 1 := by split <;> omega
  obtain ⟨b, hb, hbd, hbn⟩ : ∃ b : Nat, b = a + (if k = 6 then [bJ (cs.headD 0)] else []).length ∧ ws.drop b = aP g ++ (kidsW (decide (k = 6)) false cs.tail l ++ cP :: r) ∧ (if k = 6 then (pF ws 0 1000000000 a m).bind fun c a m => .ok (cents ++ [c]) a m else .ok cents a m : Rs (List Int)) = .ok (cents ++ cs.take 1) b m := by
   refine ⟨_, rfl, ?_, ?_⟩
   ·rw [List.append_assoc, List.append_assoc] at hd;exact rK hd
   ·rcases hk with hk | hk
    ·subst hk;rw [if_neg (by decide), hc5 rfl];simp
    ·subst hk;obtain ⟨c1, c2⟩ := hc6 rfl;cases cs with
     | nil => simp at c1
     | cons c cs =>
      have := c2 c (by simp);simp only [if_pos, List.headD_cons, List.cons_append, List.nil_append] at hd;rw [if_pos rfl, fW hd (by omega) (by omega) (by omega) (by omega)];simp
  rw [lI, hbn];dsimp only [Rs.bind];have hsub : x - 1 ≤ m := by
   by_cases hkn : kids = []
   ·rw [if_pos hkn] at hm;have : kids.length = 0 := by rw [hkn]; rfl
    omega
   ·rw [if_neg hkn] at hm; omega
  rw [ih g k x b m _ n1 (by rw [hlk]; exact hkd g (by simp)) hsub hbd];dsimp only;have d1 := rK hbd;cases l with
  | nil =>
   have hy0 : y = 0 := by rw [sizeL] at n2; injection n2 with n2; exact n2.symm
   rw [kidsW, List.nil_append] at d1;have hkn : kids ≠ [] := fun e => by rw [e] at h2; simp at h2
   have hkl : 1 < kids.length + 1 := by cases kids with | nil => exact absurd rfl hkn | cons _ _ => simp
   have hcs : cs.take 1 = cs := by
    rcases hk with hk | hk
    ·rw [hc5 hk]; rfl
    ·exact List.take_of_length_le (by have := (hc6 hk).1; simp at this; omega)
   rw [if_pos hkl, oI d1, if_pos rfl, if_neg hkn, hcs];rw [kidsW, List.append_nil, List.length_append, hb];congr 1
   ·show ((_ : Nat) : Int) + 1 = _;omega
   ·omega
  | cons q l =>
   obtain ⟨x2, y2, n3, n4, rfl⟩ := mT n2;have hx2 := uQ n3;have hy2 := tM n4;rw [kidsW] at d1;have d2 := aU d1;have hnc : cH ws ((b + (aP g).length : Nat) : Int) = cG := oI d1;have ihl := fun cents kids a m => Lp hk ih l q fuel cents cs.tail kids a m (x2 + y2) r;have hc6' : k = 6 → cs.tail.length = l.length + 1 ∧ ∀ c ∈ cs.tail, 0 ≤ c ∧ c ≤ 1000000000 := fun h => by
    obtain ⟨c1, c2⟩ := hc6 h;exact ⟨by rw [List.length_tail, c1]; simp, fun c hc => c2 c (List.mem_of_mem_tail hc)⟩
   have hc5' : k = 5 → cs.tail = [] := fun h => by rw [hc5 h]; rfl
   have d3 : ws.drop (b + (aP g).length + 1) = (if k = 6 then [bJ (cs.tail.headD 0)] else []) ++ aP q ++ kidsW (decide (k = 6)) false cs.tail.tail l ++ cP :: r := by
    rw [d2]
    by_cases h6 : k = 6
    ·simp [h6, List.append_assoc]
    ·simp [h6, List.append_assoc]
   have hcs : cents ++ cs.take 1 ++ cs.tail = cents ++ cs := by rw [List.append_assoc]; congr 1; cases cs <;> simp
   have hks : kids ++ [g] ++ q :: l = kids ++ g :: q :: l := by simp
   have hlen : ((if k = 6 then [bJ (cs.headD 0)] else []) ++ aP g ++ kidsW (decide (k = 6)) false cs.tail (q :: l)).length = (if k = 6 then [bJ (cs.headD 0)] else []).length + (aP g).length + 1 + ((if k = 6 then [bJ (cs.tail.headD 0)] else []) ++ aP q ++ kidsW (decide (k = 6)) false cs.tail.tail l).length := by
    rw [kidsW]
    by_cases h6 : k = 6
    ·simp [h6]; omega
    ·simp [h6]; omega
   rw [List.length_cons] at h4 hf hy
   by_cases hkn : kids = []
   ·subst hkn;rw [if_neg (by simp), jS d1];dsimp only;rw [ihl _ _ _ _ (by omega) (by simp; simp at h4; omega) (by simp) (fun z hz => hkd z (List.mem_cons_of_mem _ hz)) n2 (by simp at hm ⊢; omega) hc6' hc5' d3, hcs, hks, hlen, hb];congr 1
    ·congr 1; omega
    ·simp; omega
   ·have hkl : 1 < kids.length + 1 := by cases kids with | nil => exact absurd rfl hkn | cons _ _ => simp
    rw [if_neg hkn] at hm;rw [if_pos hkl, hnc, if_neg (by decide), if_neg (by simp only [not_or]; constructor <;> omega), jS d1];dsimp only;rw [ihl _ _ _ _ (by omega) (by simp; omega) (by simp; omega) (fun z hz => hkd z (List.mem_cons_of_mem _ hz)) n2 (by simp; omega) hc6' hc5' d3, hcs, hks, hlen, hb];congr 1
    ·congr 1; omega
    ·simp [hkn]; omega
theorem Rq (ws : List Wd) : ∀ (f : Nat) (d : Int), (f : Int) + d = 5 → Tt ws f d
  | 0, d, hfd => fun g of_ n a m r hn _ _ _ => by have := (eX hn).1; omega
  | f + 1, d, hfd => fun g of_ n a m r hn hk hm hd => by
    have ih := Rq ws f (d + 1) (by omega);obtain ⟨hd4, hok, q, hq, rfl⟩ := eX hn;have hO := okG hok;have hkind := hO.kind;have hql := tM hq;obtain ⟨w, l, e1, e2⟩ := q3j g hO;have hpk : cH ws a = w := oI (r := l ++ r) (by rw [hd, e1]; rfl);rw [hU, hpk, e2];dsimp only
    by_cases h1 : g.kind = 1
    · rw [if_pos h1, if_neg (by omega), if_pos h1, show (a : Int) + 1 = ((a + 1 : Nat) : Int) from rfl, q7t hO h1 hd];have hk0 := (hO.see h1).2.2.2.2.2.1;rw [hk0, sizeL] at hq;injection hq with hq;congr 1; omega
    · rw [if_neg h1]
      by_cases h2 : g.kind = 2 ∨ g.kind = 3 ∨ g.kind = 4
      · obtain ⟨k, hkid, hkk, hg⟩ := Vq hO h2;rw [hkid] at hq;obtain ⟨x, y, n1, n2, rfl⟩ := mT hq;rw [sizeL] at n2;injection n2 with n2;subst n2;have hx := uQ n1;have hd3 := (eX n1).1;rw [if_neg (show ¬ (g.kind = 5 ∨ g.kind = 6) by omega), if_neg (by omega), if_neg h1, show (a : Int) + 1 = ((a + 1 : Nat) : Int) from rfl];have em : m - 1 - (x - 1) = m - (1 + (x + 0) - 1) := by omega
        rcases h2 with h2 | h2 | h2
        · rw [if_pos h2] at hg;rw [if_pos h2, q2s ih hO h2 hkid hkk hg n1 (by omega) hd, em]
        · rw [if_neg (by omega), if_pos h2] at hg;rw [if_neg (by omega), if_pos h2, Zn ih hO h2 hkid hkk hg n1 (by omega) hd, em]
        · rw [if_neg (by omega), if_neg (by omega)] at hg;rw [if_neg (by omega), if_neg (by omega), if_pos h2, q6p ih hO h2 hkid hkk hg n1 (by omega) hd, em]
      · have h5 : g.kind = 5 ∨ g.kind = 6 := by omega
        obtain ⟨c1, c2, c3, c4⟩ := hO.many h5;obtain ⟨p1, p2⟩ := Og hO h5;obtain ⟨k, l', hkl⟩ : ∃ k l', g.kids = k :: l' := by
          cases hg : g.kids with
          | nil => rw [hg] at c1; simp at c1
          | cons k l' => exact ⟨k, l', rfl⟩
        have hd3 : d + 1 ≤ 4 := by
          rw [hkl] at hq;obtain ⟨x, y, n1, n2, rfl⟩ := mT hq;exact (eX n1).1
        rw [if_pos h5, if_neg (by omega), if_neg h1, if_neg (by omega), if_neg (by omega), if_neg (by omega), show (a : Int) + 1 = ((a + 1 : Nat) : Int) from rfl];have eW : aP g = [if g.kind = 5 then uU else mZ, pU] ++ ((if g.kind = 6 then [bJ (g.cents.headD 0)] else []) ++ aP k ++ kidsW (decide (g.kind = 6)) false g.cents.tail l') ++ [cP] := by
          rw [jP, if_neg h1, if_neg h2, hkl, kidsW]
          by_cases h6 : g.kind = 6 <;> simp [h6]
        have hd' := hd;rw [eW] at hd';have d1 : ws.drop (a + 1) = pU :: (((if g.kind = 6 then [bJ (g.cents.headD 0)] else []) ++ aP k ++ kidsW (decide (g.kind = 6)) false g.cents.tail l') ++ cP :: r) := by
          have := aU hd';rw [this]; simp
        have d2 := aU d1;unfold rL;rw [jS d1];dsimp only [Rs.bind];rw [hkl] at hq c1 c2 p1;have := Lp h5 ih l' k 5 [] g.cents [] (a + 1 + 1) (m - 2) q r (by simp at c2; omega) (by simp at c2 ⊢; omega) (by simp at c1 ⊢; omega) p1 hq (by simp; omega) (fun h => by
          obtain ⟨x1, x2⟩ := c3 h;exact ⟨by rw [x1, hkl]; rfl, x2⟩) c4 d2
        rw [List.nil_append, List.nil_append, ← hkl, ← p2] at this;refine Eq.trans this ?_;rw [eW];congr 1
        · simp only [List.length_append, List.length_cons, List.length_nil]; omega
        · simp; omega
end Go.SX
namespace Go.SX
theorem size_one {g k : aI} {d n : Int} (hok : okB g = true) (hd : d ≤ 4) (hg : g.kids = [k]) (hn : bQ k (d + 1) = some n) : bQ g d = some (1 + n) := by
 rw [fY, hok, hg, if_neg (by simp; omega), sizeL, hn, sizeL];simp
end Go.SX
namespace Go.SX
theorem Yb {o : iF} (h : Wu o = true) (ws : List Wd) (hws : ws = dY o) : rO ws 0 11 = .ok o (ws.length : Int) (12 - Hq o.goal) := by
 simp only [Wu, Bool.and_eq_true, aK] at h;obtain ⟨⟨⟨⟨⟨⟨b1, b2⟩, b3⟩, b4⟩, b5⟩, b6⟩, b7⟩ := h;obtain ⟨v1, v2, v3⟩ := (Vw _).1 b7;have hsz : bQ o.goal 1 = some (Hq o.goal) := by rw [U0, if_pos ⟨v1, by omega⟩]
 have hkind := (okG (by rw [q04, Bool.and_eq_true] at v1; exact v1.1)).kind;have hlen : ws.length = 15 + (aP o.goal).length := by rw [hws]; exact jU o
 have d0 : ws.drop 0 = Kr o ++ (aP o.goal ++ [rN]) := by rw [hws, Dp, List.append_assoc]; rfl
 have d1 := aU d0;have d2 := aU d1;have d3 := aU d2;have d4 := aU d3;have d5 := aU d4;have d6 := aU d5;have d7 := aU d6;have d8 := aU d7;have d9 := aU d8;have d10 := aU d9;have d11 := aU d10;have d12 := aU d11;have d13 := aU d12;have d14 : ws.drop 14 = aP o.goal ++ [rN] := aU d13;have d15 : ws.drop (14 + (aP o.goal).length) = [rN] := rK d14;unfold rO;rw [show (0 : Int) = ((0 : Nat) : Int) from rfl, jS d0];dsimp only [Rs.bind];rw [fW d1 (by omega) (by omega) (by omega) (by omega)];dsimp only;rw [jS d2];dsimp only;rw [fW d3 (by omega) (by omega) (by omega) (by omega)];dsimp only;rw [jS d4];dsimp only;rw [fW d5 (by omega) (by omega) (by omega) (by omega)];dsimp only;rw [jS d6];dsimp only;have hgr : uL ws ((0 + 1 + 1 + 1 + 1 + 1 + 1 + 1 : Nat) : Int) 11 = .ok o.group ((8 : Nat) : Int) 11 := by
  unfold uL;rw [oI d7]
  by_cases hg : o.group < 0
  ·rw [if_pos hg, if_pos rfl];have : o.group = -1 := by omega
   rw [this]; rfl
  ·rw [if_neg hg] at d7 ⊢;have hn : bJ o.group ≠ iD := fun e => by
    have h1 := Ei (n := o.group) (by omega) (by omega);rw [e] at h1;have h2 : q5s iD = none := by decide
    rw [h2] at h1; cases h1
   rw [if_neg hn, fW d7 (by omega) (by omega) (by omega) (by omega)]
 rw [hgr];dsimp only;rw [Tu (by decide) d8];dsimp only;rw [jS d9];dsimp only;rw [fW d10 (by omega) (by omega) (by omega) (by omega)];dsimp only;rw [jS d11];dsimp only;rw [fW d12 (by omega) (by omega) (by omega) (by omega)];dsimp only;rw [jS d13];dsimp only;rw [Rq ws 4 1 (by omega) o.goal 5 (Hq o.goal) 14 11 [rN] hsz (by show o.goal.kind ≤ 6; omega) (by omega) d14];dsimp only;rw [jS d15];dsimp only;rw [if_neg (by omega)];congr 1
 ·omega
 ·omega
theorem Hs {o : iF} (h : Wu o = true) (hl : (qG (dY o)).length ≤ 20000) : pZ (qG (dY o)) = (o, ((dY o).length : Int), 0) := by
 unfold pZ;rw [if_neg (by omega), Ia, Yb h _ rfl]
end Go.SX
namespace Go.SX
def pcF : Nat → Nat → Nat
 | 0, _ => 0
 | f + 1, n => n % 2 + pcF f (n / 2)
theorem Lf : ∀ f, pcF f 0 = 0
 | 0 => rfl
 | f + 1 => by rw [pcF]; simp [Lf f]
theorem q18 : ∀ (f n k : Nat), pcF f (n ||| 2 ^ k) ≤ pcF f n + 1
 | 0, n, k => by simp [pcF]
 | f + 1, n, 0 => by
  have e : (n ||| 2 ^ 0) / 2 = n / 2 := by rw [Nat.or_div_two]; simp
  rw [pcF, pcF, e];have := Nat.mod_lt (n ||| 2 ^ 0) (show 0 < 2 by omega);omega
 | f + 1, n, k + 1 => by
  have hp : 2 ^ (k + 1) = 2 * 2 ^ k := by rw [Nat.pow_succ, Nat.mul_comm]
  have e : (n ||| 2 ^ (k + 1)) / 2 = n / 2 ||| 2 ^ k := by rw [Nat.or_div_two, hp, Nat.mul_div_cancel_left _ (by omega)]
  have e2 : (n ||| 2 ^ (k + 1)) % 2 = n % 2 := by
   have h1 := Nat.testBit_or n (2 ^ (k + 1)) 0;rw [Nat.testBit_two_pow, Nat.testBit_zero, Nat.testBit_zero, show decide (k + 1 = 0) = false from rfl, Bool.or_false, decide_eq_decide] at h1;have h3 := Nat.mod_two_eq_zero_or_one n;have h4 := Nat.mod_two_eq_zero_or_one (n ||| 2 ^ (k + 1));generalize (n ||| 2 ^ (k + 1)) = N at *;omega
  rw [pcF, pcF, e, e2];have := q18 f (n / 2) k;omega
theorem Iw : ∀ (f c : Nat) (l : List Run) (N : Nat), RC c l → (∀ q ∈ l, N.testBit q.1 = true) → c + f = 48 → l.length ≤ pcF f (N / 2 ^ c)
 | f, c, [], N, _, _, _ => by simp
 | 0, c, p :: l, N, h, _, hc => by have := h.1; have := h.2.1; have := h.2.2.1; omega
 | f + 1, c, p :: l, N, h, hN, hc => by
  have e : N / 2 ^ c / 2 = N / 2 ^ (c + 1) := by rw [Nat.pow_succ, Nat.div_div_eq_div_mul]
  rw [pcF, e];rcases Nat.lt_or_eq_of_le h.1 with h1 | h1
  ·have := Iw f (c + 1) (p :: l) N ⟨h1, h.2.1, h.2.2.1, h.2.2.2⟩ hN (by omega);omega
  ·have hb := hN p (by simp);rw [← h1, Nat.testBit_eq_decide_div_mod_eq] at hb;have hb : N / 2 ^ c % 2 = 1 := by simpa using hb
   have := Iw f (c + 1) l N (h.2.2.2.mono (by have := h.2.1; omega)) (fun q hq => hN q (List.mem_cons_of_mem _ hq)) (by omega);rw [List.length_cons]; omega
theorem Vb : ∀ {l : List Run} {c : Nat}, RC c l → ∀ q ∈ l, (val l).testBit q.1 = true
 | [], c, _, q, hq => by cases hq
 | p :: l, c, h, q, hq => by
  obtain ⟨k, hk⟩ := W6 h.2.2.2;have h1 := N2 h.2.1;have h2 : 2 ^ (p.2 + 1) ≤ 2 ^ (p.2 + 2) := Nat.pow_le_pow_right (by omega) (by omega);have h3 := Nat.two_pow_pos p.1;have hlt : mk p < 2 ^ (p.2 + 2) := by omega
  have e : val (p :: l) = 2 ^ (p.2 + 2) * k + mk p := by rw [val, hk, Nat.add_comm]
  rcases List.mem_cons.1 hq with rfl | hq
  ·rw [e, Nat.testBit_two_pow_mul_add _ hlt, if_pos (by have := h.2.1; omega)];unfold mk;rw [Nat.testBit_two_pow_mul];simp
  ·have ih := Vb h.2.2.2 q hq;have hq2 : p.2 + 2 ≤ q.1 := by
    have : ∀ {l : List Run} {c : Nat}, RC c l → ∀ q ∈ l, c ≤ q.1 := by
     intro l
     induction l with
     | nil => intro c _ q hq; cases hq
     | cons a l ih =>
      intro c h q hq;rcases List.mem_cons.1 hq with rfl | hq
      ·exact h.1
      ·have := ih h.2.2.2 q hq; have := h.1; have := h.2.1; omega
    exact this h.2.2.2 q hq
   rw [hk, Nat.testBit_two_pow_mul] at ih;rw [e, Nat.testBit_two_pow_mul_add _ hlt, if_neg (by omega)];simp only [Bool.and_eq_true] at ih;exact ih.2
theorem q2y {n : Nat} (h : n < 2 ^ 48) : (dX n).length ≤ pcF 48 n := by
 obtain ⟨h1, h2⟩ := X7 h;have := Iw 48 0 (dX n) n h1 (fun q hq => by have := Vb h1 q hq; rwa [h2] at this) rfl;simpa using this
def pcL : List Int → Nat
 | [] => 0
 | r :: l => pcF 48 r.toNat + pcL l
theorem Jr : ∀ (y : Nat) (l : List Int), (∀ r ∈ l, 0 ≤ r ∧ r ≤ 281474976710655) → (gQ y l).length ≤ 4 * pcL l
 | y, [], _ => by simp [gQ]
 | y, r :: l, h => by
  have h1 := h r (by simp);have h2 := Jr (y + 1) l fun x hx => h x (List.mem_cons_of_mem _ hx);have h3 := q2y (n := r.toNat) (by omega);rw [gQ, List.length_append, show W5 r.toNat r.toNat = dX r.toNat from rfl, pR, pcL];omega
def Wr (f : Int → Nat) : List Int → Nat
 | [] => 0
 | r :: l => f r + Wr f l
theorem Ln (f : Int → Nat) (k : Nat) (v : Int) : ∀ (l : List Int) (y : Nat), f v ≤ f (l.getD y 0) + k → Wr f (l.set y v) ≤ Wr f l + k
 | [], y, _ => by simp [Wr]
 | r :: l, 0, h => by
  rw [List.getD_cons_zero] at h;rw [List.set_cons_zero, Wr, Wr];omega
 | r :: l, y + 1, h => by
  rw [List.getD_cons_succ] at h;have := Ln f k v l y h;rw [List.set_cons_succ, Wr, Wr];omega
theorem Ii : ∀ l : List Int, pcL l = Wr (fun r => pcF 48 r.toNat) l
 | [] => rfl
 | r :: l => by rw [pcL, Wr, Ii l]
theorem q3t (l : List Int) (y : Nat) (v : Int) (k : Nat) (h : pcF 48 v.toNat ≤ pcF 48 (l.getD y 0).toNat + k) : pcL (l.set y v) ≤ pcL l + k := by
 rw [Ii, Ii];exact Ln (fun r => pcF 48 r.toNat) k v l y h
theorem To {rows : List Int} (h : qE rows) {y : Nat} (hy : y < 24) {x : Int} (hx : 0 ≤ x ∧ x < 48) : pcL (Qj rows y x) ≤ pcL rows + 1 := by
 have hg : rows.getD y 0 ∈ rows := by
  rw [List.getD_eq_getElem?_getD, List.getElem?_eq_getElem (by rw [h.len]; exact hy)];exact List.getElem_mem _
 have hb := h.ok _ hg;unfold Qj;refine q3t rows y _ 1 ?_;generalize rows.getD y 0 = a at hb ⊢;obtain ⟨n, rfl⟩ : ∃ n : Nat, a = n := ⟨a.toNat, by omega⟩;obtain ⟨k, rfl⟩ : ∃ k : Nat, x = k := ⟨x.toNat, by omega⟩;have hk : k < 48 := by omega
 rw [Qh hk, Qe (by omega) (Nat.pow_lt_pow_right (by omega) hk)];exact q18 48 n k
theorem Yp (x : A5) (y k : Nat) {rows : List Int} (h : qE rows) : pcL (Cg x y k rows) ≤ pcL rows + 1 := by
 have b1 := aL (c := x.b) (n := 24) (by omega);have b2 := aL (c := x.a) (n := 48) (by omega);unfold Cg;refine To h (by omega) ?_;rw [Int.tmod_eq_emod_of_nonneg (by omega)];omega
theorem Ki (x : A5) (y : Nat) : ∀ (k : Nat) (r : List Int), qE r → pcL (vS x y k r) ≤ pcL r + k
 | 0, r, h => Nat.le_refl _
 | k + 1, r, h => by
  rw [qR];have := Yp x y k (W4 x y k r h).1;have := Ki x y k r h;omega
theorem Jz : ∀ n, pcL (List.replicate n 0) = 0
 | 0 => rfl
 | n + 1 => by rw [List.replicate_succ, pcL, Jz n]; simp [Lf]
theorem Ku (x : A5) (n : Nat) (hn : 0 < n) : ∀ y : Nat, pcL (mB x n y) ≤ y * n
 | 0 => by
  show pcL (List.replicate 24 0) ≤ _;rw [Jz]; omega
 | y + 1 => by
  rw [rF];have := Ki x y n _ (yK x n hn y).1;have := Ku x n hn y;rw [Nat.succ_mul]; omega
theorem Nl (x : A5) : pcL (lZ x) ≤ 10 := by
 have b1 := aL (c := x.b.tdiv 24) (n := 3) (by omega);have b2 := aL (c := x.a.tdiv 48) (n := 3) (by omega);have b3 := aL (c := x.b) (n := 24) (by omega);have b4 := aL (c := x.c) (n := 48) (by omega);obtain ⟨n, hn⟩ : ∃ n, (aH (x.a.tdiv 48) 3 + 1).toNat = n := ⟨_, rfl⟩;obtain ⟨y, hy⟩ : ∃ y, (aH (x.b.tdiv 24) 3 + 1).toNat = y := ⟨_, rfl⟩;have h := yK x n (by omega) y;have hp := Ku x n (by omega) y;have hm : y * n ≤ 3 * 3 := Nat.mul_le_mul (by omega) (by omega);unfold lZ;rw [hn, hy];split
 ·have := To h.1 (y := (aH x.b 24).toNat) (by omega) (x := aH x.c 48) (by omega);omega
 ·omega
theorem Zs (x : A5) : (xV (qF x)).length ≤ 50 := by
 have h1 := Jr 0 (lZ x) (M4 x).1.ok;have h2 := Nl x;have : (qF x).rows = lZ x := rfl;simp only [xV, this, List.length_append, List.length_cons, List.length_nil];omega
theorem O3 {rec : Int → Int → aI × Int × Int} (hr : ∀ a m, ∀ s ∈ iH (rec a m).1, ∃ x, s = qF x) (y : A5) (at_ most : Int) : ∀ i, ∀ s ∈ seesL (bI rec y at_ most i).kids, ∃ x, s = qF x
 | 0, s, h => by simp [bI, seesL] at h
 | i + 1, s, h => by
  simp only [bI] at h;rw [rB] at h;rcases List.mem_append.1 h with h | h
  ·exact O3 hr y at_ most i s h
  ·exact hr _ _ s h
theorem Ll (z : A5) : iH (qF z) = [qF z] := by rw [rI]; exact if_pos rfl
theorem O6 : ∀ (j : Nat) (x : List A5) (at_ most : Int), ∀ s ∈ iH (dO j x at_ most).1, ∃ z, s = qF z
 | 0, x, at_, most, s, h => by
  rw [dO] at h;replace h : s ∈ iH (qF (y5 x at_)) := h;rw [Ll] at h;exact ⟨_, List.mem_singleton.1 h⟩
 | j + 1, x, at_, most, s, h => by
  have one : ∀ z : A5, s ∈ iH (qF z) → ∃ z, s = qF z := fun z h => by
   rw [Ll] at h;exact ⟨_, List.mem_singleton.1 h⟩
  rw [dO] at h;dsimp only at h;split at h
  ·rw [iH, if_neg (by omega), seesL, seesL, List.append_nil] at h;exact one _ h
  ·split at h
   ·rw [iH, if_neg (by omega), seesL, seesL, List.append_nil] at h;exact one _ h
   ·split at h
    ·rw [iH, if_neg (by omega), seesL, seesL, List.append_nil] at h;exact one _ h
    ·split at h
     ·rename_i e;rw [iH, if_neg (by omega)] at h;exact O3 (O6 j x) _ _ _ _ s h
     ·exact one _ h
mutual
theorem M5 : ∀ (g : aI) (d n : Int), bQ g d = some n → (∀ s ∈ iH g, (xV s).length ≤ 50) → ((aP g).length : Int) ≤ 60 * n ∧ 1 ≤ n
 | ⟨kind, rows, from_, to_, low, high, clear, days, times, within, cents, kids⟩, d, n, h, hs => by
  obtain ⟨_, hok, m, hm, rfl⟩ := eX h;have hO := okG hok;rw [iH] at hs;rw [aP]
  by_cases h1 : kind = 1
  ·rw [if_pos h1] at hs ⊢;have := hs _ (List.mem_singleton_self _);have := (uJ _ d _ h).2;omega
  ·rw [if_neg h1] at hs ⊢;have ih := kidsW_len2 kids (d + 1) m hm hs;have hkind := hO.kind
   by_cases h2 : kind = 2 ∨ kind = 3 ∨ kind = 4
   ·rw [if_pos h2, List.length_append];have := Fo ⟨kind, rows, from_, to_, low, high, clear, days, times, within, cents, kids⟩;have := ih.2.1;omega
   ·rw [if_neg h2];have := ih.1 (decide (kind = 6)) true cents;have := (hO.many (show kind = 5 ∨ kind = 6 by have : (⟨kind, rows, from_, to_, low, high, clear, days, times, within, cents, kids⟩ : aI).kind = kind := rfl; omega)).2.1;have : kids.length ≤ 4 := this;simp only [List.length_append, List.length_cons, List.length_nil];omega
theorem kidsW_len2 : ∀ (l : List aI) (d m : Int), sizeL l d = some m → (∀ s ∈ seesL l, (xV s).length ≤ 50) → (∀ (any first : Bool) (c : List Int), ((kidsW any first c l).length : Int) ≤ 60 * m + 2 * l.length) ∧ ((firstW l).length : Int) ≤ 60 * m ∧ 0 ≤ m
 | [], d, m, h, _ => by
  simp [sizeL] at h;subst h;refine ⟨fun a f c => by rw [kidsW]; simp, by rw [firstW]; simp, by omega⟩
 | k :: l, d, m, h, hs => by
  rw [sizeL] at h;rw [seesL] at hs;cases ha : bQ k d with
  | none => rw [ha] at h; cases h
  | some x =>
   rw [ha] at h;cases hl : sizeL l d with
   | none => rw [hl] at h; cases h
   | some y =>
    rw [hl] at h;injection h with h;subst h;have h1 := M5 k d x ha fun s hm => hs s (List.mem_append_left _ hm);have h2 := kidsW_len2 l d y hl fun s hm => hs s (List.mem_append_right _ hm);refine ⟨fun a f c => ?_, by rw [firstW]; omega, by omega⟩;rw [kidsW];have := h2.1 a false c.tail;have e1 : (if f = true then ([] : List Wd) else [cG]).length ≤ 1 := by split <;> simp
    have e2 : (if a = true then [bJ (c.headD 0)] else []).length ≤ 1 := by split <;> simp
    simp only [List.length_append, List.length_cons];omega
end
theorem Sl (y : List A5) : (aP (mN y)).length ≤ 540 := by
 have h := yM 3 y 0 9 (by omega) (by omega);have hs := h.size;have hl := h.le;have := (M5 _ _ _ hs fun s hm => by
  obtain ⟨x, rfl⟩ := O6 3 y 0 9 s hm;exact Zs x).1
 unfold mN;omega
theorem Yh {o : iF} {y : List A5} (h : o.goal = mN y) : (dY o).length ≤ 555 ∧ (qG (dY o)).length ≤ 12210 := by
 have h1 := Sl y;rw [← h] at h1;have h2 := jU o;have h3 := zU (H6 o);exact ⟨by omega, by omega⟩
end Go.SX
namespace Go.SX
open Go.Proofs
set_option maxHeartbeats 400000000
set_option maxRecDepth 100000
theorem qd3 {b : Bool} (h : (b == b) = false) : False := by cases b <;> cases h
def q0w (g : aI) : iF := ⟨1, 0, g, 0, -1, false, 0, 1000000⟩
theorem Ug {g : aI} (h : cF g = true) : Wu (q0w g) = true := by
 rw [Lc];unfold q0w;exact ⟨by dsimp only; omega, by dsimp only; omega, by dsimp only; omega, by dsimp only; omega, by dsimp only; omega, by dsimp only; omega, h⟩
theorem q3o {l : List aB} (h : Pp l) : ∀ e ∈ l, e.at_ ≤ (l.getD (l.length - 1) dE).at_ := by
 intro e he;obtain ⟨i, hi, rfl⟩ := List.getElem_of_mem he;rw [List.getD_eq_getElem?_getD, List.getElem?_eq_getElem (show l.length - 1 < l.length by omega)];show l[i].at_ ≤ l[l.length - 1].at_;rcases Nat.lt_or_ge i (l.length - 1) with h' | h'
 ·have := List.pairwise_iff_getElem.1 h i (l.length - 1) hi (by omega) h';rw [hZ] at this;omega
 ·have e : i = l.length - 1 := by omega
  subst e;exact Int.le_refl _
theorem q6m (xs : List A5) (ys : List A4) (hx : ∀ y ∈ xs, Ir y) (hxl : (xs.length : Int) ≤ 9223372036854775807) (hy : ∀ y ∈ ys, q79 y) (hyl : (ys.length : Int) ≤ 9223372036854775807) (now : Int) (hnw : I64 now) : aF Tryz.prog Dc 3 [.agg [a5S xs, a4S ys], iS now] [] (bS true) [] := by
 have h0 := q95;have h1 := q9u xs ys hx hxl hy hyl;have hgv := P5 xs;have hsm := Dg xs ys;obtain ⟨hev, hel⟩ := Au (mN xs) ys;obtain ⟨hw1, hw2⟩ := Yh (o := q0w (mN xs)) (y := xs) rfl;generalize qB (mN xs) ys = l at *;generalize mN xs = g at *;have hG := Q7 hgv;have hE := jX hev;have h3 := q9p now 3000 hnw (by omega);have b3 := aL (c := now) (n := 3000) (by omega);generalize aH now 3000 = T at *;obtain ⟨hlen, hform, hstr, hdup⟩ := tB hev;have hat : ∀ e ∈ l, 0 ≤ e.at_ ∧ e.at_ ≤ 9400 ∧ e.image ≤ 899 := fun e he => by
  have h5 := hsm e he;have h6 := hform e he;unfold fI at h6;simp only [Bool.and_eq_true, aK] at h6;omega
 have hok : ∀ u : Int, ((l.length : Int) = 0 ∨ (l.getD ((l.length : Int) - 1).toNat (Cd.dflt U.event)).at_ < u) → 0 ≤ u → u ≤ 100000 → okF g l u = true := fun u hu u0 u1 => by
  refine q7u (fun e he => ⟨?_, (hat e he).2.2⟩) (by omega) hgv hev;have hlp := List.length_pos_of_mem he;have h5 := q3o hstr e he;have h6 : (l.getD (l.length - 1) dE).at_ < u := by
   have h7 := hu.resolve_left (by omega);rw [show ((l.length : Int) - 1).toNat = l.length - 1 by omega] at h7;exact h7
  omega
 have hD : ∀ u : Int, ((l.length : Int) = 0 ∨ (l.getD ((l.length : Int) - 1).toNat (Cd.dflt U.event)).at_ < u) → 0 ≤ u → u ≤ 100000 → aF Tryz.prog Dc 10 [aM g, eS l, iS u] [] (.tuple [bS (q0l g l u).isNone, iS 0]) [] := fun t ht t0 t1 => by
  have h5 := q9b g hG l (by omega) hE t;rw [hok t ht t0 t1, if_pos rfl, Bool.true_and] at h5;exact h5
 have hg2 : (l.length : Int) = 0 ∨ 0 ≤ (l.getD ((l.length : Int) - 1).toNat (Cd.dflt U.event)).at_ ∧ (l.getD ((l.length : Int) - 1).toNat (Cd.dflt U.event)).at_ ≤ 9400 := by
  rcases Nat.eq_zero_or_pos l.length with h | h
  ·exact .inl (by omega)
  ·right;have hgi := getD_some (d := Cd.dflt U.event) (i := ((l.length : Int) - 1).toNat) (show ((l.length : Int) - 1).toNat < l.length by omega);rw [Int.toNat_natCast] at hgi;have := hat _ (List.mem_of_getElem? hgi);omega
 have hq2 : (l.getD ((l.length : Int) - 1).toNat (Cd.dflt U.event)).at_ = (l.getD ((l.length : Int) - 1).toNat (U.dflt .event)).at_ := rfl;have h5 := q1w g hG l (by omega) hE;have e5 : (wV g l).2.2.2 = 0 := by rw [Ty hgv hev]; cases bV g l <;> rfl
 rw [e5] at h5;have hpr := q7a (q0w g) hG;rw [show xL (q0w g) = (qG (dY (q0w g)), 0) by unfold xL; rw [Ug hgv]; rfl] at hpr;have hpa := q7q (qG (dY (q0w g))) (by omega);unfold q41 at hpa;rw [Hs (Ug hgv) (by omega)] at hpa;unfold q0w at hpr hpa;dsimp only at hpr hpa;generalize qG (dY ⟨1, 0, g, 0, -1, false, 0, 1000000⟩) = tx at *;generalize (wV g l).1 = p at *;generalize (wV g l).2.2.1 = a at *;clear hok hsm hform hstr hdup hat e5;refine aA Ax aD Tryz.func3 (c := _) rfl Tryz.call3 400 ?_
 (repeat' ((conv => whnf); first | refine x0C (eB ?_ rfl) | (exfalso; omega) | refine cpC (h0) ?_ | refine cpC (h1) ?_ | refine cpC (h3) ?_ | refine dpC (h3) ?_ | refine cpC (hpr) ?_ | refine cpC (hpa) ?_ | refine cpC (h5) ?_ | refine cpC ((hD _ (by omega) (by omega) (by omega))) ?_ | refine spC (fun hb => ?_) fun hb => ?_ | refine taC ?_ | refine saC ?_ | refine aE mixed ?_))
 all_goals (first | rfl | exact absurd rfl hb | exact (qd3 hb).elim | exact beq_self_eq_true _ | (simp; done))
end Go.SX
namespace Go.SX
open Go.ChangeShapes Go.WideShapes Go.RowKit Go.Deep
variable {C : Cod} {D : aJ C} {H : Type} {enc : TypeId × Value → H} {P : Program} {W : World} {r : Reach} {b0 : Nat} {t : TypeId} {v : Value} {d : DataW H} {ps : List MemPlace}
def En (W : World) : Env := ⟨Old W, fun _ => .fresh⟩
theorem q6h (ht : P.underlying t = some (.int .i64)) (ho : Value.okWide P W r b0 t v) (h : DataW.Trod enc P W 0 (fun _ => true) true t v d ps) : ∃ n, Den D W (En W) (.p (.int .i64 n)) v ∧ Z64 n := by
 obtain ⟨n, rfl, _, _, hw⟩ := open_int ht ho h;exact ⟨n, by simp only [Den]; exact .int _ _, q1c hw⟩
theorem Kh {w : World} {E : Env} {u : C.U} {l : List (C.El u)} {v : Value} {xs : List (SV C)} {vs : List Value} (hd : iV D w E.F (.dsl u l) v) (h : DenC D w E xs vs) : DenC D w E (.p (.dsl u l) :: xs) (v :: vs) := by
 simp only [DenC];exact ⟨_, _, rfl, hd.oneCell, by simp only [Den]; exact hd, h⟩
theorem q0d {w : World} {E : Env} : DenC D w E [] [] := by simp only [DenC]
theorem Bz {w : World} {E : Env} {x : SV C} {v : Value} {xs : List (SV C)} {vs : List Value} (hd : Den D w E x v) (h : DenA D w E xs vs) : DenA D w E (x :: xs) (v :: vs) := by
 simp only [DenA]; exact ⟨_, _, rfl, hd, h⟩
theorem q0j {w : World} {E : Env} : DenA D w E [] [] := by simp only [DenA]
end Go.SX
namespace Go.SX
open Go.Proofs Go.Proofs.YtfbicphocelpeaaGreatDoor Go.ChangeShapes Go.WideShapes Go.ChangeAt Go.RowKit
set_option maxHeartbeats 400000000
set_option maxRecDepth 100000
theorem qc1 : ownKnob Tryz.prog.godebug = none := by kernel_rfl
theorem q7g : laidOutB Tryz.prog = true := by kernel_rfl
abbrev Wn : List (String × DataW Unit) := [("math/bits.deBruijn32tab", Rows.laid_math_bits_deBruijn32tab), ("math/bits.deBruijn64tab", Rows.laid_math_bits_deBruijn64tab), ("internal/strconv.uint64pow10", Rows.laid_internal_strconv_uint64pow10), ("unicode/utf8.acceptRanges", Rows.laid_unicode_utf8_acceptRanges), ("strconv.ErrRange", Rows.laid_strconv_ErrRange), ("strconv.ErrSyntax", Rows.laid_strconv_ErrSyntax), ("unicode/utf8.first", Rows.laid_unicode_utf8_first)]
def Jk (l : List Value) : List Int := l.map fun v => match v with | .int _ n => n | _ => 0
theorem q1d : U.glob 1 = (Jk (U.glob 1)).map (Value.int .u8) := by kernel_rfl
theorem q16 : U.glob 3 = (Jk (U.glob 3)).map (Value.int .u64) := by kernel_rfl
theorem q7b : (Rows.laid_math_bits_deBruijn64tab : DataW Unit) = .agg ((Jk (U.glob 1)).map fun n => .lit (.int .u8 n)) := by kernel_rfl
theorem q6z : (Rows.laid_internal_strconv_uint64pow10 : DataW Unit) = .agg ((Jk (U.glob 3)).map fun n => .lit (.int .u64 n)) := by kernel_rfl
theorem Cs {P : Program} {W : World} {t e : TypeId} {n : Nat} {k : IntKind} {cs : List Value} {fuel : Nat} {p : List MemPlace} {L : List Int} (ut : P.underlying t = some (.array n e)) (ue : P.underlying e = some (.int k)) (ce : P.cellsOf e = 1) (ct : P.cellsOf t = n) (hlen : L.length = n)
  (hd : DataW.trod (fun _ => ()) P W 0 (fun _ => true) false fuel t cs = some (.agg (L.map fun z => .lit (.int k z)), p)) : cs = L.map (Value.int k) := by
 obtain ⟨xs, m, _, ex, hcl, hl, hel⟩ := DataW.trod_array ut hd;rw [ct] at hcl;have e3 : (xs.map (·.1)) = L.map fun n => (.lit (.int k n) : DataW Unit) := (DataW.agg.inj (Prod.mk.inj ex).1).symm;refine List.ext_getElem (by rw [hcl, List.length_map, hlen]) fun r h1 h2 => ?_;have hr : r < n := by omega
 have hE := hel r hr;rw [ce, Nat.mul_one, List.getElem?_eq_getElem (by omega)] at hE;obtain ⟨z, e1, e2, _⟩ := DataW.trod_int ue hE;have e4 : (xs.map (·.1))[r]? = (L.map fun n => (DataW.lit (.int k n) : DataW Unit))[r]? := by rw [e3]
 rw [List.getElem?_map, List.getElem?_map, List.getElem?_eq_getElem (by omega : r < xs.length), List.getElem?_eq_getElem (by omega : r < L.length), e2] at e4;simp only [Option.map_some, Option.some.injEq, DataW.lit.injEq, Lit.int.injEq, true_and] at e4;have e4 : z = L[r] := by first | exact e4 | exact e4.2
 have : cs[r]? = some (.int k z) := by
  have h0 : ((cs.drop r).take 1)[0]? = some (.int k z) := by rw [e1]; rfl
  simpa using h0
 rw [List.getElem?_eq_getElem h1] at this;rw [Option.some.inj this, List.getElem_map];exact congrArg _ e4
theorem Ca {P : Program} {W : World} {t : TypeId} {ms : Array (String × TypeId)} {cs : List Value} {fuel : Nat} {x : DataW Unit × List MemPlace} (ut : P.underlying t = some (.interface ms)) (hd : DataW.trod (fun _ => ()) P W 0 (fun _ => true) false fuel t cs = some x) : ∃ v, cs = [v] ∧ (v = .nilIface ∨ ∃ te pe, v = .iface te pe) := by
 cases fuel with
 | zero => simp [DataW.trod] at hd
 | succ n =>
  unfold DataW.trod at hd;rw [ut] at hd;split at hd <;> first | (rename_i h; cases h; done) | (exact ⟨_, rfl, .inl rfl⟩) | (exact ⟨_, rfl, .inr ⟨_, _, rfl⟩⟩) | (cases hd; done) | skip
  all_goals simp_all
theorem oF {P : Program} {W : World} {name : String} {g : Nat} {cs : Array Value} (hg : P.globalNamed name = some g) (hv : W.var? P name = some cs) : (∃ T z, W.heap[g]? = some (.cells cs T z)) ∧ g < W.heap.size := by
 unfold World.var? at hv;rw [hg] at hv;simp only [Option.bind_some] at hv;split at hv
 ·rename_i c T z hh;obtain rfl := Option.some.inj hv;refine ⟨⟨T, z, hh⟩, ?_⟩;rcases Nat.lt_or_ge g W.heap.size with h' | h'
  ·exact h'
  ·rw [Array.getElem?_eq_none h'] at hh; cases hh
 ·cases hv
theorem q51 {W : World} (h : laidMetH Tryz.prog Wn W) : oW Cd W ⟨Old W, fun _ => .fresh⟩ := by
 rw [MakeChecks.laidMetH_plain _ _ _ (by kernel_rfl)] at h;obtain ⟨ps, ⟨_, _, _, _, _, _, _, _, _, _, ⟨g1, t1, cs1, fu1, p1, q1, hg1, ht1, hv1, hd1, ⟨g3, t3, cs3, fu3, p3, q3, hg3, ht3, hv3, hd3, ⟨_, _, _, _, _, _, _, _, _, _, ⟨g5, t5, cs5, fu5, p5, q5, hg5, ht5, hv5, hd5, ⟨g4, t4, cs4, fu4, p4, q4, hg4, ht4, hv4, hd4, _, _⟩, _⟩, _⟩, _⟩, _⟩, _⟩, _, _⟩ := h;obtain rfl := Option.some.inj ((show Tryz.prog.globalNamed "math/bits.deBruijn64tab" = some 1 by kernel_rfl).symm.trans hg1);obtain rfl := Option.some.inj ((show (Tryz.prog.globals[1]?).map (·.type) = some 202 by kernel_rfl).symm.trans ht1);obtain rfl := Option.some.inj ((show Tryz.prog.globalNamed "internal/strconv.uint64pow10" = some 3 by kernel_rfl).symm.trans hg3);obtain rfl := Option.some.inj ((show (Tryz.prog.globals[3]?).map (·.type) = some 227 by kernel_rfl).symm.trans ht3);obtain rfl := Option.some.inj ((show Tryz.prog.globalNamed "strconv.ErrRange" = some 5 by kernel_rfl).symm.trans hg5);obtain rfl := Option.some.inj ((show (Tryz.prog.globals[5]?).map (·.type) = some 115 by kernel_rfl).symm.trans ht5);obtain rfl := Option.some.inj ((show Tryz.prog.globalNamed "strconv.ErrSyntax" = some 4 by kernel_rfl).symm.trans hg4);obtain rfl := Option.some.inj ((show (Tryz.prog.globals[4]?).map (·.type) = some 115 by kernel_rfl).symm.trans ht4);rw [q7b] at hd1;rw [q6z] at hd3;have k1 := Cs (Tryz.underlying202) Tryz.underlying5 (by kernel_rfl) (by kernel_rfl) (by kernel_rfl) hd1;have k3 := Cs (Tryz.underlying227) Tryz.underlying12 (by kernel_rfl) (by kernel_rfl) (by kernel_rfl) hd3;obtain ⟨v5, e5, k5⟩ := Ca Tryz.underlying115 hd5;obtain ⟨v4, e4, k4⟩ := Ca Tryz.underlying115 hd4;obtain ⟨⟨T1, z1, a1⟩, b1⟩ := oF (by kernel_rfl) hv1;obtain ⟨⟨T3, z3, a3⟩, b3⟩ := oF (by kernel_rfl) hv3
 obtain ⟨⟨T5, z5, a5⟩, b5⟩ := oF (by kernel_rfl) hv5;obtain ⟨⟨T4, z4, a4⟩, b4⟩ := oF (by kernel_rfl) hv4;refine ⟨fun g hgl => ?_, fun g hgl => ?_⟩
 ·match g, hgl with
  | 0, h => exact absurd rfl h
  | 1, _ =>
   refine ⟨b1, ⟨_, _, _, a1, k1.trans q1d.symm⟩, fun v hv => ?_⟩;have hv3 : v ∈ U.glob 1 := hv;rw [q1d] at hv3;obtain ⟨n, _, rfl⟩ := List.mem_map.1 hv3;rfl
  | 2, h => exact absurd rfl h
  | 3, _ =>
   refine ⟨b3, ⟨_, _, _, a3, k3.trans q16.symm⟩, fun v hv => ?_⟩;have hv3 : v ∈ U.glob 3 := hv;rw [q16] at hv3;obtain ⟨n, _, rfl⟩ := List.mem_map.1 hv3;rfl
  | g + 4, h => exact absurd rfl h
 ·have one : ∀ {cs : Array Value} {v : Value}, cs.toList = [v] → cs = #[v] := fun h => Array.toList_inj.1 h
  match g, hgl with
  | 0, h => cases h
  | 1, h => cases h
  | 2, h => cases h
  | 3, h => cases h
  | 4, _ => rw [one e4] at a4; exact ⟨b4, v4, _, _, a4, k4⟩
  | 5, _ => rw [one e5] at a5; exact ⟨b5, v5, _, _, a5, k5⟩
  | g + 6, h => cases h
variable {H : Type} {enc : TypeId × Value → H} {W : World}
theorem q9g : Fy (C := Cd) Dc enc Tryz.prog W 137 U.arr5 Ir := by
 refine ⟨by kernel_rfl, fun fuel cs x h => ?_⟩;obtain ⟨zs, hlen, rfl, hz⟩ := pQ Tryz.underlying137 (by kernel_rfl) (by kernel_rfl) h
 match zs, hlen, hz with
 | [a, b, c, d, e], _, hz => exact ⟨⟨a, b, c, d, e⟩, N9 Dc W (Old W) [a, b, c, d, e], ⟨(hz a (by simp)).h, (hz b (by simp)).h, (hz c (by simp)).h, (hz d (by simp)).h, (hz e (by simp)).h⟩⟩
theorem qa5 : Fy (C := Cd) Dc enc Tryz.prog W 101 U.arr4 q79 := by
 refine ⟨by kernel_rfl, fun fuel cs x h => ?_⟩;obtain ⟨zs, hlen, rfl, hz⟩ := pQ Tryz.underlying101 (by kernel_rfl) (by kernel_rfl) h
 match zs, hlen, hz with
 | [a, b, c, d], _, hz => exact ⟨⟨a, b, c, d⟩, N9 Dc W (Old W) [a, b, c, d], ⟨(hz a (by simp)).h, (hz b (by simp)).h, (hz c (by simp)).h, (hz d (by simp)).h⟩⟩
variable {r : Reach} {b0' : Nat} {v : Value} {d : DataW H} {ps : List MemPlace}
structure q81 (x : List A5 × List A4) : Prop where
 hx : ∀ y ∈ x.1, Ir y
 hxl : (x.1.length : Int) ≤ 9223372036854775807
 hy : ∀ y ∈ x.2, q79 y
 hyl : (x.2.length : Int) ≤ 9223372036854775807
theorem q4r (ho : Value.okWide Tryz.prog W r b0' 25 v) (h : DataW.Trod enc Tryz.prog W 0 (fun _ => true) true 25 v d ps) : ∃ x : List A5 × List A4, Den Dc W (En W) (.agg [a5S x.1, a4S x.2]) v ∧ q81 x := by
 obtain ⟨cs, rfl, hsz⟩ := okWide_struct Tryz.underlying25 ho;obtain ⟨fuel, hx⟩ := h;obtain ⟨xs, n, _, _, hlen, hxs, hel⟩ := DataW.trod_struct Tryz.underlying25 hx;have hlen' : cs.toList.length = 2 := hlen.trans (by kernel_rfl);have hxs' : xs.length = 2 := hxs;have e0 : DataW.trod enc Tryz.prog W 0 (fun _ => true) true n 22 ((cs.toList.drop 0).take (Tryz.prog.cellsOf 22)) = xs[0]? := hel 0 _ rfl;have e1 : DataW.trod enc Tryz.prog W 0 (fun _ => true) true n 23 ((cs.toList.drop 1).take (Tryz.prog.cellsOf 23)) = xs[1]? := hel 1 _ rfl;have k0 : Tryz.prog.cellsOf 22 = 1 := by kernel_rfl
 have k1 : Tryz.prog.cellsOf 23 = 1 := by kernel_rfl
 rw [List.getElem?_eq_getElem (by omega)] at e0 e1;rw [k0] at e0;rw [k1] at e1;obtain ⟨l⟩ := cs
 match l, hlen' with
 | [c0, c1], _ =>
  simp only [List.drop, List.take] at e0 e1;obtain ⟨v0, l0, h0, i0, j0, m0⟩ := Ay q9g Tryz.underlying22 e0;obtain ⟨v1, l1, h1, i1, j1, m1⟩ := Ay qa5 Tryz.underlying23 e1;injection h0 with h0; injection h1 with h1;subst h0 h1;have hm : maxLen = 9223372036854775807 := rfl;refine ⟨⟨l0, l1⟩, ?_, ⟨j0, by show (l0.length : Int) ≤ _; omega, j1, by show (l1.length : Int) ≤ _; omega⟩⟩;simp only [a5S, a4S, Den];exact ⟨_, rfl, Kh i0 (Kh i1 q0d)⟩
end Go.SX
