/-
  Walks: Ta9, Tb1, Tp3, Tb2, Tb3, Tb5, V9, Tp4, Tp6: what single functions of the program compute.
-/
import Derived.Test.YtfbicphocelpeaaGreatDoorSxTa1
import Derived.Test.YtfbicphocelpeaaGreatDoorSxV6
set_option linter.unusedVariables false
set_option linter.unusedSimpArgs false
namespace Go.SX
open Go.Proofs
set_option maxHeartbeats 400000000
set_option maxRecDepth 100000
def Ua (fn : Int → Int → Int) (a b : List Int) (i : Nat) : List Int := (List.range 24).map fun y => if y < i then fn (a.getD y 0) (b.getD y 0) else 0
def Za (fn : Int → Int → Int) (a b : List Int) : List Int := (List.range 24).map fun y => fn (a.getD y 0) (b.getD y 0)
theorem q0u (fn : Int → Int → Int) (a b : List Int) (i : Nat) : (Ua fn a b i).length = 24 := by simp [Ua]
theorem Ut (fn : Int → Int → Int) (a b : List Int) : Ua fn a b 0 = List.replicate 24 0 := by simp [Ua]; rfl
theorem Zp (fn : Int → Int → Int) (a b : List Int) : Ua fn a b 24 = Za fn a b := by
 unfold Ua Za;refine List.map_congr_left fun y hy => ?_;rw [if_pos (List.mem_range.1 hy)]
theorem q3x (f g : Nat → Int) {n i : Nat} (hi : i < n) (h : ∀ y, y < n → y ≠ i → f y = g y) : ((List.range n).map f).set i (g i) = (List.range n).map g := by
 refine List.ext_getElem (by simp) fun j h1 h2 => ?_;simp only [List.length_set, List.length_map, List.length_range] at h1;rw [List.getElem_set];split
 ·rename_i e; subst e; simp
 ·rename_i e; simp; exact h j h1 (Ne.symm e)
theorem Yt (fn : Int → Int → Int) (a b : List Int) {i : Nat} (hi : i < 24) : (Ua fn a b i).set i (fn (a.getD i 0) (b.getD i 0)) = Ua fn a b (i + 1) := by
 have := q3x (fun y => if y < i then fn (a.getD y 0) (b.getD y 0) else 0) (fun y => if y < i + 1 then fn (a.getD y 0) (b.getD y 0) else 0) hi (fun y hy hne => by
  by_cases h : y < i
  ·rw [if_pos h, if_pos (by omega)]
  ·rw [if_neg h, if_neg (by omega)])
 rw [if_pos (by omega)] at this;exact this
theorem Gg : aF Tryz.prog Dc 173 [] [] (.agg [.slice 0 0 1 0 24]) [.rows U.int (List.replicate 24 0)] := by
 refine aA Ax aD Tryz.func173 (c := _) rfl Tryz.call173 60 ?_
 (repeat' ((conv => whnf); first | exact enC [some 1] | refine saC ?_))
theorem Ga {f : FuncId} (fn : Int → Int → Int) (hf : ∀ p q, aF Tryz.prog Dc f [iS p, iS q] [] (iS (fn p q)) []) (a b : List Int) (ha : (a.length : Int) ≤ 9223372036854775807) (hb : (b.length : Int) ≤ 9223372036854775807) :
  aF Tryz.prog Dc 144 [sG a, sG b, .fn (.func f) [] []] [] (.tuple [sG (if bE a && bE b then Za fn a b else []), iS (if bE a && bE b then 0 else 50)]) [] := by
 have h1 := Bq a ha;have h2 := Bq b hb;have h3 := Gg;cases hva : bE a with
 | false =>
  rw [hva] at h1;refine aA Ax aD Tryz.func144 (c := _) rfl Tryz.call144 200 ?_
  (repeat' ((conv => whnf); first | refine cpC (h1) ?_ | refine x0C ?_))
  all_goals exact vwV
 | true =>
  cases hvb : bE b with
  | false =>
   rw [hva] at h1;rw [hvb] at h2;refine aA Ax aD Tryz.func144 (c := _) rfl Tryz.call144 200 ?_
   (repeat' ((conv => whnf); first | refine cpC (h1) ?_ | refine cpC (h2) ?_ | refine x0C ?_))
   all_goals exact vwV
  | true =>
   rw [hva] at h1;rw [hvb] at h2;simp only [Bool.and_self, if_true];have l1 := lA hva;have l2 := lA hvb;refine aA Ax aD Tryz.func144 (c := _) rfl Tryz.call144 200 ?_
   (repeat' ((conv => whnf); first | refine cpC (h1) ?_ | refine cpC (h2) ?_ | refine chC [] h3 ?_))
   refine bP (fun i : Nat => [(23, iS i)]) (fun i => [(3, .rows U.int (Ua fn a b i))]) (fun i => i ≤ 24) (fun i => 24 - i) 0 (Nat.zero_le _) (by (rw [Ut]; exact bkV)) ?_;intro i hi K hK;have hz := q0u fn a b i;rcases Nat.lt_or_ge i 24 with hlt | hge
   ·have hx := hf (a.getD (i : Int).toNat (Cd.dflt U.int)) (b.getD (i : Int).toNat (Cd.dflt U.int));have hs : (Ua fn a b i).set (0 + (i : Int).toNat) (fn (a.getD (i : Int).toNat (Cd.dflt U.int)) (b.getD (i : Int).toNat (Cd.dflt U.int))) = Ua fn a b (i + 1) := by
     rw [Nat.zero_add]; exact Yt fn a b hlt
    (repeat' ((conv => whnf); first | (exfalso; omega) | refine dpC (hx) ?_ | refine hK (i + 1) [some 0, some 1, some 2, some 3, some 4] _ _ ⟨by omega⟩ ⟨by omega⟩ (by (dsimp only; rw [← hs]; exact bkV)) | refine spC (fun hb => ?_) fun hb => ?_ | refine taC ?_ | refine saC ?_ | refine aE mixed ?_))
   ·obtain rfl : i = 24 := by omega
    rw [Zp] at hz ⊢
    (repeat' ((conv => whnf); first | refine x0C ?_))
    all_goals exact vwV
theorem q8n (p q : Int) : aF Tryz.prog Dc 145 [iS p, iS q] [] (iS (cE .andNot .i64 p q)) [] := by
 refine aA Ax aD Tryz.func145 (c := _) rfl Tryz.call145 60 ?_
 (repeat' ((conv => whnf); first | refine x0C (eI ?_ rfl)))
 all_goals rfl
def q87 (p q : Int) : Int := cE .andNot .i64 p q
theorem Mg (a b : List Int) (ha : (a.length : Int) ≤ 9223372036854775807) (hb : (b.length : Int) ≤ 9223372036854775807) :
  aF Tryz.prog Dc 106 [sG a, sG b] [] (.tuple [sG (if bE a && bE b then Za q87 a b else []), iS (if bE a && bE b then 0 else 50)]) [] := by
 have h := Ga (f := 145) q87 q8n a b ha hb;refine aA Ax aD Tryz.func106 (c := _) rfl Tryz.call106 60 ?_
 (repeat' ((conv => whnf); first | refine cpC (h) ?_ | refine x0C ?_))
 all_goals exact vwV
theorem q2n (a b : List Int) (ha : bE a = true) (hb : bE b = true) : decide (Za q87 b a = List.replicate 24 0) = Db a b := by
 unfold Db;rw [ha, hb, Bool.true_and, Bool.true_and, Bool.eq_iff_iff, decide_eq_true_iff, List.all_eq_true];have e : Za q87 b a = (List.range 24).map fun y => (I4 (b.getD y 0) (a.getD y 0) : Int) := by
  unfold Za;refine List.map_congr_left fun y hy => ?_;exact Oj (uR hb (List.mem_range.1 hy)) (uR ha (List.mem_range.1 hy))
 rw [e];have e2 : List.replicate 24 (0 : Int) = (List.range 24).map fun _ => (0 : Int) := rfl;rw [e2];constructor
 ·intro h y hy;have := List.map_inj_left.1 h y hy;simp only [decide_eq_true_eq];have h2 : I4 (b.getD y 0) (a.getD y 0) = 0 := by simpa using this
  exact h2
 ·intro h;refine List.map_congr_left fun y hy => ?_;have := h y hy;simp only [decide_eq_true_eq] at this;have h2 : I4 (b.getD y 0) (a.getD y 0) = 0 := this;show ((I4 (b.getD y 0) (a.getD y 0) : Nat) : Int) = 0;rw [h2]; rfl
theorem K8 (a b : List Int) (ha : (a.length : Int) ≤ 9223372036854775807) (hb : (b.length : Int) ≤ 9223372036854775807) : aF Tryz.prog Dc 65 [sG a, sG b] [] (bS (Db a b)) [] := by
 have h := Mg b a hb ha;cases hva : bE a with
 | false =>
  rw [hva, Bool.and_false] at h;rw [show Db a b = false by unfold Db; rw [hva]; rfl];refine aA Ax aD Tryz.func65 (c := _) rfl Tryz.call65 100 ?_
  (repeat' ((conv => whnf); first | refine x0C (eB ?_ rfl) | refine cpC (h) ?_))
  all_goals rfl
 | true =>
  cases hvb : bE b with
  | false =>
   rw [hvb, Bool.false_and] at h;rw [show Db a b = false by unfold Db; rw [hvb, Bool.and_false]; rfl];refine aA Ax aD Tryz.func65 (c := _) rfl Tryz.call65 100 ?_
   (repeat' ((conv => whnf); first | refine x0C (eB ?_ rfl) | refine cpC (h) ?_))
   all_goals rfl
  | true =>
   rw [hva, hvb] at h;rw [← q2n a b hva hvb];simp only [Bool.and_self, if_true] at h;refine aA Ax aD Tryz.func65 (c := _) rfl Tryz.call65 100 ?_;have hz : (Za q87 b a).length = 24 := by simp [Za]
   (repeat' ((conv => whnf); first | refine x0C (eB ?_ rfl) | refine cpC (h) ?_ | refine saC ?_))
   exact Bool.and_true _
def oS (e : aB) : Prop := (e.rows.length : Int) ≤ 9223372036854775807
@[reducible] def eS (l : List aB) : SV Cd := .p (.dsl U.event l)
theorem Vd (e : aB) (he : oS e) : aF Tryz.prog Dc 36 [evA e] [] (bS (fI e)) [] := by
 have h1 := tin e.at_ 0 1000000;have h2 := tin e.image 0 999;have h3 := tin e.sun (-90) 90;have h4 := tin e.look (-4) 4;have h5 := Bq e.rows he;refine aA Ax aD Tryz.func36 (c := _) rfl Tryz.call36 200 ?_
 (repeat' ((conv => whnf); first | refine x0C (eB ?_ rfl) | refine cpC (h1) ?_ | refine cpC (h2) ?_ | refine cpC (h3) ?_ | refine cpC (h4) ?_ | refine cpC (h5) ?_ | refine spC (fun hb => ?_) fun hb => ?_))
 all_goals clear h1 h2 h3 h4 h5
 all_goals (first | (simp_all [fI]; done) | (simp_all [fI]; omega) | (simp_all [fI]; grind))
theorem q47 (e : aB) (he : oS e) : aF Tryz.prog Dc 109 [evA e] [] (bS (fI e)) [] := by
 have h1 := q8d e.at_ 0 1000000;have h2 := q8d e.image 0 999;have h3 := q8d e.sun (-90) 90;have h4 := q8d e.look (-4) 4;have h5 := Tw e.rows he;refine aA Ax aD Tryz.func109 (c := _) rfl Tryz.call109 200 ?_
 (repeat' ((conv => whnf); first | refine x0C (eB ?_ rfl) | refine cpC (h1) ?_ | refine cpC (h2) ?_ | refine cpC (h3) ?_ | refine cpC (h4) ?_ | refine cpC (h5) ?_ | refine spC (fun hb => ?_) fun hb => ?_))
 all_goals clear h1 h2 h3 h4 h5
 all_goals (first | (simp_all [fI]; done) | (simp_all [fI]; omega) | (simp_all [fI]; grind))
theorem q6a (g : aI) (hg : Lx g) (e : aB) (he : oS e) : aF Tryz.prog Dc 37 [aM g, evA e] [] (bS (J8 g e)) [] := by
 have h3 := tin e.sun g.low g.high;have h5 := K8 e.rows g.rows he hg.rows;refine aA Ax aD Tryz.func37 (c := _) rfl Tryz.call37 200 ?_
 (repeat' ((conv => whnf); first | refine x0C (eB ?_ rfl) | refine cpC (h3) ?_ | refine cpC (h5) ?_ | refine spC (fun hb => ?_) fun hb => ?_))
 all_goals clear h3 h5
 all_goals (first | (simp_all [J8]; done) | (simp_all [J8]; omega) | (simp_all [J8]; grind))
theorem R4 (g : aI) (hG : pX g) (e : aB) (he : oS e) : aF Tryz.prog Dc 18 [aM g, evA e] [] (bS (decide (g.kind = 1) && cF g && fI e && J8 g e)) [] := by
 have h1 := nV g hG;have h2 := Vd e he;have h3 := q6a g ((dJ g).1 hG).1 e he;refine aA Ax aD Tryz.func18 (c := _) rfl Tryz.call18 200 ?_
 (repeat' ((conv => whnf); first | refine x0C (eB ?_ rfl) | refine cpC (h1) ?_ | refine cpC (h2) ?_ | refine cpC (h3) ?_ | refine spC (fun hb => ?_) fun hb => ?_))
 all_goals clear h1 h2 h3
 all_goals (first | (simp_all []; done) | (simp_all []; omega) | (simp_all []; grind))
theorem pY (a b : aB) : aF Tryz.prog Dc 72 [evA a, evA b] [] (bS (eN a b)) [] := by
 refine aA Ax aD Tryz.func72 (c := _) rfl Tryz.call72 100 ?_
 (repeat' ((conv => whnf); first | refine x0C (eB ?_ rfl) | refine spC (fun hb => ?_) fun hb => ?_))
 all_goals (first | (simp_all [eN]; done) | (simp_all [eN]; omega) | (simp_all [eN]; grind))
end Go.SX
namespace Go.SX
def Be (a b : Int) : Int := if a < b then -1 else if b < a then 1 else 0
def Nx (a b : aB) : Int := if Be a.at_ b.at_ ≠ 0 then Be a.at_ b.at_ else if Be a.kind b.kind ≠ 0 then Be a.kind b.kind else Be a.image b.image
theorem Wf (a b : aB) : decide (0 ≤ Nx a b) = !eN a b := by
 unfold Nx Be eN;rw [Bool.eq_iff_iff];simp only [decide_eq_true_eq, Bool.not_eq_true', Bool.or_eq_false_iff, Bool.and_eq_false_iff, decide_eq_false_iff_not]
 repeat' split
 all_goals omega
def I9 (l : List aB) (e : aB) : Bool := l.any fun d => decide (d.kind = 1) && decide (d.image = e.image)
def evt (l : List aB) (i : Nat) : aB := l.getD i (U.dflt .event)
def vN (l : List aB) (i : Nat) : Bool := fI (evt l i) && (decide (i = 0) || eN (evt l (i - 1)) (evt l i)) && !(decide ((evt l i).kind = 1) && I9 (l.take i) (evt l i))
def K9 (l : List aB) : Bool := (List.range l.length).all (vN l)
def bM (l : List aB) : Bool := decide ((l.length : Int) ≤ 120) && K9 l
def kR (l : List aB) : List Int := (l.filter fun e => decide (e.kind = 1)).map (·.image)
theorem q2m (l : List aB) (e : aB) : I9 l e = true ↔ e.image ∈ kR l := by
 unfold I9 kR;simp only [List.any_eq_true, Bool.and_eq_true, decide_eq_true_eq, List.mem_map, List.mem_filter];constructor
 ·rintro ⟨d, h1, h2, h3⟩; exact ⟨d, ⟨h1, h2⟩, h3⟩
 ·rintro ⟨d, ⟨h1, h2⟩, h3⟩; exact ⟨d, h1, h2, h3⟩
theorem Qz {l : List aB} {i : Nat} (hi : i < l.length) (h : vN l i = false) : K9 l = false := by
 unfold K9;rw [List.all_eq_false];exact ⟨i, List.mem_range.2 hi, by rw [h]; simp⟩
theorem Jm {l : List aB} : ∀ i : Nat, i ≤ l.length → (∀ j, j < i → vN l j = true) → i = l.length → K9 l = true := by
 intro i hi h e;unfold K9;rw [List.all_eq_true];intro j hj;exact h j (by rw [e]; exact List.mem_range.1 hj)
theorem Zr {l : List aB} {i : Nat} {e : aB} (h : l[i]? = some e) (hk : e.kind = 1) : kR (l.take (i + 1)) = kR (l.take i) ++ [e.image] := by
 unfold kR;rw [List.take_add_one, h];simp [List.filter_append, hk]
theorem Wy {l : List aB} {i : Nat} {e : aB} (h : l[i]? = some e) (hk : e.kind ≠ 1) : kR (l.take (i + 1)) = kR (l.take i) := by
 unfold kR;rw [List.take_add_one, h];simp [List.filter_append, hk]
end Go.SX
namespace Go.SX
open Go.Proofs
set_option maxHeartbeats 400000000
set_option maxRecDepth 100000
theorem Ap (a : Int) : aF Tryz.prog Dc 107 [iS a] [] (bS false) [] := by
 refine aA Ax aD Tryz.func107 (c := _) rfl Tryz.call107 60 ?_
 (repeat' ((conv => whnf); first | refine x0C (eB ?_ rfl)))
 all_goals (first | (simp_all []; done) | (simp_all []; omega) | (simp_all []; grind))
theorem D2 (a b : Int) : aF Tryz.prog Dc 67 [iS a, iS b] [] (iS (Be a b)) [] := by
 have h1 := Ap a;have h2 := Ap b;refine aA Ax aD Tryz.func67 (c := _) rfl Tryz.call67 100 ?_
 (repeat' ((conv => whnf); first | refine x0C (eI ?_ rfl) | refine cpC (h1) ?_ | refine cpC (h2) ?_ | refine spC (fun hb => ?_) fun hb => ?_))
 all_goals clear h1 h2
 all_goals (first | (simp_all [Be]; done) | (simp_all [Be]; omega) | (simp_all [Be]; grind))
theorem q0e (a b c : Int) : aF Tryz.prog Dc 66 [.p (.dsl U.int [a, b, c])] [] (iS (if a ≠ 0 then a else if b ≠ 0 then b else c)) [] := by
 refine aA Ax aD Tryz.func66 (c := _) rfl Tryz.call66 200 ?_
 (repeat' ((conv => whnf); first | fail))
 refine bP (fun i : Nat => [(8, iS i)]) (fun _ => []) (fun i => i = 0 ∨ (i = 1 ∧ a = 0) ∨ (i = 2 ∧ a = 0 ∧ b = 0) ∨ (i = 3 ∧ a = 0 ∧ b = 0 ∧ c = 0)) (fun i => 3 - i) 0 (.inl rfl) (by exact bkV) ?_;intro i hi K hK;rcases hi with rfl | ⟨rfl, h0⟩ | ⟨rfl, h0, h1⟩ | ⟨rfl, h0, h1, h2⟩
 ·(repeat' ((conv => whnf); first | refine x0C (eI ?_ rfl) | refine hK 1 [] _ _ ⟨.inr (.inl ⟨rfl, by assumption⟩)⟩ ⟨by omega⟩ (by exact bkV) | refine spC (fun hb => ?_) fun hb => ?_ | refine saC ?_))
  rw [if_pos (by assumption)]; rfl
 ·(repeat' ((conv => whnf); first | refine x0C (eI ?_ rfl) | refine hK 2 [] _ _ ⟨.inr (.inr (.inl ⟨rfl, h0, by assumption⟩))⟩ ⟨by omega⟩ (by exact bkV) | refine spC (fun hb => ?_) fun hb => ?_ | refine saC ?_))
  rw [if_neg (by omega), if_pos (by assumption)]; rfl
 ·(repeat' ((conv => whnf); first | refine x0C (eI ?_ rfl) | refine hK 3 [] _ _ ⟨.inr (.inr (.inr ⟨rfl, h0, h1, by assumption⟩))⟩ ⟨by omega⟩ (by exact bkV) | refine spC (fun hb => ?_) fun hb => ?_ | refine saC ?_))
  rw [if_neg (by omega), if_neg (by omega)]; rfl
 ·(repeat' ((conv => whnf); first | refine x0C (eI ?_ rfl)))
  rw [if_neg (by omega), if_neg (by omega), h2]
theorem dD (a b : aB) : aF Tryz.prog Dc 38 [evA a, evA b] [] (iS (Nx a b)) [] := by
 have h1 := D2 a.at_ b.at_;have h2 := D2 a.kind b.kind;have h3 := D2 a.image b.image;have h4 := q0e (Be a.at_ b.at_) (Be a.kind b.kind) (Be a.image b.image);unfold Nx;generalize Be a.at_ b.at_ = x at *;generalize Be a.kind b.kind = y at *;generalize Be a.image b.image = z at *;have h5 : aF Tryz.prog Dc 66 [.slice 0 0 1 0 3] [.rows U.int [x, y, z]] (iS (if x ≠ 0 then x else if y ≠ 0 then y else z)) [.rows U.int [x, y, z]] := Fq h4 (by exact snV) rfl;refine aA Ax aD Tryz.func38 (c := _) rfl Tryz.call38 200 ?_
 (repeat' ((conv => whnf); first | refine x0C (eI ?_ rfl) | refine dpC (h1) ?_ | refine dpC (h2) ?_ | refine dpC (h3) ?_ | (refine cI [some 2] h5 rfl rfl ⟨rfl, trivial⟩ ?_) | refine taC ?_ | refine saC ?_ | refine aE mixed ?_))
 all_goals rfl
def rZ : List Int → Nat → List MapEntry
 | [], _ => []
 | k :: l, s => ⟨.int .i64 k, .bool true, s⟩ :: rZ l (s + 1)
theorem C3 (k : Int) : ∀ (l : List Int) (s : Nat), rZ (l ++ [k]) s = rZ l s ++ [⟨.int .i64 k, .bool true, s + l.length⟩]
 | [], s => rfl
 | x :: l, s => by simp only [List.cons_append, rZ, C3 k l (s + 1), List.length_cons]; rw [show s + 1 + l.length = s + (l.length + 1) by omega]
theorem wC (n : Int) : ∀ (l : List Int) (s i : Nat), (n ∈ l → ∃ j, Instr.findNow (.int .i64) (.int .i64 n) (rZ l s) i = some (some (j, .bool true))) ∧ (n ∉ l → Instr.findNow (.int .i64) (.int .i64 n) (rZ l s) i = some none)
 | [], s, i => ⟨fun h => by simp at h, fun _ => rfl⟩
 | x :: l, s, i => by
  have ih := wC n l (s + 1) (i + 1);simp only [rZ, Instr.findNow, Instr.sameNow, if_true]
  by_cases hx : n = x
  ·subst hx;simp
  ·have : (n == x) = false := by simpa using hx
   rw [this];exact ⟨fun h => ih.1 (by simpa [hx] using h), fun h => ih.2 (by simp [hx] at h; exact h)⟩
def q14 (l : List Int) : Obj := .map (rZ l 0).toArray l.length
theorem lN (l : List aB) (hl : (l.length : Int) ≤ 9223372036854775807) (hE : ∀ e ∈ l, oS e) : aF Tryz.prog Dc 19 [eS l] [] (bS (bM l)) [] := by
 refine aA Ax aD Tryz.func19 (c := _) rfl Tryz.call19 400 ?_
 (repeat' ((conv => whnf); first | fail))
 refine bP (fun i : Nat => [(9, iS i)]) (fun i => [(0, .obj (q14 (kR (l.take i))))]) (fun i => i ≤ l.length ∧ ∀ j, j < i → vN l j = true) (fun i => l.length - i) 0 ⟨Nat.zero_le _, by omega⟩ (by exact bkV) ?_;rintro i ⟨hi, hall⟩ K hK;rcases Nat.lt_or_ge i l.length with hlt | hge
 ·have hg := getD_some (d := Cd.dflt U.event) hlt;have hbad : vN l i = false → bM l = false := fun h => by unfold bM; rw [Qz hlt h, Bool.and_false]
  have hstep : vN l i = true → ∀ j, j < i + 1 → vN l j = true := fun h j hj => by
   rcases Nat.lt_or_ge j i with h1 | h1
   ·exact hall j h1
   ·rw [show j = i by omega]; exact h
  have hok : vN l i = (fI (l.getD (i : Int).toNat (Cd.dflt U.event)) && (decide (i = 0) || eN (l.getD ((i : Int) - 1).toNat (Cd.dflt U.event)) (l.getD (i : Int).toNat (Cd.dflt U.event))) && !(decide ((l.getD (i : Int).toNat (Cd.dflt U.event)).kind = 1) && I9 (l.take i) (l.getD (i : Int).toNat (Cd.dflt U.event)))) := by
   unfold vN evt;rw [show ((i : Int) - 1).toNat = i - 1 by omega]; rfl
  have hd := q2m (l.take i) (l.getD (i : Int).toNat (Cd.dflt U.event));have hf := Vd _ (hE _ (List.mem_of_getElem? hg));have hc := dD (l.getD ((i : Int) - 1).toNat (Cd.dflt U.event)) (l.getD (i : Int).toNat (Cd.dflt U.event));have hcb : 0 ≤ Nx (l.getD ((i : Int) - 1).toNat (Cd.dflt U.event)) (l.getD (i : Int).toNat (Cd.dflt U.event)) ↔ eN (l.getD ((i : Int) - 1).toNat (Cd.dflt U.event)) (l.getD (i : Int).toNat (Cd.dflt U.event)) = false := by
   have := Wf (l.getD ((i : Int) - 1).toNat (Cd.dflt U.event)) (l.getD (i : Int).toNat (Cd.dflt U.event));rw [Bool.eq_iff_iff] at this;simpa using this
  have b1 : fI (l.getD (i : Int).toNat (Cd.dflt U.event)) = false → vN l i = false := fun h => by rw [hok, h]; rfl
  have b2 : 0 < (i : Int) → 0 ≤ Nx (l.getD ((i : Int) - 1).toNat (Cd.dflt U.event)) (l.getD (i : Int).toNat (Cd.dflt U.event)) → vN l i = false := fun h1 h2 => by
   rw [hok, decide_eq_false (show ¬ i = 0 by omega), hcb.1 h2, Bool.or_false, Bool.and_false, Bool.false_and]
  have b3 : (l.getD (i : Int).toNat (Cd.dflt U.event)).kind = 1 → I9 (l.take i) (l.getD (i : Int).toNat (Cd.dflt U.event)) = true → vN l i = false := fun h1 h2 => by
   rw [hok, decide_eq_true h1, h2]; exact Bool.and_false _
  have b4 : fI (l.getD (i : Int).toNat (Cd.dflt U.event)) = true → (¬ 0 < (i : Int) ∨ ¬ 0 ≤ Nx (l.getD ((i : Int) - 1).toNat (Cd.dflt U.event)) (l.getD (i : Int).toNat (Cd.dflt U.event))) → (¬ (l.getD (i : Int).toNat (Cd.dflt U.event)).kind = 1 ∨ I9 (l.take i) (l.getD (i : Int).toNat (Cd.dflt U.event)) = false) → vN l i = true := fun h1 h2 h3 => by
   rw [hok, h1, Bool.true_and];have e1 : (decide (i = 0) || eN (l.getD ((i : Int) - 1).toNat (Cd.dflt U.event)) (l.getD (i : Int).toNat (Cd.dflt U.event))) = true := by
    rcases h2 with h2 | h2
    ·rw [decide_eq_true (show i = 0 by omega)]; rfl
    ·rw [hcb, Bool.not_eq_false] at h2; rw [h2, Bool.or_true]
   rw [e1, Bool.true_and];rcases h3 with h3 | h3
   ·rw [decide_eq_false h3]; rfl
   ·rw [h3, Bool.and_false]; rfl
  have hst := Zr hg;have hsf := Wy hg
  by_cases hm : (l.getD (i : Int).toNat (Cd.dflt U.event)).image ∈ kR (l.take i)
  ·obtain ⟨j, hj⟩ := (wC _ (kR (l.take i)) 0 0).1 hm;have hdt := hd.2 hm
   (repeat' ((conv => whnf); first | refine x0C (eB ?_ rfl) | (exfalso; omega) | refine dpC (hf) ?_ | refine dpC (hc) ?_ | refine fV hj ?_ | (refine hK (i + 1) [some 0] _ _ ⟨⟨by omega, hstep ?_⟩⟩ ⟨by omega⟩ (by (rw [hsf (by omega)]; exact bkV))) | refine spC (fun hb => ?_) fun hb => ?_ | refine taC ?_ | refine saC ?_ | refine aE mixed ?_))
   all_goals first | exact (hbad (b1 (by assumption))).symm | exact (hbad (b2 (by assumption) (by assumption))).symm | exact (hbad (b3 (by assumption) (by assumption))).symm | exact b4 (by assumption) (by first | exact .inl (by assumption) | exact .inr (by assumption)) (by first | exact .inl (by assumption) | exact .inr (by assumption))
  ·have hj := (wC _ (kR (l.take i)) 0 0).2 hm;have hdf : I9 (l.take i) (l.getD (i : Int).toNat (Cd.dflt U.event)) = false := by
    cases h : I9 (l.take i) (l.getD (i : Int).toNat (Cd.dflt U.event)) with
    | false => rfl
    | true => exact absurd (hd.1 h) hm
   have hput : ((rZ (kR (l.take i)) 0).toArray.push ⟨.int .i64 (l.getD (i : Int).toNat (Cd.dflt U.event)).image, .bool true, (kR (l.take i)).length⟩) = (rZ (kR (l.take i) ++ [(l.getD (i : Int).toNat (Cd.dflt U.event)).image]) 0).toArray := by
    rw [C3, List.push_toArray, Nat.zero_add]
   (repeat' ((conv => whnf); first | refine x0C (eB ?_ rfl) | (exfalso; omega) | refine dpC (hf) ?_ | refine dpC (hc) ?_ | refine fV hj ?_ | refine cW ⟨hj⟩ ?_ | (refine hK (i + 1) [some 0] _ _ ⟨⟨by omega, hstep ?_⟩⟩ ⟨by omega⟩ (by (rw [hsf (by omega)]; exact bkV))) | (refine hK (i + 1) [some 0] _ _ ⟨⟨by omega, hstep ?_⟩⟩ ⟨by omega⟩ (by (rw [hst (by omega)]; unfold q14; rw [← hput, List.length_append]; exact bkV))) | refine spC (fun hb => ?_) fun hb => ?_ | refine taC ?_ | refine saC ?_ | refine aE mixed ?_))
   all_goals first | exact (hbad (b1 (by assumption))).symm | exact (hbad (b2 (by assumption) (by assumption))).symm | exact (hbad (b3 (by assumption) (by assumption))).symm | exact b4 (by assumption) (by first | exact .inl (by assumption) | exact .inr (by assumption)) (by first | exact .inl (by assumption) | exact .inr (by assumption))
 ·have ho := Jm i hi hall (by omega);unfold bM;rw [ho, Bool.and_true]
  (repeat' ((conv => whnf); first | refine x0C (eB ?_ rfl) | (exfalso; omega) | refine spC (fun hb => ?_) fun hb => ?_))
  all_goals rfl
theorem Rj (l : List aB) (hl : (l.length : Int) ≤ 1000000) : aF Tryz.prog Dc 136 [eS l] [] (.slice 0 0 7 0 l.length) [.rows U.event l] := by
 refine aA Ax aD Tryz.func136 (c := _) rfl Tryz.call136 60 ?_
 (repeat' ((conv => whnf); first | (subst hb; exact enC [none]) | exact enC [some 1] | refine Pm (fun hb => ?_) ?_ | refine saC ?_))
theorem Jq (l : List Int) (hl : (l.length : Int) ≤ 1000000) : aF Tryz.prog Dc 89 [lS l] [] (.slice 0 0 1 0 l.length) [.rows U.int l] := by
 refine aA Ax aD Tryz.func89 (c := _) rfl Tryz.call89 60 ?_
 (repeat' ((conv => whnf); first | (subst hb; exact enC [none]) | exact enC [some 1] | refine Pm (fun hb => ?_) ?_ | refine saC ?_))
def mG (p : aB → Bool) (l : List aB) : List aB := l.filter fun e => !p e
theorem qW (p : aB → Bool) (l : List aB) : (mG p l).length ≤ l.length := List.length_filter_le _ _
theorem Bo {p : aB → Bool} {l : List aB} {j : Nat} {e : aB} (h : l[j]? = some e) : mG p (l.take (j + 1)) = if p e then mG p (l.take j) else mG p (l.take j) ++ [e] := by
 unfold mG;rw [List.take_add_one, h];cases hp : p e <;> simp [List.filter_append, hp]
theorem Ds {p : aB → Bool} {l : List aB} (h : l.any p = false) : mG p l = l := by
 unfold mG;rw [List.filter_eq_self];rw [List.any_eq_false] at h;intro e he;simpa using h e he
def kV (p : aB → Bool) (l : List aB) (j : Nat) : List aB := mG p (l.take j) ++ l.drop (mG p (l.take j)).length
theorem Di (p : aB → Bool) (l : List aB) {j : Nat} (hj : j ≤ l.length) : (kV p l j).length = l.length := by
 have := qW p (l.take j);unfold kV;simp only [List.length_append, List.length_drop, List.length_take] at *;omega
theorem Um (p : aB → Bool) (l : List aB) {j : Nat} (hj : j < l.length) : (kV p l j).getD j (U.dflt .event) = l.getD j (U.dflt .event) := by
 have := qW p (l.take j);simp only [List.length_take] at this;unfold kV;simp only [List.getD_eq_getElem?_getD];rw [List.getElem?_append_right (by omega), List.getElem?_drop];congr 2; omega
theorem Me {p : aB → Bool} {l : List aB} {j : Nat} (hj : j < l.length) (h : p (l.getD j (U.dflt .event)) = false) :
  (kV p l j).set (mG p (l.take j)).length (l.getD j (U.dflt .event)) = kV p l (j + 1) ∧ (mG p (l.take (j + 1))).length = (mG p (l.take j)).length + 1 := by
 have hg : l[j]? = some (l.getD j (U.dflt .event)) := by rw [List.getD_eq_getElem?_getD, List.getElem?_eq_getElem hj]; rfl
 have hk := Bo (p := p) hg;rw [h] at hk;simp only [Bool.false_eq_true, if_false] at hk;have hle := qW p (l.take j);simp only [List.length_take] at hle;refine ⟨?_, by rw [hk]; simp⟩;unfold kV;rw [hk];generalize l.getD j (U.dflt .event) = v at *;have e : (l.drop (mG p (l.take j)).length).set 0 v = v :: l.drop ((mG p (l.take j)).length + 1) := by
  rw [List.drop_eq_getElem_cons (show (mG p (l.take j)).length < l.length by omega)]; rfl
 rw [List.set_append_right _ _ (Nat.le_refl _), Nat.sub_self, e];simp
theorem M3 {p : aB → Bool} {l : List aB} {j : Nat} (hj : j < l.length) (h : p (l.getD j (U.dflt .event)) = true) : mG p (l.take (j + 1)) = mG p (l.take j) ∧ kV p l (j + 1) = kV p l j := by
 have hg : l[j]? = some (l.getD j (U.dflt .event)) := by rw [List.getD_eq_getElem?_getD, List.getElem?_eq_getElem hj]; rfl
 have hk := Bo (p := p) hg;rw [h] at hk;simp only [if_true] at hk;exact ⟨hk, by unfold kV; rw [hk]⟩
theorem Ep (p : aB → Bool) (l : List aB) : mG p (l.take l.length) = mG p l := by rw [List.take_length]
theorem Gx (p : aB → Bool) (l : List aB) : jB (kV p l l.length) (List.replicate (l.length - (mG p l).length) (U.dflt .event)) (mG p l).length (l.length - (mG p l).length) = mG p l ++ List.replicate (l.length - (mG p l).length) (U.dflt .event) := by
 have hk := qW p l;have hl := Di p l (Nat.le_refl l.length);unfold jB;rw [List.take_of_length_le (l := List.replicate _ _) (by simp)];have h1 : (kV p l l.length).take (mG p l).length = mG p l := by
  unfold kV;rw [Ep, List.take_left'];rfl
 rw [h1, List.drop_of_length_le (by simp; omega), List.append_nil]
theorem Hy {p : aB → Bool} {l : List aB} {i : Nat} (hi : i < l.length) (h1 : p (l.getD i (U.dflt .event)) = true) (h2 : (l.take i).any p = false) : kV p l (i + 1) = l ∧ (mG p (l.take (i + 1))).length = i := by
 obtain ⟨h3, h4⟩ := M3 hi h1;have hk := Ds h2;refine ⟨by rw [h4]; unfold kV; rw [hk, List.length_take, Nat.min_eq_left (by omega), List.take_append_drop], by rw [h3, hk, List.length_take]; omega⟩
theorem wJ {f : FuncId} {caps : List (SV Cd)} (hc : Pu caps) {p : aB → Bool} (l : List aB) (hl : (l.length : Int) ≤ 1000000) (hf : ∀ x ∈ l, aF Tryz.prog Dc f (evA x :: caps) [] (bS (p x)) []) :
  aF Tryz.prog Dc 96 [.slice 0 0 7 0 l.length, .fn (.func f) [] caps] [.rows U.event l] (.slice 0 0 7 0 (mG p l).length) [.rows U.event (mG p l ++ List.replicate (l.length - (mG p l).length) (U.dflt .event))] := by
 have hi := q7z hc l (by omega) hf;have hkl := qW p l;cases ha : l.any p with
 | false =>
  rw [mL ha] at hi;rw [Ds ha, Nat.sub_self, List.replicate_zero, List.append_nil];cases hc <;>
  ·refine aA Ax aD Tryz.func96 (c := _) rfl Tryz.call96 200 ?_
   (repeat' ((conv => whnf); first | refine rdC (hi) ?_ | exact enC [some 0]))
 | true =>
  obtain ⟨i, hi1, hi2, hi3, hi4⟩ : ∃ i : Nat, i < l.length ∧ Oq p l = i ∧ p (l.getD i (U.dflt .event)) = true ∧ (l.take i).any p = false := by
   cases hx : l.findIdx? p with
   | none =>
    rw [List.findIdx?_eq_none_iff] at hx;obtain ⟨x, h1, h2⟩ := List.any_eq_true.1 ha;rw [hx x h1] at h2; cases h2
   | some i =>
    obtain ⟨h1, h2, h3⟩ := List.findIdx?_eq_some_iff_getElem.1 hx;refine ⟨i, h1, by unfold Oq; rw [hx], by rw [List.getD_eq_getElem?_getD, List.getElem?_eq_getElem h1]; exact h2, ?_⟩;rw [List.any_eq_false];intro x hm;obtain ⟨j, hj, rfl⟩ := List.getElem_of_mem hm;simp only [List.length_take] at hj;rw [List.getElem_take];have := h3 j (by omega);simpa using this
  rw [hi2] at hi;obtain ⟨hs1, hs2⟩ := Hy hi1 hi3 hi4;cases hc <;>
  ·refine aA Ax aD Tryz.func96 (c := _) rfl Tryz.call96 400 ?_
   (repeat' ((conv => whnf); first | refine rdC (hi) ?_ | refine saC ?_))
   refine bP (fun j : Nat => [(5, iS (mG p (l.take j)).length), (6, iS j)]) (fun j => [(0, .rows U.event (kV p l j))]) (fun j => j ≤ l.length) (fun j => l.length - j) (i + 1) hi1 (by (rw [hs1, hs2]; exact bkV)) ?_;intro j hj K hK;have hz := Di p l hj;have hkj := qW p (l.take j);rw [List.length_take] at hkj;rcases Nat.lt_or_ge j l.length with hlt | hge
   ·have hmg := Um p l hlt;have hmem : (kV p l j).getD (0 + (j : Int).toNat) (Cd.dflt U.event) ∈ l := by
     rw [Nat.zero_add, Int.toNat_natCast];refine (congrArg (· ∈ l) hmg).mpr ?_;rw [List.getD_eq_getElem?_getD, List.getElem?_eq_getElem hlt];exact List.getElem_mem _
    have hx := hf _ hmem;cases hp : p ((kV p l j).getD (0 + (j : Int).toNat) (Cd.dflt U.event)) with
    | true =>
     rw [hp] at hx;have hp' : p (l.getD j (U.dflt .event)) = true := by
      rw [Nat.zero_add, Int.toNat_natCast] at hp;rw [← hmg]; exact hp
     obtain ⟨e1, e2⟩ := M3 hlt hp'
     (repeat' ((conv => whnf); first | (exfalso; omega) | refine cpC (hx) ?_ | refine hK (j + 1) [some 0] _ _ ⟨by omega⟩ ⟨by omega⟩ (by (dsimp only; rw [e1, e2]; exact bkV)) | refine spC (fun hb => ?_) fun hb => ?_ | refine saC ?_))
    | false =>
     rw [hp] at hx;have hp' : p (l.getD j (U.dflt .event)) = false := by
      rw [Nat.zero_add, Int.toNat_natCast] at hp;rw [← hmg]; exact hp
     obtain ⟨e1, e2⟩ := Me hlt hp';have e3 : (kV p l j).set (0 + (((mG p (l.take j)).length : Nat) : Int).toNat) ((kV p l j).getD (0 + (j : Int).toNat) (Cd.dflt U.event)) = kV p l (j + 1) := by
      rw [Nat.zero_add, Nat.zero_add, Int.toNat_natCast, Int.toNat_natCast];refine Eq.trans ?_ e1;exact congrArg _ hmg
     (repeat' ((conv => whnf); first | (exfalso; omega) | refine cpC (hx) ?_ | refine hK (j + 1) [some 0] _ _ ⟨by omega⟩ ⟨by omega⟩ (by (dsimp only; rw [← e3, e2]; exact bkV)) | refine spC (fun hb => ?_) fun hb => ?_ | refine saC ?_))
   ·obtain rfl : j = l.length := by omega
    have e4 : jB (kV p l l.length) (List.replicate (((l.length : Nat) : Int).toNat - (((mG p l).length : Nat) : Int).toNat) (Cd.dflt U.event)) (0 + (((mG p l).length : Nat) : Int).toNat) (((l.length : Nat) : Int).toNat - (((mG p l).length : Nat) : Int).toNat) = mG p l ++ List.replicate (l.length - (mG p l).length) (U.dflt .event) := by
     rw [Nat.zero_add, Int.toNat_natCast, Int.toNat_natCast];exact Gx p l
    rw [Ep, ← e4]
    (repeat' ((conv => whnf); first | (exfalso; omega) | exact enC [some 0] | refine spC (fun hb => ?_) fun hb => ?_ | refine saC ?_))
theorem q68 (g : aI) (hg : Lx g) (e : aB) (he : oS e) : aF Tryz.prog Dc 137 [evA e, .dptr (Xx g) 0] [] (bS (!J8 g e)) [] := by
 have h := q6a g hg e he;refine aA Ax aD Tryz.func137 (c := _) rfl Tryz.call137 100 ?_
 (repeat' ((conv => whnf); first | refine x0C (eB ?_ rfl) | refine cpC (h) ?_))
 all_goals rfl
@[reducible] def aX (l : List aB) (now : Int) : SV Cd := .agg [.p (.dsl U.event l), .p (.int .i64 now)]
theorem Wo (g : aI) (l : List aB) : mG (fun e => !J8 g e) l = iJ g l := by simp [mG, iJ]
theorem oA (g : aI) (hg : Lx g) (l : List aB) (now : Int) (hl : (l.length : Int) ≤ 1000000) (hE : ∀ e ∈ l, oS e) : aF Tryz.prog Dc 91 [aX l now, aM g] [] (eS (iJ g l)) [] := by
 have h1 := Rj l hl;have h2 := wJ (f := 137) (.c1 _) l hl fun e he => q68 g hg e (hE e he);rw [Wo] at h2;refine aA Ax aD Tryz.func91 (c := _) rfl Tryz.call91 100 ?_
 (repeat' ((conv => whnf); first | refine chC [] h1 ?_))
 refine Ix [some 0, none, some 2] [(3, .any), (8, .fn (.func 137) [] [.dptr (Xx g) 0])] [(1, .rows U.int [])] [.slice 2 0 7 0 l.length, .fn (.func 137) [] [.dptr (Xx g) 0]] (by exact bkV) (by exact snV) ?_
 (repeat' ((conv => whnf); first | refine chC [some 2] h2 ?_ | refine x0C ?_))
 all_goals exact vwV
end Go.SX
namespace Go.SX
variable {C : Cod}
section
variable {Hp : List (HS C)} {θ : List (Option Nat)} {T T' : List (SV C)} {Hp' : List (HS C)} {m0 : Nat} {ret : SV C}
theorem q6g {k : IntKind} {a b : Int} (h : a = b := by omega) : nS Hp θ (.p (.int k a)) (.p (.int k b)) := by subst h; rfl
theorem q5o {u : C.U} {xs ys : List (C.El u)} (h : xs = ys) : D0 Hp θ (.rows u xs) (.rows u ys) := by subst h; rfl
theorem slV {c o n off len len' d off' : Nat} (h : len = len') (h2 : off = off') (h1 : nS Hp θ (.slice d o n off' len') (.slice c o n off' len')) : nS Hp θ (.slice d o n off len) (.slice c o n off' len') := by subst h; subst h2; exact h1
theorem bkI {m0 : Nat} (h1 : ViewL Hp θ T T' := by first | ((repeat' (first | exact trivial | exact rfl | refine And.intro ?_ ?_ | exact q6g | exact fzV | exact fvV)); done) | fail) (h2 : gI Hp θ θ Hp' := by
    first | ((repeat' (first | exact trivial | exact rfl | refine And.intro ?_ ?_ | exact ⟨_, rfl⟩ | exact q6g | (refine q5o ?_; assumption) | (refine q5o ?_; (apply Eq.symm); assumption) | exact fzV | exact fvV)); done) | fail) (h3 : idO m0 0 θ = true := by rfl) (h4 : ndO θ = true := by rfl) : Po m0 θ T Hp T' Hp' := ⟨h1, h2, h3, h4⟩
end
end Go.SX
namespace Go.SX
variable {C : Cod}
theorem aT {D : aJ C} {m0 : Nat} {R : kU C} {body : Code} {k : List (It C)} {T : List (SV C)} {Hp : List (HS C)} {γ : Type} (θ0 : List (Option Nat)) (I : γ → List (Nat × SV C)) (U : γ → List (Nat × HS C)) (good : γ → Prop) (μ : γ → Nat) (g0 : γ) (h0 : good g0) (hent : Po m0 θ0 T Hp (K7 body T (I g0)) (fS Hp (U g0)))
  (hround : ∀ g, good g → ∀ K : List (SV C) → List (HS C) → Prop, (∀ g' θ T' Hp', Pt (good g') → Pt (μ g' < μ g) → Po m0 θ T' Hp' (K7 body T (I g')) (fS Hp (U g')) → K T' Hp') →
   dQ (K7 body T (I g)) fun T1 => eP Hp (U g) fun Hp1 => R (.code body :: .endLoop K :: k) T1 Hp1) : Ye D m0 R body k T Hp := by
 refine yG I (fun g => fS Hp (U g)) good μ g0 h0 θ0 hent fun g hg K hK => ?_;have := hround g hg K hK;rw [bB, cS] at this;rw [bB, bH];exact this
end Go.SX
namespace Go.SX
abbrev Sen := Option (Int × List Int)
def q5l (g : aI) (l : List aB) : Sen := match iJ g l with
 | [] => none
 | a :: _ => some (0, [a.image])
def eM (ks : List aI) : aI := ks.getD 0 (U.dflt .goal)
def Oh (g : aI) (l : List aB) : Sen := match Y3 g (iJ (eM g.kids) l) with
 | none => none
 | some (a, b) => some (0, Ew [a.image, b.image])
def M8 (g : aI) (l : List aB) : Sen := match C1 g (iJ (eM g.kids) l) g.times none with
 | none => none
 | some r => some (0, Ew r)
def wR (r : Sen) (c : Int) (acc : Sen) : Sen := match r with
 | none => acc
 | some (p, im) => match acc with
  | none => some (p + c, im)
  | some (q, im') => if p + c < q then some (p + c, im) else some (q, im')
mutual
def bV : aI → List aB → Sen
 | ⟨kind, rows, from_, to_, low, high, clear, days, times, within, cents, kids⟩, l =>
  if kind = 1 then q5l ⟨kind, rows, from_, to_, low, high, clear, days, times, within, cents, kids⟩ l
  else if kind = 2 then Oh ⟨kind, rows, from_, to_, low, high, clear, days, times, within, cents, kids⟩ l
  else if kind = 3 then M8 ⟨kind, rows, from_, to_, low, high, clear, days, times, within, cents, kids⟩ l
  else if kind = 4 then meanH kids (xX l within)
  else if kind = 5 then meanAll kids l 0 []
  else meanAny kids cents l none
def meanH : List aI → List aB → Sen
 | [], _ => none
 | k :: _, l => bV k l
def meanAll : List aI → List aB → Int → List Int → Sen
 | [], _, p, im => some (p, im)
 | k :: ks, l, p, im => match bV k l with
  | none => none
  | some (q, jm) => meanAll ks l (p + q) (Ew (im ++ jm))
def meanAny : List aI → List Int → List aB → Sen → Sen
 | [], _, _, acc => acc
 | k :: ks, cs, l, acc => meanAny ks cs.tail l (wR (bV k l) (cs.getD 0 0) acc)
end
theorem tY (g : aI) (l : List aB) : bV g l = if g.kind = 1 then q5l g l else if g.kind = 2 then Oh g l else if g.kind = 3 then M8 g l else if g.kind = 4 then meanH g.kids (xX l g.within) else if g.kind = 5 then meanAll g.kids l 0 [] else meanAny g.kids g.cents l none := by
 cases g; rw [bV]
theorem Kj (ks : List aI) (l : List aB) (h : (ks.length : Int) = 1) : meanH ks l = bV (eM ks) l := by
 match ks with
 | [] => simp at h
 | k :: _ => rw [meanH]; rfl
theorem Dq (ks : List aI) (k : aI) (l : List aB) : ∀ (p : Int) (im : List Int), meanAll (ks ++ [k]) l p im = match meanAll ks l p im with
  | none => none
  | some (q, jm) => match bV k l with
   | none => none
   | some (r, km) => some (q + r, Ew (jm ++ km)) := by
 induction ks with
 | nil =>
  intro p im;simp only [List.nil_append, meanAll]
 | cons a ks ih =>
  intro p im;simp only [List.cons_append, meanAll];cases bV a l with
  | none => rfl
  | some x => exact ih _ _
theorem Iv {ks : List aI} {l : List aB} : ∀ {p : Int} {im : List Int}, (∃ k ∈ ks, bV k l = none) → meanAll ks l p im = none := by
 induction ks with
 | nil => rintro p im ⟨k, hk, _⟩; cases hk
 | cons a ks ih =>
  rintro p im ⟨k, hk, hn⟩;rw [meanAll];rcases List.mem_cons.1 hk with rfl | hk
  ·rw [hn]
  ·cases bV a l with
   | none => rfl
   | some x => exact ih ⟨k, hk, hn⟩
theorem Ct (ks : List aI) (k : aI) (l : List aB) : ∀ (cs : List Int) (acc : Sen), meanAny (ks ++ [k]) cs l acc = wR (bV k l) (cs.getD ks.length 0) (meanAny ks cs l acc) := by
 induction ks with
 | nil => intro cs acc; simp only [List.nil_append, meanAny, List.length_nil]
 | cons a ks ih =>
  intro cs acc;simp only [List.cons_append, meanAny, List.length_cons];rw [ih];congr 1;cases cs <;> simp
def Asc : List Int → Prop
 | [] => True
 | a :: l => (∀ b ∈ l, a < b) ∧ Asc l
theorem Z1 {n x : Int} : ∀ {l : List Int}, x ∈ Ly l n ↔ x ∈ l ∨ x = n
 | [] => by simp [Ly]
 | a :: l => by
  rw [Ly];split
  ·simp only [List.mem_cons, Z1 (l := l)]; grind
  ·split
   ·simp only [List.mem_cons]; grind
   ·simp only [List.mem_cons]; grind
theorem Ma {n : Int} : ∀ {l : List Int}, Asc l → Asc (Ly l n)
 | [], _ => by simp [Ly, Asc]
 | a :: l, h => by
  rw [Ly];obtain ⟨h1, h2⟩ := h;split
  ·refine ⟨fun b hb => ?_, Ma h2⟩;rcases Z1.1 hb with hb | rfl
   ·exact h1 b hb
   ·assumption
  ·split
   ·exact ⟨h1, h2⟩
   ·refine ⟨fun b hb => ?_, h1, h2⟩;rcases List.mem_cons.1 hb with rfl | hb
    ·omega
    ·have := h1 b hb; omega
theorem Kx {n : Int} : ∀ {l : List Int}, (Ly l n).length ≤ l.length + 1
 | [] => by simp [Ly]
 | a :: l => by
  rw [Ly];have := Kx (n := n) (l := l);split
  ·simp; omega
  ·split <;> simp
def q0q (l m : List Int) : List Int := m.foldl Ly l
theorem Lz {x : Int} : ∀ {m l : List Int}, x ∈ q0q l m ↔ x ∈ l ∨ x ∈ m
 | [], l => by simp [q0q]
 | a :: m, l => by
  have := Lz (x := x) (m := m) (l := Ly l a);simp only [q0q, List.foldl_cons] at *;rw [this, Z1]; simp; grind
theorem Jo : ∀ {m l : List Int}, Asc l → Asc (q0q l m)
 | [], l, h => h
 | a :: m, l, h => Jo (m := m) (Ma h)
theorem Ks : ∀ {m l : List Int}, (q0q l m).length ≤ l.length + m.length
 | [], l => by simp [q0q]
 | a :: m, l => by
  have := Ks (m := m) (l := Ly l a);have := Kx (n := a) (l := l);simp only [q0q, List.foldl_cons, List.length_cons] at *;omega
theorem Jv {x : Int} {m : List Int} : x ∈ Ew m ↔ x ∈ m := by
 have := Lz (x := x) (m := m) (l := []);simpa [q0q, Ew] using this
theorem q0p {m : List Int} : Asc (Ew m) := Jo (l := []) trivial
theorem W3 {m : List Int} : (Ew m).length ≤ m.length := by
 have := Ks (m := m) (l := []);simpa [q0q, Ew] using this
theorem We : ∀ {l m : List Int}, Asc l → Asc m → (∀ x, x ∈ l ↔ x ∈ m) → l = m
 | [], [], _, _, _ => rfl
 | [], b :: m, _, _, h => by have := (h b).2 (by simp); simp at this
 | a :: l, [], _, _, h => by have := (h a).1 (by simp); simp at this
 | a :: l, b :: m, h1, h2, h => by
  have ha := (h a).1 (by simp);have hb := (h b).2 (by simp);have e : a = b := by
   rcases List.mem_cons.1 ha with ha | ha
   ·exact ha
   ·rcases List.mem_cons.1 hb with hb | hb
    ·exact hb.symm
    ·have := h1.1 b hb; have := h2.1 a ha; omega
  subst e;congr 1;refine We h1.2 h2.2 fun x => ?_;constructor
  ·intro hx;have := (h x).1 (by simp [hx]);rcases List.mem_cons.1 this with rfl | h3
   ·have := h1.1 x hx; omega
   ·exact h3
  ·intro hx;have := (h x).2 (by simp [hx]);rcases List.mem_cons.1 this with rfl | h3
   ·have := h2.1 x hx; omega
   ·exact h3
def Dy (g : aI) (last : Option aB) (a : aB) : Bool := match last with | none => nW g a | some b => bY g b a
theorem Da (g : aI) (need : Int) (last : Option aB) : C1 g [] need last = if need = 0 then some [] else none := by
 rw [C1.eq_def]
theorem M2 (g : aI) (a : aB) (l : List aB) (need : Int) (last : Option aB) : C1 g (a :: l) need last = if need = 0 then some [] else if decide (need ≤ (cV g (a :: l)).headD 0) && Dy g last a then (match C1 g l (need - 1) (some a) with | some r => some (a.image :: r) | none => none) else C1 g l need last := by
 rw [C1.eq_def]; rfl
theorem zV (g : aI) : ∀ (l : List aB) (need : Int) (last : Option aB) (r : List Int), 0 ≤ need → C1 g l need last = some r → (r.length : Int) = need := by
 intro l
 induction l with
 | nil =>
  intro need last r hn h;rw [Da] at h;split at h
  ·injection h with h; subst h; simp; omega
  ·cases h
 | cons a l ih =>
  intro need last r hn h;rw [M2] at h;split at h
  ·injection h with h; subst h; simp; omega
  ·split at h
   ·split at h
    ·rename_i r' hr;injection h with h; subst h;have := ih (need - 1) _ _ (by omega) hr;simp; omega
    ·cases h
   ·exact ih need last r hn h
theorem cN {g : aI} (h : okB g = true) : (1 ≤ g.kind ∧ g.kind ≤ 6) ∧ vZ g = true ∧ mY g = true ∧ iB g = true := by
 unfold okB eU at h;simp only [Bool.and_eq_true, aK] at h;exact ⟨h.1.1.1, h.1.2, h.2.1.1.1, h.2.1.1.2⟩
theorem vI {g : aI} (h : okB g = true) (hk : g.kind = 3) : 1 ≤ g.times ∧ g.times ≤ 6 := by
 have := (cN h).2.1;unfold vZ at this;rw [hk] at this;simp [aK] at this;omega
theorem Hd {g : aI} (h : okB g = true) (hk : g.kind = 3) : 1 ≤ g.days ∧ g.days ≤ 60 ∧ 0 ≤ g.within ∧ g.within ≤ 1440 * g.days ∧ 0 ≤ g.from_ ∧ g.from_ ≤ 1000000 := by
 have := (cN h).2.1;unfold vZ at this;rw [hk] at this;simp [aK] at this;omega
theorem Jt {g : aI} (h : okB g = true) : ∀ c ∈ g.cents, 0 ≤ c ∧ c ≤ 1000000000 := by
 have := (cN h).2.2.2;unfold iB at this;split at this
 ·simp [aK] at this;exact this.2
 ·intro c hc;have : g.cents.length = 0 := by simpa using this
  rw [List.length_eq_zero_iff.1 this] at hc; cases hc
theorem sD {g : aI} (h : okB g = true) (h1 : g.kind ≠ 1) (h5 : g.kind ≠ 5) (h6 : g.kind ≠ 6) : (g.kids.length : Int) = 1 := by
 have := (cN h).2.2.1;unfold mY at this;simpa [h1, h5, h6] using this
theorem lM {g : aI} {d n : Int} (h : bQ g d = some n) : 1 ≤ n := by
 have := V9 g d;rw [h] at this;exact this.1
theorem fC : ∀ {l : List aI} {d n : Int}, sizeL l d = some n → 0 ≤ n
 | [], d, n, h => by rw [sizeL] at h; injection h with h; omega
 | k :: l, d, n, h => by
  rw [sizeL] at h;split at h
  ·cases h
  ·rename_i m hm;split at h
   ·cases h
   ·rename_i q hq;injection h with h;have := lM hm;have := fC hq;omega
theorem iK {g : aI} {d n : Int} (h : bQ g d = some n) : okB g = true ∧ d ≤ 4 ∧ ∃ m, sizeL g.kids (d + 1) = some m ∧ n = 1 + m := by
 rw [fY] at h;split at h
 ·cases h
 ·rename_i hc;simp only [Bool.or_eq_true, decide_eq_true_eq, Bool.not_eq_true', not_or, Bool.not_eq_false] at hc;split at h
  ·cases h
  ·rename_i m hm;injection h with h;exact ⟨hc.2, by omega, m, hm, h.symm⟩
theorem xC {r : Sen} {c : Int} {acc : Sen} {q : Int} {jm : List Int} (h : wR r c acc = some (q, jm)) : acc = some (q, jm) ∨ ∃ p, r = some (p, jm) ∧ q = p + c := by
 unfold wR at h;split at h
 ·exact .inl h
 ·rename_i p im;split at h
  ·injection h with h; injection h with h1 h2; subst h2; exact .inr ⟨p, rfl, h1.symm⟩
  ·split at h
   ·injection h with h; injection h with h1 h2; subst h2; exact .inr ⟨p, rfl, h1.symm⟩
   ·exact .inl h
mutual
theorem jW : ∀ (g : aI) (d n : Int) (l : List aB) (p : Int) (im : List Int), bQ g d = some n → bV g l = some (p, im) → 0 ≤ p ∧ p ≤ 1000000000 * n ∧ (im.length : Int) ≤ 6 * n
 | ⟨kind, rows, from_, to_, low, high, clear, days, times, within, cents, kids⟩, d, n, l, p, im, hs, hm => by
  have hall := all_bound kids;have hany := any_bound kids;have hhd := hd_bound kids;obtain ⟨hok, hd, m, hL, rfl⟩ := iK hs;have h0 := fC hL;rw [tY] at hm;split at hm
  ·unfold q5l at hm;split at hm
   ·cases hm
   ·injection hm with hm; injection hm with h1 h2; subst h1; subst h2; simp; omega
  ·split at hm
   ·unfold Oh at hm;split at hm
    ·cases hm
    ·rename_i a b _;have := W3 (m := [a.image, b.image]);injection hm with hm; injection hm with h1 h2; subst h1; subst h2; simp at this; omega
   ·split at hm
    ·rename_i hk;have ht := vI hok hk;unfold M8 at hm;split at hm
     ·cases hm
     ·rename_i r hr;have h3 := zV _ _ _ _ _ (by omega) hr;have := W3 (m := r);injection hm with hm; injection hm with h1 h2; subst h1; subst h2; omega
    ·split at hm
     ·have := hhd _ _ _ _ _ hL hm;omega
     ·split at hm
      ·have := hall _ _ _ _ _ _ _ hL hm;simp at this;omega
      ·rcases hany _ _ _ _ _ _ _ hL (Jt hok) hm with h | h
       ·cases h
       ·omega
theorem hd_bound : ∀ (ks : List aI) (d n : Int) (l : List aB) (p : Int) (im : List Int), sizeL ks d = some n → meanH ks l = some (p, im) → 0 ≤ p ∧ p ≤ 1000000000 * n ∧ (im.length : Int) ≤ 6 * n
 | [], d, n, l, p, im, hs, hm => by rw [meanH] at hm; cases hm
 | k :: ks, d, n, l, p, im, hs, hm => by
  rw [meanH] at hm;rw [sizeL] at hs;split at hs
  ·cases hs
  ·rename_i m hm';split at hs
   ·cases hs
   ·rename_i q hq;injection hs with hs;have := jW k d m l p im hm' hm;have := fC hq;omega
theorem all_bound : ∀ (ks : List aI) (d n : Int) (l : List aB) (p : Int) (im : List Int) (q : Int) (jm : List Int), sizeL ks d = some n → meanAll ks l p im = some (q, jm) → p ≤ q ∧ q ≤ p + 1000000000 * n ∧ (jm.length : Int) ≤ im.length + 6 * n
 | [], d, n, l, p, im, q, jm, hs, hm => by
  rw [meanAll] at hm; injection hm with hm; injection hm with h1 h2; subst h1; subst h2;have := fC hs;omega
 | k :: ks, d, n, l, p, im, q, jm, hs, hm => by
  rw [meanAll] at hm;rw [sizeL] at hs;split at hs
  ·cases hs
  ·rename_i m hm';split at hs
   ·cases hs
   ·rename_i x hx;injection hs with hs;split at hm
    ·cases hm
    ·rename_i q' jm' hq';have h1 := jW k d m l _ _ hm' hq';have h2 := all_bound ks d x l _ _ _ _ hx hm;have h3 := W3 (m := im ++ jm');simp at h3;omega
theorem any_bound : ∀ (ks : List aI) (cs : List Int) (d n : Int) (l : List aB) (acc : Sen) (q : Int) (jm : List Int), sizeL ks d = some n → (∀ c ∈ cs, 0 ≤ c ∧ c ≤ 1000000000) → meanAny ks cs l acc = some (q, jm) → acc = some (q, jm) ∨ (0 ≤ q ∧ q ≤ 1000000000 * (n + 1) ∧ (jm.length : Int) ≤ 6 * n)
 | [], cs, d, n, l, acc, q, jm, hs, hc, hm => by rw [meanAny] at hm; exact .inl hm
 | k :: ks, cs, d, n, l, acc, q, jm, hs, hc, hm => by
  rw [meanAny] at hm;rw [sizeL] at hs;split at hs
  ·cases hs
  ·rename_i m hm';split at hs
   ·cases hs
   ·rename_i x hx;injection hs with hs;have hm1 := lM hm';have hx0 := fC hx;rcases any_bound ks cs.tail d x l _ q jm hx (fun c h => hc c (List.mem_of_mem_tail h)) hm with h | h
    ·rcases xC h with h | ⟨p, h1, h2⟩
     ·exact .inl h
     ·have h3 := jW k d m l _ _ hm' h1;have h4 : 0 ≤ cs.getD 0 0 ∧ cs.getD 0 0 ≤ 1000000000 := by
       cases cs with
       | nil => simp
       | cons c cs => exact hc c (by simp)
      right; omega
    ·right; omega
end
end Go.SX
namespace Go.SX
def pfB (g : aI) (a b : aB) : Bool := decide (g.low ≤ Xc a.look b.look) && decide (Xc a.at_ b.at_ ≤ g.within)
theorem Mj (g : aI) (a : aB) (l : List aB) : Y3 g (a :: l) = match l.find? (pfB g a) with | some b => some (a, b) | none => Y3 g l := by
 rw [Y3]; rfl
theorem Xb {α : Type} {p : α → Bool} {xs : List α} {i : Nat} {x : α} (h1 : xs[i]? = some x) (h2 : p x = true) (h3 : (xs.take i).any p = false) : xs.find? p = some x := by
 obtain ⟨hi, e⟩ := List.getElem?_eq_some_iff.1 h1;rw [List.find?_eq_some_iff_getElem];refine ⟨h2, i, hi, e, fun j hj => ?_⟩;rw [List.any_eq_false] at h3;have := h3 (xs[j]'(by omega)) (List.mem_iff_getElem.2 ⟨j, by simp; omega, by simp⟩);simpa using this
theorem Tp {α : Type} {p : α → Bool} {xs : List α} (h : xs.any p = false) : xs.find? p = none := by
 rw [List.find?_eq_none];rw [List.any_eq_false] at h;exact h
theorem iT {α : Type} {xs : List α} {i : Nat} {d : α} (h : i < xs.length) : xs.drop i = xs.getD i d :: xs.drop (i + 1) := by
 rw [List.drop_eq_getElem_cons h, List.getD_eq_getElem?_getD, List.getElem?_eq_getElem h]; rfl
end Go.SX
namespace Go.SX
def xQ (g : aI) (a : aB) (ps : List (aB × Int)) : Int := ps.foldl (fun m p => if bY g a p.1 then max m (1 + p.2) else m) 1
theorem rJ (g : aI) (a : aB) (l : List aB) : cV g (a :: l) = xQ g a (l.zip (cV g l)) :: cV g l := by rw [cV]; rfl
@[simp] theorem kO (g : aI) : ∀ l : List aB, (cV g l).length = l.length
 | [] => rfl
 | a :: l => by rw [rJ, List.length_cons, List.length_cons, kO g l]
theorem Q8 (g : aI) (a : aB) (ps : List (aB × Int)) (p : aB × Int) : xQ g a (ps ++ [p]) = if bY g a p.1 then max (xQ g a ps) (1 + p.2) else xQ g a ps := by
 unfold xQ; rw [List.foldl_append]; rfl
theorem zD (g : aI) (a : aB) (B : Int) (h0 : 0 ≤ B) : ∀ (n : Nat) (ps : List (aB × Int)), ps.length = n → (∀ p ∈ ps, p.2 ≤ B) → 1 ≤ xQ g a ps ∧ xQ g a ps ≤ 1 + B := by
 intro n
 induction n with
 | zero => intro ps hl _; rw [List.length_eq_zero_iff.1 hl]; simp [xQ]; omega
 | succ n ih =>
  intro ps hl hp;rcases List.eq_nil_or_concat ps with rfl | ⟨qs, p, rfl⟩
  ·cases hl
  ·rw [List.concat_eq_append] at hl hp ⊢;have h1 := ih qs (by simpa using hl) fun q hq => hp q (by simp [hq]);have h2 := hp p (by simp);rw [Q8];split <;> omega
theorem zK (g : aI) : ∀ (l : List aB), ∀ x ∈ cV g l, 1 ≤ x ∧ x ≤ l.length
 | [], x, h => by simp [cV] at h
 | a :: l, x, h => by
  rw [rJ] at h;have ih := zK g l;rcases List.mem_cons.1 h with rfl | h
  ·have := zD g a l.length (by omega) _ (l.zip (cV g l)) rfl fun p hp => (ih p.2 (List.of_mem_zip hp).2).2;simp only [List.length_cons]; omega
  ·have := ih x h;simp only [List.length_cons]; omega
def wG (g : aI) (m : List aB) (j : Nat) : List Int := List.replicate j 0 ++ cV g (m.drop j)
theorem Wg (g : aI) (m : List aB) {j : Nat} (h : j ≤ m.length) : (wG g m j).length = m.length := by
 simp [wG, kO]; omega
theorem Gb (g : aI) (m : List aB) : wG g m m.length = List.replicate m.length 0 := by simp [wG, cV]
theorem Tq (g : aI) (m : List aB) : wG g m 0 = cV g m := by simp [wG]
def eY (g : aI) (m : List aB) (i t : Nat) : List Int := List.replicate i 0 ++ xQ g (m.getD i (U.dflt .event)) (((m.drop (i + 1)).zip (cV g (m.drop (i + 1)))).take t) :: cV g (m.drop (i + 1))
theorem Ic (g : aI) (m : List aB) {i : Nat} (h : i < m.length) : (wG g m (i + 1)).set i 1 = eY g m i 0 := by
 unfold wG eY;rw [List.replicate_succ', List.append_assoc, List.set_append_right _ _ (by simp)];simp [xQ]
theorem Ri (g : aI) (m : List aB) {i t : Nat} (h : i < m.length) (ht : t = m.length - (i + 1)) : eY g m i t = wG g m i := by
 unfold eY wG;rw [iT (d := U.dflt .event) h, rJ, List.take_of_length_le (by simp [kO]; omega)]
theorem Sd (g : aI) (m : List aB) {i t : Nat} (h : i < m.length) : (eY g m i t).length = m.length := by
 simp [eY, kO]; omega
theorem S5 (g : aI) (m : List aB) {i t : Nat} (h : i < m.length) : (eY g m i t).getD i 0 = xQ g (m.getD i (U.dflt .event)) (((m.drop (i + 1)).zip (cV g (m.drop (i + 1)))).take t) := by
 unfold eY;simp [List.getD_eq_getElem?_getD]
theorem Fa (g : aI) (m : List aB) {i t : Nat} (h : i + 1 + t < m.length) : (eY g m i t).getD (i + 1 + t) 0 = (cV g (m.drop (i + 1))).getD t 0 := by
 unfold eY;simp only [List.getD_eq_getElem?_getD];rw [List.getElem?_append_right (by simp; omega)];simp only [List.length_replicate];rw [show i + 1 + t - i = t + 1 by omega, List.getElem?_cons_succ]
theorem R6 (g : aI) (m : List aB) {i t : Nat} (h : i + 1 + t < m.length) : xQ g (m.getD i (U.dflt .event)) (((m.drop (i + 1)).zip (cV g (m.drop (i + 1)))).take (t + 1)) =
  if bY g (m.getD i (U.dflt .event)) (m.getD (i + 1 + t) (U.dflt .event)) then max ((eY g m i t).getD i 0) (1 + (eY g m i t).getD (i + 1 + t) 0) else (eY g m i t).getD i 0 := by
 rw [S5 g m (by omega), Fa g m h];have hz : ((m.drop (i + 1)).zip (cV g (m.drop (i + 1))))[t]? = some (m.getD (i + 1 + t) (U.dflt .event), (cV g (m.drop (i + 1))).getD t 0) := by
  have h1 : t < (m.drop (i + 1)).length := by simp; omega
  have h2 : t < (cV g (m.drop (i + 1))).length := by rw [kO]; exact h1
  rw [List.getElem?_zip_eq_some];refine ⟨?_, ?_⟩
  ·rw [List.getElem?_drop, List.getD_eq_getElem?_getD, List.getElem?_eq_getElem h]; rfl
  ·show _ = some ((cV g (m.drop (i + 1))).getD t 0);rw [List.getD_eq_getElem?_getD, List.getElem?_eq_getElem h2]; rfl
 rw [List.take_add_one, hz, show (some (m.getD (i + 1 + t) (U.dflt .event), (cV g (m.drop (i + 1))).getD t 0)).toList = [(m.getD (i + 1 + t) (U.dflt .event), (cV g (m.drop (i + 1))).getD t 0)] from rfl, Q8]
theorem Ot (g : aI) (m : List aB) {i t : Nat} (h : i + 1 + t < m.length) (hf : bY g (m.getD i (U.dflt .event)) (m.getD (i + 1 + t) (U.dflt .event)) = false) : eY g m i (t + 1) = eY g m i t := by
 have := R6 g m h;rw [hf, S5 g m (by omega)] at this;unfold eY;rw [this]; rfl
theorem Ry (g : aI) (m : List aB) {i t : Nat} (h : i + 1 + t < m.length) (hf : bY g (m.getD i (U.dflt .event)) (m.getD (i + 1 + t) (U.dflt .event)) = true) : (eY g m i t).set i (max ((eY g m i t).getD i 0) (1 + (eY g m i t).getD (i + 1 + t) 0)) = eY g m i (t + 1) := by
 have := R6 g m h;rw [hf] at this;simp only [if_true] at this;rw [← this];unfold eY;rw [List.set_append_right _ _ (by simp)];simp
theorem Gv (g : aI) (m : List aB) {i t : Nat} (h : i + 1 + t < m.length) : (1 ≤ (eY g m i t).getD i 0 ∧ (eY g m i t).getD i 0 ≤ m.length) ∧ (eY g m i t).getD (i + 1 + t) 0 ≤ m.length ∧ 0 ≤ (eY g m i t).getD (i + 1 + t) 0 := by
 rw [S5 g m (by omega), Fa g m h];have hb := zK g (m.drop (i + 1));have h2 : t < (cV g (m.drop (i + 1))).length := by rw [kO]; simp; omega
 have h3 : (cV g (m.drop (i + 1))).getD t 0 ∈ cV g (m.drop (i + 1)) := by
  rw [List.getD_eq_getElem?_getD, List.getElem?_eq_getElem h2]; exact List.getElem_mem _
 have h4 := hb _ h3;have h5 := zD g (m.getD i (U.dflt .event)) (m.length - (i + 1) : Nat) (by omega) _ (((m.drop (i + 1)).zip (cV g (m.drop (i + 1)))).take t) rfl fun p hp => by
  have := (hb p.2 (List.of_mem_zip (List.mem_of_mem_take hp)).2).2;simpa using this
 simp only [List.length_drop] at h4;omega
end Go.SX
namespace Go.SX
def gO (g : aI) : List aB → Int → Option aB → List Int × Bool
 | [], need, _ => if need = 0 then ([], true) else ([], false)
 | a :: l, need, last => if need = 0 then ([], true) else if decide (need ≤ (cV g (a :: l)).headD 0) && Dy g last a then (a.image :: (gO g l (need - 1) (some a)).1, (gO g l (need - 1) (some a)).2) else gO g l need last
theorem Ak (g : aI) : ∀ (l : List aB) (need : Int) (last : Option aB), C1 g l need last = if (gO g l need last).2 then some (gO g l need last).1 else none
 | [], need, last => by
  rw [Da, gO];split <;> rfl
 | a :: l, need, last => by
  rw [M2, gO];split
  ·rfl
  ·split
   ·rw [Ak g l (need - 1) (some a)];cases (gO g l (need - 1) (some a)).2 <;> rfl
   ·exact Ak g l need last
theorem Mx (g : aI) (l : List aB) (last : Option aB) : gO g l 0 last = ([], true) := by
 cases l <;> rw [gO, if_pos rfl]
theorem Rx (g : aI) {need : Int} (last : Option aB) (h : need ≠ 0) : gO g [] need last = ([], false) := by rw [gO, if_neg h]
theorem Wp (g : aI) {a : aB} {l : List aB} {need : Int} {last : Option aB} (h : need ≠ 0) (h1 : need ≤ (cV g (a :: l)).headD 0) (h2 : Dy g last a = true) : gO g (a :: l) need last = (a.image :: (gO g l (need - 1) (some a)).1, (gO g l (need - 1) (some a)).2) := by
 rw [gO, if_neg h, if_pos (by rw [h2, decide_eq_true h1]; rfl)]
theorem Nm (g : aI) {a : aB} {l : List aB} {need : Int} {last : Option aB} (h : need ≠ 0) (h1 : ¬ need ≤ (cV g (a :: l)).headD 0 ∨ Dy g last a = false) : gO g (a :: l) need last = gO g l need last := by
 rw [gO, if_neg h, if_neg];rcases h1 with h1 | h1
 ·rw [decide_eq_false h1]; simp
 ·rw [h1, Bool.and_false]; simp
theorem yP (g : aI) : ∀ (l : List aB) (need : Int) (last : Option aB), (gO g l need last).1.length ≤ l.length
 | [], need, last => by rw [gO]; split <;> simp
 | a :: l, need, last => by
  rw [gO];split
  ·simp
  ·split
   ·have := yP g l (need - 1) (some a);simp; omega
   ·have := yP g l need last;simp; omega
theorem L4 (g : aI) : ∀ (m : List aB) (i : Nat), cV g (m.drop i) = (cV g m).drop i
 | [], i => by simp [cV]
 | a :: m, 0 => rfl
 | a :: m, i + 1 => by rw [rJ, List.drop_succ_cons, List.drop_succ_cons]; exact L4 g m i
theorem Nu (g : aI) (m : List aB) (i : Nat) : (cV g (m.drop i)).headD 0 = (cV g m).getD i 0 := by
 rw [L4, List.headD_eq_head?_getD, List.head?_drop, List.getD_eq_getElem?_getD]
end Go.SX
namespace Go.SX
theorem Gf {l : List Int} (h : l ≠ []) : Ew l ≠ [] := by
 obtain ⟨a, m, rfl⟩ := List.exists_cons_of_ne_nil h;intro e;have := (Jv (x := a) (m := a :: m)).2 (by simp);rw [e] at this; cases this
theorem tU {g : aI} (h : okB g = true) (h5 : g.kind = 5 ∨ g.kind = 6) : 2 ≤ (g.kids.length : Int) ∧ (g.kids.length : Int) ≤ 4 := by
 have := (cN h).2.2.1;unfold mY at this;rw [if_neg (by omega), if_pos h5, aK] at this;exact this
mutual
theorem T7 : ∀ (g : aI) (d n : Int) (l : List aB) (p : Int) (im : List Int), bQ g d = some n → bV g l = some (p, im) → im ≠ []
 | ⟨kind, rows, from_, to_, low, high, clear, days, times, within, cents, kids⟩, d, n, l, p, im, hs, hm => by
  have hall := all_ne kids;have hany := any_ne kids;have hhd := hd_ne kids;obtain ⟨hok, hd, m, hL, rfl⟩ := iK hs;rw [tY] at hm;split at hm
  ·unfold q5l at hm;split at hm
   ·cases hm
   ·injection hm with hm; injection hm with h1 h2; subst h2; simp
  ·split at hm
   ·unfold Oh at hm;split at hm
    ·cases hm
    ·injection hm with hm; injection hm with h1 h2; subst h2; exact Gf (by simp)
   ·split at hm
    ·rename_i hk;have ht := vI hok hk;unfold M8 at hm;split at hm
     ·cases hm
     ·rename_i r hr;have h3 := zV _ _ _ _ _ (by omega) hr;injection hm with hm; injection hm with h1 h2; subst h2;exact Gf fun e => by subst e; simp at h3; dsimp only at ht; omega
    ·split at hm
     ·exact hhd _ _ _ _ _ hL hm
     ·split at hm
      ·rename_i hk;have h2 := tU hok (.inl hk);exact hall _ _ _ _ _ _ _ hL (.inr (fun e => by simp [e] at h2)) hm
      ·rcases hany _ _ _ _ _ _ _ hL hm with h | h
       ·cases h
       ·exact h
theorem hd_ne : ∀ (ks : List aI) (d n : Int) (l : List aB) (p : Int) (im : List Int), sizeL ks d = some n → meanH ks l = some (p, im) → im ≠ []
 | [], d, n, l, p, im, hs, hm => by rw [meanH] at hm; cases hm
 | k :: ks, d, n, l, p, im, hs, hm => by
  rw [meanH] at hm;rw [sizeL] at hs;split at hs
  ·cases hs
  ·rename_i m hm';exact T7 k d m l p im hm' hm
theorem all_ne : ∀ (ks : List aI) (d n : Int) (l : List aB) (p : Int) (im : List Int) (q : Int) (jm : List Int), sizeL ks d = some n → (im ≠ [] ∨ ks ≠ []) → meanAll ks l p im = some (q, jm) → jm ≠ []
 | [], d, n, l, p, im, q, jm, hs, h, hm => by
  rw [meanAll] at hm; injection hm with hm; injection hm with h1 h2; subst h2;exact h.resolve_right (fun e => e rfl)
 | k :: ks, d, n, l, p, im, q, jm, hs, h, hm => by
  rw [meanAll] at hm;rw [sizeL] at hs;split at hs
  ·cases hs
  ·rename_i m hm';split at hs
   ·cases hs
   ·rename_i x hx;split at hm
    ·cases hm
    ·rename_i q' jm' hq';have h1 := T7 k d m l _ _ hm' hq';exact all_ne ks d x l _ _ _ _ hx (.inl (Gf (by simp [h1]))) hm
theorem any_ne : ∀ (ks : List aI) (cs : List Int) (d n : Int) (l : List aB) (acc : Sen) (q : Int) (jm : List Int), sizeL ks d = some n → meanAny ks cs l acc = some (q, jm) → acc = some (q, jm) ∨ jm ≠ []
 | [], cs, d, n, l, acc, q, jm, hs, hm => by rw [meanAny] at hm; exact .inl hm
 | k :: ks, cs, d, n, l, acc, q, jm, hs, hm => by
  rw [meanAny] at hm;rw [sizeL] at hs;split at hs
  ·cases hs
  ·rename_i m hm';split at hs
   ·cases hs
   ·rename_i x hx;rcases any_ne ks cs.tail d x l _ q jm hx hm with h | h
    ·rcases xC h with h | ⟨p, h1, h2⟩
     ·exact .inl h
     ·exact .inr (T7 k d m l _ _ hm' h1)
    ·exact .inr h
end
theorem rH : ∀ {ks : List aI} {d n : Int} (i : Nat), sizeL ks d = some n → ∃ m, sizeL (ks.take i) d = some m ∧ m ≤ n
 | ks, d, n, 0, h => ⟨0, by rw [List.take_zero, sizeL], fC h⟩
 | [], d, n, i + 1, h => ⟨n, h, Int.le_refl _⟩
 | k :: ks, d, n, i + 1, h => by
  rw [sizeL] at h;split at h
  ·cases h
  ·rename_i m hm;split at h
   ·cases h
   ·rename_i x hx;injection h with h;obtain ⟨y, h1, h2⟩ := rH i hx;refine ⟨m + y, ?_, by omega⟩;rw [List.take_succ_cons, sizeL, hm, h1]
theorem fJ : ∀ {ks : List aI} {d n : Int} {k : aI}, sizeL ks d = some n → k ∈ ks → ∃ m, bQ k d = some m ∧ m ≤ n
 | [], d, n, k, h, hk => by cases hk
 | a :: ks, d, n, k, h, hk => by
  rw [sizeL] at h;split at h
  ·cases h
  ·rename_i m hm;split at h
   ·cases h
   ·rename_i x hx;injection h with h;have h1 := fC hx;have h2 := lM hm;rcases List.mem_cons.1 hk with rfl | hk
    ·exact ⟨m, hm, by omega⟩
    ·obtain ⟨y, h3, h4⟩ := fJ hx hk;exact ⟨y, h3, by omega⟩
theorem gF {α : Type} {xs : List α} {i : Nat} {d : α} (h : i < xs.length) : xs.take (i + 1) = xs.take i ++ [xs.getD i d] := by
 rw [List.take_add_one, List.getD_eq_getElem?_getD, List.getElem?_eq_getElem h]; rfl
end Go.SX
namespace Go.SX
def Bv (g : aI) : List aB → Prop
 | [] => True
 | [_] => True
 | a :: b :: l => bY g a b = true ∧ Bv g (b :: l)
end Go.SX
