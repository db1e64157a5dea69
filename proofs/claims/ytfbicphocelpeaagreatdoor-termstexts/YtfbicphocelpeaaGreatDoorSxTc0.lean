/-
  Walks: Tc0, Tc2, Tc3, Tc4, Td3, Td4, Td5: what single functions of the program compute.
-/
import Derived.Test.YtfbicphocelpeaaGreatDoorSxOq0
import Derived.Test.YtfbicphocelpeaaGreatDoorSxTa9
import Derived.Test.YtfbicphocelpeaaGreatDoorSxTp8
set_option linter.unusedVariables false
set_option linter.unusedSimpArgs false
namespace Go.SX
open Go.Proofs
set_option maxHeartbeats 400000000
set_option maxRecDepth 100000
theorem q5w (g : aI) (hk : (g.kids.length : Int) = 1) (hdy : 0 ≤ g.days ∧ g.days ≤ 60) (hfr : 0 ≤ g.from_ ∧ g.from_ ≤ 1000000) (hti : 1 ≤ g.times ∧ g.times ≤ 6) (hg : Lx (eM g.kids)) (l : List aB) (now : Int) (h : lV l) : aF Tryz.prog Dc 128 [aX l now, aM g] [] (qD (M8 g l)) [] := by
 have h1 := oA (eM g.kids) hg l now h.len h.el;have hE : lV (iJ (eM g.kids) l) := ⟨Int.le_trans (Int.ofNat_le.2 (List.length_filter_le _ _)) h.len, fun e he => h.el e (List.mem_filter.1 he).1, fun e he => h.i64 e (List.mem_filter.1 he).1, fun e he => h.look e (List.mem_filter.1 he).1⟩;unfold M8;generalize iJ (eM g.kids) l = m at h1 hE ⊢;have hl := hE.len;rw [Ak];have htk := q9s g hdy m hE m.length 0 (Nat.zero_le _) (Nat.sub_zero _) g.times 168 _ none [] (by omega) (by omega) .c0 (by simp; omega) fun x hx => q71 g hfr hdy x;rw [List.drop_zero] at htk;have htl := yP g m g.times none;have hts := zV g m g.times none;rw [Ak] at hts;cases hT : gO g m g.times none with
 | mk r ok =>
 rw [hT] at htk htl hts;have hr0 : ok = true → r ≠ [] := fun e h => by
  subst e; subst h;have := hts [] (by omega) rfl;simp at this; omega
 have hst : List.replicate ((m.length : Nat) : Int).toNat (Cd.dflt U.int) = wG g m m.length := by rw [Gb, Int.toNat_natCast]; rfl
 refine aA Ax aD Tryz.func128 (c := _) rfl Tryz.call128 400 ?_
 (repeat' ((conv => whnf); first | refine dpC (h1) ?_ | refine taC ?_ | refine saC ?_ | refine aE mixed ?_))
 refine bP (fun j : Nat => [(8, iS ((j : Int) - 1))]) (fun j => [(4, .rows U.int (wG g m j))]) (fun j => j ≤ m.length) (fun j => j) m.length (Nat.le_refl _) (by exact bkI) ?_;intro j hj K hK;have hlr := Wg g m hj
 match j with
 | 0 =>
  rw [Tq];rw [show ((0 : Nat) : Int) = 0 from rfl] at htk;cases ok with
  | false =>
   cases r <;>
   ·(repeat' ((conv => whnf); first | fail))
    refine Ix [none, none, some 2, none, none, none, some 6, some 7, none] [(2, .any), (3, .dptr (kL g) 0), (6, .dptr [.dsl U.event m] 0), (7, .dptr [.dsl U.int (cV g m)] 0), (13, .any), (20, .any), (62, .any), (63, .any), (64, .any), (66, .any)] [(0, .rows U.int []), (1, .rows U.int []), (3, .rows U.int []), (4, .rows U.int []), (5, .rows U.int []), (6, .vart none [.slice 8 0 1 0 0]), (7, .vart none [.fn (.func 166) [] [.dptr [.dsl U.event m] 0, .dptr [.dsl U.int (cV g m)] 0, .ptr 6 0, .ptr 7 0, .dptr (kL g) 0]]), (8, .rows U.int [])] [iS 0, iS g.times, .fn (.func 168) [] [.dptr (kL g) 0], .dptr [.dsl U.event m] 0, .dptr [.dsl U.int (cV g m)] 0, .ptr 6 0, .ptr 7 0, .dptr (kL g) 0] (by exact bkV) (by exact snV) ?_
    (conv => whnf)
    refine xW [some 6, some 7, some 8] htk rfl rfl ⟨rfl, rfl, rfl, trivial⟩ ?_
    (repeat' ((conv => whnf); first | refine x0C ?_))
    all_goals exact vwV
  | true =>
   cases r with
   | nil => exact absurd rfl (hr0 rfl)
   | cons x r =>
    have him := lK (l := x :: r) (by simp) (by simp; simp at htl; omega)
    (repeat' ((conv => whnf); first | fail))
    refine Ix [none, none, some 2, none, none, none, some 6, some 7, none] [(2, .any), (3, .dptr (kL g) 0), (6, .dptr [.dsl U.event m] 0), (7, .dptr [.dsl U.int (cV g m)] 0), (13, .any), (20, .any), (62, .any), (63, .any), (64, .any), (66, .any)] [(0, .rows U.int []), (1, .rows U.int []), (3, .rows U.int []), (4, .rows U.int []), (5, .rows U.int []), (6, .vart none [.slice 8 0 1 0 0]), (7, .vart none [.fn (.func 166) [] [.dptr [.dsl U.event m] 0, .dptr [.dsl U.int (cV g m)] 0, .ptr 6 0, .ptr 7 0, .dptr (kL g) 0]]), (8, .rows U.int [])] [iS 0, iS g.times, .fn (.func 168) [] [.dptr (kL g) 0], .dptr [.dsl U.event m] 0, .dptr [.dsl U.int (cV g m)] 0, .ptr 6 0, .ptr 7 0, .dptr (kL g) 0] (by exact bkV) (by exact snV) ?_
    (conv => whnf)
    refine xW [some 6, some 7, some 8] htk rfl rfl ⟨rfl, rfl, rfl, trivial⟩ ?_
    (repeat' ((conv => whnf); first | fail))
    refine Ix [none, none, some 2, none, none, none, none, none, none, none] [(10, .any), (11, .any), (70, .any)] [(6, .rows U.int []), (7, .rows U.int []), (8, .rows U.int []), (9, .rows U.int [])] [lS (x :: r)] (by exact bkV) (by exact snV) ?_
    (conv => whnf)
    refine xW [] him rfl rfl trivial ?_
    (repeat' ((conv => whnf); first | refine x0C ?_))
    all_goals exact vwV
 | i + 1 =>
  have e1 : (wG g m (i + 1)).set (0 + (((i + 1 : Nat) : Int) - 1).toNat) 1 = eY g m i 0 := by
   rw [← Ic g m hj, show 0 + (((i + 1 : Nat) : Int) - 1).toNat = i by omega]
  have e2 := Ri g m (i := i) (t := m.length - (i + 1)) (by omega) rfl
  (repeat' ((conv => whnf); first | (exfalso; omega) | refine spC (fun hb => ?_) fun hb => ?_ | refine saC ?_))
  refine bP (fun t : Nat => [(9, iS ((i : Int) + 1 + t))]) (fun t => [(4, .rows U.int (eY g m i t))]) (fun t => t ≤ m.length - (i + 1)) (fun t => m.length - (i + 1) - t) 0 (Nat.zero_le _) (by exact bkI) ?_;intro t ht K2 hK2;have hql := Sd g m (i := i) (t := t) (by omega);rcases Nat.lt_or_ge t (m.length - (i + 1)) with hlt | hge
  ·have hgi := getD_some (d := Cd.dflt U.event) (show i < m.length by omega);have hgk := getD_some (d := Cd.dflt U.event) (show i + 1 + t < m.length by omega);have ei : (((i + 1 : Nat) : Int) - 1).toNat = i := by omega
   have ek : ((i : Int) + 1 + t).toNat = i + 1 + t := by omega
   have hfo := X1 g (m.getD (((i + 1 : Nat) : Int) - 1).toNat (Cd.dflt U.event)) (m.getD ((i : Int) + 1 + t).toNat (Cd.dflt U.event)) (by rw [ei]; exact hE.i64 _ (List.mem_of_getElem? hgi)) (by rw [ek]; exact hE.i64 _ (List.mem_of_getElem? hgk)) hdy;have hqb := Gv g m (i := i) (t := t) (by omega);have hb1 : 1 ≤ (eY g m i t).getD (0 + (((i + 1 : Nat) : Int) - 1).toNat) (Cd.dflt U.int) ∧ (eY g m i t).getD (0 + (((i + 1 : Nat) : Int) - 1).toNat) (Cd.dflt U.int) ≤ m.length := by rw [ei, Nat.zero_add]; exact hqb.1
   have hb2 : (eY g m i t).getD (0 + ((i : Int) + 1 + t).toNat) (Cd.dflt U.int) ≤ m.length ∧ 0 ≤ (eY g m i t).getD (0 + ((i : Int) + 1 + t).toNat) (Cd.dflt U.int) := by rw [ek, Nat.zero_add]; exact hqb.2
   cases hF : bY g (m.getD (((i + 1 : Nat) : Int) - 1).toNat (Cd.dflt U.event)) (m.getD ((i : Int) + 1 + t).toNat (Cd.dflt U.event)) with
   | false =>
    rw [hF] at hfo;have e3 := Ot g m (i := i) (t := t) (by omega) (by rw [ei, ek] at hF; exact hF)
    (repeat' ((conv => whnf); first | (exfalso; omega) | refine dpC (hfo) ?_ | refine hK2 (t + 1) [some 0, some 1, some 2, some 3, some 4, some 5] _ _ ⟨by omega⟩ ⟨by omega⟩ (by (dsimp only; rw [e3]; exact bkI)) | refine spC (fun hb => ?_) fun hb => ?_ | refine taC ?_ | refine saC ?_ | refine aE mixed ?_))
   | true =>
    rw [hF] at hfo;have e4 : (eY g m i t).set (0 + (((i + 1 : Nat) : Int) - 1).toNat) (max ((eY g m i t).getD (0 + (((i + 1 : Nat) : Int) - 1).toNat) (Cd.dflt U.int)) (1 + (eY g m i t).getD (0 + ((i : Int) + 1 + t).toNat) (Cd.dflt U.int))) = eY g m i (t + 1) := by
     rw [ei, ek, Nat.zero_add, Nat.zero_add];exact Ry g m (i := i) (t := t) (by omega) (by rw [ei, ek] at hF; exact hF)
    (repeat' ((conv => whnf); first | (exfalso; omega) | refine dpC (hfo) ?_ | refine hK2 (t + 1) [some 0, some 1, some 2, some 3, some 4, some 5] _ _ ⟨by omega⟩ ⟨by omega⟩ (by exact bkI) | refine spC (fun hb => ?_) fun hb => ?_ | refine taC ?_ | refine saC ?_ | refine aE mixed ?_))
  ·obtain rfl : t = m.length - (i + 1) := by omega
   rw [e2]
   (repeat' ((conv => whnf); first | (exfalso; omega) | refine hK i [some 0, some 1, some 2, some 3, some 4, some 5] _ _ ⟨by omega⟩ ⟨by omega⟩ (by exact bkI) | refine spC (fun hb => ?_) fun hb => ?_ | refine saC ?_))
def Ng (k : Int) (f : Nat) (i : Nat) : MapEntry := ⟨.int .i64 k, .func (.func f) #[] #[], i⟩
def q84 : Obj := .map #[Ng 1 126 0, Ng 2 127 1, Ng 3 128 2, Ng 4 129 3, Ng 5 130 4, Ng 6 131 5] 6
theorem mP : aF Tryz.prog Dc 84 [] [] (.mapp 0) [.obj q84] := by
 refine aA Ax aD Tryz.func84 (c := _) rfl Tryz.call84 200 ?_
 (repeat' ((conv => whnf); first | refine cW ⟨rfl⟩ ?_ | exact enC [some 0]))
theorem iP (s : Sen) : ∃ p im b, qD s = .tuple [q64 p im, bS b] := by
 cases s with
 | none => exact ⟨_, _, _, rfl⟩
 | some x => exact ⟨_, _, _, rfl⟩
theorem q31 (g : aI) (hk : g.kind = 1) (l : List aB) (now : Int) (s : Sen) (h : aF Tryz.prog Dc 126 [aX l now, aM g] [] (qD s) []) : aF Tryz.prog Dc 57 [aX l now, aM g] [] (qD s) [] := by
 cases g with
 | mk kind rows from_ to_ low high clear days times within cents kids =>
 dsimp only at hk;subst hk;obtain ⟨p, im, b, e⟩ := iP s;rw [e] at h ⊢;refine aA Ax aD Tryz.func57 (c := _) rfl Tryz.call57 100 ?_
 (repeat' ((conv => whnf); first | (refine cI [] mP rfl rfl trivial ?_) | refine fV rfl ?_ | refine dpC (h) ?_ | refine x0C ?_ | refine taC ?_ | refine aE mixed ?_))
 all_goals exact vwV
theorem q2g (g : aI) (hk : g.kind = 2) (l : List aB) (now : Int) (s : Sen) (h : aF Tryz.prog Dc 127 [aX l now, aM g] [] (qD s) []) : aF Tryz.prog Dc 57 [aX l now, aM g] [] (qD s) [] := by
 cases g with
 | mk kind rows from_ to_ low high clear days times within cents kids =>
 dsimp only at hk;subst hk;obtain ⟨p, im, b, e⟩ := iP s;rw [e] at h ⊢;refine aA Ax aD Tryz.func57 (c := _) rfl Tryz.call57 100 ?_
 (repeat' ((conv => whnf); first | (refine cI [] mP rfl rfl trivial ?_) | refine fV rfl ?_ | refine dpC (h) ?_ | refine x0C ?_ | refine taC ?_ | refine aE mixed ?_))
 all_goals exact vwV
theorem q4s (g : aI) (hk : g.kind = 3) (l : List aB) (now : Int) (s : Sen) (h : aF Tryz.prog Dc 128 [aX l now, aM g] [] (qD s) []) : aF Tryz.prog Dc 57 [aX l now, aM g] [] (qD s) [] := by
 cases g with
 | mk kind rows from_ to_ low high clear days times within cents kids =>
 dsimp only at hk;subst hk;obtain ⟨p, im, b, e⟩ := iP s;rw [e] at h ⊢;refine aA Ax aD Tryz.func57 (c := _) rfl Tryz.call57 100 ?_
 (repeat' ((conv => whnf); first | (refine cI [] mP rfl rfl trivial ?_) | refine fV rfl ?_ | refine dpC (h) ?_ | refine x0C ?_ | refine taC ?_ | refine aE mixed ?_))
 all_goals exact vwV
theorem q43 (g : aI) (hk : g.kind = 4) (l : List aB) (now : Int) (s : Sen) (h : aF Tryz.prog Dc 129 [aX l now, aM g] [] (qD s) []) : aF Tryz.prog Dc 57 [aX l now, aM g] [] (qD s) [] := by
 cases g with
 | mk kind rows from_ to_ low high clear days times within cents kids =>
 dsimp only at hk;subst hk;obtain ⟨p, im, b, e⟩ := iP s;rw [e] at h ⊢;refine aA Ax aD Tryz.func57 (c := _) rfl Tryz.call57 100 ?_
 (repeat' ((conv => whnf); first | (refine cI [] mP rfl rfl trivial ?_) | refine fV rfl ?_ | refine dpC (h) ?_ | refine x0C ?_ | refine taC ?_ | refine aE mixed ?_))
 all_goals exact vwV
theorem q2x (g : aI) (hk : g.kind = 5) (l : List aB) (now : Int) (s : Sen) (h : aF Tryz.prog Dc 130 [aX l now, aM g] [] (qD s) []) : aF Tryz.prog Dc 57 [aX l now, aM g] [] (qD s) [] := by
 cases g with
 | mk kind rows from_ to_ low high clear days times within cents kids =>
 dsimp only at hk;subst hk;obtain ⟨p, im, b, e⟩ := iP s;rw [e] at h ⊢;refine aA Ax aD Tryz.func57 (c := _) rfl Tryz.call57 100 ?_
 (repeat' ((conv => whnf); first | (refine cI [] mP rfl rfl trivial ?_) | refine fV rfl ?_ | refine dpC (h) ?_ | refine x0C ?_ | refine taC ?_ | refine aE mixed ?_))
 all_goals exact vwV
theorem q4g (g : aI) (hk : g.kind = 6) (l : List aB) (now : Int) (s : Sen) (h : aF Tryz.prog Dc 131 [aX l now, aM g] [] (qD s) []) : aF Tryz.prog Dc 57 [aX l now, aM g] [] (qD s) [] := by
 cases g with
 | mk kind rows from_ to_ low high clear days times within cents kids =>
 dsimp only at hk;subst hk;obtain ⟨p, im, b, e⟩ := iP s;rw [e] at h ⊢;refine aA Ax aD Tryz.func57 (c := _) rfl Tryz.call57 100 ?_
 (repeat' ((conv => whnf); first | (refine cI [] mP rfl rfl trivial ?_) | refine fV rfl ?_ | refine dpC (h) ?_ | refine x0C ?_ | refine taC ?_ | refine aE mixed ?_))
 all_goals exact vwV
theorem Ta (g : aI) (hk : (g.kids.length : Int) = 1) (l : List aB) (now : Int) (h : lV l) (s : Sen) (hs : aF Tryz.prog Dc 57 [aX (xX l g.within) now, aM (eM g.kids)] [] (qD s) []) : aF Tryz.prog Dc 129 [aX l now, aM g] [] (qD s) [] := by
 have h1 := zC l now g.within h.len h.i64;obtain ⟨p, im, b, e⟩ := iP s;rw [e] at hs ⊢;refine aA Ax aD Tryz.func129 (c := _) rfl Tryz.call129 100 ?_
 (repeat' ((conv => whnf); first | refine dpC (h1) ?_ | refine dpC (hs) ?_ | refine x0C ?_ | refine taC ?_ | refine saC ?_ | refine aE mixed ?_))
 all_goals exact vwV
theorem qd7 (g : aI) (d n : Int) (l : List aB) (now : Int) (hsz : sizeL g.kids d = some n) (hn : n ≤ 1000) (hkl : (g.kids.length : Int) ≤ 1000000) (hs : ∀ k ∈ g.kids, aF Tryz.prog Dc 57 [aX l now, aM k] [] (qD (bV k l)) []) : aF Tryz.prog Dc 130 [aX l now, aM g] [] (qD (meanAll g.kids l 0 [])) [] := by
 refine aA Ax aD Tryz.func130 (c := _) rfl Tryz.call130 400 ?_
 (repeat' ((conv => whnf); first | fail))
 refine aT [some 0, some 1, some 2, none] (fun q : Nat × Int × List Int × Nat => [(5, bS false), (13, iS q.1)]) (fun q => [(2, .vart none [iS q.2.1, .slice 3 0 1 0 q.2.2.1.length]), (3, .rows U.int (q.2.2.1 ++ List.replicate q.2.2.2 0))]) (fun q => q.1 ≤ g.kids.length ∧ meanAll (g.kids.take q.1) l 0 [] = some (q.2.1, q.2.2.1)) (fun q => g.kids.length - q.1) (0, 0, [], 0) ⟨Nat.zero_le _, by rw [List.take_zero, meanAll]⟩ (by exact bkI) ?_;rintro ⟨i, p, im, z⟩ ⟨hi, hm⟩ K hK;dsimp only at hi hm hK ⊢;rcases Nat.lt_or_ge i g.kids.length with hlt | hge
 ·have hgi := getD_some (d := Cd.dflt U.goal) hlt;have hkm := List.mem_of_getElem? hgi;have hx := hs _ hkm;obtain ⟨k0, hk1, hk2⟩ := fJ hsz hkm;obtain ⟨n0, hn1, hn2⟩ := rH i hsz;have hb0 := all_bound _ _ _ _ _ _ _ _ hn1 hm;have hsn := Dq (g.kids.take i) (g.kids.getD (i : Int).toNat (Cd.dflt U.goal)) l 0 [];rw [show g.kids.take i ++ [g.kids.getD (i : Int).toNat (Cd.dflt U.goal)] = g.kids.take (i + 1) from (gF hlt).symm, hm] at hsn;dsimp only at hsn;cases hr : bV (g.kids.getD (i : Int).toNat (Cd.dflt U.goal)) l with
  | none =>
   rw [hr] at hx;rw [Iv ⟨_, hkm, hr⟩]
   (repeat' ((conv => whnf); first | (exfalso; omega) | refine cpC (hx) ?_ | refine x0C ?_ | refine spC (fun hb => ?_) fun hb => ?_ | refine saC ?_))
   all_goals exact vwV
  | some w =>
   obtain ⟨r, jm⟩ := w;rw [hr] at hx hsn;dsimp only at hsn;have hb1 := jW _ _ _ _ _ _ hk1 hr;have hne := T7 _ _ _ _ _ _ hk1 hr;simp only [List.length_nil] at hb0;have hW : List.take im.length (im ++ List.replicate z 0) ++ jm = im ++ jm := by simp
   have hWl := congrArg List.length hW;simp only [List.length_append (bs := jm)] at hWl;have him := lK (l := List.take im.length (im ++ List.replicate z 0) ++ jm) (by rw [hW]; simp [hne]) (by rw [hW, List.length_append]; omega);rw [← hW] at hsn
   (repeat' ((conv => whnf); first | (exfalso; omega) | refine cpC (hx) ?_ | (refine Ix [some 0, some 1, some 2, none, some 4, some 5, none] [(33, .any), (36, .any)] [(2, .vart none [iS (p + r), .any]), (3, .rows U.int []), (6, .rows U.int [])] [lS (List.take im.length (im ++ List.replicate z 0) ++ jm)] (by exact bkV) (by exact snV) ?_; (conv => whnf); refine xW [] him rfl rfl trivial ?_) | refine hK (i + 1, p + r, Ew (List.take im.length (im ++ List.replicate z 0) ++ jm), (List.take im.length (im ++ List.replicate z 0) ++ jm).length - (Ew (List.take im.length (im ++ List.replicate z 0) ++ jm)).length) [some 0, some 1, some 2, some 7] _ _ ⟨⟨by dsimp only; omega, hsn⟩⟩ ⟨by dsimp only; omega⟩ (by exact bkI) | refine spC (fun hb => ?_) fun hb => ?_ | refine saC ?_))
 ·rw [List.take_of_length_le hge] at hm;rw [hm]
  (repeat' ((conv => whnf); first | (exfalso; omega) | refine x0C ?_ | refine spC (fun hb => ?_) fun hb => ?_))
  all_goals exact vwV
def q5q (b : Bool) (p : Int) (im : List Int) : Sen := if b then some (p, im) else none
theorem qd5 (g : aI) (d n : Int) (l : List aB) (now : Int) (hsz : sizeL g.kids d = some n) (hn : n ≤ 1000) (hkl : (g.kids.length : Int) ≤ 1000000) (hcl : g.cents.length = g.kids.length) (hcb : ∀ c ∈ g.cents, 0 ≤ c ∧ c ≤ 1000000000) (hs : ∀ k ∈ g.kids, aF Tryz.prog Dc 57 [aX l now, aM k] [] (qD (bV k l)) []) : aF Tryz.prog Dc 131 [aX l now, aM g] [] (qD (meanAny g.kids g.cents l none)) [] := by
 refine aA Ax aD Tryz.func131 (c := _) rfl Tryz.call131 400 ?_
 (repeat' ((conv => whnf); first | fail))
 refine aT [some 0, some 1, some 2] (fun q : Nat × Int × List Int × Bool => [(5, bS q.2.2.2), (13, iS q.1)]) (fun q => [(2, .vart none [iS q.2.1, lS q.2.2.1])]) (fun q => q.1 ≤ g.kids.length ∧ meanAny (g.kids.take q.1) g.cents l none = q5q q.2.2.2 q.2.1 q.2.2.1 ∧ (q.2.2.2 = false → q.2.1 = 0 ∧ q.2.2.1 = [])) (fun q => g.kids.length - q.1) (0, 0, [], false) ⟨Nat.zero_le _, by rw [List.take_zero, meanAny]; rfl, fun _ => ⟨rfl, rfl⟩⟩ (by exact bkI) ?_;rintro ⟨i, p, im, b⟩ ⟨hi, hm, h0⟩ K hK;dsimp only at hi hm h0 hK ⊢;rcases Nat.lt_or_ge i g.kids.length with hlt | hge
 ·have hgi := getD_some (d := Cd.dflt U.goal) hlt;have hkm := List.mem_of_getElem? hgi;have hx := hs _ hkm;obtain ⟨k0, hk1, hk2⟩ := fJ hsz hkm;obtain ⟨n0, hn1, hn2⟩ := rH i hsz;have hsn := Ct (g.kids.take i) (g.kids.getD (i : Int).toNat (Cd.dflt U.goal)) l g.cents none;rw [show g.kids.take i ++ [g.kids.getD (i : Int).toNat (Cd.dflt U.goal)] = g.kids.take (i + 1) from (gF hlt).symm, hm, List.length_take, Nat.min_eq_left hi] at hsn;have hci := hcb _ (List.mem_of_getElem? (getD_some (d := Cd.dflt U.int) (show i < g.cents.length by omega)));have hcg : g.cents.getD (i : Int).toNat (Cd.dflt U.int) = g.cents.getD i 0 := rfl;have hpb : 0 ≤ p ∧ p ≤ 2000000000000 := by
   cases b with
   | false => have := h0 rfl; omega
   | true =>
    rcases any_bound _ _ _ _ _ _ _ _ hn1 hcb (hm.trans (by unfold q5q; rw [if_pos rfl])) with h | h
    ·cases h
    ·omega
  cases hr : bV (g.kids.getD (i : Int).toNat (Cd.dflt U.goal)) l with
  | none =>
   rw [hr] at hx hsn
   (repeat' ((conv => whnf); first | (exfalso; omega) | refine cpC (hx) ?_ | refine hK (i + 1, p, im, b) [some 0, some 1, some 2] _ _ ⟨⟨by dsimp only; omega, hsn, h0⟩⟩ ⟨by dsimp only; omega⟩ (by exact bkI) | refine spC (fun hb => ?_) fun hb => ?_ | refine taC ?_ | refine saC ?_ | refine aE mixed ?_))
  | some w =>
   obtain ⟨r, jm⟩ := w;rw [hr] at hx hsn;have hb1 := jW _ _ _ _ _ _ hk1 hr;cases b with
   | false =>
    obtain ⟨rfl, rfl⟩ := h0 rfl
    (repeat' ((conv => whnf); first | (exfalso; omega) | refine cpC (hx) ?_ | refine hK (i + 1, r + g.cents.getD (i : Int).toNat (Cd.dflt U.int), jm, true) [some 0, some 1, some 2] _ _ ⟨⟨by dsimp only; omega, hsn, fun h => by cases h⟩⟩ ⟨by dsimp only; omega⟩ (by exact bkI) | refine spC (fun hb => ?_) fun hb => ?_ | refine taC ?_ | refine saC ?_ | refine aE mixed ?_))
   | true =>
    by_cases hlt2 : r + g.cents.getD (i : Int).toNat (Cd.dflt U.int) < p
    ·have hsn2 : meanAny (g.kids.take (i + 1)) g.cents l none = q5q true (r + g.cents.getD (i : Int).toNat (Cd.dflt U.int)) jm := by rw [hsn]; unfold wR q5q; simp only [if_true]; exact if_pos hlt2
     (repeat' ((conv => whnf); first | (exfalso; omega) | refine cpC (hx) ?_ | refine hK (i + 1, r + g.cents.getD (i : Int).toNat (Cd.dflt U.int), jm, true) [some 0, some 1, some 2] _ _ ⟨⟨by dsimp only; omega, hsn2, fun h => by cases h⟩⟩ ⟨by dsimp only; omega⟩ (by exact bkI) | refine spC (fun hb => ?_) fun hb => ?_ | refine taC ?_ | refine saC ?_ | refine aE mixed ?_))
    ·have hsn2 : meanAny (g.kids.take (i + 1)) g.cents l none = q5q true p im := by rw [hsn]; unfold wR q5q; simp only [if_true]; exact if_neg hlt2
     (repeat' ((conv => whnf); first | (exfalso; omega) | refine cpC (hx) ?_ | refine hK (i + 1, p, im, true) [some 0, some 1, some 2] _ _ ⟨⟨by dsimp only; omega, hsn2, fun h => by cases h⟩⟩ ⟨by dsimp only; omega⟩ (by exact bkI) | refine spC (fun hb => ?_) fun hb => ?_ | refine taC ?_ | refine saC ?_ | refine aE mixed ?_))
 ·rw [List.take_of_length_le hge] at hm;rw [hm];cases b with
  | false =>
   obtain ⟨rfl, rfl⟩ := h0 rfl
   (repeat' ((conv => whnf); first | (exfalso; omega) | refine x0C ?_ | refine spC (fun hb => ?_) fun hb => ?_))
   all_goals exact vwV
  | true =>
   (repeat' ((conv => whnf); first | (exfalso; omega) | refine x0C ?_ | refine spC (fun hb => ?_) fun hb => ?_))
   all_goals exact vwV
theorem q2r {l m : List aB} (h : lV l) (hs : ∀ e ∈ m, e ∈ l) (hl : m.length ≤ l.length) : lV m :=
 ⟨by have := h.len; omega, fun e he => h.el e (hs e he), fun e he => h.i64 e (hs e he), fun e he => h.look e (hs e he)⟩
theorem Zd {l : List aB} (h : lV l) (n : Int) : lV (xX l n) := q2r h (fun e he => (List.mem_filter.1 he).1) (List.length_filter_le _ _)
theorem qQ {ks : List aI} (h : (ks.length : Int) = 1) : eM ks ∈ ks := by
 match ks with
 | [] => simp at h
 | k :: _ => exact List.mem_cons_self
theorem kZ : ∀ (j : Nat) (g : aI) (d n : Int), 5 - d ≤ j → 1 ≤ d → bQ g d = some n → pX g → ∀ (l : List aB) (now : Int), lV l → aF Tryz.prog Dc 57 [aX l now, aM g] [] (qD (bV g l)) [] := by
 intro j
 induction j with
 | zero =>
  intro g d n h1 h2 hs;have := (iK hs).2.1;omega
 | succ j ih =>
  intro g d n h1 h2 hs hG l now hE;obtain ⟨hok, hd, m, hL, rfl⟩ := iK hs;have hsz := oD 4 g d (1 + m) (by omega) hs;rw [show (5 : Int) ^ 4 = 625 by decide] at hsz;obtain ⟨hgl, hgk⟩ := (dJ g).1 hG;have hkids : ∀ k ∈ g.kids, aF Tryz.prog Dc 57 [aX l now, aM k] [] (qD (bV k l)) [] := fun k hk => by
   obtain ⟨x, hx, _⟩ := fJ hL hk;exact ih k (d + 1) x (by omega) (by omega) hx (dS hgk hk) l now hE
  have hkk := (cN hok).1;rw [tY];have hkb : g.kind = 1 ∨ g.kind = 2 ∨ g.kind = 3 ∨ g.kind = 4 ∨ g.kind = 5 ∨ g.kind = 6 := by omega
  rcases hkb with e | e | e | e | e | e
  ·rw [if_pos e];exact q31 g e l now _ (qc7 g hgl l now hE)
  ·rw [if_neg (by omega), if_pos e];have h1 := sD hok (by omega) (by omega) (by omega);exact q2g g e l now _ (q9k g h1 ((dJ _).1 (dS hgk (qQ h1))).1 l now hE)
  ·rw [if_neg (by omega), if_neg (by omega), if_pos e];have h1 := sD hok (by omega) (by omega) (by omega);have h3 := Hd hok e;exact q4s g e l now _ (q5w g h1 (by omega) (by omega) (vI hok e) ((dJ _).1 (dS hgk (qQ h1))).1 l now hE)
  ·rw [if_neg (by omega), if_neg (by omega), if_neg (by omega), if_pos e];have h1 := sD hok (by omega) (by omega) (by omega);rw [Kj _ _ h1];obtain ⟨x, hx, _⟩ := fJ hL (qQ h1);exact q43 g e l now _ (Ta g h1 l now hE _ (ih _ (d + 1) x (by omega) (by omega) hx (dS hgk (qQ h1)) _ now (Zd hE _)))
  ·rw [if_neg (by omega), if_neg (by omega), if_neg (by omega), if_neg (by omega), if_pos e];have h2 := tU hok (.inl e);exact q2x g e l now _ (qd7 g (d + 1) m l now hL (by omega) (by omega) hkids)
  ·rw [if_neg (by omega), if_neg (by omega), if_neg (by omega), if_neg (by omega), if_neg (by omega)];have h2 := tU hok (.inr e);have hc : g.cents.length = g.kids.length := by
    have := (cN hok).2.2.2;unfold iB at this;rw [if_pos e] at this;simp only [Bool.and_eq_true, decide_eq_true_eq] at this;omega
   exact q4g g e l now _ (qd5 g (d + 1) m l now hL (by omega) (by omega) hc (Jt hok) hkids)
theorem Bm {l : List aB} (h : bM l = true) (hel : ∀ e ∈ l, oS e) : lV l ∧ (l.length : Int) ≤ 120 ∧ ∀ e ∈ l, fI e = true := by
 unfold bM at h;simp only [Bool.and_eq_true, decide_eq_true_eq] at h;obtain ⟨h1, h2⟩ := h;have hf : ∀ e ∈ l, fI e = true := by
  intro e he;obtain ⟨i, hi, rfl⟩ := List.getElem_of_mem he;unfold K9 at h2;rw [List.all_eq_true] at h2;have := h2 i (List.mem_range.2 hi);unfold vN at this;simp only [Bool.and_eq_true] at this;have h3 := this.1.1;unfold evt at h3
  rwa [List.getD_eq_getElem?_getD, List.getElem?_eq_getElem hi] at h3
 refine ⟨⟨by omega, hel, fun e he => ?_, fun e he => ?_⟩, h1, hf⟩
 ·have := hf e he;unfold fI at this;simp only [Bool.and_eq_true, aK] at this;unfold Bf;omega
 ·have := hf e he;unfold fI at this;simp only [Bool.and_eq_true, aK] at this;have h3 := this.2;split at h3
  ·simp only [Bool.and_eq_true, aK] at h3; omega
  ·split at h3
   ·simp only [Bool.and_eq_true, decide_eq_true_eq] at h3; omega
   ·cases h3
def wV (g : aI) (l : List aB) : Int × List Int × Bool × Int :=
 if cF g && bM l then (match bV g l with | some (p, im) => (p, im, true, 0) | none => (0, [], false, 0)) else (0, [], false, 150)
theorem Et {g : aI} (hG : pX g) (hv : cF g = true) {l : List aB} (now : Int) (hE : lV l) : aF Tryz.prog Dc 57 [aX l now, aM g] [] (qD (bV g l)) [] := by
 unfold cF at hv;split at hv
 ·cases hv
 ·rename_i n hn;exact kZ 4 g 1 n (by omega) (by omega) hn hG l now hE
theorem Ru (g : aI) (hG : pX g) (l : List aB) (hl : (l.length : Int) ≤ 9223372036854775807) (hE : ∀ e ∈ l, oS e) : aF Tryz.prog Dc 30 [aM g, eS l] [] (.tuple [q64 (wV g l).1 (wV g l).2.1, bS (wV g l).2.2.1, iS (wV g l).2.2.2]) [] := by
 have h1 := nV g hG;have h2 := lN l hl hE;unfold wV;cases hv : cF g with
 | false =>
  rw [hv] at h1;refine aA Ax aD Tryz.func30 (c := _) rfl Tryz.call30 100 ?_
  (repeat' ((conv => whnf); first | refine cpC (h1) ?_ | refine x0C ?_))
  all_goals exact vwV
 | true =>
  cases hw : bM l with
  | false =>
   rw [hv] at h1;rw [hw] at h2;refine aA Ax aD Tryz.func30 (c := _) rfl Tryz.call30 100 ?_
   (repeat' ((conv => whnf); first | refine cpC (h1) ?_ | refine cpC (h2) ?_ | refine x0C ?_))
   all_goals exact vwV
  | true =>
   rw [hv] at h1;rw [hw] at h2;have h3 := Et hG hv 0 (Bm hw hE).1;cases hm : bV g l with
   | none =>
    rw [hm] at h3;refine aA Ax aD Tryz.func30 (c := _) rfl Tryz.call30 100 ?_
    (repeat' ((conv => whnf); first | refine cpC (h1) ?_ | refine cpC (h2) ?_ | refine cpC (h3) ?_ | refine x0C ?_))
    all_goals exact vwV
   | some w =>
    obtain ⟨r, jm⟩ := w;rw [hm] at h3;refine aA Ax aD Tryz.func30 (c := _) rfl Tryz.call30 100 ?_
    (repeat' ((conv => whnf); first | refine cpC (h1) ?_ | refine cpC (h2) ?_ | refine cpC (h3) ?_ | refine x0C ?_))
    all_goals exact vwV
theorem qb6 (g : aI) (hG : pX g) (l : List aB) (hl : (l.length : Int) ≤ 9223372036854775807) (hE : ∀ e ∈ l, oS e) : aF Tryz.prog Dc 14 [aM g, eS l] [] (.tuple [bS (wV g l).2.2.1, iS (wV g l).2.2.2]) [] := by
 have h := Ru g hG l hl hE;generalize wV g l = q at h ⊢;refine aA Ax aD Tryz.func14 (c := _) rfl Tryz.call14 100 ?_
 (repeat' ((conv => whnf); first | refine cpC (h) ?_ | refine x0C ?_))
 all_goals exact vwV
theorem q1w (g : aI) (hG : pX g) (l : List aB) (hl : (l.length : Int) ≤ 9223372036854775807) (hE : ∀ e ∈ l, oS e) : aF Tryz.prog Dc 9 [aM g, eS l] [] (.tuple [iS (wV g l).1, bS (wV g l).2.2.1, iS (wV g l).2.2.2]) [] := by
 have h := Ru g hG l hl hE;generalize wV g l = q at h ⊢;refine aA Ax aD Tryz.func9 (c := _) rfl Tryz.call9 100 ?_
 (repeat' ((conv => whnf); first | refine cpC (h) ?_ | refine x0C ?_))
 all_goals exact vwV
theorem q94 (g : aI) (hG : pX g) (l : List aB) (hl : (l.length : Int) ≤ 9223372036854775807) (hE : ∀ e ∈ l, oS e) : aF Tryz.prog Dc 12 [aM g, eS l] [] (.tuple [lS (wV g l).2.1, iS (wV g l).2.2.2]) [] := by
 have h := Ru g hG l hl hE;generalize wV g l = q at h ⊢;refine aA Ax aD Tryz.func12 (c := _) rfl Tryz.call12 100 ?_
 (repeat' ((conv => whnf); first | refine cpC (h) ?_ | refine x0C ?_))
 all_goals exact vwV
theorem Qi {g : aI} (h : okB g = true) (hk : g.kind = 4) : 0 ≤ g.within ∧ g.within ≤ 1000000 := by
 have := (cN h).2.1;unfold vZ at this;rw [hk] at this;simp [aK] at this;omega
theorem q8u (a b : List Int) (ha : (a.length : Int) ≤ 9223372036854775807) (hb : (b.length : Int) ≤ 9223372036854775807) : aF Tryz.prog Dc 17 [lS a, lS b] [] (bS (decide (a = b))) [] := by
 by_cases hlen : a.length = b.length
 rotate_left
 ·rw [decide_eq_false (fun e => hlen (by rw [e]))];refine aA Ax aD Tryz.func17 (c := _) rfl Tryz.call17 100 ?_
  (repeat' ((conv => whnf); first | refine x0C (eB ?_ rfl) | (exfalso; omega) | refine spC (fun hb => ?_) fun hb => ?_))
  all_goals rfl
 ·refine aA Ax aD Tryz.func17 (c := _) rfl Tryz.call17 100 ?_
  (repeat' ((conv => whnf); first | (exfalso; omega) | refine spC (fun hb => ?_) fun hb => ?_))
  refine aT [] (fun i : Nat => [(5, iS i)]) (fun _ => []) (fun i => i ≤ a.length ∧ a.take i = b.take i) (fun i => a.length - i) 0 ⟨Nat.zero_le _, by simp⟩ (by exact bkI) ?_;rintro i ⟨hi, he⟩ K hK;rcases Nat.lt_or_ge i a.length with hlt | hge
  ·have t1 := gF (d := Cd.dflt U.int) hlt;have t2 := gF (d := Cd.dflt U.int) (show i < b.length by omega);have hs : a.getD (i : Int).toNat (Cd.dflt U.int) = b.getD (i : Int).toNat (Cd.dflt U.int) → a.take (i + 1) = b.take (i + 1) := fun h => by
    rw [t1, t2, he, show a.getD i (Cd.dflt U.int) = b.getD i (Cd.dflt U.int) from h]
   have hn : ¬ a.getD (i : Int).toNat (Cd.dflt U.int) = b.getD (i : Int).toNat (Cd.dflt U.int) → decide (a = b) = false := fun h => decide_eq_false fun e => h (by rw [e])
   (repeat' ((conv => whnf); first | refine x0C (eB ?_ rfl) | (exfalso; omega) | refine hK (i + 1) [] _ _ ⟨⟨by omega, hs (by assumption)⟩⟩ ⟨by omega⟩ (by exact bkI) | refine spC (fun hb => ?_) fun hb => ?_ | refine taC ?_ | refine saC ?_ | refine aE mixed ?_))
   all_goals exact (hn (by assumption)).symm
  ·rw [List.take_of_length_le hge, List.take_of_length_le (by omega)] at he;rw [decide_eq_true he]
   (repeat' ((conv => whnf); first | refine x0C (eB ?_ rfl) | (exfalso; omega) | refine spC (fun hb => ?_) fun hb => ?_))
   all_goals rfl
section
variable {C : Cod} {P : Program} {D : aJ C} {tab : Tab C} {Hp : List (HS C)} {ret : SV C}
theorem fzL {θ : List (Option Nat)} {c o n off len : Nat} {u : C.U} {ys xs : List (C.El u)} (h1 : aR Hp c = .rows u xs := by rfl) (h2 : o = 0 := by rfl) (h3 : n = C.n u := by rfl) (h4 : off + len ≤ xs.length := by first | (simp; done) | (simp; omega) | omega)
  (h5 : ys = (xs.drop off).take len := by (simp only [List.drop_zero]; exact (List.take_of_length_le (by first | omega | (simp; omega))).symm)) (h6 : inO θ c = false := by rfl) : uX Hp θ c o n off len u ys := ⟨xs, h1, h2, h3, h4, h5, h6⟩
theorem vwL {θ : List (Option Nat)} {l : Option (List (SV C))} (h : q9d Hp θ ret l := by first | ((repeat' (first | exact trivial | exact rfl | refine And.intro ?_ ?_ | exact fzV | exact fzL | exact fvV)); done) | fail) : q54 Hp θ ret l := ⟨h⟩
end
theorem fA (c n : Int) (hc : -9223372036854775808 ≤ c ∧ c ≤ 9223372036854775807) (h : 0 < n) : aF Tryz.prog Dc 68 [iS c, iS n] [] (iS (aH c n)) [] := by
 have e : ∀ x : Int, 0 ≤ x → x.tmod n = x % n := fun x hx => Int.tmod_eq_emod_of_nonneg hx;unfold aH
 by_cases hc0 : c < 0
 ·rw [if_pos hc0, ← e _ (by omega)];refine aA Ax aD Tryz.func68 (c := _) rfl Tryz.call68 60 ?_
  (repeat' ((conv => whnf); first | refine x0C (eI ?_ rfl) | (exfalso; omega) | refine spC (fun hb => ?_) fun hb => ?_ | refine saC ?_))
  all_goals first | rfl | (rw [Int.zero_sub])
 ·rw [if_neg hc0, ← e _ (by omega)];refine aA Ax aD Tryz.func68 (c := _) rfl Tryz.call68 60 ?_
  (repeat' ((conv => whnf); first | refine x0C (eI ?_ rfl) | (exfalso; omega) | refine spC (fun hb => ?_) fun hb => ?_ | refine saC ?_))
  all_goals first | rfl | (rw [Int.zero_sub])
theorem kP (c n : Int) (hc : -9223372036854775808 ≤ c ∧ c ≤ 9223372036854775807) (h : 0 < n) : aF Tryz.prog Dc 41 [iS c, iS n] [] (iS (aH c n)) [] := by
 have e : ∀ x : Int, 0 ≤ x → x.tmod n = x % n := fun x hx => Int.tmod_eq_emod_of_nonneg hx;unfold aH
 by_cases hc0 : c < 0
 ·rw [if_pos hc0, ← e _ (by omega)];refine aA Ax aD Tryz.func41 (c := _) rfl Tryz.call41 60 ?_
  (repeat' ((conv => whnf); first | refine x0C (eI ?_ rfl) | (exfalso; omega) | refine spC (fun hb => ?_) fun hb => ?_ | refine saC ?_))
  all_goals first | rfl | (rw [Int.zero_sub])
 ·rw [if_neg hc0, ← e _ (by omega)];refine aA Ax aD Tryz.func41 (c := _) rfl Tryz.call41 60 ?_
  (repeat' ((conv => whnf); first | refine x0C (eI ?_ rfl) | (exfalso; omega) | refine spC (fun hb => ?_) fun hb => ?_ | refine saC ?_))
  all_goals first | rfl | (rw [Int.zero_sub])
theorem q9p (c n : Int) (hc : -9223372036854775808 ≤ c ∧ c ≤ 9223372036854775807) (h : 0 < n) : aF Tryz.prog Dc 6 [iS c, iS n] [] (iS (aH c n)) [] := by
 have e : ∀ x : Int, 0 ≤ x → x.tmod n = x % n := fun x hx => Int.tmod_eq_emod_of_nonneg hx;unfold aH
 by_cases hc0 : c < 0
 ·rw [if_pos hc0, ← e _ (by omega)];refine aA Ax aD Tryz.func6 (c := _) rfl Tryz.call6 60 ?_
  (repeat' ((conv => whnf); first | refine x0C (eI ?_ rfl) | (exfalso; omega) | refine spC (fun hb => ?_) fun hb => ?_ | refine saC ?_))
  all_goals first | rfl | (rw [Int.zero_sub])
 ·rw [if_neg hc0, ← e _ (by omega)];refine aA Ax aD Tryz.func6 (c := _) rfl Tryz.call6 60 ?_
  (repeat' ((conv => whnf); first | refine x0C (eI ?_ rfl) | (exfalso; omega) | refine spC (fun hb => ?_) fun hb => ?_ | refine saC ?_))
  all_goals first | rfl | (rw [Int.zero_sub])
def I64 (c : Int) : Prop := -9223372036854775808 ≤ c ∧ c ≤ 9223372036854775807
@[reducible] def a5A (x : A5) : SV Cd := .agg [iS x.a, iS x.b, iS x.c, iS x.d, iS x.e]
structure Ir (x : A5) : Prop where
 a : I64 x.a
 b : I64 x.b
 c : I64 x.c
 d : I64 x.d
 e : I64 x.e
theorem lH {c n : Int} (h : -9223372036854775808 ≤ c ∧ c ≤ 9223372036854775807) (hn : 1 < n) : -9223372036854775808 ≤ c.tdiv n ∧ c.tdiv n ≤ 9223372036854775807 := by
 rcases Int.le_total 0 c with h0 | h0
 ·rw [Int.tdiv_eq_ediv_of_nonneg h0];have := Int.ediv_nonneg h0 (show 0 ≤ n by omega);have := Int.ediv_le_self n h0;omega
 ·have e : c.tdiv n = -((-c) / n) := by
   have := Int.tdiv_eq_ediv_of_nonneg (a := -c) (b := n) (by omega);rw [← this, Int.neg_tdiv, Int.neg_neg]
  rw [e];have h1 := Int.ediv_nonneg (show 0 ≤ -c by omega) (show 0 ≤ n by omega);have h2 := Int.ediv_le_self n (show 0 ≤ -c by omega);omega
theorem q4i (x : A5) (hx : Ir x) : aF Tryz.prog Dc 69 [a5A x] [] (aM (qF x)) [] := by
 obtain ⟨ha, hb', hc, hd, he⟩ := hx;unfold I64 at *;have hda := lH (n := 48) ha (by omega);have hdb := lH (n := 24) hb' (by omega);have hde := lH (n := 40) he (by omega);have p1 := fA (x.b.tdiv 24) 3 hdb (by omega);have p2 := fA (x.a.tdiv 48) 3 hda (by omega);have p3 := fA x.a 48 ha (by omega);have p4 := fA x.b 24 hb' (by omega);have p5 := fA x.c 3 hc (by omega);have p6 := fA x.c 48 hc (by omega);have p7 := fA x.c 3000 hc (by omega);have p8 := fA x.d 5000 hd (by omega);have p9 := fA x.e 40 he (by omega);have p10 := fA (x.e.tdiv 40) 51 hde (by omega);have p11 := fA x.d 2 hd (by omega);have b1 := aL (c := x.b.tdiv 24) (n := 3) (by omega);have b2 := aL (c := x.a.tdiv 48) (n := 3) (by omega);have b3 := aL (c := x.a) (n := 48) (by omega);have b4 := aL (c := x.b) (n := 24) (by omega);have b6 := aL (c := x.c) (n := 48) (by omega);have b7 := aL (c := x.c) (n := 3000) (by omega);have b8 := aL (c := x.d) (n := 5000) (by omega);have b9 := aL (c := x.e) (n := 40) (by omega);have b10 := aL (c := x.e.tdiv 40) (n := 51) (by omega);refine aA Ax aD Tryz.func69 (c := _) rfl Tryz.call69 400 ?_
 (repeat' ((conv => whnf); first | refine saC ?_))
 refine bP (fun y : Nat => [(4, iS y)]) (fun y => [(2, .rows U.int (mB x (aH (x.a.tdiv 48) 3 + 1).toNat y))]) (fun y => (y : Int) ≤ aH (x.b.tdiv 24) 3 + 1) (fun y => (aH (x.b.tdiv 24) 3 + 1).toNat - y) 0 (by omega) (by exact bkI) ?_;intro y hy K hK;have hyl := Ev x (aH (x.a.tdiv 48) 3 + 1).toNat y;rcases Int.lt_or_le (aH (x.b.tdiv 24) 3) y with hge | hlt
 ·have hye : (aH (x.b.tdiv 24) 3 + 1).toNat = y := by omega
  unfold qF lZ;rw [hye];generalize mB x (aH (x.a.tdiv 48) 3 + 1).toNat y = R at *
  by_cases h5 : aH x.c 3 = 0
  ·rw [if_pos h5];have hol := S7 R (aH x.b 24).toNat (aH x.c 48);unfold Qj at hol ⊢;rw [← Nat.zero_add (aH x.b 24).toNat] at hol ⊢
   (repeat' ((conv => whnf); first | (exfalso; omega) | refine cpC (p1) ?_ | refine dpC (p4) ?_ | refine cpC (p5) ?_ | refine dpC (p6) ?_ | refine cpC (p7) ?_ | refine dpC (p8) ?_ | refine cpC (p9) ?_ | refine dpC (p10) ?_ | refine cpC (p11) ?_ | refine x0C ?_ | refine spC (fun hb => ?_) fun hb => ?_ | refine taC ?_ | refine saC ?_ | refine aE mixed ?_))
   all_goals exact vwL
  ·rw [if_neg h5]
   (repeat' ((conv => whnf); first | (exfalso; omega) | refine cpC (p1) ?_ | refine cpC (p5) ?_ | refine cpC (p7) ?_ | refine dpC (p8) ?_ | refine cpC (p9) ?_ | refine dpC (p10) ?_ | refine cpC (p11) ?_ | refine x0C ?_ | refine spC (fun hb => ?_) fun hb => ?_ | refine taC ?_ | refine saC ?_ | refine aE mixed ?_))
   all_goals exact vwL
 ·(repeat' ((conv => whnf); first | (exfalso; omega) | refine cpC (p1) ?_ | refine spC (fun hb => ?_) fun hb => ?_ | refine saC ?_))
  refine bP (fun k : Nat => [(5, iS k)]) (fun k => [(2, .rows U.int (vS x y k (mB x (aH (x.a.tdiv 48) 3 + 1).toNat y)))]) (fun k => (k : Int) ≤ aH (x.a.tdiv 48) 3 + 1) (fun k => (aH (x.a.tdiv 48) 3 + 1).toNat - k) 0 (by omega) (by exact bkI) ?_;intro k hk K2 hK2;have hkl := G8 x y k (mB x (aH (x.a.tdiv 48) 3 + 1).toNat y);rw [hyl] at hkl;rcases Int.lt_or_le (aH (x.a.tdiv 48) 3) k with hge2 | hlt2
  ·have hke : (aH (x.a.tdiv 48) 3 + 1).toNat = k := by omega
   have hs := rF x (aH (x.a.tdiv 48) 3 + 1).toNat y;rw [show vS x y k (mB x (aH (x.a.tdiv 48) 3 + 1).toNat y) = mB x (aH (x.a.tdiv 48) 3 + 1).toNat (y + 1) by rw [hs]; rw [hke]]
   (repeat' ((conv => whnf); first | (exfalso; omega) | refine cpC (p2) ?_ | refine hK (y + 1) [some 0, some 1, some 2, some 3] _ _ ⟨by omega⟩ ⟨by omega⟩ (by exact bkI) | refine spC (fun hb => ?_) fun hb => ?_ | refine saC ?_))
  ·have ht : (aH x.a 48 + (k : Int)).tmod 48 = (aH x.a 48 + (k : Int)) % 48 := Int.tmod_eq_emod_of_nonneg (by omega);have ht2 : 0 ≤ (aH x.a 48 + (k : Int)).tmod 48 ∧ (aH x.a 48 + (k : Int)).tmod 48 < 48 := by rw [ht]; omega
   have hs := qR x y k (mB x (aH (x.a.tdiv 48) 3 + 1).toNat y);generalize vS x y k (mB x (aH (x.a.tdiv 48) 3 + 1).toNat y) = R at *;have hm : 0 ≤ min 23 (aH x.b 24 + (y : Int)) ∧ min 23 (aH x.b 24 + (y : Int)) < 24 := by omega
   have e1 : R.set (0 + (min 23 (aH x.b 24 + (y : Int))).toNat) (cE .or .i64 (R.getD (0 + (min 23 (aH x.b 24 + (y : Int))).toNat) (Cd.dflt U.int)) (gX .i64 1 ((aH x.a 48 + (k : Int)).tmod 48))) = vS x y (k + 1) (mB x (aH (x.a.tdiv 48) 3 + 1).toNat y) := by
    rw [hs, Nat.zero_add]; rfl
   (repeat' ((conv => whnf); first | (exfalso; omega) | refine cpC (p2) ?_ | refine dpC (p3) ?_ | refine dpC (p4) ?_ | refine hK2 (k + 1) [some 0, some 1, some 2, some 3] _ _ ⟨by omega⟩ ⟨by omega⟩ (by exact bkI) | refine spC (fun hb => ?_) fun hb => ?_ | refine taC ?_ | refine saC ?_ | refine aE mixed ?_))
@[reducible] def a5S (x : List A5) : SV Cd := .p (.dsl U.arr5 x)
theorem Pg {x : List A5} {i : Int} (h0 : 0 ≤ i) (h : i < x.length) : y5 x i = x.getD i.toNat (Cd.dflt U.arr5) := if_pos h
theorem q29 {x : List A5} {i : Int} (h : ¬ i < x.length) : y5 x i = Mt := if_neg h
theorem q4z {x : List A5} (hx : ∀ y ∈ x, Ir y) {i : Int} (h0 : 0 ≤ i) : Ir (y5 x i) := by
 by_cases h : i < x.length
 ·rw [Pg h0 h];refine hx _ ?_;rw [List.getD_eq_getElem?_getD, List.getElem?_eq_getElem (by omega)];exact List.getElem_mem _
 ·rw [q29 h];have : I64 0 := by unfold I64; omega
  exact ⟨this, this, this, this, this⟩
theorem q0i {w : World} {E : Env} {a b c d e : Int} {vs : List Value} (h : DenA Dc w E [.agg [.arr U.int 5 [a, b, c, d, e]]] vs) : DenA Dc w E [.agg [iS a, iS b, iS c, iS d, iS e]] vs := by
 simp only [DenA, Den, DenC] at h ⊢;obtain ⟨v, v2, rfl, ⟨cs, rfl, _, v1, v3, hv, hp, rfl⟩, rfl⟩ := h;refine ⟨_, _, rfl, ⟨cs, rfl, ?_⟩, rfl⟩;rw [List.append_nil] at hv;rw [hv];obtain ⟨hl, hd⟩ := hp
 match v1, hl with
 | [x0, x1, x2, x3, x4], _ =>
  have g := fun (j : Nat) pv v h1 h2 => hd j pv v h1 h2;have e0 := g 0 _ _ rfl rfl;have e1 := g 1 _ _ rfl rfl;have e2 := g 2 _ _ rfl rfl;have e3 := g 3 _ _ rfl rfl;have e4 := g 4 _ _ rfl rfl;exact ⟨x0, _, rfl, e0.oneCell, e0, x1, _, rfl, e1.oneCell, e1, x2, _, rfl, e2.oneCell, e2, x3, _, rfl, e3.oneCell, e3, x4, _, rfl, e4.oneCell, e4, rfl⟩
theorem q92 : aF Tryz.prog Dc 69 [.agg [.arr U.int 5 (List.replicate 5 (Cd.dflt U.int))]] [] (aM (qF Mt)) [] := by
 have z : I64 0 := by unfold I64; omega
 have h := q4i Mt ⟨z, z, z, z, z⟩;exact ⟨h.enter, fun w E hm vs hs hd => h.calls w E hm vs hs (q0i (a := 0) (b := 0) (c := 0) (d := 0) (e := 0) hd)⟩
theorem Is (x : List A5) (hx : ∀ y ∈ x, Ir y) (hxl : (x.length : Int) ≤ 9223372036854775807) (deep at_ most : Int) (h1 : 0 ≤ at_ ∧ at_ ≤ 1000) (h3 : 1 ≤ most ∧ most ≤ 9) (hdeep : 1 ≤ deep ∧ deep ≤ 4)
  (hk : deep = 4 ∨ most < 2 ∨ (x.length : Int) ≤ at_ + 1 ∨ (5 ≤ 1 + aH ((y5 x at_).a.tdiv 144) 6 ∧ most < 3) ∨ aH ((y5 x at_).a.tdiv 144) 6 = 0) :
  aF Tryz.prog Dc 39 [a5S x, iS at_, iS deep, iS most] [] (.tuple [aM (qF (y5 x at_)), iS 1, iS 1]) [] := by
 have hy := q4z hx h1.1;have hs := q4i (y5 x at_) hy;have hp := fA ((y5 x at_).a.tdiv 144) 6 (lH hy.a (by omega)) (by omega);have hb2 := aL (c := (y5 x at_).a.tdiv 144) (n := 6) (by omega);have hya := hy.a;have htd := lH (n := 144) hya (by omega);unfold I64 at hya
 by_cases hc : at_ < x.length
 ·rw [Pg h1.1 hc] at *;refine aA Ax aD Tryz.func39 (c := _) rfl Tryz.call39 400 ?_
  (repeat' ((conv => whnf); first | (exfalso; omega) | refine cpC (hs) ?_ | refine cpC (hp) ?_ | refine x0C ?_ | refine spC (fun hb => ?_) fun hb => ?_ | refine saC ?_))
  all_goals exact vwV
 ·rw [q29 hc] at *;have hp0 : aF Tryz.prog Dc 68 [iS (Int.tdiv ((List.replicate 5 (Cd.dflt U.int)).getD (Int.toNat 0) (Cd.dflt U.int)) 144), iS 6] [] (iS (aH (Mt.a.tdiv 144) 6)) [] := hp;have hr0 : Pt ((144 : Int) ≠ 0 ∧ InR IntKind.i64 (Int.tdiv ((List.replicate 5 (Cd.dflt U.int)).getD (Int.toNat 0) (Cd.dflt U.int)) 144)) := ⟨by decide, by rfl⟩;refine aA Ax aD Tryz.func39 (c := _) rfl Tryz.call39 400 ?_
  (repeat' ((conv => whnf); first | (exfalso; omega) | refine cpC (q92) ?_ | refine cpC (hp0) ?_ | refine x0C ?_ | refine spC (fun hb => ?_) fun hb => ?_ | refine saC ?_))
  all_goals exact vwV
structure q8s (x : List A5) (at_ : Int) : Prop where
 y : Ir (x.getD at_.toNat (Cd.dflt U.arr5))
 z : Ir (x.getD (at_ + 1).toNat (Cd.dflt U.arr5))
theorem q1x {x : List A5} (hx : ∀ y ∈ x, Ir y) {at_ : Int} (h1 : 0 ≤ at_) (h2 : at_ + 1 < x.length) : q8s x at_ := by
 have e1 := q4z hx h1;have e2 := q4z hx (i := at_ + 1) (by omega);rw [Pg h1 (by omega)] at e1;rw [Pg (by omega) h2] at e2;exact ⟨e1, e2⟩
theorem Ih (x : List A5) (hx : ∀ y ∈ x, Ir y) (hxl : (x.length : Int) ≤ 9223372036854775807) (deep at_ most : Int) (h1 : 0 ≤ at_ ∧ at_ ≤ 1000) (h3 : 1 ≤ most ∧ most ≤ 9) (hdeep : 1 ≤ deep ∧ deep ≤ 3)
  (h4 : 2 ≤ most) (h5 : at_ + 1 < x.length) (K : Int) (hK : 2 ≤ K ∧ K ≤ 4) (hk : 1 + aH ((x.getD at_.toNat (Cd.dflt U.arr5)).a.tdiv 144) 6 = K) (g : aI)
  (hg : g = if K = 2 then ⟨1 + aH ((x.getD at_.toNat (Cd.dflt U.arr5)).a.tdiv 144) 6, [], 0, 0, 1 + aH (x.getD at_.toNat (Cd.dflt U.arr5)).b 8, 0, false, 0, 0, 1 + aH (x.getD at_.toNat (Cd.dflt U.arr5)).c 3000, [], [qF (x.getD (at_ + 1).toNat (Cd.dflt U.arr5))]⟩
   else if K = 3 then ⟨1 + aH ((x.getD at_.toNat (Cd.dflt U.arr5)).a.tdiv 144) 6, [], aH (x.getD at_.toNat (Cd.dflt U.arr5)).e 3000, 0, 0, 0, false, 1 + aH (x.getD at_.toNat (Cd.dflt U.arr5)).b 4, 1 + aH (x.getD at_.toNat (Cd.dflt U.arr5)).c 4, aH (x.getD at_.toNat (Cd.dflt U.arr5)).d (1440 * (1 + aH (x.getD at_.toNat (Cd.dflt U.arr5)).b 4) + 1), [], [qF (x.getD (at_ + 1).toNat (Cd.dflt U.arr5))]⟩
   else ⟨1 + aH ((x.getD at_.toNat (Cd.dflt U.arr5)).a.tdiv 144) 6, [], 0, 0, 0, 0, false, 0, 0, aH (x.getD at_.toNat (Cd.dflt U.arr5)).b 3000, [], [qF (x.getD (at_ + 1).toNat (Cd.dflt U.arr5))]⟩) :
  aF Tryz.prog Dc 39 [a5S x, iS at_, iS deep, iS most] [] (.tuple [aM g, iS 2, iS 2]) [] := by
 obtain ⟨hy, hz⟩ := q1x hx h1.1 h5;have hs := q4i _ hz;have htd := lH (n := 144) hy.a (by omega);have hp := fA ((x.getD at_.toNat (Cd.dflt U.arr5)).a.tdiv 144) 6 htd (by omega);have hb2 := aL (c := (x.getD at_.toNat (Cd.dflt U.arr5)).a.tdiv 144) (n := 6) (by omega);have hya := hy.a;unfold I64 at hya;have q1 := fA (x.getD at_.toNat (Cd.dflt U.arr5)).b 8 hy.b (by omega);have q2 := fA (x.getD at_.toNat (Cd.dflt U.arr5)).c 3000 hy.c (by omega);have q3 := fA (x.getD at_.toNat (Cd.dflt U.arr5)).b 4 hy.b (by omega);have q4 := fA (x.getD at_.toNat (Cd.dflt U.arr5)).c 4 hy.c (by omega);have r1 := aL (c := (x.getD at_.toNat (Cd.dflt U.arr5)).b) (n := 8) (by omega);have r2 := aL (c := (x.getD at_.toNat (Cd.dflt U.arr5)).c) (n := 3000) (by omega);have r3 := aL (c := (x.getD at_.toNat (Cd.dflt U.arr5)).b) (n := 4) (by omega);have r4 := aL (c := (x.getD at_.toNat (Cd.dflt U.arr5)).c) (n := 4) (by omega);have q5 := fA (x.getD at_.toNat (Cd.dflt U.arr5)).d (1440 * (1 + aH (x.getD at_.toNat (Cd.dflt U.arr5)).b 4) + 1) hy.d (by omega);have q6 := fA (x.getD at_.toNat (Cd.dflt U.arr5)).e 3000 hy.e (by omega);have q7 := fA (x.getD at_.toNat (Cd.dflt U.arr5)).b 3000 hy.b (by omega);rcases (show K = 2 ∨ K = 3 ∨ K = 4 by omega) with rfl | rfl | rfl
 ·rw [if_pos rfl] at hg;subst hg;refine aA Ax aD Tryz.func39 (c := _) rfl Tryz.call39 400 ?_
  (repeat' ((conv => whnf); first | (exfalso; omega) | refine dpC (hs) ?_ | refine cpC (hp) ?_ | refine dpC (q1) ?_ | refine dpC (q2) ?_ | refine x0C ?_ | refine spC (fun hb => ?_) fun hb => ?_ | refine taC ?_ | refine saC ?_ | refine aE mixed ?_))
  all_goals exact vwV
 ·rw [if_neg (by omega), if_pos rfl] at hg;subst hg;refine aA Ax aD Tryz.func39 (c := _) rfl Tryz.call39 400 ?_
  (repeat' ((conv => whnf); first | (exfalso; omega) | refine dpC (hs) ?_ | refine cpC (hp) ?_ | refine dpC (q3) ?_ | refine dpC (q4) ?_ | refine cpC (q5) ?_ | refine cpC (q6) ?_ | refine x0C ?_ | refine spC (fun hb => ?_) fun hb => ?_ | refine taC ?_ | refine saC ?_ | refine aE mixed ?_))
  all_goals exact vwV
 ·rw [if_neg (by omega), if_neg (by omega)] at hg;subst hg;refine aA Ax aD Tryz.func39 (c := _) rfl Tryz.call39 400 ?_
  (repeat' ((conv => whnf); first | (exfalso; omega) | refine dpC (hs) ?_ | refine cpC (hp) ?_ | refine dpC (q7) ?_ | refine x0C ?_ | refine spC (fun hb => ?_) fun hb => ?_ | refine taC ?_ | refine saC ?_ | refine aE mixed ?_))
  all_goals exact vwV
end Go.SX
