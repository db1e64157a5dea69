/-
  Walks: Td7, Td8, Te0, Te1, Tq5, Tq6, Tq7, Tq8, Tq9: what single functions of the program compute.
-/
import Derived.Test.YtfbicphocelpeaaGreatDoorSxTd6
import Derived.Test.YtfbicphocelpeaaGreatDoorSxV6
import Derived.Test.YtfbicphocelpeaaGreatDoorSxTp8
set_option linter.unusedVariables false
set_option linter.unusedSimpArgs false
namespace Go.SX
open Go.Proofs
set_option maxHeartbeats 400000000
set_option maxRecDepth 100000
theorem q2a : ∀ (j : Nat), j ≤ 3 → ∀ (x : List A5), (∀ y ∈ x, Ir y) → (x.length : Int) ≤ 9223372036854775807 → ∀ (at_ most : Int), 0 ≤ at_ → at_ + most ≤ 1000 → 1 ≤ most → most ≤ 9 →
    aF Tryz.prog Dc 39 [a5S x, iS at_, iS (4 - j), iS most] [] (.tuple [aM (dO j x at_ most).1, iS (dO j x at_ most).2.1, iS (dO j x at_ most).2.2]) []
  | 0, hj, x, hx, hxl, at_, most, h1, h2, h3, h4 => by
    rw [dO];exact Is x hx hxl (4 - ((0 : Nat) : Int)) at_ most (by omega) (by omega) (by omega) (.inl (by omega))
  | j + 1, hj, x, hx, hxl, at_, most, h1, h2, h3, h4 => by
    have hb := aL (c := (y5 x at_).a.tdiv 144) (n := 6) (by omega)
    by_cases hc : j + 1 = 0 ∨ most < 2 ∨ (x.length : Int) ≤ at_ + 1 ∨ (5 ≤ 1 + aH ((y5 x at_).a.tdiv 144) 6 ∧ most < 3)
    · have hk : xY (j + 1) x at_ most = 1 := by unfold xY; rw [if_pos hc]
      rw [dO];dsimp only;rw [hk, if_neg (by omega), if_neg (by omega), if_neg (by omega), if_neg (by omega)];exact Is x hx hxl (4 - ((j + 1 : Nat) : Int)) at_ most (by omega) (by omega) (by omega) (by omega)
    · have hk : xY (j + 1) x at_ most = 1 + aH ((y5 x at_).a.tdiv 144) 6 := by unfold xY; rw [if_neg hc]
      have hlen : at_ + 1 < x.length := by omega
      have e1 : y5 x at_ = x.getD at_.toNat (Cd.dflt U.arr5) := Pg h1 (by omega);have e2 : y5 x (at_ + 1) = x.getD (at_ + 1).toNat (Cd.dflt U.arr5) := Pg (by omega) hlen;rw [dO];dsimp only;rw [hk]
      by_cases h0 : 1 + aH ((y5 x at_).a.tdiv 144) 6 = 1
      · rw [h0, if_neg (by omega), if_neg (by omega), if_neg (by omega), if_neg (by omega)];exact Is x hx hxl (4 - ((j + 1 : Nat) : Int)) at_ most (by omega) (by omega) (by omega) (by omega)
      · rw [e1] at hb h0 hc ⊢;rw [e2]
        by_cases h5 : 5 ≤ 1 + aH ((x.getD at_.toNat (Cd.dflt U.arr5)).a.tdiv 144) 6
        · rw [if_neg (by omega), if_neg (by omega), if_neg (by omega), if_pos (by omega)];exact q2h j x hx hxl (4 - ((j + 1 : Nat) : Int)) at_ most (by omega) (by omega) (by omega) hlen (dO j x) (fun a m q1 q2 q3 q4 => by
            have := q2a j (by omega) x hx hxl a m q1 q2 q3 q4;rw [show 4 - ((j + 1 : Nat) : Int) + 1 = 4 - (j : Int) by omega];exact this) (fun a m q1 _ _ => yM j x a m (by omega) q1) (by omega)
        · rcases (show 1 + aH ((x.getD at_.toNat (Cd.dflt U.arr5)).a.tdiv 144) 6 = 2 ∨ 1 + aH ((x.getD at_.toNat (Cd.dflt U.arr5)).a.tdiv 144) 6 = 3 ∨ 1 + aH ((x.getD at_.toNat (Cd.dflt U.arr5)).a.tdiv 144) 6 = 4 by omega) with e | e | e
          · have := Ih x hx hxl (4 - ((j + 1 : Nat) : Int)) at_ most (by omega) (by omega) (by omega) (by omega) hlen 2 (by omega) e _ rfl;rw [if_pos rfl, e] at this;rw [if_pos e];exact this
          · have := Ih x hx hxl (4 - ((j + 1 : Nat) : Int)) at_ most (by omega) (by omega) (by omega) (by omega) hlen 3 (by omega) e _ rfl;rw [if_neg (by omega), if_pos rfl, e] at this;rw [if_neg (by omega), if_pos e];exact this
          · have := Ih x hx hxl (4 - ((j + 1 : Nat) : Int)) at_ most (by omega) (by omega) (by omega) (by omega) hlen 4 (by omega) e _ rfl;rw [if_neg (by omega), if_neg (by omega), e] at this;rw [if_neg (by omega), if_neg (by omega), if_pos e];exact this
theorem q8m (x : List A5) (hx : ∀ y ∈ x, Ir y) (hxl : (x.length : Int) ≤ 9223372036854775807) : aF Tryz.prog Dc 20 [a5S x] [] (aM (mN x)) [] := by
 have h : aF Tryz.prog Dc 39 [a5S x, iS 0, iS 1, iS 9] [] (.tuple [aM (dO 3 x 0 9).1, iS (dO 3 x 0 9).2.1, iS (dO 3 x 0 9).2.2]) [] := q2a 3 (by omega) x hx hxl 0 9 (by omega) (by omega) (by omega) (by omega);unfold mN;generalize dO 3 x 0 9 = q at h ⊢;refine aA Ax aD Tryz.func20 (c := _) rfl Tryz.call20 100 ?_
 (repeat' ((conv => whnf); first | refine cpC (h) ?_ | refine x0C ?_))
 all_goals exact vwV
@[reducible] def gS (l : List aI) : SV Cd := .p (.dsl U.goal l)
theorem q3g : ∀ (j : Nat) (g : aI) (d n : Int), 5 - d ≤ j → bQ g d = some n → n ≤ 1000 → pX g → aF Tryz.prog Dc 71 [aM g] [] (gS (iH g)) [] := by
 intro j
 induction j with
 | zero =>
  intro g d n h1 hs;have := (iK hs).2.1;omega
 | succ j ih =>
  intro g d n h1 hs hn hG;obtain ⟨hok, hd, m, hL, rfl⟩ := iK hs;obtain ⟨hgl, hgk⟩ := (dJ g).1 hG;rw [rI]
  by_cases hk : g.kind = 1
  ·rw [if_pos hk];rw [show [g] = [q5r g] from by rw [Jg]];refine aA Ax aD Tryz.func71 (c := _) rfl Tryz.call71 200 ?_
   (repeat' ((conv => whnf); first | (exfalso; omega) | refine x0C ?_ | refine spC (fun hb => ?_) fun hb => ?_ | refine saC ?_))
   all_goals exact vwV
  ·rw [if_neg hk];have hkk := hgl.kids;refine aA Ax aD Tryz.func71 (c := _) rfl Tryz.call71 200 ?_
   (repeat' ((conv => whnf); first | (exfalso; omega) | refine spC (fun hb => ?_) fun hb => ?_))
   have hkl : (g.kids.length : Int) ≤ m := by
    have key : ∀ (l : List aI) (d m : Int), sizeL l d = some m → (l.length : Int) ≤ m := by
     intro l
     induction l with
     | nil => intro d m h; rw [sizeL] at h; injection h with h; simp; omega
     | cons a l ihl =>
      intro d m h;rw [sizeL] at h;split at h
      ·cases h
      ·rename_i x hx;split at h
       ·cases h
       ·rename_i y hy;injection h with h;have := ihl d y hy;have := lM hx;simp; omega
    exact key _ _ _ hL
   refine aT [some 0, none] (fun q : Nat × List aI => [(3, .slice 1 0 12 0 q.2.length), (4, iS q.1)]) (fun q => [(1, .rows U.goal q.2)]) (fun q => q.1 ≤ g.kids.length ∧ q.2 = seesL (g.kids.take q.1) ∧ (q.2.length : Int) ≤ 1000) (fun q => g.kids.length - q.1) (0, []) ⟨Nat.zero_le _, by simp [seesL], by simp⟩ (by exact bkI) ?_;rintro ⟨i, J⟩ ⟨hi, hJ, hJl⟩ K hK;dsimp only at hi hJ hJl hK ⊢;rcases Nat.lt_or_ge i g.kids.length with hlt | hge
   ·have hgi := getD_some (d := Cd.dflt U.goal) hlt;have hkm := List.mem_of_getElem? hgi;obtain ⟨a, ha, ha2⟩ := fJ hL hkm;have hx := ih _ (d + 1) a (by omega) ha (by omega) (dS hgk hkm);have hW : List.take J.length J ++ iH (g.kids.getD (i : Int).toNat (Cd.dflt U.goal)) = seesL (g.kids.take (i + 1)) := by
     rw [gF (d := Cd.dflt U.goal) hlt, rB, ← hJ, List.take_length]; rfl
    obtain ⟨b, hb1, hb2⟩ := rH (i + 1) hL;have hWl : ((List.take J.length J ++ iH (g.kids.getD (i : Int).toNat (Cd.dflt U.goal))).length : Int) ≤ 1000 := by
     rw [hW];have := (seesL_ok _ _ _ hb1).1;omega
    have hsl := (V5 _ _ _ ha).1;have hsl2 := hsl;simp at hsl2
    (repeat' ((conv => whnf); first | (exfalso; omega) | refine cpC (hx) ?_ | refine hK (i + 1, List.take J.length J ++ iH (g.kids.getD (i : Int).toNat (Cd.dflt U.goal))) [some 0, some 2] _ _ ⟨⟨by dsimp only; omega, hW, hWl⟩⟩ ⟨by dsimp only; omega⟩ (by exact bkI) | refine spC (fun hb => ?_) fun hb => ?_ | refine saC ?_))
   ·rw [List.take_of_length_le hge] at hJ;rw [← hJ]
    (repeat' ((conv => whnf); first | (exfalso; omega) | refine x0C ?_ | refine spC (fun hb => ?_) fun hb => ?_))
    all_goals exact vwV
theorem q69 (g : aI) (hG : pX g) : aF Tryz.prog Dc 40 [aM g] [] (gS (oM g)) [] := by
 have h1 := q3y g hG;unfold oM;cases hv : cF g with
 | false =>
  rw [hv] at h1;refine aA Ax aD Tryz.func40 (c := _) rfl Tryz.call40 100 ?_
  (repeat' ((conv => whnf); first | refine cpC (h1) ?_ | refine x0C ?_))
  all_goals exact vwV
 | true =>
  rw [hv] at h1;have h2 : aF Tryz.prog Dc 71 [aM g] [] (gS (iH g)) [] := by
   unfold cF at hv;split at hv
   ·cases hv
   ·rename_i n hn;have : n ≤ 12 := by simpa using hv
    exact q3g 4 g 1 n (by omega) hn (by omega) hG
  refine aA Ax aD Tryz.func40 (c := _) rfl Tryz.call40 100 ?_
  (repeat' ((conv => whnf); first | refine cpC (h1) ?_ | refine cpC (h2) ?_ | refine x0C ?_))
  all_goals exact vwV
theorem C5 (a b : List aB) (ha : (a.length : Int) ≤ 1000000) (hb : (b.length : Int) ≤ 1000000) : aF Tryz.prog Dc 43 [eS a, eS b] [] (eS (kQ a b)) [] := by
 refine aA Ax aD Tryz.func43 (c := _) rfl Tryz.call43 400 ?_
 (repeat' ((conv => whnf); first | refine saC ?_))
 refine aT [some 0, some 1] (fun q : Nat × List aB => [(5, .slice 1 0 7 0 q.2.length), (6, iS q.1), (8, .any), (10, .any)]) (fun q => [(1, .rows U.event q.2)]) (fun q => q.1 ≤ b.length ∧ kQ a b = kQ q.2 (b.drop q.1) ∧ q.2.length ≤ a.length + q.1) (fun q => b.length - q.1) (0, List.take 0 [] ++ a) ⟨Nat.zero_le _, by simp, by simp⟩ (by exact bkI) ?_;rintro ⟨i, out⟩ ⟨hi, he, hol⟩ K hK;dsimp only at hi he hol hK ⊢;rcases Nat.lt_or_ge i b.length with hlt | hge
 ·have hgi := getD_some (d := Cd.dflt U.event) hlt;have hsd : kQ out (b.drop i) = kQ (fT out (b.getD i (U.dflt .event))) (b.drop (i + 1)) := by
   rw [iT (d := U.dflt .event) hlt]; rfl
  have hins := nO out (b.getD i (U.dflt .event))
  (repeat' ((conv => whnf); first | (exfalso; omega) | refine spC (fun hb => ?_) fun hb => ?_))
  refine aT [some 0, some 1] (fun at_ : Nat => [(7, iS at_)]) (fun _ => []) (fun at_ => at_ ≤ out.length ∧ sJ out (b.getD i (U.dflt .event)) out.length = sJ out (b.getD i (U.dflt .event)) at_) (fun at_ => at_) out.length ⟨Nat.le_refl _, rfl⟩ (by exact bkI) ?_;rintro at_ ⟨hat, hd⟩ K2 hK2;have hWg : ∀ A : Nat, A ≤ out.length → (List.take ((A : Nat) : Int).toNat out ++ List.take (List.take 1 [(b.getD (i : Int).toNat (Cd.dflt U.event))] ++ List.take (((out.length : Nat) : Int).toNat - ((A : Nat) : Int).toNat) (List.drop (0 + ((A : Nat) : Int).toNat) out)).length (List.drop 0 (List.take 1 [(b.getD (i : Int).toNat (Cd.dflt U.event))] ++ List.take (((out.length : Nat) : Int).toNat - ((A : Nat) : Int).toNat) (List.drop (0 + ((A : Nat) : Int).toNat) out)))) = out.take A ++ (b.getD (i : Int).toNat (Cd.dflt U.event)) :: out.drop A := by
   intro A hA;rw [Int.toNat_natCast, Int.toNat_natCast, Nat.zero_add, List.drop_zero, List.take_length, List.take_of_length_le (l := out.drop A) (by simp)];rfl
  match at_ with
  | 0 =>
   have hd0 : sJ out (b.getD i (U.dflt .event)) out.length = 0 := hd;have hie : (List.take ((0 : Nat) : Int).toNat out ++ List.take (List.take 1 [(b.getD (i : Int).toNat (Cd.dflt U.event))] ++ List.take (((out.length : Nat) : Int).toNat - ((0 : Nat) : Int).toNat) (List.drop (0 + ((0 : Nat) : Int).toNat) out)).length (List.drop 0 (List.take 1 [(b.getD (i : Int).toNat (Cd.dflt U.event))] ++ List.take (((out.length : Nat) : Int).toNat - ((0 : Nat) : Int).toNat) (List.drop (0 + ((0 : Nat) : Int).toNat) out)))) = fT out (b.getD i (U.dflt .event)) := by
    rw [hWg 0 (by omega)];unfold fT; rw [hd0, if_neg (by omega)]; rfl
   have hsd2 : kQ a b = kQ (List.take ((0 : Nat) : Int).toNat out ++ List.take (List.take 1 [(b.getD (i : Int).toNat (Cd.dflt U.event))] ++ List.take (((out.length : Nat) : Int).toNat - ((0 : Nat) : Int).toNat) (List.drop (0 + ((0 : Nat) : Int).toNat) out)).length (List.drop 0 (List.take 1 [(b.getD (i : Int).toNat (Cd.dflt U.event))] ++ List.take (((out.length : Nat) : Int).toNat - ((0 : Nat) : Int).toNat) (List.drop (0 + ((0 : Nat) : Int).toNat) out)))) (b.drop (i + 1)) := by rw [he, hsd, hie]
   have hWl : (List.take ((0 : Nat) : Int).toNat out ++ List.take (List.take 1 [(b.getD (i : Int).toNat (Cd.dflt U.event))] ++ List.take (((out.length : Nat) : Int).toNat - ((0 : Nat) : Int).toNat) (List.drop (0 + ((0 : Nat) : Int).toNat) out)).length (List.drop 0 (List.take 1 [(b.getD (i : Int).toNat (Cd.dflt U.event))] ++ List.take (((out.length : Nat) : Int).toNat - ((0 : Nat) : Int).toNat) (List.drop (0 + ((0 : Nat) : Int).toNat) out)))).length ≤ a.length + (i + 1) := by rw [hie]; omega
   (repeat' ((conv => whnf); first | refine hK (i + 1, (List.take ((0 : Nat) : Int).toNat out ++ List.take (List.take 1 [(b.getD (i : Int).toNat (Cd.dflt U.event))] ++ List.take (((out.length : Nat) : Int).toNat - ((0 : Nat) : Int).toNat) (List.drop (0 + ((0 : Nat) : Int).toNat) out)).length (List.drop 0 (List.take 1 [(b.getD (i : Int).toNat (Cd.dflt U.event))] ++ List.take (((out.length : Nat) : Int).toNat - ((0 : Nat) : Int).toNat) (List.drop (0 + ((0 : Nat) : Int).toNat) out))))) [some 0, some 4] _ _ ⟨⟨by dsimp only; omega, hsd2, hWl⟩⟩ ⟨by dsimp only; omega⟩ (by exact bkI) | refine taC ?_ | refine saC ?_ | refine aE mixed ?_))
  | k + 1 =>
   have ek : 0 + (((k + 1 : Nat) : Int) - 1).toNat = k := by omega
   have ek2 : 0 + (max 0 (((k + 1 : Nat) : Int) - 1)).toNat = k := by omega
   have hb1 := pY (b.getD (i : Int).toNat (Cd.dflt U.event)) (out.getD (0 + (((k + 1 : Nat) : Int) - 1).toNat) (Cd.dflt U.event));have hb2 := pY (out.getD (0 + (max 0 (((k + 1 : Nat) : Int) - 1)).toNat) (Cd.dflt U.event)) (b.getD (i : Int).toNat (Cd.dflt U.event));cases hB : eN (b.getD (i : Int).toNat (Cd.dflt U.event)) (out.getD (0 + (((k + 1 : Nat) : Int) - 1).toNat) (Cd.dflt U.event)) with
   | true =>
    rw [hB] at hb1;rw [ek] at hB;have hd2 : sJ out (b.getD i (U.dflt .event)) out.length = sJ out (b.getD i (U.dflt .event)) k := by rw [hd, sJ, if_pos (show eN (b.getD i (U.dflt .event)) (out.getD k (U.dflt .event)) = true from hB)]
    (repeat' ((conv => whnf); first | (exfalso; omega) | refine dpC (hb1) ?_ | refine hK2 k [some 0, some 1] _ _ ⟨⟨by omega, hd2⟩⟩ ⟨by omega⟩ (by exact bkI) | refine spC (fun hb => ?_) fun hb => ?_ | refine taC ?_ | refine saC ?_ | refine aE mixed ?_))
   | false =>
    rw [hB] at hb1;rw [ek] at hB;have hd2 : sJ out (b.getD i (U.dflt .event)) out.length = k + 1 := by rw [hd, sJ, if_neg (fun h => by rw [show eN (b.getD i (U.dflt .event)) (out.getD k (U.dflt .event)) = false from hB] at h; cases h)]
    cases hC : eN (out.getD (0 + (max 0 (((k + 1 : Nat) : Int) - 1)).toNat) (Cd.dflt U.event)) (b.getD (i : Int).toNat (Cd.dflt U.event)) with
    | false =>
     rw [hC] at hb2;rw [ek2] at hC;have hie : fT out (b.getD i (U.dflt .event)) = out := by
      unfold fT; rw [hd2, if_pos ⟨by omega, hC⟩]
     have hsd2 : kQ a b = kQ out (b.drop (i + 1)) := by rw [he, hsd, hie]
     (repeat' ((conv => whnf); first | (exfalso; omega) | refine dpC (hb1) ?_ | refine dpC (hb2) ?_ | refine hK (i + 1, out) [some 0, some 1] _ _ ⟨⟨by dsimp only; omega, hsd2, by dsimp only; omega⟩⟩ ⟨by dsimp only; omega⟩ (by exact bkI) | refine spC (fun hb => ?_) fun hb => ?_ | refine taC ?_ | refine saC ?_ | refine aE mixed ?_))
    | true =>
     rw [hC] at hb2;rw [ek2] at hC;have hie : (List.take (((k + 1) : Nat) : Int).toNat out ++ List.take (List.take 1 [(b.getD (i : Int).toNat (Cd.dflt U.event))] ++ List.take (((out.length : Nat) : Int).toNat - (((k + 1) : Nat) : Int).toNat) (List.drop (0 + (((k + 1) : Nat) : Int).toNat) out)).length (List.drop 0 (List.take 1 [(b.getD (i : Int).toNat (Cd.dflt U.event))] ++ List.take (((out.length : Nat) : Int).toNat - (((k + 1) : Nat) : Int).toNat) (List.drop (0 + (((k + 1) : Nat) : Int).toNat) out)))) = fT out (b.getD i (U.dflt .event)) := by
      rw [hWg (k + 1) (by omega)];unfold fT; rw [hd2, if_neg (fun h => by rw [show eN (out.getD (k + 1 - 1) (U.dflt .event)) (b.getD i (U.dflt .event)) = true from hC] at h; cases h.2)]; rfl
     have hsd2 : kQ a b = kQ (List.take (((k + 1) : Nat) : Int).toNat out ++ List.take (List.take 1 [(b.getD (i : Int).toNat (Cd.dflt U.event))] ++ List.take (((out.length : Nat) : Int).toNat - (((k + 1) : Nat) : Int).toNat) (List.drop (0 + (((k + 1) : Nat) : Int).toNat) out)).length (List.drop 0 (List.take 1 [(b.getD (i : Int).toNat (Cd.dflt U.event))] ++ List.take (((out.length : Nat) : Int).toNat - (((k + 1) : Nat) : Int).toNat) (List.drop (0 + (((k + 1) : Nat) : Int).toNat) out)))) (b.drop (i + 1)) := by rw [he, hsd, hie]
     have hWl : (List.take (((k + 1) : Nat) : Int).toNat out ++ List.take (List.take 1 [(b.getD (i : Int).toNat (Cd.dflt U.event))] ++ List.take (((out.length : Nat) : Int).toNat - (((k + 1) : Nat) : Int).toNat) (List.drop (0 + (((k + 1) : Nat) : Int).toNat) out)).length (List.drop 0 (List.take 1 [(b.getD (i : Int).toNat (Cd.dflt U.event))] ++ List.take (((out.length : Nat) : Int).toNat - (((k + 1) : Nat) : Int).toNat) (List.drop (0 + (((k + 1) : Nat) : Int).toNat) out)))).length ≤ a.length + (i + 1) := by rw [hie]; omega
     (repeat' ((conv => whnf); first | (exfalso; omega) | refine dpC (hb1) ?_ | refine dpC (hb2) ?_ | refine hK (i + 1, (List.take (((k + 1) : Nat) : Int).toNat out ++ List.take (List.take 1 [(b.getD (i : Int).toNat (Cd.dflt U.event))] ++ List.take (((out.length : Nat) : Int).toNat - (((k + 1) : Nat) : Int).toNat) (List.drop (0 + (((k + 1) : Nat) : Int).toNat) out)).length (List.drop 0 (List.take 1 [(b.getD (i : Int).toNat (Cd.dflt U.event))] ++ List.take (((out.length : Nat) : Int).toNat - (((k + 1) : Nat) : Int).toNat) (List.drop (0 + (((k + 1) : Nat) : Int).toNat) out))))) [some 0, some 4] _ _ ⟨⟨by dsimp only; omega, hsd2, hWl⟩⟩ ⟨by dsimp only; omega⟩ (by exact bkI) | refine spC (fun hb => ?_) fun hb => ?_ | refine taC ?_ | refine saC ?_ | refine aE mixed ?_))
 ·rw [List.drop_of_length_le hge] at he;rw [he]
  (repeat' ((conv => whnf); first | (exfalso; omega) | refine x0C ?_ | refine spC (fun hb => ?_) fun hb => ?_))
  all_goals exact vwV
def Uh : List Int := (List.replicate (Int.toNat 24) 0).set (0 + Int.toNat 7) 8
def exS : aI := ⟨1, Uh, 100, 200, 20, 60, false, 0, 0, 0, [], []⟩
def exE : aB := ⟨1, 150, 5, Uh, 30, 2, false⟩
def exF : aB := ⟨1, 160, 6, Uh, 30, -1, false⟩
theorem Xm : aF Tryz.prog Dc 11 [] [] (.tuple [aM exS, evA exE, evA exF]) [] := by
 refine aA Ax aD Tryz.func11 (c := _) rfl Tryz.call11 200 ?_
 (repeat' ((conv => whnf); first | refine x0C ?_ | refine taC ?_ | refine saC ?_ | refine aE mixed ?_))
 all_goals exact vwV
theorem Yx (a b : Int) : aF Tryz.prog Dc 15 [iS a, iS b] [] (evA ⟨2, a, b, [], 0, 0, false⟩) [] := by
 refine aA Ax aD Tryz.func15 (c := _) rfl Tryz.call15 100 ?_
 (repeat' ((conv => whnf); first | refine x0C ?_))
 all_goals exact vwV
def q9f (g : aI) (l : List aB) (p : Int) : Bool := decide ((wV g l).2.2.2 = 0) && (wV g l).2.2.1 && decide ((wV g l).1 = p)
theorem qd4 (g : aI) (hG : pX g) (l : List aB) (hl : (l.length : Int) ≤ 9223372036854775807) (hE : ∀ e ∈ l, oS e) (p : Int) : aF Tryz.prog Dc 16 [aM g, eS l, iS p] [] (bS (q9f g l p)) [] := by
 have h1 := q1w g hG l hl hE;have h2 := qb6 g hG l hl hE;unfold q9f;generalize wV g l = q at *;obtain ⟨a, b, c, d⟩ := q;dsimp only at *;refine aA Ax aD Tryz.func16 (c := _) rfl Tryz.call16 100 ?_
 (repeat' ((conv => whnf); first | refine x0C (eB ?_ rfl) | (exfalso; omega) | refine cpC (h1) ?_ | refine cpC (h2) ?_ | refine spC (fun hb => ?_) fun hb => ?_))
 all_goals clear h1 h2
 all_goals (first | (simp_all []; done) | (simp_all []; omega) | (simp_all []; grind))
@[reducible] def Mm (g : aI) (image : Int) : HS Cd := .vart none [iS g.kind, lS g.rows, iS g.from_, iS g.to_, iS g.low, iS g.high, bS g.clear, iS g.days, iS g.times, iS g.within, lS g.cents, .p (.dsl U.goal g.kids), iS image]
theorem tat (g : aI) (hg : (g.rows.length : Int) ≤ 1000) (image m look : Int) (hi : 0 ≤ image ∧ image ≤ 1000000) : aF Tryz.prog Dc 60 [.ptr 0 0, iS m, iS look] [Mm g image] (.agg [iS 1, iS m, iS image, .slice 1 0 1 0 g.rows.length, iS g.low, iS look, bS true]) [Mm g (image + 1), .rows U.int g.rows] := by
 have h := Jq g.rows (by omega);refine aA Ax aD Tryz.func60 (c := _) rfl Tryz.call60 200 ?_
 (repeat' ((conv => whnf); first | (refine cI [] h rfl rfl trivial ?_) | exact enC [some 0, some 2] | refine taC ?_ | refine saC ?_ | refine aE mixed ?_))
@[reducible] def T9 (s : Option (List aB)) : SV Cd := match s with
 | none => .tuple [eS [], bS false]
 | some l => .tuple [eS l, bS true]
def Yv (g : aI) (m image look : Int) : aB := ⟨1, m, image, g.rows, g.low, look, true⟩
def q0o (g : aI) (l : List aB) (now image : Int) : Option (List aB) := if (bV g l).isSome then some [] else if max now g.from_ < g.to_ then some [Yv g (max now g.from_) image 0] else none
theorem q0s (g : aI) (hk : g.kind = 1) (hr : (g.rows.length : Int) ≤ 1000) (l : List aB) (now image : Int) (hi : 0 ≤ image ∧ image ≤ 1000000) (hs : aF Tryz.prog Dc 57 [aX l now, aM g] [] (qD (bV g l)) []) : aF Tryz.prog Dc 35 [aX l now, aM g, iS image] [] (T9 (q0o g l now image)) [] := by
 unfold q0o;cases hm : bV g l with
 | some w =>
  obtain ⟨p, im⟩ := w;rw [hm] at hs;refine aA Ax aD Tryz.func35 (c := _) rfl Tryz.call35 300 ?_
  (repeat' ((conv => whnf); first | refine cpC (hs) ?_ | refine x0C ?_))
  all_goals exact vwV
 | none =>
  rw [hm] at hs
  by_cases hlt : max now g.from_ < g.to_
  ·rw [if_neg (by simp), if_pos hlt];have ha := tat g hr image (max now g.from_) 0 hi;refine aA Ax aD Tryz.func35 (c := _) rfl Tryz.call35 300 ?_
   (repeat' ((conv => whnf); first | (exfalso; omega) | refine cpC (hs) ?_ | refine chC [some 4] ha ?_ | (refine rR (rS [some 0, some 1, some 2, some 3, some 4, none] [(65, evA (Yv g (max now g.from_) image 0))] [(5, .rows U.int [])] (by exact bkV) ?_)) | refine x0C ?_ | refine spC (fun hb => ?_) fun hb => ?_ | refine saC ?_))
   all_goals exact vwV
  ·rw [if_neg (by simp), if_neg hlt];refine aA Ax aD Tryz.func35 (c := _) rfl Tryz.call35 300 ?_
   (repeat' ((conv => whnf); first | (exfalso; omega) | refine cpC (hs) ?_ | refine x0C ?_ | refine spC (fun hb => ?_) fun hb => ?_))
   all_goals exact vwV
def T8 (now : Int) (e : aB) : Bool := decide (now ≤ e.at_) || decide (899 < e.image)
theorem q9z (now : Int) (e : aB) : aF Tryz.prog Dc 32 [evA e, .dptr [.int .i64 now] 0] [] (bS (T8 now e)) [] := by
 refine aA Ax aD Tryz.func32 (c := _) rfl Tryz.call32 100 ?_
 (repeat' ((conv => whnf); first | refine x0C (eB ?_ rfl) | refine spC (fun hb => ?_) fun hb => ?_))
 all_goals (first | (simp_all [T8]; done) | (simp_all [T8]; omega) | (simp_all [T8]; grind))
def xS (l : List aB) (i : Nat) : Int := (l.take i).foldl (fun m e => max m (e.image + 1)) 0
theorem O0 {l : List aB} {i : Nat} (h : i < l.length) : xS l (i + 1) = max (xS l i) ((l.getD i (U.dflt .event)).image + 1) := by
 unfold xS;rw [gF (d := U.dflt .event) h, List.foldl_append]; rfl
theorem X5 {l : List aB} (h : ∀ e ∈ l, 0 ≤ e.image ∧ e.image ≤ 999) : ∀ i : Nat, i ≤ l.length → 0 ≤ xS l i ∧ xS l i ≤ 1000
 | 0, _ => by simp [xS]
 | i + 1, hi => by
  have ih := X5 h i (by omega);rw [O0 (by omega)];have hg := getD_some (d := U.dflt .event) (show i < l.length by omega);have := h _ (List.mem_of_getElem? hg);rw [Int.toNat_natCast] at this;omega
def I1 (l : List aB) : Int := xS l l.length
theorem F6 {l : List aB} (h : bM l = true) : ∀ e ∈ l, 0 ≤ e.image ∧ e.image ≤ 999 := by
 intro e he;unfold bM at h;simp only [Bool.and_eq_true] at h;have hf := ((Id l).1 h.2).1 e he;unfold fI at hf;simp only [Bool.and_eq_true, aK] at hf;exact hf.1.2
theorem qV (s : Option (List aB)) : T9 s = .tuple [eS (s.getD []), bS s.isSome] := by cases s <;> rfl
def okF (g : aI) (l : List aB) (now : Int) : Bool := !l.any (T8 now) && inB now 0 1000000 && cF g && bM l
theorem q4k (g : aI) (hG : pX g) (l : List aB) (hl : (l.length : Int) ≤ 9223372036854775807) (hE : ∀ e ∈ l, oS e) (now : Int) (F : Option (List aB)) (hf : okF g l now = true → aF Tryz.prog Dc 35 [aX l now, aM g, iS (I1 l)] [] (T9 F) []) :
  aF Tryz.prog Dc 13 [aM g, eS l, iS now] [] (if okF g l now then .tuple [eS (F.getD []), bS F.isSome, iS 0] else .tuple [eS [], bS false, iS 150]) [] := by
 have h1 := nV g hG;have h2 := lN l hl hE;have h3 := q7k (f := 32) (.c1 [.int .i64 now]) l hl fun e _ => q9z now e;have h4 := tin now 0 1000000;cases hok : okF g l now with
 | false =>
  rw [if_neg (by simp)];have hno : l.any (T8 now) = true ∨ inB now 0 1000000 = false ∨ cF g = false ∨ bM l = false := by
   unfold okF at hok;simp only [Bool.and_eq_false_iff, Bool.not_eq_false'] at hok;rcases hok with ((h | h) | h) | h
   ·exact .inl h
   ·exact .inr (.inl h)
   ·exact .inr (.inr (.inl h))
   ·exact .inr (.inr (.inr h))
  clear hok hf;cases q1 : l.any (T8 now) <;> cases q2 : inB now 0 1000000 <;> cases q3 : cF g <;> cases q4 : bM l <;> simp only [q1, q2, q3, q4] at h1 h2 h3 h4 hno
  case false.true.true.true => simp at hno
  all_goals (
   refine aA Ax aD Tryz.func13 (c := _) rfl Tryz.call13 300 ?_
   (repeat' ((conv => whnf); first | refine cpC (h1) ?_ | refine cpC (h2) ?_ | refine rdC (h3) ?_ | refine cpC (h4) ?_ | refine x0C ?_))
   all_goals exact vwV)
 | true =>
  rw [if_pos rfl];have hf := hf hok;have hok' := hok;unfold okF at hok';simp only [Bool.and_eq_true, Bool.not_eq_true'] at hok';obtain ⟨⟨⟨q1, q2⟩, q3⟩, q4⟩ := hok';rw [q3] at h1;rw [q4] at h2;rw [q1] at h3;rw [q2] at h4;rw [qV] at hf;have hlen := (Bm q4 hE).2.1;have him := F6 q4;refine aA Ax aD Tryz.func13 (c := _) rfl Tryz.call13 300 ?_
  (repeat' ((conv => whnf); first | refine cpC (h1) ?_ | refine cpC (h2) ?_ | refine rdC (h3) ?_ | refine cpC (h4) ?_))
  refine aT [some 0, some 1] (fun i : Nat => [(10, iS (xS l i)), (36, iS i)]) (fun _ => []) (fun i => i ≤ l.length) (fun i => l.length - i) 0 (Nat.zero_le _) (by exact bkI) ?_;intro i hi K hK;have hnb := X5 him i hi;rcases Nat.lt_or_ge i l.length with hlt | hge
  ·have hgi := getD_some (d := Cd.dflt U.event) hlt;have hii := him _ (List.mem_of_getElem? hgi);have hsu := O0 hlt;have hsu2 : max (xS l i) ((l.getD (i : Int).toNat (Cd.dflt U.event)).image + 1) = xS l (i + 1) := hsu.symm
   (repeat' ((conv => whnf); first | (exfalso; omega) | refine hK (i + 1) [some 0, some 1] _ _ ⟨by omega⟩ ⟨by omega⟩ (by (rw [← hsu2]; exact bkI)) | refine spC (fun hb => ?_) fun hb => ?_ | refine saC ?_))
  ·have hie : xS l i = I1 l := by unfold I1; rw [show l.length = i by omega]
   rw [hie]
   (repeat' ((conv => whnf); first | (exfalso; omega) | refine cpC (hf) ?_ | refine x0C ?_ | refine spC (fun hb => ?_) fun hb => ?_))
   all_goals exact vwV
theorem Gr (g : aI) (l : List aB) (now : Int) (a : List aB) (b : Bool) (c : Int) (h : aF Tryz.prog Dc 13 [aM g, eS l, iS now] [] (.tuple [eS a, bS b, iS c]) []) : aF Tryz.prog Dc 10 [aM g, eS l, iS now] [] (.tuple [bS (decide (c = 0) && !b), iS c]) [] := by
 by_cases hc : c = 0
 ·rw [decide_eq_true hc, Bool.true_and];refine aA Ax aD Tryz.func10 (c := _) rfl Tryz.call10 100 ?_
  (repeat' ((conv => whnf); first | (exfalso; omega) | refine cpC (h) ?_ | refine x0C ?_ | refine spC (fun hb => ?_) fun hb => ?_))
  all_goals exact vwV
 ·rw [decide_eq_false hc, Bool.false_and];refine aA Ax aD Tryz.func10 (c := _) rfl Tryz.call10 100 ?_
  (repeat' ((conv => whnf); first | (exfalso; omega) | refine cpC (h) ?_ | refine x0C ?_ | refine spC (fun hb => ?_) fun hb => ?_))
  all_goals exact vwV
end Go.SX
namespace Go.SX
def mK (g : aI) (m image look : Int) : aB := ⟨1, m, image, g.rows, g.low, look, true⟩
def qU (at_ image : Int) : aB := ⟨2, at_, image, [], 0, 0, false⟩
def L0 (l : List aB) (within now : Int) (e : aB) : Bool := decide (e.kind = 1) && decide (now ≤ e.at_ + within) && !Sr l e within
def kK (l : List aB) (within now : Int) : List aB := (l.filter (L0 l within now)).map fun e => qU now e.image
def eV (l : List aB) (within now : Int) : List aB := xX (aY (l ++ kK l within now)) within
def cU (more : List aB) : List aB := more.flatMap fun e => [e, qU e.at_ e.image]
def I8 (s : Sen) : List Int := match s with | none => [] | some (_, im) => im
def Ls (hopes more : List aB) (im : List Int) : List aB := aY (hopes.filter (fun e => decide (e.image ∈ im)) ++ cU more)
def bG (l : List aB) : Int := ((l.filter fun e => decide (e.kind = 1)).length : Nat)
def X8 (g : aI) (m : List aB) (long : List Int) (i : Nat) : Nat → Int
 | 0 => if nW g (m.getD i (U.dflt .event)) then 1 else 0
 | k + 1 => if decide (0 < long.getD k 0) && bY g (m.getD k (U.dflt .event)) (m.getD i (U.dflt .event)) then max (X8 g m long i k) (1 + long.getD k 0) else X8 g m long i k
def gD (g : aI) (m : List aB) : Nat → List Int
 | 0 => []
 | i + 1 => gD g m i ++ [X8 g m (gD g m i) i i]
theorem fH (g : aI) (m : List aB) : ∀ i, (gD g m i).length = i
 | 0 => rfl
 | i + 1 => by rw [gD, List.length_append, fH g m i]; rfl
def Ws (g : aI) (m : List aB) (i : Nat) : Int := X8 g m (gD g m i) i i
theorem F5 (g : aI) (m : List aB) (long : List Int) (i : Nat) (n : Int) (hn : 0 ≤ n) (h : ∀ k, 0 ≤ long.getD k 0 ∧ long.getD k 0 ≤ n) : ∀ k, 0 ≤ X8 g m long i k ∧ X8 g m long i k ≤ n + 1
 | 0 => by rw [X8]; split <;> omega
 | k + 1 => by
  have := F5 g m long i n hn h k;have := h k;rw [X8];split <;> omega
theorem nP (g : aI) (m : List aB) : ∀ (i k : Nat), 0 ≤ (gD g m i).getD k 0 ∧ (gD g m i).getD k 0 ≤ i
 | 0, k => by simp [gD]
 | i + 1, k => by
  have hl := fH g m i;rw [gD];rcases Nat.lt_trichotomy k i with h | h | h
  ·rw [List.getD_eq_getElem?_getD, List.getElem?_append_left (by omega), ← List.getD_eq_getElem?_getD];have := nP g m i k;omega
  ·subst h;rw [List.getD_eq_getElem?_getD, List.getElem?_append_right (by omega)];have := F5 g m (gD g m k) k k (by omega) (nP g m k) k;simp [hl]; omega
  ·rw [List.getD_eq_getElem?_getD, List.getElem?_eq_none (by rw [List.length_append, hl]; simp; omega)];simp; omega
theorem q4f (g : aI) (m : List aB) (i : Nat) : 0 ≤ Ws g m i ∧ Ws g m i ≤ i + 1 := F5 g m _ i i (by omega) (nP g m i) i
def dU (g : aI) (to : Int) (s : Int × Int) (n from_ latest : Int) : Int × Int := if from_ ≤ latest ∧ from_ + (g.times - n - 1) * g.within < to ∧ s.1 ≤ n then (n, from_) else s
def goN (g kid : aI) (m : List aB) (mm : Int) : Nat → Int × Int
 | 0 => dU g kid.to_ (-1, 0) 0 mm (g.from_ + 1440 * g.days)
 | i + 1 => if 0 < Ws g m i then dU g kid.to_ (goN g kid m mm i) (Ws g m i) (max mm ((m.getD i (U.dflt .event)).at_ + g.within)) ((m.getD i (U.dflt .event)).at_ + 1440 * g.days) else goN g kid m mm i
def fR (kid : aI) (at_ w image : Int) : Nat → List aB
 | 0 => []
 | j + 1 => fR kid at_ w image j ++ [mK kid (at_ + j * w) (image + j) 0]
def vJ (g : aI) (l : List aB) (now image : Int) : Option (List aB) :=
 if (goN g (eM g.kids) (iJ (eM g.kids) l) (max now (eM g.kids).from_) (iJ (eM g.kids) l).length).1 < 0 then none
 else some (fR (eM g.kids) (goN g (eM g.kids) (iJ (eM g.kids) l) (max now (eM g.kids).from_) (iJ (eM g.kids) l).length).2 g.within image (g.times - (goN g (eM g.kids) (iJ (eM g.kids) l) (max now (eM g.kids).from_) (iJ (eM g.kids) l).length).1).toNat)
def Dj (g : aI) (now image : Int) : Option (List aB) := if max now g.from_ < g.to_ then some [mK g (max now g.from_) image 0] else none
def F0 (g : aI) (now image : Int) : Option (List aB) := if max now (eM g.kids).from_ < (eM g.kids).to_ then some [mK (eM g.kids) (max now (eM g.kids).from_) image (-4), mK (eM g.kids) (max now (eM g.kids).from_) (image + 1) 4] else none
mutual
def uV : aI → List aB → Int → Int → Option (List aB)
 | ⟨kind, rows, from_, to_, low, high, clear, days, times, within, cents, kids⟩, l, now, image =>
  if (bV ⟨kind, rows, from_, to_, low, high, clear, days, times, within, cents, kids⟩ l).isSome then some []
  else if kind = 1 then Dj ⟨kind, rows, from_, to_, low, high, clear, days, times, within, cents, kids⟩ now image
  else if kind = 2 then F0 ⟨kind, rows, from_, to_, low, high, clear, days, times, within, cents, kids⟩ now image
  else if kind = 3 then vJ ⟨kind, rows, from_, to_, low, high, clear, days, times, within, cents, kids⟩ l now image
  else if kind = 4 then finH kids within l now image
  else if kind = 5 then finAll kids l now image []
  else finAny kids l now image
def finH : List aI → Int → List aB → Int → Int → Option (List aB)
 | [], _, _, _, _ => none
 | k :: _, within, l, now, image => match uV k (eV l within now) now image with
  | none => none
  | some more => some (Ls (kK l within now) more (I8 (bV k (aY (eV l within now ++ more)))))
def finAll : List aI → List aB → Int → Int → List aB → Option (List aB)
 | [], _, _, _, out => some out
 | k :: ks, l, now, image, out => match uV k l now image with
  | none => none
  | some more => finAll ks l now (image + bG more) (aY (out ++ more))
def finAny : List aI → List aB → Int → Int → Option (List aB)
 | [], _, _, _ => none
 | k :: ks, l, now, image => match uV k l now image with
  | none => finAny ks l now image
  | some more => some more
end
theorem qC (g : aI) (l : List aB) (now image : Int) : uV g l now image = if (bV g l).isSome then some [] else if g.kind = 1 then Dj g now image else if g.kind = 2 then F0 g now image else if g.kind = 3 then vJ g l now image else if g.kind = 4 then finH g.kids g.within l now image else if g.kind = 5 then finAll g.kids l now image [] else finAny g.kids l now image := by
 cases g; rw [uV]
theorem Sj (ks : List aI) (within : Int) (l : List aB) (now image : Int) (h : (ks.length : Int) = 1) : finH ks within l now image = match uV (eM ks) (eV l within now) now image with
  | none => none
  | some more => some (Ls (kK l within now) more (I8 (bV (eM ks) (aY (eV l within now ++ more))))) := by
 match ks with
 | [] => simp at h
 | k :: _ => rw [finH]; rfl
end Go.SX
namespace Go.SX
theorem q2i (a : aB) : ¬ eN a a = true := by rw [hZ]; omega
theorem kN {l : List aB} (h : Pp l) : l.Nodup := h.imp fun hab e => by subst e; exact q2i _ hab
theorem Kv : ∀ {l : List aB} {x : aB}, Pp l → x ∈ l → l.find? (oR x) = some x
 | [], x, _, h => by cases h
 | a :: l, x, hs, h => by
  have hs' := List.pairwise_cons.1 hs
  by_cases hk : oR x a = true
  ·rw [List.find?_cons_of_pos hk];rcases List.mem_cons.1 h with rfl | h
   ·rfl
   ·have hb := hs'.1 x h;rw [hZ] at hb; rw [hP] at hk; omega
  ·rw [List.find?_cons_of_neg hk];rcases List.mem_cons.1 h with rfl | h
   ·exact absurd (uW _) hk
   ·exact Kv hs'.2 h
theorem iC {l : List aB} {x : aB} (h : x ∈ aY l) : x ∈ l := by
 have := Kv (gW l) h;rw [P2] at this;exact List.mem_of_find?_eq_some this
theorem Qp {l : List aB} {x : aB} (h : x ∈ l) : ∃ y, y ∈ aY l ∧ y ∈ l ∧ oR x y = true := by
 cases hf : l.find? (oR x) with
 | none => exact absurd (uW x) (List.find?_eq_none.1 hf x h)
 | some y =>
  have hm := P2 l x;rw [hf] at hm;exact ⟨y, List.mem_of_find?_eq_some hm, List.mem_of_find?_eq_some hf, List.find?_some hf⟩
def Kw (l : List aB) : Prop := ∀ a ∈ l, ∀ b ∈ l, oR a b = true → a = b
theorem tZ {l : List aB} (h : Kw l) {x : aB} : x ∈ aY l ↔ x ∈ l := by
 refine ⟨iC, fun hx => ?_⟩;obtain ⟨y, h1, h2, h3⟩ := Qp hx;rw [h x hx y h2 h3]; exact h1
theorem nA {l : List aB} (h : Pp l) (p : aB → Bool) : Pp (l.filter p) := List.Pairwise.sublist List.filter_sublist h
structure I7 (out : List aB) (now image : Int) : Prop where
 str : Pp out
 plain : ∀ e ∈ out, e.kind = 1 ∨ e = qU e.at_ e.image
 late : ∀ e ∈ out, now ≤ e.at_ ∧ e.at_ ≤ 1000000
 shots : ∀ e ∈ out, e.kind = 1 → image ≤ e.image ∧ (-90 ≤ e.sun ∧ e.sun ≤ 90) ∧ (-4 ≤ e.look ∧ e.look ≤ 4) ∧ bE e.rows = true
 imgs : ∀ e ∈ out, 0 ≤ e.image ∧ e.image < image + bG out
 inj : ∀ a ∈ out, ∀ b ∈ out, a.kind = 1 → b.kind = 1 → a.image = b.image → a = b
theorem Cw (now : Int) {image : Int} : I7 [] now image := ⟨List.Pairwise.nil, fun e h => (by cases h), fun e h => (by cases h), fun e h => (by cases h), fun e h => (by cases h), fun a h => (by cases h)⟩
theorem Ft {o m : List aB} {now i j : Int} (h1 : I7 o now i) (h2 : I7 m now j) (hij : i + bG o = j) : Kw (o ++ m) := by
 intro a ha b hb hk;rw [hP] at hk;obtain ⟨k1, k2, k3⟩ := hk
 by_cases hka : a.kind = 1
 ·have hkb : b.kind = 1 := by omega
  rcases List.mem_append.1 ha with ha | ha <;> rcases List.mem_append.1 hb with hb | hb
  ·exact h1.inj a ha b hb hka hkb k3
  ·have := h1.imgs a ha; have := h2.shots b hb hkb; omega
  ·have := h1.imgs b hb; have := h2.shots a ha hka; omega
  ·exact h2.inj a ha b hb hka hkb k3
 ·have hkb : ¬ b.kind = 1 := by omega
  have pa : a = qU a.at_ a.image := by
   rcases List.mem_append.1 ha with ha | ha
   ·exact (h1.plain a ha).resolve_left hka
   ·exact (h2.plain a ha).resolve_left hka
  have pb : b = qU b.at_ b.image := by
   rcases List.mem_append.1 hb with hb | hb
   ·exact (h1.plain b hb).resolve_left hkb
   ·exact (h2.plain b hb).resolve_left hkb
  rw [pa, pb, k1, k3]
theorem vK (a b : List aB) : bG (a ++ b) = bG a + bG b := by unfold bG; rw [List.filter_append, List.length_append]; omega
theorem dZ (l : List aB) : 0 ≤ bG l := by unfold bG; omega
theorem F4 {l : List aB} (h : Kw l) (hd : (l.filter fun e => decide (e.kind = 1)).Nodup) : bG (aY l) = bG l := by
 unfold bG;have hp : ((aY l).filter fun e => decide (e.kind = 1)).Perm (l.filter fun e => decide (e.kind = 1)) := by
  rw [List.perm_ext_iff_of_nodup (kN (nA (gW l) _)) hd];intro x;rw [List.mem_filter, List.mem_filter, tZ h]
 rw [hp.length_eq]
theorem oG {o : List aB} {now i : Int} (h : I7 o now i) : (o.filter fun e => decide (e.kind = 1)).Nodup := kN (nA h.str _)
theorem He {o m : List aB} {now i j : Int} (h1 : I7 o now i) (h2 : I7 m now j) (hij : i + bG o = j) : I7 (aY (o ++ m)) now i ∧ bG (aY (o ++ m)) = bG o + bG m := by
 have hk := Ft h1 h2 hij;have hd : ((o ++ m).filter fun e => decide (e.kind = 1)).Nodup := by
  rw [List.filter_append, List.nodup_append];refine ⟨oG h1, oG h2, fun a ha b hb e => ?_⟩;subst e;obtain ⟨a1, a2⟩ := List.mem_filter.1 ha;obtain ⟨b1, b2⟩ := List.mem_filter.1 hb;have := h1.imgs a a1; have := h2.shots a b1 (by simpa using b2); omega
 have hc := F4 hk hd;rw [vK] at hc;have hmem : ∀ {e}, e ∈ aY (o ++ m) → e ∈ o ∨ e ∈ m := fun h => List.mem_append.1 (iC h);have c1 := dZ o;have c2 := dZ m;refine ⟨⟨gW _, fun e he => ?_, fun e he => ?_, fun e he hk => ?_, fun e he => ?_, fun a ha b hb ka kb hi => ?_⟩, hc⟩
 ·rcases hmem he with h | h
  ·exact h1.plain e h
  ·exact h2.plain e h
 ·rcases hmem he with h | h
  ·exact h1.late e h
  ·exact h2.late e h
 ·rcases hmem he with h | h
  ·exact h1.shots e h hk
  ·have := h2.shots e h hk;exact ⟨by omega, this.2⟩
 ·rw [hc];rcases hmem he with h | h
  ·have := h1.imgs e h; omega
  ·have := h2.imgs e h; omega
 ·rcases hmem ha with ha | ha <;> rcases hmem hb with hb | hb
  ·exact h1.inj a ha b hb ka kb hi
  ·have := h1.imgs a ha; have := h2.shots b hb kb; omega
  ·have := h1.imgs b hb; have := h2.shots a ha ka; omega
  ·exact h2.inj a ha b hb ka kb hi
def xZ (out : List aB) (image : Int) : Nat := (out.filter fun e => decide (image ≤ e.image)).length
theorem Wi {o m : List aB} {i j : Int} (h : i ≤ j) (hm : ∀ e ∈ m, i ≤ e.image → j ≤ e.image ∨ e ∈ o) : xZ (aY (o ++ m)) i ≤ xZ o i + xZ m j := by
 unfold xZ;rw [← List.length_append];refine List.Nodup.length_le_of_subset (kN (nA (gW _) _)) fun x hx => ?_;obtain ⟨h1, h2⟩ := List.mem_filter.1 hx;have h2' : i ≤ x.image := by simpa using h2
 rcases List.mem_append.1 (iC h1) with h3 | h3
 ·exact List.mem_append.2 (.inl (List.mem_filter.2 ⟨h3, h2⟩))
 ·rcases hm x h3 h2' with h4 | h4
  ·exact List.mem_append.2 (.inr (List.mem_filter.2 ⟨h3, by simpa using h4⟩))
  ·exact List.mem_append.2 (.inl (List.mem_filter.2 ⟨h4, h2⟩))
theorem yD {s : aI} (h : okB s = true) (hk : s.kind = 1) : bE s.rows = true := by
 have := (cN h).2.1;unfold vZ at this;rw [if_pos hk] at this;simp only [Bool.and_eq_true] at this;exact this.1.1.1.1.1
end Go.SX
namespace Go.SX
theorem Ek {g : aI} : ∀ {c : List aB} {x y : aB} {s : List aB}, Bv g (c ++ [x]) → bY g x y = true → Bv g (y :: s) → Bv g (c ++ [x] ++ (y :: s))
 | [], x, y, s, _, h2, h3 => ⟨h2, h3⟩
 | [a], x, y, s, h1, h2, h3 => ⟨h1.1, h2, h3⟩
 | a :: b :: c, x, y, s, h1, h2, h3 => ⟨h1.1, Ek (c := b :: c) h1.2 h2 h3⟩
structure GoR (g kid : aI) (m : List aB) (mm : Int) (i : Nat) (r : Int × Int) : Prop where
 ge : mm ≤ r.2
 can : r.2 + (g.times - r.1 - 1) * g.within < kid.to_
 is : (r.1 = 0 ∧ r.2 ≤ g.from_ + 1440 * g.days) ∨ ∃ j, j < i ∧ 0 < Ws g m j ∧ r.1 = Ws g m j ∧ (m.getD j (U.dflt .event)).at_ + g.within ≤ r.2 ∧ r.2 ≤ (m.getD j (U.dflt .event)).at_ + 1440 * g.days
theorem q1h (g kid : aI) (m : List aB) (mm : Int) : ∀ i : Nat, (goN g kid m mm i).1 < 0 ∨ GoR g kid m mm i (goN g kid m mm i)
 | 0 => by
  rw [goN]; unfold dU;split
  ·rename_i h; exact .inr ⟨Int.le_refl _, h.2.1, .inl ⟨rfl, h.1⟩⟩
  ·left; show (-1 : Int) < 0; omega
 | i + 1 => by
  have ih := q1h g kid m mm i;have up : (goN g kid m mm i).1 < 0 ∨ GoR g kid m mm (i + 1) (goN g kid m mm i) := by
   rcases ih with h | ⟨h1, h2, h3⟩
   ·exact .inl h
   ·refine .inr ⟨h1, h2, ?_⟩;rcases h3 with h3 | ⟨j, j1, j2⟩
    ·exact .inl h3
    ·exact .inr ⟨j, by omega, j2⟩
  rw [goN];split
  ·rename_i hp;unfold dU;split
   ·rename_i h;exact .inr ⟨by dsimp only; omega, h.2.1, .inr ⟨i, by omega, hp, rfl, by dsimp only; omega, h.1⟩⟩
   ·exact up
  ·exact up
theorem vT (kid : aI) (a w image : Int) : ∀ j, (fR kid a w image j).length = j
 | 0 => rfl
 | j + 1 => by rw [fR, List.length_append, vT kid a w image j]; rfl
theorem wL {kid : aI} {a w image : Int} {x : aB} : ∀ {j : Nat}, x ∈ fR kid a w image j → ∃ i : Nat, i < j ∧ x = mK kid (a + i * w) (image + i) 0
 | 0, h => by cases h
 | j + 1, h => by
  rw [fR] at h;rcases List.mem_append.1 h with h | h
  ·obtain ⟨i, h1, h2⟩ := wL h;exact ⟨i, by omega, h2⟩
  ·exact ⟨j, by omega, List.mem_singleton.1 h⟩
theorem P0 (kid : aI) (a w image : Int) (hw : 0 ≤ w) : ∀ j, Pp (fR kid a w image j)
 | 0 => List.Pairwise.nil
 | j + 1 => by
  rw [fR];refine List.pairwise_append.2 ⟨P0 kid a w image hw j, List.pairwise_singleton _ _, fun x hx y hy => ?_⟩;obtain ⟨i, h1, rfl⟩ := wL hx;rw [List.mem_singleton.1 hy, hZ];have h2 : (i : Int) * w ≤ (j : Int) * w := Int.mul_le_mul_of_nonneg_right (by omega) hw;show a + i * w < a + j * w ∨ a + i * w = a + j * w ∧ ((1 : Int) < 1 ∨ (1 : Int) = 1 ∧ image + i < image + j);omega
theorem xD (g kid : aI) (a image : Int) (hw : g.within ≤ 1440 * g.days) : ∀ j, Bv g (fR kid a g.within image j)
 | 0 => trivial
 | 1 => trivial
 | j + 2 => by
  rw [fR];have ih := xD g kid a image hw (j + 1);rw [fR] at ih ⊢;refine Ek ih ?_ (s := []) trivial;unfold bY mK;rw [aK];have e : ((j + 1 : Nat) : Int) * g.within = (j : Int) * g.within + g.within := by rw [Int.natCast_add, Int.add_mul]; simp
  dsimp only;rw [e]; omega
theorem H9 {kid : aI} {a w image : Int} : ∀ {j : Nat}, 0 < j → ∃ s, fR kid a w image j = mK kid a image 0 :: s
 | 0, h => absurd h (Nat.lt_irrefl _)
 | 1, _ => ⟨[], by show [mK kid (a + (0 : Nat) * w) (image + (0 : Nat)) 0] = _; simp⟩
 | j + 2, _ => by
  obtain ⟨s, hs⟩ := H9 (kid := kid) (a := a) (w := w) (image := image) (j := j + 1) (by omega);exact ⟨s ++ [mK kid (a + (j + 1 : Nat) * w) (image + (j + 1 : Nat)) 0], by rw [fR, hs]; rfl⟩
end Go.SX
namespace Go.SX
structure Fw (l : List aB) (now image : Int) : Prop where
 str : Pp l
 form : ∀ e ∈ l, fI e = true
 shot : ∀ e ∈ l, e.kind = 1 → e.at_ < now
 all : ∀ e ∈ l, e.at_ ≤ now
 img : ∀ e ∈ l, e.image < image
structure xP (g : aI) (n : Int) (l : List aB) (now image : Int) (out : List aB) : Prop where
 good : I7 out now image
 new : (xZ out image : Int) ≤ 4 * n
 leaf : g.kind ≤ 3 → (xZ out image : Int) ≤ 2 * n + 2
 old : ∀ e ∈ out, e.image < image → e = qU now e.image ∧ ∃ x ∈ l, x.image = e.image
theorem Vi {ks : List aI} {d m : Int} (h : sizeL ks d = some m) (h1 : (ks.length : Int) = 1) : ∃ q, bQ (eM ks) d = some q ∧ m = q := by
 match ks, h1 with
 | [k], _ =>
  rw [sizeL] at h;split at h
  ·cases h
  ·rename_i q hq;rw [sizeL] at h;injection h with h;exact ⟨q, hq, by omega⟩
theorem Ah {g : aI} (h : okB g = true) (h1 : (g.kids.length : Int) = 1) : (eM g.kids).kind ≤ dM g.kind := by
 unfold okB eU at h;simp only [Bool.and_eq_true, Bool.not_eq_true'] at h;have h2 := h.2.2;rw [List.any_eq_false] at h2;obtain ⟨kind, rows, from_, to_, low, high, clear, days, times, within, cents, kids⟩ := g
 match kids, h1 with
 | [k], _ =>
  have := h2 k (by simp);simpa [eM] using this
theorem U6 {g : aI} (h : okB g = true) (hk : g.kind = 2 ∨ g.kind = 3) {d m : Int} (hs : sizeL g.kids d = some m) : ∃ q, bQ (eM g.kids) d = some q ∧ m = q ∧ okB (eM g.kids) = true ∧ (eM g.kids).kind = 1 := by
 have h1 := sD h (by omega) (by omega) (by omega);obtain ⟨q, hq, e⟩ := Vi hs h1;have hko := (iK hq).1;have hkk := Ah h h1;have hkp := (cN hko).1;unfold dM at hkk;rw [if_pos hk] at hkk;exact ⟨q, hq, e, hko, by omega⟩
theorem yC {kid : aI} (hsee : Zu kid) (ha : bE kid.rows = true) {now image m look : Int} (h0 : 0 ≤ image) (h1 : now ≤ m) (h2 : m < kid.to_) (hl : -4 ≤ look ∧ look ≤ 4) : ∀ e, e = mK kid m image look → (e.kind = 1 ∨ e = qU e.at_ e.image) ∧ (now ≤ e.at_ ∧ e.at_ ≤ 1000000) ∧ ((-90 ≤ e.sun ∧ e.sun ≤ 90) ∧ (-4 ≤ e.look ∧ e.look ≤ 4) ∧ bE e.rows = true) := by
 rintro e rfl;have := hsee.to; have := hsee.low;exact ⟨.inl rfl, ⟨h1, by show m ≤ 1000000; omega⟩, ⟨by show (-90 : Int) ≤ kid.low; omega, by show kid.low ≤ 90; omega⟩, hl, ha⟩
theorem q3s {g : aI} {n : Int} (hok : okB g = true) (hk : g.kind = 1) (hn : 1 ≤ n) {l : List aB} {now image : Int} (h0 : 0 ≤ image) {out : List aB} (hf : Dj g now image = some out) : xP g n l now image out := by
 have hsee := Ej hok hk;have ha := yD hok hk;unfold Dj at hf;split at hf
 ·rename_i hlt;injection hf with hf;subst hf;have hg := yC hsee ha (look := 0) h0 (show now ≤ max now g.from_ by omega) hlt (by omega);have hc : bG [mK g (max now g.from_) image 0] = 1 := rfl;have hnew : xZ [mK g (max now g.from_) image 0] image ≤ 1 := List.length_filter_le _ _;refine ⟨⟨List.pairwise_singleton _ _, fun e he => (hg e (List.mem_singleton.1 he)).1, fun e he => (hg e (List.mem_singleton.1 he)).2.1, fun e he _ => ?_, fun e he => ?_, fun a h1 b h2 _ _ _ => ?_⟩, by omega, fun _ => by omega, fun e he hlt => ?_⟩
  ·have := List.mem_singleton.1 he;exact ⟨by rw [this]; exact Int.le_refl _, (hg e this).2.2⟩
  ·rw [List.mem_singleton.1 he, hc];exact ⟨h0, by show image < image + 1; omega⟩
  ·rw [List.mem_singleton.1 h1, List.mem_singleton.1 h2]
  ·rw [List.mem_singleton.1 he] at hlt;exact absurd hlt (Int.lt_irrefl _)
 ·cases hf
theorem Zk {g : aI} {n d m : Int} (hok : okB g = true) (hk : g.kind = 2) (hs : sizeL g.kids d = some m) (hn : n = 1 + m) {l : List aB} {now image : Int} (h0 : 0 ≤ image) {out : List aB} (hf : F0 g now image = some out) : xP g n l now image out := by
 obtain ⟨q, hq, hm, hko, hkk⟩ := U6 hok (.inl hk) hs;have hq1 := lM hq;have hsee := Ej hko hkk;have ha := yD hko hkk;have hlim := (cN hok).2.1;unfold vZ at hlim;rw [if_neg (by omega), if_pos hk] at hlim;simp only [Bool.and_eq_true, aK] at hlim;unfold F0 at hf;obtain ⟨kid, hkid⟩ : ∃ kid, kid = eM g.kids := ⟨_, rfl⟩;rw [← hkid] at hf hsee ha hkk hko hq;split at hf
 ·rename_i hlt;injection hf with hf;subst hf;obtain ⟨a, hae⟩ : ∃ a, a = mK kid (max now kid.from_) image (-4) := ⟨_, rfl⟩;obtain ⟨b, hbe⟩ : ∃ b, b = mK kid (max now kid.from_) (image + 1) 4 := ⟨_, rfl⟩;have hga := yC hsee ha (look := -4) h0 (show now ≤ max now kid.from_ by omega) hlt (by omega) a hae;have hgb := yC hsee ha (image := image + 1) (look := 4) (by omega) (show now ≤ max now kid.from_ by omega) hlt (by omega) b hbe;have ka : a.kind = 1 := by rw [hae]; rfl
  have kb : b.kind = 1 := by rw [hbe]; rfl
  have ia : a.image = image := by rw [hae]; rfl
  have ib : b.image = image + 1 := by rw [hbe]; rfl
  have hab : eN a b = true := by
   rw [hZ, ka, kb, ia, ib, hae, hbe];show max now kid.from_ < max now kid.from_ ∨ _;right;exact ⟨rfl, .inr ⟨rfl, by omega⟩⟩
  rw [← hae, ← hbe];have hc : bG [a, b] = 2 := by unfold bG; simp [ka, kb]
  have hnew : xZ [a, b] image ≤ 2 := List.length_filter_le _ _;have hmem : ∀ e ∈ [a, b], e = a ∨ e = b := fun e he => by simpa using he
  refine ⟨⟨List.pairwise_cons.2 ⟨fun x hx => by rw [List.mem_singleton.1 hx]; exact hab, List.pairwise_singleton _ _⟩, fun e he => ?_, fun e he => ?_, fun e he _ => ?_, fun e he => ?_, fun x h1 y h2 _ _ h3 => ?_⟩, by omega, fun _ => by omega, fun e he hlt => ?_⟩
  ·rcases hmem e he with rfl | rfl
   ·exact hga.1
   ·exact hgb.1
  ·rcases hmem e he with rfl | rfl
   ·exact hga.2.1
   ·exact hgb.2.1
  ·rcases hmem e he with rfl | rfl
   ·exact ⟨by omega, hga.2.2⟩
   ·exact ⟨by omega, hgb.2.2⟩
  ·rw [hc];rcases hmem e he with rfl | rfl <;> omega
  ·rcases hmem x h1 with rfl | rfl <;> rcases hmem y h2 with rfl | rfl
   ·rfl
   ·omega
   ·omega
   ·rfl
  ·rcases hmem e he with rfl | rfl <;> omega
 ·cases hf
theorem Rd {g : aI} {n d m : Int} (hok : okB g = true) (hk : g.kind = 3) (hs : sizeL g.kids d = some m) (hn : n = 1 + m) {l : List aB} {now image : Int} (hc : Fw l now image) (h0 : 0 ≤ image) (hno : bV g l = none) {out : List aB} (hf : vJ g l now image = some out) : xP g n l now image out := by
 obtain ⟨q, hq, hm, hko, hkk⟩ := U6 hok (.inr hk) hs;have hq1 := lM hq;have hsee := Ej hko hkk;have ha := yD hko hkk;have ht := vI hok hk;have hd := Hd hok hk;obtain ⟨N, hN⟩ : ∃ N : Nat, g.times = N := ⟨g.times.toNat, by omega⟩;rw [tY, if_neg (by omega), if_neg (by omega), if_pos hk] at hno;unfold vJ at hf;obtain ⟨kid, hkid⟩ : ∃ kid, kid = eM g.kids := ⟨_, rfl⟩;rw [← hkid] at hf hsee ha hkk hko hq;have hgo := q1h g kid (iJ kid l) (max now kid.from_) (iJ kid l).length;obtain ⟨r, hr⟩ : ∃ r, r = goN g kid (iJ kid l) (max now kid.from_) (iJ kid l).length := ⟨_, rfl⟩;rw [← hr] at hf hgo;split at hf
 ·cases hf
 ·rename_i hr0;rcases hgo with h | ⟨g1, g2, g3⟩
  ·exact absurd h hr0
  ·injection hf with hf;obtain ⟨J, hJ⟩ : ∃ J : Nat, J = (g.times - r.1).toNat := ⟨_, rfl⟩;rw [← hJ] at hf;have hstr := P0 kid r.2 g.within image hd.2.2.1 J;have hchain := xD g kid r.2 image hd.2.2.2.1 J;have hlen := vT kid r.2 g.within image J;have hhead := H9 (kid := kid) (a := r.2) (w := g.within) (image := image) (j := J);have hmem : ∀ e ∈ fR kid r.2 g.within image J, ∃ i : Nat, i < J ∧ e = mK kid (r.2 + i * g.within) (image + i) 0 ∧ now ≤ r.2 + i * g.within ∧ kid.from_ ≤ r.2 + i * g.within ∧ r.2 + i * g.within < kid.to_ := fun e he => by
    obtain ⟨i, i1, i2⟩ := wL he;have e1 : (0 : Int) ≤ (i : Int) * g.within := Int.mul_nonneg (by omega) hd.2.2.1;have e2 : (i : Int) * g.within ≤ (g.times - r.1 - 1) * g.within := Int.mul_le_mul_of_nonneg_right (by omega) hd.2.2.1;exact ⟨i, i1, i2, by omega, by omega, by omega⟩
   have hone : ∀ e ∈ fR kid r.2 g.within image J, (e.kind = 1 ∨ e = qU e.at_ e.image) ∧ (now ≤ e.at_ ∧ e.at_ ≤ 1000000) ∧ ((-90 ≤ e.sun ∧ e.sun ≤ 90) ∧ (-4 ≤ e.look ∧ e.look ≤ 4) ∧ bE e.rows = true) := fun e he => by
    obtain ⟨i, i1, i2, i3, i4, i5⟩ := hmem e he;exact yC hsee ha (image := image + i) (look := 0) (by omega) i3 i5 (by omega) e i2
   have hall : ∀ e ∈ fR kid r.2 g.within image J, e.kind = 1 := fun e he => by
    obtain ⟨i, i1, i2, _⟩ := hmem e he;rw [i2]; rfl
   have hcnt : bG (fR kid r.2 g.within image J) = J := by
    unfold bG;rw [List.filter_eq_self.2 fun e he => by simpa using hall e he, hlen]
   rw [hf] at hstr hchain hlen hhead hmem hone hall hcnt;have hJ6 : (J : Int) ≤ 6 := by omega
   have hnew : xZ out image ≤ out.length := List.length_filter_le _ _;refine ⟨⟨hstr, fun e he => (hone e he).1, fun e he => (hone e he).2.1, fun e he _ => ?_, fun e he => ?_, fun x h1 y h2 _ _ h3 => ?_⟩, by omega, fun _ => by omega, fun e he hlt => ?_⟩
   ·obtain ⟨i, i1, i2, _⟩ := hmem e he;refine ⟨?_, (hone e he).2.2⟩;rw [i2]; show image ≤ image + i; omega
   ·obtain ⟨i, i1, i2, _⟩ := hmem e he;rw [hcnt, i2];exact ⟨by show (0 : Int) ≤ image + i; omega, by show image + i < image + J; omega⟩
   ·obtain ⟨i, i1, i2, _⟩ := hmem x h1;obtain ⟨k, k1, k2, _⟩ := hmem y h2;rw [i2, k2] at h3;have : image + (i : Int) = image + k := h3;rw [i2, k2, show i = k by omega]
   ·obtain ⟨i, i1, i2, _⟩ := hmem e he;rw [i2] at hlt;have : image + (i : Int) < image := hlt;omega
end Go.SX
namespace Go.SX
theorem U5 {l : List aB} {now i j : Int} (h : Fw l now i) (hij : i ≤ j) : Fw l now j := ⟨h.str, h.form, h.shot, h.all, fun e he => by have := h.img e he; omega⟩
theorem Kg {e : aB} (h : fI e = true) : 0 ≤ e.image ∧ e.image ≤ 999 := by
 unfold fI at h;simp only [Bool.and_eq_true, aK] at h;exact h.1.2
theorem Xq {t i : Int} (ht : 0 ≤ t ∧ t ≤ 1000000) (hi : 0 ≤ i ∧ i ≤ 999) : fI (qU t i) = true := by
 unfold fI qU;simp only [Bool.and_eq_true, aK];exact ⟨⟨ht, hi⟩, rfl⟩
theorem fQ {l : List aB} {within now : Int} {x : aB} (h : x ∈ kK l within now) : ∃ e ∈ l, e.kind = 1 ∧ x = qU now e.image := by
 obtain ⟨e, h1, h2⟩ := List.mem_map.1 h;obtain ⟨h3, h4⟩ := List.mem_filter.1 h1;unfold L0 at h4;simp only [Bool.and_eq_true, decide_eq_true_eq] at h4;exact ⟨e, h3, h4.1.1, h2.symm⟩
theorem nC {l : List aB} {within now : Int} {x : aB} (h : x ∈ eV l within now) : (x ∈ l ∨ x ∈ kK l within now) ∧ (x.kind = 1 → Sr (aY (l ++ kK l within now)) x within = true) := by
 obtain ⟨h1, h2⟩ := List.mem_filter.1 h;refine ⟨List.mem_append.1 (iC h1), fun hk => ?_⟩;simp only [hk, decide_true, Bool.true_and, Bool.not_not] at h2;exact h2
theorem yZ {l : List aB} {within now image : Int} (hc : Fw l now image) (ht : 0 ≤ now ∧ now ≤ 1000000) : Fw (eV l within now) now image := by
 refine ⟨nA (gW _) _, fun e he => ?_, fun e he hk => ?_, fun e he => ?_, fun e he => ?_⟩
 ·rcases (nC he).1 with h | h
  ·exact hc.form e h
  ·obtain ⟨x, h1, _, rfl⟩ := fQ h;exact Xq ht (Kg (hc.form x h1))
 ·rcases (nC he).1 with h | h
  ·exact hc.shot e h hk
  ·obtain ⟨x, h1, _, rfl⟩ := fQ h;have : (2 : Int) = 1 := hk;omega
 ·rcases (nC he).1 with h | h
  ·exact hc.all e h
  ·obtain ⟨x, h1, _, rfl⟩ := fQ h;exact Int.le_refl _
 ·rcases (nC he).1 with h | h
  ·exact hc.img e h
  ·obtain ⟨x, h1, _, rfl⟩ := fQ h;exact hc.img x h1
theorem Y1 {more : List aB} {x : aB} : x ∈ cU more ↔ ∃ e ∈ more, x = e ∨ x = qU e.at_ e.image := by
 unfold cU;rw [List.mem_flatMap];constructor
 ·rintro ⟨e, h1, h2⟩; exact ⟨e, h1, by simpa using h2⟩
 ·rintro ⟨e, h1, h2⟩; exact ⟨e, h1, by simpa using h2⟩
theorem wD : ∀ more : List aB, (cU more).filter (fun e => decide (e.kind = 1)) = more.filter fun e => decide (e.kind = 1)
 | [] => rfl
 | e :: more => by
  have ih := wD more;unfold cU at ih ⊢;rw [List.flatMap_cons, List.filter_append, ih]
  by_cases hk : e.kind = 1
  ·simp [hk, qU]
  ·simp [hk, qU]
theorem q5h {g k : aI} {n d : Int} (hk : g.kind = 4) (hkid : ∀ M, bV g M = bV k (xX M g.within)) (hw : 0 ≤ g.within) (hkk : k.kind ≤ 3) (hs : bQ k d = some n) {l : List aB} {now image : Int} (hc : Fw l now image) (h0 : 0 ≤ image) (ht : 0 ≤ now ∧ now ≤ 1000000)
  {more : List aB} (ih : xP k n (eV l g.within now) now image more) : xP g (1 + n) l now image (Ls (kK l g.within now) more (I8 (bV k (aY (eV l g.within now ++ more))))) := by
 obtain ⟨S, hS⟩ : ∃ S, S = (kK l g.within now).filter (fun e => decide (e.image ∈ I8 (bV k (aY (eV l g.within now ++ more))))) ++ cU more := ⟨_, rfl⟩;have hhc := yZ (within := g.within) hc ht;have hmem : ∀ x ∈ S, (∃ e ∈ l, e.kind = 1 ∧ x = qU now e.image) ∨ ∃ e ∈ more, x = e ∨ x = qU e.at_ e.image := fun x hx => by
  rw [hS] at hx;rcases List.mem_append.1 hx with h | h
  ·exact .inl (fQ (List.mem_filter.1 h).1)
  ·exact .inr (Y1.1 h)
 have hpl : ∀ x ∈ S, (x.kind = 1 ∧ x ∈ more) ∨ (x.kind = 2 ∧ x = qU x.at_ x.image) := fun x hx => by
  rcases hmem x hx with ⟨e, _, _, rfl⟩ | ⟨e, h1, rfl | rfl⟩
  ·exact .inr ⟨rfl, rfl⟩
  ·rcases ih.good.plain x h1 with h | h
   ·exact .inl ⟨h, h1⟩
   ·exact .inr ⟨by rw [h]; rfl, h⟩
  ·exact .inr ⟨rfl, rfl⟩
 have hinj : Kw S := by
  intro x hx y hy hxy;rw [hP] at hxy;obtain ⟨k1, k2, k3⟩ := hxy;rcases hpl x hx with ⟨h1, h2⟩ | ⟨h1, h2⟩ <;> rcases hpl y hy with ⟨h3, h4⟩ | ⟨h3, h4⟩
  ·exact ih.good.inj x h2 y h4 h1 h3 k3
  ·omega
  ·omega
  ·rw [h2, h4, k1, k3]
 have hcS : bG S = bG more := by
  rw [hS, vK];have e1 : bG ((kK l g.within now).filter (fun e => decide (e.image ∈ I8 (bV k (aY (eV l g.within now ++ more)))))) = 0 := by
   unfold bG;rw [List.filter_eq_nil_iff.2]
   ·rfl
   ·intro x hx;obtain ⟨e, _, _, rfl⟩ := fQ (List.mem_filter.1 hx).1;simp [qU]
  have e2 : bG (cU more) = bG more := by unfold bG; rw [wD]
  omega
 have hnd : (S.filter fun e => decide (e.kind = 1)).Nodup := by
  have e1 : S.filter (fun e => decide (e.kind = 1)) = more.filter fun e => decide (e.kind = 1) := by
   rw [hS, List.filter_append, wD, List.filter_eq_nil_iff.2, List.nil_append];intro x hx;obtain ⟨e, _, _, rfl⟩ := fQ (List.mem_filter.1 hx).1;simp [qU]
  rw [e1]; exact oG ih.good
 have hcnt := F4 hinj hnd;have hin : ∀ {x}, x ∈ aY S ↔ x ∈ S := tZ hinj;have hcm := dZ more;have hmS : ∀ e ∈ more, e ∈ S ∧ qU e.at_ e.image ∈ S := fun e he => by
  rw [hS];exact ⟨List.mem_append.2 (.inr (Y1.2 ⟨e, he, .inl rfl⟩)), List.mem_append.2 (.inr (Y1.2 ⟨e, he, .inr rfl⟩))⟩
 show xP g (1 + n) l now image (aY _);rw [← hS];refine ⟨⟨gW _, fun e he => ?_, fun e he => ?_, fun e he hk1 => ?_, fun e he => ?_, fun x hx y hy hx1 hy1 hxy => ?_⟩, ?_, fun h => by omega, fun e he hlt => ?_⟩
 ·rcases hpl e (hin.1 he) with h | h
  ·exact .inl h.1
  ·exact .inr h.2
 ·rcases hmem e (hin.1 he) with ⟨x, _, _, rfl⟩ | ⟨x, h1, rfl | rfl⟩
  ·exact ⟨Int.le_refl _, ht.2⟩
  ·exact ih.good.late e h1
  ·exact ih.good.late x h1
 ·rcases hpl e (hin.1 he) with h | h
  ·exact ih.good.shots e h.2 hk1
  ·omega
 ·rw [hcnt, hcS];rcases hmem e (hin.1 he) with ⟨x, h1, _, rfl⟩ | ⟨x, h1, rfl | rfl⟩
  ·have := hc.img x h1;have := Kg (hc.form x h1);exact ⟨this.1, by show x.image < _; omega⟩
  ·exact ih.good.imgs e h1
  ·exact ih.good.imgs x h1
 ·rcases hpl x (hin.1 hx) with h | h <;> rcases hpl y (hin.1 hy) with h' | h'
  ·exact ih.good.inj x h.2 y h'.2 hx1 hy1 hxy
  ·omega
  ·omega
  ·omega
 ·have hb : xZ (aY S) image ≤ xZ more image + xZ more image := by
   have : xZ more image + xZ more image = ((more.filter fun e => decide (image ≤ e.image)) ++ (more.filter fun e => decide (image ≤ e.image)).map fun e => qU e.at_ e.image).length := by
    unfold xZ; simp
   rw [this];refine List.Nodup.length_le_of_subset (kN (nA (gW _) _)) fun x hx => ?_;obtain ⟨x1, x2⟩ := List.mem_filter.1 hx;have x2' : image ≤ x.image := by simpa using x2
   rcases hmem x (hin.1 x1) with ⟨e, h1, _, rfl⟩ | ⟨e, h1, rfl | rfl⟩
   ·have := hc.img e h1;have : image ≤ e.image := x2';omega
   ·exact List.mem_append.2 (.inl (List.mem_filter.2 ⟨h1, x2⟩))
   ·exact List.mem_append.2 (.inr (List.mem_map.2 ⟨e, List.mem_filter.2 ⟨h1, x2⟩, rfl⟩))
  have := ih.leaf hkk;omega
 ·rcases hmem e (hin.1 he) with ⟨x, h1, _, rfl⟩ | ⟨x, h1, rfl | rfl⟩
  ·exact ⟨rfl, x, h1, rfl⟩
  ·obtain ⟨e1, y, y1, y2⟩ := ih.old e h1 hlt;refine ⟨e1, ?_⟩;rcases (nC y1).1 with h | h
   ·exact ⟨y, h, y2⟩
   ·obtain ⟨z, z1, _, rfl⟩ := fQ h;exact ⟨z, z1, y2⟩
  ·obtain ⟨e1, y, y1, y2⟩ := ih.old x h1 hlt;refine ⟨by rw [show x.at_ = now by rw [e1]; rfl]; rfl, ?_⟩;rcases (nC y1).1 with h | h
   ·exact ⟨y, h, y2⟩
   ·obtain ⟨z, z1, _, rfl⟩ := fQ h;exact ⟨z, z1, y2⟩
theorem Ml {g : aI} (h : okB g = true) (hk : g.kind = 4) : 0 ≤ g.within := by
 have := (cN h).2.1;unfold vZ at this;rw [if_neg (by omega), if_neg (by omega), if_neg (by omega), if_pos hk, aK] at this;exact this.1
theorem q00 {g : aI} (h : okB g = true) (hk : g.kind = 4) (M : List aB) : bV g M = bV (eM g.kids) (xX M g.within) := by
 rw [tY, if_neg (by omega), if_neg (by omega), if_neg (by omega), if_pos hk, Kj _ _ (sD h (by omega) (by omega) (by omega))]
structure Xt (l : List aB) (now i0 : Int) (out : List aB) : Prop where
 good : I7 out now i0
 old : ∀ e ∈ out, e.image < i0 → e = qU now e.image ∧ ∃ x ∈ l, x.image = e.image
theorem Yz {k : aI} {q : Int} {l : List aB} {now i0 : Int} {out more : List aB} (hc : Fw l now i0) (ha : Xt l now i0 out) (h : xP k q l now (i0 + bG out) more) :
  Xt l now i0 (aY (out ++ more)) ∧ i0 + bG (aY (out ++ more)) = i0 + bG out + bG more ∧ xZ (aY (out ++ more)) i0 ≤ xZ out i0 + xZ more (i0 + bG out) ∧ (∀ e ∈ out, e ∈ aY (out ++ more)) ∧ ∀ e ∈ more, e ∈ aY (out ++ more) := by
 obtain ⟨h1, h2⟩ := He ha.good h.good rfl;have hk := Ft ha.good h.good rfl;have hcn := dZ out;refine ⟨⟨h1, fun e he hlt => ?_⟩, by omega, Wi (by omega) fun e he hi => ?_, fun e he => (tZ hk).2 (List.mem_append.2 (.inl he)), fun e he => (tZ hk).2 (List.mem_append.2 (.inr he))⟩
 ·rcases List.mem_append.1 (iC he) with h3 | h3
  ·exact ha.old e h3 hlt
  ·exact h.old e h3 (by omega)
 ·left;rcases Int.lt_or_le e.image (i0 + bG out) with h3 | h3
  ·exfalso;obtain ⟨_, x, x1, x2⟩ := h.old e he h3;have := hc.img x x1;omega
  ·exact h3
mutual
theorem Ez : ∀ (g : aI) (d n : Int) (l : List aB) (now image : Int) (out : List aB), bQ g d = some n → Fw l now image → 0 ≤ image → (0 ≤ now ∧ now ≤ 1000000) → uV g l now image = some out → xP g n l now image out
 | ⟨kind, rows, from_, to_, low, high, clear, days, times, within, cents, kids⟩, d, n, l, now, image, out, hs, hc, h0, ht, hf => by
  have hall := fin_all kids;have hany := fin_any kids;have hhd := fin_hd kids;obtain ⟨hok, hd, m, hL, rfl⟩ := iK hs;have hm0 := fC hL;obtain ⟨g, hg⟩ : ∃ g : aI, g = ⟨kind, rows, from_, to_, low, high, clear, days, times, within, cents, kids⟩ := ⟨_, rfl⟩;have ek : g.kids = kids := by rw [hg]
  have ec : g.cents = cents := by rw [hg]
  rw [← hg] at hs hok hL hf ⊢;rw [qC] at hf;split at hf
  ·rename_i hmet;injection hf with hf;subst hf;exact ⟨Cw now, by show ((0 : Nat) : Int) ≤ _; omega, fun _ => by show ((0 : Nat) : Int) ≤ _; omega, fun e he => (by cases he)⟩
  ·rename_i hno;have hno' : bV g l = none := by
    cases h : bV g l with
    | none => rfl
    | some w => rw [h] at hno; exact absurd rfl hno
   split at hf
   ·rename_i hk;exact q3s hok hk (by omega) h0 hf
   ·split at hf
    ·rename_i hk;exact Zk hok hk hL rfl h0 hf
    ·split at hf
     ·rename_i hk;exact Rd hok hk hL rfl hc h0 hno' hf
     ·split at hf
      ·rename_i hk;have h1 := sD hok (by omega) (by omega) (by omega);rw [Sj _ _ _ _ _ h1] at hf;obtain ⟨q, hq, rfl⟩ := Vi hL h1;have hkk := Ah hok h1;unfold dM at hkk;rw [if_neg (by omega), if_pos hk] at hkk;split at hf
       ·cases hf
       ·rename_i more hmore;injection hf with hf;subst hf;rw [ek] at hq hmore;rw [ek];have ih := hhd (d + 1) m (eV l g.within now) now image more (by rw [ek] at h1; exact h1) hq (yZ hc ht) h0 ht hmore;rw [← ek] at ih hq ⊢;exact q5h hk (q00 hok hk) (Ml hok hk) hkk hq hc h0 ht ih
      ·split at hf
       ·rename_i hk;rw [ek] at hf hL;obtain ⟨a1, a2⟩ := hall (d + 1) m l now image [] out hL hc h0 ht ⟨Cw now, fun e he => (by cases he)⟩ (by rw [show bG [] = 0 from rfl, Int.add_zero]; exact hf);have hz : xZ [] image = 0 := rfl;exact ⟨a1.good, by omega, fun h => by omega, a1.old⟩
       ·rename_i k1 k2 k3 k4 k5;rw [ek] at hf hL;obtain ⟨k, hk, q, hq, hqm, hfo⟩ := hany (d + 1) m l now image out hL hc h0 ht hf;have hq1 := lM hq;have hkind : g.kind = 6 := by
         have := (cN hok).1; omega
        exact ⟨hfo.good, by have := hfo.new; omega, fun h => by omega, hfo.old⟩
theorem fin_hd : ∀ (ks : List aI) (d n : Int) (l : List aB) (now image : Int) (out : List aB), (ks.length : Int) = 1 → bQ (eM ks) d = some n → Fw l now image → 0 ≤ image → (0 ≤ now ∧ now ≤ 1000000) → uV (eM ks) l now image = some out → xP (eM ks) n l now image out
 | [], d, n, l, now, image, out, h1, hs, hc, h0, ht, hf => by simp at h1
 | k :: ks, d, n, l, now, image, out, h1, hs, hc, h0, ht, hf => Ez k d n l now image out hs hc h0 ht hf
theorem fin_all : ∀ (ks : List aI) (d n : Int) (l : List aB) (now i0 : Int) (acc out : List aB), sizeL ks d = some n → Fw l now i0 → 0 ≤ i0 → (0 ≤ now ∧ now ≤ 1000000) → Xt l now i0 acc → finAll ks l now (i0 + bG acc) acc = some out →
  Xt l now i0 out ∧ (xZ out i0 : Int) ≤ xZ acc i0 + 4 * n
 | [], d, n, l, now, i0, acc, out, hs, hc, h0, ht, ha, hf => by
  rw [finAll] at hf;injection hf with hf;subst hf;have := fC hs;exact ⟨ha, by omega⟩
 | k :: ks, d, n, l, now, i0, acc, out, hs, hc, h0, ht, ha, hf => by
  rw [sizeL] at hs;split at hs
  ·cases hs
  ·rename_i q hq;split at hs
   ·cases hs
   ·rename_i m hm;injection hs with hs;rw [finAll] at hf;split at hf
    ·cases hf
    ·rename_i more hmore;have hcn := dZ acc;have hk := Ez k d q l now (i0 + bG acc) more hq (U5 hc (by omega)) (by omega) ht hmore;obtain ⟨b1, b2, b3, b4, b5⟩ := Yz hc ha hk;rw [← b2] at hf;obtain ⟨c1, c2⟩ := fin_all ks d m l now i0 _ out hm hc h0 ht b1 hf;have := hk.new;exact ⟨c1, by omega⟩
theorem fin_any : ∀ (ks : List aI) (d n : Int) (l : List aB) (now image : Int) (out : List aB), sizeL ks d = some n → Fw l now image → 0 ≤ image → (0 ≤ now ∧ now ≤ 1000000) → finAny ks l now image = some out → ∃ k ∈ ks, ∃ q, bQ k d = some q ∧ q ≤ n ∧ xP k q l now image out
 | [], d, n, l, now, image, out, hs, hc, h0, ht, hf => by rw [finAny] at hf; cases hf
 | k :: ks, d, n, l, now, image, out, hs, hc, h0, ht, hf => by
  rw [sizeL] at hs;split at hs
  ·cases hs
  ·rename_i q hq;split at hs
   ·cases hs
   ·rename_i m hm;injection hs with hs;have hq1 := lM hq;have hm1 := fC hm;rw [finAny] at hf;split at hf
    ·obtain ⟨x, hx, r, hr, hrm, hfo⟩ := fin_any ks d m l now image out hm hc h0 ht hf;exact ⟨x, by simp [hx], r, hr, by omega, hfo⟩
    ·rename_i more hmore;injection hf with hf;subst hf;exact ⟨k, by simp, q, hq, by omega, Ez k d q l now image _ hq hc h0 ht hmore⟩
end
end Go.SX
