/-
  Walks: Td7, Td8, Te0, Te1, Te2: what single functions of the program compute.
-/
import Derived.Test.YtiflflnmonljeaaGreatDoorSxTd6
import Derived.Test.YtiflflnmonljeaaGreatDoorSxMb9
set_option linter.unusedVariables false
set_option linter.unusedSimpArgs false
namespace Go.SX
open Go.Proofs
set_option maxHeartbeats 400000000
set_option maxRecDepth 100000
theorem Qs : ∀ (j : Nat), j ≤ 3 → ∀ (x : List A5), (∀ y ∈ x, S1 y) → (x.length : Int) ≤ 9223372036854775807 → ∀ (at_ most : Int), 0 ≤ at_ → at_ + most ≤ 1000 → 1 ≤ most → most ≤ 9 →
    aG Tryz.prog Dc 38 [a5S x, iS at_, iS (4 - j), iS most] [] (.tuple [aP (cL j x at_ most).1, iS (cL j x at_ most).2.1, iS (cL j x at_ most).2.2]) []
  | 0, hj, x, hx, hxl, at_, most, h1, h2, h3, h4 => by
    rw [cL]
    exact W2 x hx hxl (4 - ((0 : Nat) : Int)) at_ most (by omega) (by omega) (by omega) (.inl (by omega))
  | j + 1, hj, x, hx, hxl, at_, most, h1, h2, h3, h4 => by
    have hb := aN (c := (y5 x at_).a.tdiv 144) (n := 6) (by omega)
    by_cases hc : j + 1 = 0 ∨ most < 2 ∨ (x.length : Int) ≤ at_ + 1 ∨ (5 ≤ 1 + aI ((y5 x at_).a.tdiv 144) 6 ∧ most < 3)
    · have hk : rV (j + 1) x at_ most = 1 := by unfold rV; rw [if_pos hc]
      rw [cL]
      dsimp only
      rw [hk, if_neg (by omega), if_neg (by omega), if_neg (by omega), if_neg (by omega)]
      exact W2 x hx hxl (4 - ((j + 1 : Nat) : Int)) at_ most (by omega) (by omega) (by omega) (by omega)
    · have hk : rV (j + 1) x at_ most = 1 + aI ((y5 x at_).a.tdiv 144) 6 := by unfold rV; rw [if_neg hc]
      have hlen : at_ + 1 < x.length := by omega
      have e1 : y5 x at_ = x.getD at_.toNat (Cd.dflt U.arr5) := Di h1 (by omega)
      have e2 : y5 x (at_ + 1) = x.getD (at_ + 1).toNat (Cd.dflt U.arr5) := Di (by omega) hlen
      rw [cL]
      dsimp only
      rw [hk]
      by_cases h0 : 1 + aI ((y5 x at_).a.tdiv 144) 6 = 1
      · rw [h0, if_neg (by omega), if_neg (by omega), if_neg (by omega), if_neg (by omega)]
        exact W2 x hx hxl (4 - ((j + 1 : Nat) : Int)) at_ most (by omega) (by omega) (by omega) (by omega)
      · rw [e1] at hb h0 hc ⊢
        rw [e2]
        by_cases h5 : 5 ≤ 1 + aI ((x.getD at_.toNat (Cd.dflt U.arr5)).a.tdiv 144) 6
        · rw [if_neg (by omega), if_neg (by omega), if_neg (by omega), if_pos (by omega)]
          exact To j x hx hxl (4 - ((j + 1 : Nat) : Int)) at_ most (by omega) (by omega) (by omega) hlen (cL j x) (fun a m q1 q2 q3 q4 => by
            have := Qs j (by omega) x hx hxl a m q1 q2 q3 q4
            rw [show 4 - ((j + 1 : Nat) : Int) + 1 = 4 - (j : Int) by omega]
            exact this) (fun a m q1 _ _ => zX j x a m (by omega) q1) (by omega)
        · rcases (show 1 + aI ((x.getD at_.toNat (Cd.dflt U.arr5)).a.tdiv 144) 6 = 2 ∨ 1 + aI ((x.getD at_.toNat (Cd.dflt U.arr5)).a.tdiv 144) 6 = 3 ∨ 1 + aI ((x.getD at_.toNat (Cd.dflt U.arr5)).a.tdiv 144) 6 = 4 by omega) with e | e | e
          · have := U0 x hx hxl (4 - ((j + 1 : Nat) : Int)) at_ most (by omega) (by omega) (by omega) (by omega) hlen 2 (by omega) e _ rfl
            rw [if_pos rfl, e] at this
            rw [if_pos e]
            exact this
          · have := U0 x hx hxl (4 - ((j + 1 : Nat) : Int)) at_ most (by omega) (by omega) (by omega) (by omega) hlen 3 (by omega) e _ rfl
            rw [if_neg (by omega), if_pos rfl, e] at this
            rw [if_neg (by omega), if_pos e]
            exact this
          · have := U0 x hx hxl (4 - ((j + 1 : Nat) : Int)) at_ most (by omega) (by omega) (by omega) (by omega) hlen 4 (by omega) e _ rfl
            rw [if_neg (by omega), if_neg (by omega), e] at this
            rw [if_neg (by omega), if_neg (by omega), if_pos e]
            exact this
theorem q10 (x : List A5) (hx : ∀ y ∈ x, S1 y) (hxl : (x.length : Int) ≤ 9223372036854775807) : aG Tryz.prog Dc 20 [a5S x] [] (aP (mF x)) [] := by
 have h : aG Tryz.prog Dc 38 [a5S x, iS 0, iS 1, iS 9] [] (.tuple [aP (cL 3 x 0 9).1, iS (cL 3 x 0 9).2.1, iS (cL 3 x 0 9).2.2]) [] := Qs 3 (by omega) x hx hxl 0 9 (by omega) (by omega) (by omega) (by omega)
 unfold mF
 generalize cL 3 x 0 9 = q at h ⊢
 refine aC Ax aF Tryz.func20 (c := _) rfl Tryz.call20 100 ?_
 (repeat' ((conv => whnf); first | (exfalso; omega) | refine cpC (h) ?_ | refine dpC (h) ?_ | refine x0C ?_ | refine spC (fun hb => ?_) fun hb => ?_ | refine aJ (fun hb => ?_) ?_ | refine taC ?_ | refine saC ?_ | exact sdV | refine aA ?_ ?_ | refine aB mixed ?_))
 all_goals exact vwV
@[reducible] def gS (l : List aK) : SV Cd := .p (.dsl U.goal l)
theorem Sw : ∀ (j : Nat) (g : aK) (d n : Int), 5 - d ≤ j → cB g d = some n → n ≤ 1000 → oN g → aG Tryz.prog Dc 74 [aP g] [] (gS (mH g)) [] := by
 intro j
 induction j with
 | zero =>
  intro g d n h1 hs
  have := (cR hs).2.1
  omega
 | succ j ih =>
  intro g d n h1 hs hn hG
  obtain ⟨hok, hd, m, hL, rfl⟩ := cR hs
  obtain ⟨hgl, hgk⟩ := (dF g).1 hG
  rw [oI]
  by_cases hk : g.kind = 1
  ·rw [if_pos hk]
   rw [show [g] = [Vi g] from by rw [U9]]
   refine aC Ax aF Tryz.func74 (c := _) rfl Tryz.call74 200 ?_
   (repeat' ((conv => whnf); first | (exfalso; omega) | refine x0C ?_ | refine spC (fun hb => ?_) fun hb => ?_ | refine aJ (fun hb => ?_) ?_ | refine taC ?_ | refine saC ?_ | exact sdV | refine aA ?_ ?_ | refine aB mixed ?_))
   all_goals exact vwV
  ·rw [if_neg hk]
   have hkk := hgl.kids
   refine aC Ax aF Tryz.func74 (c := _) rfl Tryz.call74 200 ?_
   (repeat' ((conv => whnf); first | (exfalso; omega) | refine x0C ?_ | refine spC (fun hb => ?_) fun hb => ?_ | refine aJ (fun hb => ?_) ?_ | refine taC ?_ | refine saC ?_ | exact sdV | refine aA ?_ ?_ | refine aB mixed ?_))
   have hkl : (g.kids.length : Int) ≤ m := by
    have key : ∀ (l : List aK) (d m : Int), sizeL l d = some m → (l.length : Int) ≤ m := by
     intro l
     induction l with
     | nil => intro d m h; rw [sizeL] at h; injection h with h; simp; omega
     | cons a l ihl =>
      intro d m h
      rw [sizeL] at h
      split at h
      ·cases h
      ·rename_i x hx
       split at h
       ·cases h
       ·rename_i y hy
        injection h with h
        have := ihl d y hy
        have := sO hx
        simp; omega
    exact key _ _ _ hL
   refine aT [some 0, none] (fun q : Nat × List aK => [(3, .slice 1 0 12 0 q.2.length), (4, iS q.1)]) (fun q => [(1, .rows U.goal q.2)]) (fun q => q.1 ≤ g.kids.length ∧ q.2 = seesL (g.kids.take q.1) ∧ (q.2.length : Int) ≤ 1000) (fun q => g.kids.length - q.1) (0, []) ⟨Nat.zero_le _, by simp [seesL], by simp⟩ (by exact bkI) ?_
   rintro ⟨i, J⟩ ⟨hi, hJ, hJl⟩ K hK
   dsimp only at hi hJ hJl hK ⊢
   rcases Nat.lt_or_ge i g.kids.length with hlt | hge
   ·have hgi := getD_some (d := Cd.dflt U.goal) hlt
    have hkm := List.mem_of_getElem? hgi
    obtain ⟨a, ha, ha2⟩ := bX hL hkm
    have hx := ih _ (d + 1) a (by omega) ha (by omega) (fM hgk hkm)
    have hW : List.take J.length J ++ mH (g.kids.getD (i : Int).toNat (Cd.dflt U.goal)) = seesL (g.kids.take (i + 1)) := by
     rw [dW (d := Cd.dflt U.goal) hlt, qU, ← hJ, List.take_length]; rfl
    obtain ⟨b, hb1, hb2⟩ := mC (i + 1) hL
    have hWl : ((List.take J.length J ++ mH (g.kids.getD (i : Int).toNat (Cd.dflt U.goal))).length : Int) ≤ 1000 := by
     rw [hW]
     have := (seesL_ok _ _ _ hb1).1
     omega
    have hsl := (D0 _ _ _ ha).1
    have hsl2 := hsl
    simp at hsl2
    (repeat' ((conv => whnf); first | (exfalso; omega) | refine cpC (hx) ?_ | refine dpC (hx) ?_ | refine hK (i + 1, List.take J.length J ++ mH (g.kids.getD (i : Int).toNat (Cd.dflt U.goal))) [some 0, some 2] _ _ ⟨⟨by dsimp only; omega, hW, hWl⟩⟩ ⟨by dsimp only; omega⟩ (by exact bkI) | refine x0C ?_ | refine spC (fun hb => ?_) fun hb => ?_ | refine aJ (fun hb => ?_) ?_ | refine taC ?_ | refine saC ?_ | exact sdV | refine aA ?_ ?_ | refine aB mixed ?_))
   ·rw [List.take_of_length_le hge] at hJ
    rw [← hJ]
    (repeat' ((conv => whnf); first | (exfalso; omega) | refine x0C ?_ | refine spC (fun hb => ?_) fun hb => ?_ | refine aJ (fun hb => ?_) ?_ | refine taC ?_ | refine saC ?_ | exact sdV | refine aA ?_ ?_ | refine aB mixed ?_))
    all_goals exact vwV
theorem Yf (g : aK) (hG : oN g) : aG Tryz.prog Dc 39 [aP g] [] (gS (kE g)) [] := by
 have h1 := Rx g hG
 unfold kE
 cases hv : cA g with
 | false =>
  rw [hv] at h1
  refine aC Ax aF Tryz.func39 (c := _) rfl Tryz.call39 100 ?_
  (repeat' ((conv => whnf); first | (exfalso; omega) | refine cpC (h1) ?_ | refine dpC (h1) ?_ | refine x0C ?_ | refine spC (fun hb => ?_) fun hb => ?_ | refine aJ (fun hb => ?_) ?_ | refine taC ?_ | refine saC ?_ | exact sdV | refine aA ?_ ?_ | refine aB mixed ?_))
  all_goals exact vwV
 | true =>
  rw [hv] at h1
  have h2 : aG Tryz.prog Dc 74 [aP g] [] (gS (mH g)) [] := by
   unfold cA at hv
   split at hv
   ·cases hv
   ·rename_i n hn
    have : n ≤ 12 := by simpa using hv
    exact Sw 4 g 1 n (by omega) hn (by omega) hG
  refine aC Ax aF Tryz.func39 (c := _) rfl Tryz.call39 100 ?_
  (repeat' ((conv => whnf); first | (exfalso; omega) | refine cpC (h1) ?_ | refine dpC (h1) ?_ | refine cpC (h2) ?_ | refine dpC (h2) ?_ | refine x0C ?_ | refine spC (fun hb => ?_) fun hb => ?_ | refine aJ (fun hb => ?_) ?_ | refine taC ?_ | refine saC ?_ | exact sdV | refine aA ?_ ?_ | refine aB mixed ?_))
  all_goals exact vwV
theorem uE (a b : List aD) (ha : (a.length : Int) ≤ 1000000) (hb : (b.length : Int) ≤ 1000000) : aG Tryz.prog Dc 42 [eS a, eS b] [] (eS (gQ a b)) [] := by
 refine aC Ax aF Tryz.func42 (c := _) rfl Tryz.call42 400 ?_
 (repeat' ((conv => whnf); first | (exfalso; omega) | refine x0C ?_ | refine spC (fun hb => ?_) fun hb => ?_ | refine aJ (fun hb => ?_) ?_ | refine taC ?_ | refine saC ?_ | exact sdV | refine aA ?_ ?_ | refine aB mixed ?_))
 refine aT [some 0, some 1] (fun q : Nat × List aD => [(5, .slice 1 0 7 0 q.2.length), (6, iS q.1), (8, .any), (10, .any)]) (fun q => [(1, .rows U.event q.2)]) (fun q => q.1 ≤ b.length ∧ gQ a b = gQ q.2 (b.drop q.1) ∧ q.2.length ≤ a.length + q.1) (fun q => b.length - q.1) (0, List.take 0 [] ++ a) ⟨Nat.zero_le _, by simp, by simp⟩ (by exact bkI) ?_
 rintro ⟨i, out⟩ ⟨hi, he, hol⟩ K hK
 dsimp only at hi he hol hK ⊢
 rcases Nat.lt_or_ge i b.length with hlt | hge
 ·have hgi := getD_some (d := Cd.dflt U.event) hlt
  have hsd : gQ out (b.drop i) = gQ (dN out (b.getD i (U.dflt .event))) (b.drop (i + 1)) := by
   rw [jK (d := U.dflt .event) hlt]; rfl
  have hins := kA out (b.getD i (U.dflt .event))
  (repeat' ((conv => whnf); first | (exfalso; omega) | refine x0C ?_ | refine spC (fun hb => ?_) fun hb => ?_ | refine aJ (fun hb => ?_) ?_ | refine taC ?_ | refine saC ?_ | exact sdV | refine aA ?_ ?_ | refine aB mixed ?_))
  refine aT [some 0, some 1] (fun at_ : Nat => [(7, iS at_)]) (fun _ => []) (fun at_ => at_ ≤ out.length ∧ nE out (b.getD i (U.dflt .event)) out.length = nE out (b.getD i (U.dflt .event)) at_) (fun at_ => at_) out.length ⟨Nat.le_refl _, rfl⟩ (by exact bkI) ?_
  rintro at_ ⟨hat, hd⟩ K2 hK2
  have hWg : ∀ A : Nat, A ≤ out.length → (List.take ((A : Nat) : Int).toNat out ++ List.take (List.take 1 [(b.getD (i : Int).toNat (Cd.dflt U.event))] ++ List.take (((out.length : Nat) : Int).toNat - ((A : Nat) : Int).toNat) (List.drop (0 + ((A : Nat) : Int).toNat) out)).length (List.drop 0 (List.take 1 [(b.getD (i : Int).toNat (Cd.dflt U.event))] ++ List.take (((out.length : Nat) : Int).toNat - ((A : Nat) : Int).toNat) (List.drop (0 + ((A : Nat) : Int).toNat) out)))) = out.take A ++ (b.getD (i : Int).toNat (Cd.dflt U.event)) :: out.drop A := by
   intro A hA
   rw [Int.toNat_natCast, Int.toNat_natCast, Nat.zero_add, List.drop_zero, List.take_length, List.take_of_length_le (l := out.drop A) (by simp)]
   rfl
  match at_ with
  | 0 =>
   have hd0 : nE out (b.getD i (U.dflt .event)) out.length = 0 := hd
   have hie : (List.take ((0 : Nat) : Int).toNat out ++ List.take (List.take 1 [(b.getD (i : Int).toNat (Cd.dflt U.event))] ++ List.take (((out.length : Nat) : Int).toNat - ((0 : Nat) : Int).toNat) (List.drop (0 + ((0 : Nat) : Int).toNat) out)).length (List.drop 0 (List.take 1 [(b.getD (i : Int).toNat (Cd.dflt U.event))] ++ List.take (((out.length : Nat) : Int).toNat - ((0 : Nat) : Int).toNat) (List.drop (0 + ((0 : Nat) : Int).toNat) out)))) = dN out (b.getD i (U.dflt .event)) := by
    rw [hWg 0 (by omega)]
    unfold dN; rw [hd0, if_neg (by omega)]; rfl
   have hsd2 : gQ a b = gQ (List.take ((0 : Nat) : Int).toNat out ++ List.take (List.take 1 [(b.getD (i : Int).toNat (Cd.dflt U.event))] ++ List.take (((out.length : Nat) : Int).toNat - ((0 : Nat) : Int).toNat) (List.drop (0 + ((0 : Nat) : Int).toNat) out)).length (List.drop 0 (List.take 1 [(b.getD (i : Int).toNat (Cd.dflt U.event))] ++ List.take (((out.length : Nat) : Int).toNat - ((0 : Nat) : Int).toNat) (List.drop (0 + ((0 : Nat) : Int).toNat) out)))) (b.drop (i + 1)) := by rw [he, hsd, hie]
   have hWl : (List.take ((0 : Nat) : Int).toNat out ++ List.take (List.take 1 [(b.getD (i : Int).toNat (Cd.dflt U.event))] ++ List.take (((out.length : Nat) : Int).toNat - ((0 : Nat) : Int).toNat) (List.drop (0 + ((0 : Nat) : Int).toNat) out)).length (List.drop 0 (List.take 1 [(b.getD (i : Int).toNat (Cd.dflt U.event))] ++ List.take (((out.length : Nat) : Int).toNat - ((0 : Nat) : Int).toNat) (List.drop (0 + ((0 : Nat) : Int).toNat) out)))).length ≤ a.length + (i + 1) := by rw [hie]; omega
   (repeat' ((conv => whnf); first | (exfalso; omega) | refine hK (i + 1, (List.take ((0 : Nat) : Int).toNat out ++ List.take (List.take 1 [(b.getD (i : Int).toNat (Cd.dflt U.event))] ++ List.take (((out.length : Nat) : Int).toNat - ((0 : Nat) : Int).toNat) (List.drop (0 + ((0 : Nat) : Int).toNat) out)).length (List.drop 0 (List.take 1 [(b.getD (i : Int).toNat (Cd.dflt U.event))] ++ List.take (((out.length : Nat) : Int).toNat - ((0 : Nat) : Int).toNat) (List.drop (0 + ((0 : Nat) : Int).toNat) out))))) [some 0, some 4] _ _ ⟨⟨by dsimp only; omega, hsd2, hWl⟩⟩ ⟨by dsimp only; omega⟩ (by exact bkI) | refine x0C ?_ | refine spC (fun hb => ?_) fun hb => ?_ | refine aJ (fun hb => ?_) ?_ | refine taC ?_ | refine saC ?_ | exact sdV | refine aA ?_ ?_ | refine aB mixed ?_))
  | k + 1 =>
   have ek : 0 + (((k + 1 : Nat) : Int) - 1).toNat = k := by omega
   have ek2 : 0 + (max 0 (((k + 1 : Nat) : Int) - 1)).toNat = k := by omega
   have hb1 := kL (b.getD (i : Int).toNat (Cd.dflt U.event)) (out.getD (0 + (((k + 1 : Nat) : Int) - 1).toNat) (Cd.dflt U.event))
   have hb2 := kL (out.getD (0 + (max 0 (((k + 1 : Nat) : Int) - 1)).toNat) (Cd.dflt U.event)) (b.getD (i : Int).toNat (Cd.dflt U.event))
   cases hB : fU (b.getD (i : Int).toNat (Cd.dflt U.event)) (out.getD (0 + (((k + 1 : Nat) : Int) - 1).toNat) (Cd.dflt U.event)) with
   | true =>
    rw [hB] at hb1
    rw [ek] at hB
    have hd2 : nE out (b.getD i (U.dflt .event)) out.length = nE out (b.getD i (U.dflt .event)) k := by rw [hd, nE, if_pos (show fU (b.getD i (U.dflt .event)) (out.getD k (U.dflt .event)) = true from hB)]
    (repeat' ((conv => whnf); first | (exfalso; omega) | refine cpC (hb1) ?_ | refine dpC (hb1) ?_ | refine hK2 k [some 0, some 1] _ _ ⟨⟨by omega, hd2⟩⟩ ⟨by omega⟩ (by exact bkI) | refine x0C ?_ | refine spC (fun hb => ?_) fun hb => ?_ | refine aJ (fun hb => ?_) ?_ | refine taC ?_ | refine saC ?_ | exact sdV | refine aA ?_ ?_ | refine aB mixed ?_))
   | false =>
    rw [hB] at hb1
    rw [ek] at hB
    have hd2 : nE out (b.getD i (U.dflt .event)) out.length = k + 1 := by rw [hd, nE, if_neg (fun h => by rw [show fU (b.getD i (U.dflt .event)) (out.getD k (U.dflt .event)) = false from hB] at h; cases h)]
    cases hC : fU (out.getD (0 + (max 0 (((k + 1 : Nat) : Int) - 1)).toNat) (Cd.dflt U.event)) (b.getD (i : Int).toNat (Cd.dflt U.event)) with
    | false =>
     rw [hC] at hb2
     rw [ek2] at hC
     have hie : dN out (b.getD i (U.dflt .event)) = out := by
      unfold dN; rw [hd2, if_pos ⟨by omega, hC⟩]
     have hsd2 : gQ a b = gQ out (b.drop (i + 1)) := by rw [he, hsd, hie]
     (repeat' ((conv => whnf); first | (exfalso; omega) | refine cpC (hb1) ?_ | refine dpC (hb1) ?_ | refine cpC (hb2) ?_ | refine dpC (hb2) ?_ | refine hK (i + 1, out) [some 0, some 1] _ _ ⟨⟨by dsimp only; omega, hsd2, by dsimp only; omega⟩⟩ ⟨by dsimp only; omega⟩ (by exact bkI) | refine x0C ?_ | refine spC (fun hb => ?_) fun hb => ?_ | refine aJ (fun hb => ?_) ?_ | refine taC ?_ | refine saC ?_ | exact sdV | refine aA ?_ ?_ | refine aB mixed ?_))
    | true =>
     rw [hC] at hb2
     rw [ek2] at hC
     have hie : (List.take (((k + 1) : Nat) : Int).toNat out ++ List.take (List.take 1 [(b.getD (i : Int).toNat (Cd.dflt U.event))] ++ List.take (((out.length : Nat) : Int).toNat - (((k + 1) : Nat) : Int).toNat) (List.drop (0 + (((k + 1) : Nat) : Int).toNat) out)).length (List.drop 0 (List.take 1 [(b.getD (i : Int).toNat (Cd.dflt U.event))] ++ List.take (((out.length : Nat) : Int).toNat - (((k + 1) : Nat) : Int).toNat) (List.drop (0 + (((k + 1) : Nat) : Int).toNat) out)))) = dN out (b.getD i (U.dflt .event)) := by
      rw [hWg (k + 1) (by omega)]
      unfold dN; rw [hd2, if_neg (fun h => by rw [show fU (out.getD (k + 1 - 1) (U.dflt .event)) (b.getD i (U.dflt .event)) = true from hC] at h; cases h.2)]; rfl
     have hsd2 : gQ a b = gQ (List.take (((k + 1) : Nat) : Int).toNat out ++ List.take (List.take 1 [(b.getD (i : Int).toNat (Cd.dflt U.event))] ++ List.take (((out.length : Nat) : Int).toNat - (((k + 1) : Nat) : Int).toNat) (List.drop (0 + (((k + 1) : Nat) : Int).toNat) out)).length (List.drop 0 (List.take 1 [(b.getD (i : Int).toNat (Cd.dflt U.event))] ++ List.take (((out.length : Nat) : Int).toNat - (((k + 1) : Nat) : Int).toNat) (List.drop (0 + (((k + 1) : Nat) : Int).toNat) out)))) (b.drop (i + 1)) := by rw [he, hsd, hie]
     have hWl : (List.take (((k + 1) : Nat) : Int).toNat out ++ List.take (List.take 1 [(b.getD (i : Int).toNat (Cd.dflt U.event))] ++ List.take (((out.length : Nat) : Int).toNat - (((k + 1) : Nat) : Int).toNat) (List.drop (0 + (((k + 1) : Nat) : Int).toNat) out)).length (List.drop 0 (List.take 1 [(b.getD (i : Int).toNat (Cd.dflt U.event))] ++ List.take (((out.length : Nat) : Int).toNat - (((k + 1) : Nat) : Int).toNat) (List.drop (0 + (((k + 1) : Nat) : Int).toNat) out)))).length ≤ a.length + (i + 1) := by rw [hie]; omega
     (repeat' ((conv => whnf); first | (exfalso; omega) | refine cpC (hb1) ?_ | refine dpC (hb1) ?_ | refine cpC (hb2) ?_ | refine dpC (hb2) ?_ | refine hK (i + 1, (List.take (((k + 1) : Nat) : Int).toNat out ++ List.take (List.take 1 [(b.getD (i : Int).toNat (Cd.dflt U.event))] ++ List.take (((out.length : Nat) : Int).toNat - (((k + 1) : Nat) : Int).toNat) (List.drop (0 + (((k + 1) : Nat) : Int).toNat) out)).length (List.drop 0 (List.take 1 [(b.getD (i : Int).toNat (Cd.dflt U.event))] ++ List.take (((out.length : Nat) : Int).toNat - (((k + 1) : Nat) : Int).toNat) (List.drop (0 + (((k + 1) : Nat) : Int).toNat) out))))) [some 0, some 4] _ _ ⟨⟨by dsimp only; omega, hsd2, hWl⟩⟩ ⟨by dsimp only; omega⟩ (by exact bkI) | refine x0C ?_ | refine spC (fun hb => ?_) fun hb => ?_ | refine aJ (fun hb => ?_) ?_ | refine taC ?_ | refine saC ?_ | exact sdV | refine aA ?_ ?_ | refine aB mixed ?_))
 ·rw [List.drop_of_length_le hge] at he
  rw [he]
  (repeat' ((conv => whnf); first | (exfalso; omega) | refine x0C ?_ | refine spC (fun hb => ?_) fun hb => ?_ | refine aJ (fun hb => ?_) ?_ | refine taC ?_ | refine saC ?_ | exact sdV | refine aA ?_ ?_ | refine aB mixed ?_))
  all_goals exact vwV
def Ku (set : Int) (j : Nat) : Bool := decide ((nO .i64 set j).tmod 2 = 1)
def ofN (l : List aD) (set : Int) (i : Nat) : List aD := ((List.range i).filter (Ku set)).map fun j => l.getD j (U.dflt .event)
theorem X7 (l : List aD) (set : Int) (i : Nat) : ofN l set (i + 1) = if Ku set i then ofN l set i ++ [l.getD i (U.dflt .event)] else ofN l set i := by
 unfold ofN
 rw [List.range_succ, List.filter_append, List.map_append]
 cases h : Ku set i with
 | true => rw [if_pos rfl, List.filter_cons, if_pos h]; rfl
 | false => rw [if_neg (by simp), List.filter_cons, if_neg (by rw [h]; simp)]; simp
theorem Rl (l : List aD) (set : Int) (i : Nat) : (ofN l set i).length ≤ i := by
 unfold ofN
 rw [List.length_map]
 exact Nat.le_trans (List.length_filter_le _ _) (by simp)
theorem Gj (l : List aD) (set : Int) : ∀ i : Nat, i ≤ l.length → (ofN l set i).Sublist (l.take i)
 | 0, _ => by simp [ofN]
 | i + 1, h => by
  rw [X7, dW (d := U.dflt .event) (by omega)]
  have ih := Gj l set i (by omega)
  split
  ·exact ih.append (List.Sublist.refl _)
  ·exact ih.trans (List.sublist_append_left _ _)
def ofS (l : List aD) (set : Int) : List aD := ofN l set l.length
theorem Rd (l : List aD) (set : Int) : (ofS l set).Sublist l := by
 have := Gj l set l.length (Nat.le_refl _)
 rwa [List.take_length] at this
theorem lof (l : List aD) (set : Int) (hl : (l.length : Int) ≤ 120) : aG Tryz.prog Dc 9 [eS l, iS set] [] (eS (ofS l set)) [] := by
 refine aC Ax aF Tryz.func9 (c := _) rfl Tryz.call9 100 ?_
 (repeat' ((conv => whnf); first | (exfalso; omega) | refine x0C ?_ | refine spC (fun hb => ?_) fun hb => ?_ | refine aJ (fun hb => ?_) ?_ | refine taC ?_ | refine saC ?_ | exact sdV | refine aA ?_ ?_ | refine aB mixed ?_))
 refine aT [none] (fun q : Nat × List aD => [(5, .slice 0 0 7 0 q.2.length), (6, iS q.1)]) (fun q => [(0, .rows U.event q.2)]) (fun q => q.1 ≤ l.length ∧ q.2 = ofN l set q.1) (fun q => l.length - q.1) (0, []) ⟨Nat.zero_le _, by simp [ofN]⟩ (by exact bkI) ?_
 rintro ⟨i, J⟩ ⟨hi, hJ⟩ K hK
 dsimp only at hi hJ hK ⊢
 have hJl : J.length ≤ i := by rw [hJ]; exact Rl _ _ _
 rcases Nat.lt_or_ge i l.length with hlt | hge
 ·have hs := X7 l set i
  have hW : (nO .i64 set (i : Int)).tmod 2 = 1 → List.take J.length J ++ List.take 1 (List.drop 0 [l.getD (i : Int).toNat (Cd.dflt U.event)]) = ofN l set (i + 1) := fun h => by
   rw [hs, if_pos (by unfold Ku; exact decide_eq_true h), ← hJ, List.take_length]; rfl
  have hN : ¬ (nO .i64 set (i : Int)).tmod 2 = 1 → J = ofN l set (i + 1) := fun h => by
   rw [hs, if_neg (by unfold Ku; rw [decide_eq_false h]; simp), ← hJ]
  (repeat' ((conv => whnf); first | (exfalso; omega) | refine hK (i + 1, J) [some 0] _ _ ⟨⟨by dsimp only; omega, hN (by assumption)⟩⟩ ⟨by dsimp only; omega⟩ (by exact bkI) | refine hK (i + 1, List.take J.length J ++ List.take 1 (List.drop 0 [l.getD (i : Int).toNat (Cd.dflt U.event)])) [some 2] _ _ ⟨⟨by dsimp only; omega, hW (by assumption)⟩⟩ ⟨by dsimp only; omega⟩ (by exact bkI) | refine x0C ?_ | refine spC (fun hb => ?_) fun hb => ?_ | refine aJ (fun hb => ?_) ?_ | refine taC ?_ | refine saC ?_ | exact sdV | refine aA ?_ ?_ | refine aB mixed ?_))
 ·unfold ofS
  rw [show l.length = i by omega, ← hJ]
  (repeat' ((conv => whnf); first | (exfalso; omega) | refine x0C ?_ | refine spC (fun hb => ?_) fun hb => ?_ | refine aJ (fun hb => ?_) ?_ | refine taC ?_ | refine saC ?_ | exact sdV | refine aA ?_ ?_ | refine aB mixed ?_))
  all_goals exact vwV
def Ki : List Int := (List.replicate (Int.toNat 24) 0).set (0 + Int.toNat 7) 8
def exS : aK := ⟨1, Ki, 100, 200, 20, 60, false, 0, 0, 0, [], []⟩
def exE : aD := ⟨1, 150, 5, Ki, 30, 2, false⟩
def exF : aD := ⟨1, 160, 6, Ki, 30, -1, false⟩
theorem Bs : aG Tryz.prog Dc 11 [] [] (.tuple [aP exS, evA exE, evA exF]) [] := by
 refine aC Ax aF Tryz.func11 (c := _) rfl Tryz.call11 200 ?_
 (repeat' ((conv => whnf); first | (exfalso; omega) | refine x0C ?_ | refine spC (fun hb => ?_) fun hb => ?_ | refine aJ (fun hb => ?_) ?_ | refine taC ?_ | refine saC ?_ | exact sdV | refine aA ?_ ?_ | refine aB mixed ?_))
 all_goals exact vwV
theorem Aj (a b : Int) : aG Tryz.prog Dc 15 [iS a, iS b] [] (evA ⟨2, a, b, [], 0, 0, false⟩) [] := by
 refine aC Ax aF Tryz.func15 (c := _) rfl Tryz.call15 100 ?_
 (repeat' ((conv => whnf); first | (exfalso; omega) | refine x0C ?_ | refine spC (fun hb => ?_) fun hb => ?_ | refine aJ (fun hb => ?_) ?_ | refine taC ?_ | refine saC ?_ | exact sdV | refine aA ?_ ?_ | refine aB mixed ?_))
 all_goals exact vwV
def q0u (g : aK) (l : List aD) (p : Int) : Bool := decide ((sB g l).2.2.2 = 0) && (sB g l).2.2.1 && decide ((sB g l).1 = p)
theorem q1t (g : aK) (hG : oN g) (l : List aD) (hl : (l.length : Int) ≤ 9223372036854775807) (hE : ∀ e ∈ l, jM e) (p : Int) : aG Tryz.prog Dc 16 [aP g, eS l, iS p] [] (bS (q0u g l p)) [] := by
 have h1 := Wa g hG l hl hE
 have h2 := Zv g hG l hl hE
 unfold q0u
 generalize sB g l = q at *
 obtain ⟨a, b, c, d⟩ := q
 dsimp only at *
 refine aC Ax aF Tryz.func16 (c := _) rfl Tryz.call16 100 ?_
 (repeat' ((conv => whnf); first | refine x0C (eB ?_ rfl) | (exfalso; omega) | refine cpC (h1) ?_ | refine dpC (h1) ?_ | refine cpC (h2) ?_ | refine dpC (h2) ?_ | refine x0C ?_ | refine spC (fun hb => ?_) fun hb => ?_ | refine aJ (fun hb => ?_) ?_ | refine taC ?_ | refine saC ?_ | exact sdV | refine aA ?_ ?_ | refine aB mixed ?_))
 all_goals clear h1 h2
 all_goals (first | (simp_all []; done) | (simp_all []; omega) | (simp_all []; grind))
@[reducible] def Yd (g : aK) (image : Int) : HS Cd := .vart none [iS g.kind, lS g.rows, iS g.from_, iS g.to_, iS g.low, iS g.high, bS g.clear, iS g.days, iS g.times, iS g.within, lS g.cents, .p (.dsl U.goal g.kids), iS image]
theorem tat (g : aK) (hg : (g.rows.length : Int) ≤ 1000) (image m look : Int) (hi : 0 ≤ image ∧ image ≤ 1000000) : aG Tryz.prog Dc 64 [.ptr 0 0, iS m, iS look] [Yd g image] (.agg [iS 1, iS m, iS image, .slice 1 0 1 0 g.rows.length, iS g.low, iS look, bS true]) [Yd g (image + 1), .rows U.int g.rows] := by
 have h := Z2 g.rows (by omega)
 refine aC Ax aF Tryz.func64 (c := _) rfl Tryz.call64 200 ?_
 (repeat' ((conv => whnf); first | (exfalso; omega) | refine chC [] h ?_ | (refine bZ [] h rfl rfl trivial ?_) | exact enC [some 0, some 2] | refine x0C ?_ | refine spC (fun hb => ?_) fun hb => ?_ | refine aJ (fun hb => ?_) ?_ | refine taC ?_ | refine saC ?_ | exact sdV | refine aA ?_ ?_ | refine aB mixed ?_))
@[reducible] def q16 (s : Option (List aD)) : SV Cd := match s with
 | none => .tuple [eS [], bS false]
 | some l => .tuple [eS l, bS true]
def On (g : aK) (m image look : Int) : aD := ⟨1, m, image, g.rows, g.low, look, true⟩
def Ud (g : aK) (l : List aD) (now image : Int) : Option (List aD) := if (dD g l).isSome then some [] else if max now g.from_ < g.to_ then some [On g (max now g.from_) image 0] else none
theorem Mw (g : aK) (hk : g.kind = 1) (hr : (g.rows.length : Int) ≤ 1000) (l : List aD) (now image : Int) (hi : 0 ≤ image ∧ image ≤ 1000000) (hs : aG Tryz.prog Dc 61 [bU l now, aP g] [] (rI (dD g l)) []) : aG Tryz.prog Dc 33 [bU l now, aP g, iS image] [] (q16 (Ud g l now image)) [] := by
 unfold Ud
 cases hm : dD g l with
 | some w =>
  obtain ⟨p, im⟩ := w
  rw [hm] at hs
  refine aC Ax aF Tryz.func33 (c := _) rfl Tryz.call33 300 ?_
  (repeat' ((conv => whnf); first | (exfalso; omega) | refine cpC (hs) ?_ | refine dpC (hs) ?_ | refine x0C ?_ | refine spC (fun hb => ?_) fun hb => ?_ | refine aJ (fun hb => ?_) ?_ | refine taC ?_ | refine saC ?_ | exact sdV | refine aA ?_ ?_ | refine aB mixed ?_))
  all_goals exact vwV
 | none =>
  rw [hm] at hs
  by_cases hlt : max now g.from_ < g.to_
  ·rw [if_neg (by simp), if_pos hlt]
   have ha := tat g hr image (max now g.from_) 0 hi
   refine aC Ax aF Tryz.func33 (c := _) rfl Tryz.call33 300 ?_
   (repeat' ((conv => whnf); first | (exfalso; omega) | refine cpC (hs) ?_ | refine dpC (hs) ?_ | refine chC [some 4] ha ?_ | (refine uW (vB [some 0, some 1, some 2, some 3, some 4, none] [(65, evA (On g (max now g.from_) image 0))] [(5, .rows U.int [])] (by exact bkV) ?_)) | refine x0C ?_ | refine spC (fun hb => ?_) fun hb => ?_ | refine aJ (fun hb => ?_) ?_ | refine taC ?_ | refine saC ?_ | exact sdV | refine aA ?_ ?_ | refine aB mixed ?_))
   all_goals exact vwV
  ·rw [if_neg (by simp), if_neg hlt]
   refine aC Ax aF Tryz.func33 (c := _) rfl Tryz.call33 300 ?_
   (repeat' ((conv => whnf); first | (exfalso; omega) | refine cpC (hs) ?_ | refine dpC (hs) ?_ | refine x0C ?_ | refine spC (fun hb => ?_) fun hb => ?_ | refine aJ (fun hb => ?_) ?_ | refine taC ?_ | refine saC ?_ | exact sdV | refine aA ?_ ?_ | refine aB mixed ?_))
   all_goals exact vwV
def V1 (now : Int) (e : aD) : Bool := decide (now ≤ e.at_) || decide (899 < e.image)
theorem Zu (now : Int) (e : aD) : aG Tryz.prog Dc 31 [evA e, .dptr [.int .i64 now] 0] [] (bS (V1 now e)) [] := by
 refine aC Ax aF Tryz.func31 (c := _) rfl Tryz.call31 100 ?_
 (repeat' ((conv => whnf); first | refine x0C (eB ?_ rfl) | (exfalso; omega) | refine x0C ?_ | refine spC (fun hb => ?_) fun hb => ?_ | refine aJ (fun hb => ?_) ?_ | refine taC ?_ | refine saC ?_ | exact sdV | refine aA ?_ ?_ | refine aB mixed ?_))
 all_goals (first | (simp_all [V1]; done) | (simp_all [V1]; omega) | (simp_all [V1]; grind))
def vJ (l : List aD) (i : Nat) : Int := (l.take i).foldl (fun m e => max m (e.image + 1)) 0
theorem wY {l : List aD} {i : Nat} (h : i < l.length) : vJ l (i + 1) = max (vJ l i) ((l.getD i (U.dflt .event)).image + 1) := by
 unfold vJ
 rw [dW (d := U.dflt .event) h, List.foldl_append]; rfl
theorem Z3 {l : List aD} (h : ∀ e ∈ l, 0 ≤ e.image ∧ e.image ≤ 999) : ∀ i : Nat, i ≤ l.length → 0 ≤ vJ l i ∧ vJ l i ≤ 1000
 | 0, _ => by simp [vJ]
 | i + 1, hi => by
  have ih := Z3 h i (by omega)
  rw [wY (by omega)]
  have hg := getD_some (d := U.dflt .event) (show i < l.length by omega)
  have := h _ (List.mem_of_getElem? hg)
  rw [Int.toNat_natCast] at this
  omega
def Jm (l : List aD) : Int := vJ l l.length
theorem U7 {l : List aD} (h : aX l = true) : ∀ e ∈ l, 0 ≤ e.image ∧ e.image ≤ 999 := by
 intro e he
 unfold aX at h
 simp only [Bool.and_eq_true] at h
 have hf := ((B6 l).1 h.2).1 e he
 unfold eJ at hf
 simp only [Bool.and_eq_true, aM] at hf
 exact hf.1.2
theorem Cf (s : Option (List aD)) : q16 s = .tuple [eS (s.getD []), bS s.isSome] := by cases s <;> rfl
def okF (g : aK) (l : List aD) (now : Int) : Bool := !l.any (V1 now) && inB now 0 1000000 && cA g && aX l
theorem Un (g : aK) (hG : oN g) (l : List aD) (hl : (l.length : Int) ≤ 9223372036854775807) (hE : ∀ e ∈ l, jM e) (now : Int) (F : Option (List aD)) (hf : okF g l now = true → aG Tryz.prog Dc 33 [bU l now, aP g, iS (Jm l)] [] (q16 F) []) :
  aG Tryz.prog Dc 13 [aP g, eS l, iS now] [] (if okF g l now then .tuple [eS (F.getD []), bS F.isSome, iS 0] else .tuple [eS [], bS false, iS 150]) [] := by
 have h1 := jV g hG
 have h2 := iC l hl hE
 have h3 := Yw (f := 31) (.c1 [.int .i64 now]) l hl fun e _ => Zu now e
 have h4 := tin now 0 1000000
 cases hok : okF g l now with
 | false =>
  rw [if_neg (by simp)]
  have hno : l.any (V1 now) = true ∨ inB now 0 1000000 = false ∨ cA g = false ∨ aX l = false := by
   unfold okF at hok
   simp only [Bool.and_eq_false_iff, Bool.not_eq_false'] at hok
   rcases hok with ((h | h) | h) | h
   ·exact .inl h
   ·exact .inr (.inl h)
   ·exact .inr (.inr (.inl h))
   ·exact .inr (.inr (.inr h))
  clear hok hf
  cases q1 : l.any (V1 now) <;> cases q2 : inB now 0 1000000 <;> cases q3 : cA g <;> cases q4 : aX l <;> simp only [q1, q2, q3, q4] at h1 h2 h3 h4 hno
  case false.true.true.true => simp at hno
  all_goals (
   refine aC Ax aF Tryz.func13 (c := _) rfl Tryz.call13 300 ?_
   (repeat' ((conv => whnf); first | (exfalso; omega) | refine cpC (h1) ?_ | refine dpC (h1) ?_ | refine cpC (h2) ?_ | refine dpC (h2) ?_ | refine rdC (h3) ?_ | refine cpC (h4) ?_ | refine dpC (h4) ?_ | refine x0C ?_ | refine spC (fun hb => ?_) fun hb => ?_ | refine aJ (fun hb => ?_) ?_ | refine taC ?_ | refine saC ?_ | exact sdV | refine aA ?_ ?_ | refine aB mixed ?_))
   all_goals exact vwV)
 | true =>
  rw [if_pos rfl]
  have hf := hf hok
  have hok' := hok
  unfold okF at hok'
  simp only [Bool.and_eq_true, Bool.not_eq_true'] at hok'
  obtain ⟨⟨⟨q1, q2⟩, q3⟩, q4⟩ := hok'
  rw [q3] at h1
  rw [q4] at h2
  rw [q1] at h3
  rw [q2] at h4
  rw [Cf] at hf
  have hlen := (P8 q4 hE).2.1
  have him := U7 q4
  refine aC Ax aF Tryz.func13 (c := _) rfl Tryz.call13 300 ?_
  (repeat' ((conv => whnf); first | (exfalso; omega) | refine cpC (h1) ?_ | refine dpC (h1) ?_ | refine cpC (h2) ?_ | refine dpC (h2) ?_ | refine rdC (h3) ?_ | refine cpC (h4) ?_ | refine dpC (h4) ?_ | refine x0C ?_ | refine spC (fun hb => ?_) fun hb => ?_ | refine aJ (fun hb => ?_) ?_ | refine taC ?_ | refine saC ?_ | exact sdV | refine aA ?_ ?_ | refine aB mixed ?_))
  refine aT [some 0, some 1] (fun i : Nat => [(10, iS (vJ l i)), (36, iS i)]) (fun _ => []) (fun i => i ≤ l.length) (fun i => l.length - i) 0 (Nat.zero_le _) (by exact bkI) ?_
  intro i hi K hK
  have hnb := Z3 him i hi
  rcases Nat.lt_or_ge i l.length with hlt | hge
  ·have hgi := getD_some (d := Cd.dflt U.event) hlt
   have hii := him _ (List.mem_of_getElem? hgi)
   have hsu := wY hlt
   have hsu2 : max (vJ l i) ((l.getD (i : Int).toNat (Cd.dflt U.event)).image + 1) = vJ l (i + 1) := hsu.symm
   (repeat' ((conv => whnf); first | (exfalso; omega) | refine hK (i + 1) [some 0, some 1] _ _ ⟨by omega⟩ ⟨by omega⟩ (by (rw [← hsu2]; exact bkI)) | refine x0C ?_ | refine spC (fun hb => ?_) fun hb => ?_ | refine aJ (fun hb => ?_) ?_ | refine taC ?_ | refine saC ?_ | exact sdV | refine aA ?_ ?_ | refine aB mixed ?_))
  ·have hie : vJ l i = Jm l := by unfold Jm; rw [show l.length = i by omega]
   rw [hie]
   (repeat' ((conv => whnf); first | (exfalso; omega) | refine cpC (hf) ?_ | refine dpC (hf) ?_ | refine x0C ?_ | refine spC (fun hb => ?_) fun hb => ?_ | refine aJ (fun hb => ?_) ?_ | refine taC ?_ | refine saC ?_ | exact sdV | refine aA ?_ ?_ | refine aB mixed ?_))
   all_goals exact vwV
theorem Uo (g : aK) (l : List aD) (now : Int) (a : List aD) (b : Bool) (c : Int) (h : aG Tryz.prog Dc 13 [aP g, eS l, iS now] [] (.tuple [eS a, bS b, iS c]) []) : aG Tryz.prog Dc 14 [aP g, eS l, iS now] [] (.tuple [bS (decide (c = 0) && !b), iS c]) [] := by
 by_cases hc : c = 0
 ·rw [decide_eq_true hc, Bool.true_and]
  refine aC Ax aF Tryz.func14 (c := _) rfl Tryz.call14 100 ?_
  (repeat' ((conv => whnf); first | (exfalso; omega) | refine cpC (h) ?_ | refine dpC (h) ?_ | refine x0C ?_ | refine spC (fun hb => ?_) fun hb => ?_ | refine aJ (fun hb => ?_) ?_ | refine taC ?_ | refine saC ?_ | exact sdV | refine aA ?_ ?_ | refine aB mixed ?_))
  all_goals exact vwV
 ·rw [decide_eq_false hc, Bool.false_and]
  refine aC Ax aF Tryz.func14 (c := _) rfl Tryz.call14 100 ?_
  (repeat' ((conv => whnf); first | (exfalso; omega) | refine cpC (h) ?_ | refine dpC (h) ?_ | refine x0C ?_ | refine spC (fun hb => ?_) fun hb => ?_ | refine aJ (fun hb => ?_) ?_ | refine taC ?_ | refine saC ?_ | exact sdV | refine aA ?_ ?_ | refine aB mixed ?_))
  all_goals exact vwV
def G3 : aK := ⟨2, [], 0, 0, 3, 0, false, 0, 0, 10, [], [exS]⟩
def Qw : aK := ⟨2, [], 0, 0, 3, 0, false, 0, 0, 9, [], [exS]⟩
def lC : aK := ⟨4, [], 0, 0, 0, 0, false, 0, 0, 30, [], [exS]⟩
def Jv : aK := ⟨6, [], 0, 0, 0, 0, false, 0, 0, 0, [7, 5], [exS, lC]⟩
def exD (a b : Int) : aD := ⟨2, a, b, [], 0, 0, false⟩
theorem iK : oN exS := by
 rw [dF]
 exact ⟨⟨by decide, by decide, by decide⟩, by rw [show exS.kids = [] from rfl, GAllL]; trivial⟩
theorem sE (g : aK) (h : g.kids = [exS]) (h1 : g.rows = []) (h2 : g.cents = []) : oN g := by
 rw [dF]
 refine ⟨⟨by rw [h1]; decide, by rw [h2]; decide, by rw [h]; decide⟩, ?_⟩
 rw [h, GAllL, GAllL]
 exact ⟨iK, trivial⟩
theorem nQ : oN lC := sE _ rfl rfl rfl
theorem xJ : oN Jv := by
 rw [dF]
 refine ⟨⟨by decide, by decide, by decide⟩, ?_⟩
 rw [show Jv.kids = [exS, lC] from rfl, GAllL, GAllL, GAllL]
 exact ⟨iK, nQ, trivial⟩
theorem Nn : jM exE := by unfold jM; decide
theorem Zs : jM exF := by unfold jM; decide
theorem Zf (a b : Int) : jM (exD a b) := by
 show ((([] : List Int).length : Nat) : Int) ≤ _
 decide
theorem Jz (g : aK) (hG : oN g) (l : List aD) (hl : (l.length : Int) ≤ 9223372036854775807) (hE : ∀ e ∈ l, jM e) (b : Bool) (c : Int) (h : (sB g l).2.2 = (b, c)) : aG Tryz.prog Dc 8 [aP g, eS l] [] (.tuple [bS b, iS c]) [] := by
 have := Zv g hG l hl hE
 rw [h] at this
 exact this
theorem Hm (g : aK) (hG : oN g) (l : List aD) (hl : (l.length : Int) ≤ 9223372036854775807) (hE : ∀ e ∈ l, jM e) (p : Int) (h : q0u g l p = true) : aG Tryz.prog Dc 16 [aP g, eS l, iS p] [] (bS true) [] := by
 have := q1t g hG l hl hE p
 rw [h] at this
 exact this
theorem Qn (now : Int) (F : Option (List aD)) (h1 : okF exS [] now = true) (h2 : Ud exS [] now (Jm []) = F) : aG Tryz.prog Dc 13 [aP exS, eS [], iS now] [] (.tuple [eS (F.getD []), bS F.isSome, iS 0]) [] := by
 have := Un exS iK [] (by decide) (fun e h => by cases h) now F fun hok => by
  have hv : cA exS = true := by decide +kernel
  have := Mw exS rfl (by decide) [] now (Jm []) (by decide) (rO iK hv now ⟨by decide, fun e h => (by cases h), fun e h => (by cases h), fun e h => (by cases h)⟩)
  rw [h2] at this
  exact this
 rw [if_pos h1] at this
 exact this
@[reducible] def Tq (g : aK) : HS Cd := .vart none [iS g.kind, lS g.rows, iS g.from_, iS g.to_, iS g.low, iS g.high, bS g.clear, iS g.days, iS g.times, iS g.within, lS g.cents, .p (.dsl U.goal g.kids)]
theorem q03 : aG Tryz.prog Dc 4 [] [] (bS true) [] := by
 have mE : ∀ e ∈ [exE, exF], jM e := fun e h => by simp at h; rcases h with rfl | rfl <;> first | exact Nn | exact Zs
 have u1 : aG Tryz.prog Dc 12 [aP G3, eS [exE, exF]] [] (.tuple [lS [5, 6], iS 0]) [] := by
  have := q0e G3 (sE _ rfl rfl rfl) [exE, exF] (by decide) mE
  rw [show sB G3 [exE, exF] = (0, [5, 6], true, 0) by decide +kernel] at this
  exact this
 have f1 : aG Tryz.prog Dc 13 [aP exS, .p (.lit (.slice none 0 0)), iS 199] [] (.tuple [eS [On exS 199 0 0], bS true, iS 0]) [] := Pm (Qn 199 (some [On exS 199 0 0]) (by decide +kernel) (by decide +kernel)) snV
 have d1 : aG Tryz.prog Dc 14 [aP exS, .p (.lit (.slice none 0 0)), iS 200] [] (.tuple [bS true, iS 0]) [] := Pm (Uo exS [] 200 [] false 0 (Qn 200 none (by decide +kernel) (by decide +kernel))) snV
 have m1 := Jz Qw (sE _ rfl rfl rfl) [exE, exF] (by decide) mE false 0 (by decide +kernel)
 have m2 := Jz lC nQ [exE, exD 181 5] (by decide) (fun e h => by simp at h; rcases h with rfl | rfl <;> first | exact Nn | exact Zf _ _) false 0 (by decide +kernel)
 have m3 := Jz exS iK [exF, exE] (by decide) (fun e h => by simp at h; rcases h with rfl | rfl <;> first | exact Nn | exact Zs) false 150 (by decide +kernel)
 have t1 := Hm exS iK [exE] (by decide) (fun e h => by simp at h; rw [h]; exact Nn) 0 (by decide +kernel)
 have t2 := Hm G3 (sE _ rfl rfl rfl) [exE, exF] (by decide) mE 0 (by decide +kernel)
 have t3 := Hm lC nQ [exE, exD 180 5] (by decide) (fun e h => by simp at h; rcases h with rfl | rfl <;> first | exact Nn | exact Zf _ _) 0 (by decide +kernel)
 have t4 := Hm Jv xJ [exE] (by decide) (fun e h => by simp at h; rw [h]; exact Nn) 7 (by decide +kernel)
 have t5 := Hm Jv xJ [exE, exD 170 5] (by decide) (fun e h => by simp at h; rcases h with rfl | rfl <;> first | exact Nn | exact Zf _ _) 5 (by decide +kernel)
 have t4 : aG Tryz.prog Dc 16 [aP Jv, eS (List.drop (Int.toNat 0) (List.take (Int.toNat 1) [exE, exF])), iS 7] [] (bS true) [] := t4
 have t1 : aG Tryz.prog Dc 16 [aP exS, eS (List.drop (Int.toNat 0) (List.take (Int.toNat 1) [exE, exF])), iS 0] [] (bS true) [] := t1
 have i1 := Zp [5, 6] [5, 6] (by decide) (by decide)
 have s1 : aG Tryz.prog Dc 18 [aP exS, evA exE] [] (bS true) [] := by
  have := xW exS iK exE Nn
  rw [show (decide (exS.kind = 1) && cA exS && eJ exE && gO exS exE) = true by decide +kernel] at this
  exact this
 have s2 : aG Tryz.prog Dc 18 [aP exS, evA (exD 150 5)] [] (bS false) [] := by
  have := xW exS iK (exD 150 5) (Zf _ _)
  rw [show (decide (exS.kind = 1) && cA exS && eJ (exD 150 5) && gO exS (exD 150 5)) = false by decide +kernel] at this
  exact this
 have v1 : aG Tryz.prog Dc 19 [eS [exE, exF]] [] (bS true) [] := by
  have := iC [exE, exF] (by decide) mE
  rw [show aX [exE, exF] = true by decide +kernel] at this
  exact this
 have v2 : aG Tryz.prog Dc 19 [eS [exF, exE]] [] (bS false) [] := by
  have := iC [exF, exE] (by decide) (fun e h => by simp at h; rcases h with rfl | rfl <;> first | exact Nn | exact Zs)
  rw [show aX [exF, exE] = false by decide +kernel] at this
  exact this
 rw [show decide (([5, 6] : List Int) = [5, 6]) = true by decide] at i1
 refine aC Ax aF Tryz.func4 (c := _) rfl Tryz.call4 1000 ?_
 (repeat' ((conv => whnf); first | refine cpC (Bs) ?_ | refine dpC (Bs) ?_ | refine cpC (Aj _ _) ?_ | refine dpC (Aj _ _) ?_ | refine cpC (u1) ?_ | refine dpC (u1) ?_ | refine cpC (f1) ?_ | refine dpC (f1) ?_ | refine cpC (d1) ?_ | refine dpC (d1) ?_ | refine rdC (m1) ?_ | refine rdC (m2) ?_ | refine rdC (m3) ?_ | refine cpC (t1) ?_ | refine dpC (t1) ?_ | refine cpC (t2) ?_ | refine dpC (t2) ?_ | refine rdC (i1) ?_ | refine cpC (i1) ?_ | refine dpC (i1) ?_ | refine cpC (s1) ?_ | refine dpC (s1) ?_ | refine cpC (s2) ?_ | refine dpC (s2) ?_ | refine cpC (v1) ?_ | refine dpC (v1) ?_ | (refine bZ [some 17] (B7 (args := [.slice 0 0 7 0 2]) (H1 := [.rows U.event [exF, exE]]) v2 (by exact snV) rfl) rfl rfl ⟨rfl, trivial⟩ ?_) | (refine bZ [some 14] (B7 (args := [lS [5, 6], .slice 0 0 1 0 2]) (H1 := [.rows U.int [5, 6]]) i1 (by exact snV) rfl) rfl rfl ⟨rfl, trivial⟩ ?_) | refine rdC (v2) ?_ | (refine bZ [some 15] (B7 (args := [aP lC, .slice 0 0 7 0 2, iS 0]) (H1 := [.rows U.event [exE, exD 180 5]]) t3 (by exact snV) rfl) rfl rfl ⟨rfl, trivial⟩ ?_) | (refine bZ [some 10] (B7 (args := [.agg [iS 6, .p (.lit (.slice none 0 0)), iS 0, iS 0, iS 0, iS 0, bS false, iS 0, iS 0, iS 0, lS [7, 5], .slice 0 0 12 0 2], eS (List.drop (Int.toNat 0) (List.take (Int.toNat 1) [exE, exF])), iS 7]) (H1 := [.rows U.goal [exS, lC]]) t4 (by exact snV) rfl) rfl rfl ⟨rfl, trivial⟩ ?_) | (refine bZ [some 10, some 16] (B7 (args := [.agg [iS 6, .p (.lit (.slice none 0 0)), iS 0, iS 0, iS 0, iS 0, bS false, iS 0, iS 0, iS 0, lS [7, 5], .slice 0 0 12 0 2], .slice 1 0 7 0 2, iS 5]) (H1 := [.rows U.goal [exS, lC], .rows U.event [exE, exD 170 5]]) t5 (by exact snV) rfl) rfl rfl ⟨rfl, rfl, trivial⟩ ?_) | (refine bZ [some 12] (B7 (args := [aP lC, .slice 0 0 7 0 2]) (H1 := [.rows U.event [exE, exD 181 5]]) m2 (by exact snV) rfl) rfl rfl ⟨rfl, trivial⟩ ?_) | (refine bZ [some 13] (B7 (args := [aP exS, .slice 0 0 7 0 2]) (H1 := [.rows U.event [exF, exE]]) m3 (by exact snV) rfl) rfl rfl ⟨rfl, trivial⟩ ?_) | (refine uW (vB [some 0, some 1, some 2, none, none, some 5, some 6, none, some 8, none] [(4, eS [exE, exF]), (31, .any), (33, .any), (34, .any), (35, .any), (38, .any), (39, .any), (40, lS [7, 5]), (42, aP lC)] [(3, .rows U.int []), (4, .rows U.int []), (5, Tq G3), (6, Tq Qw), (7, .rows U.int []), (8, Tq lC), (9, .rows U.int [])] (by exact bkV) ?_)) | refine x0C ?_ | refine spC (fun hb => ?_) fun hb => ?_ | refine aJ (fun hb => ?_) ?_ | refine taC ?_ | refine saC ?_ | exact sdV | refine aA ?_ ?_ | refine aB mixed ?_))
 all_goals clear u1 f1 d1 m1 m2 m3 t1 t2 t3 t4 t5 i1 s1 s2 v1 v2
 all_goals exact vwV
end Go.SX
