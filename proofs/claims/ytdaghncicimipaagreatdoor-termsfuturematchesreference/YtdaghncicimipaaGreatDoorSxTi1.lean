/-
  Walks: Ti1, Ti2, Tf3, Ti3, Ti4, Tf6: what single functions of the program compute.
-/
import Derived.Test.YtdaghncicimipaaGreatDoorSxTi0
import Derived.Test.YtdaghncicimipaaGreatDoorSxTh8
import Derived.Test.YtdaghncicimipaaGreatDoorSxTq1
import Derived.Test.YtdaghncicimipaaGreatDoorSxTh1
import Derived.Test.YtdaghncicimipaaGreatDoorSxTp2
import Derived.LaidMore
import Derived.ChangeMaps5
import Derived.Lay
import Derived.SevenTiedAt
import Derived.Stop.Joined
import Derived.Test.YtdaghncicimipaaGreatDoorTie
import Derived.Test.YtdaghncicimipaaGreatDoorCards
set_option linter.unusedVariables false
set_option linter.unusedSimpArgs false
namespace Go.SX
open Go.Proofs
set_option maxHeartbeats 4000000
set_option maxRecDepth 100000
theorem rfin_all (g : Goal) (hk : g.kind = 5) (hkl : (g.kids.length : Int) ≤ 4) (l : List Event) (now image : Int) (B : Int) (hB : B ≤ 800000) (hi : 0 ≤ image ∧ image ≤ B) (hm : meanG g l = none) (hs : Meets Tryz.prog Dc 39 [goalA g, eS l] [] (meanR (meanG g l)) [])
  (hf : ∀ k ∈ g.kids, ∀ im : Int, 0 ≤ im → image ≤ im → im ≤ B + 400 → Meets Tryz.prog Dc 52 [goalA k, eS l, iS now, iS im] [] (finR (finG k l now im)) [])
  (hbd : ∀ k ∈ g.kids, ∀ (im : Int) (more : List Event), 0 ≤ im → image ≤ im → im ≤ B + 400 → finG k l now im = some more → more.length ≤ 200000 ∧ countE more ≤ 100) :
  Meets Tryz.prog Dc 52 [goalA g, eS l, iS now, iS image] [] (finR (finG g l now image)) [] := by
 rw [finG_eq, hm, if_neg (by simp), if_neg (by omega), if_neg (by omega), if_neg (by omega), if_neg (by omega), if_pos hk]
 rw [hm] at hs
 refine meets_of_gx Ax tab_ok Tryz.func52 (c := _) rfl Tryz.call52 700 ?_
 (repeat' ((conv => whnf); first | (exfalso; omega) | refine cpC (hs) ?_ | refine spC (fun hb => ?_) fun hb => ?_))
 obtain ⟨X, hX⟩ : ∃ X, X = finAll g.kids l now image [] := ⟨_, rfl⟩
 rw [← hX]
 refine loop_upT [some 0] (fun q : Nat × Int × List Event => [(30, iS q.1), (29, iS q.2.1), (28, eS q.2.2)]) (fun q => []) (fun q => q.1 ≤ g.kids.length ∧ X = finAll (g.kids.drop q.1) l now q.2.1 q.2.2 ∧ (image ≤ q.2.1 ∧ q.2.1 ≤ image + 100 * q.1) ∧ q.2.2.length ≤ 200000 * q.1 ∧ StrE q.2.2) (fun q => g.kids.length - q.1) (0, image, []) ⟨Nat.zero_le _, hX, by dsimp only; omega, by dsimp only; simp, List.Pairwise.nil⟩ (by exact bkI) ?_
 rintro ⟨i, im, out⟩ ⟨hi1, hXi, him, hol, hst⟩ K hK
 dsimp only at hi1 hXi him hol hst hK ⊢
 rcases Nat.lt_or_ge i g.kids.length with hlt | hge
 ·have hgi := getD_some (d := Cd.dflt U.goal) hlt
  have hmem := List.mem_of_getElem? hgi
  have hfk := hf _ hmem im (by omega) (by omega) (by omega)
  have hdr : g.kids.drop i = g.kids.getD (i : Int).toNat (Cd.dflt U.goal) :: g.kids.drop (i + 1) := drop_getD (d := U.dflt .goal) hlt
  rw [hdr, finAll] at hXi
  have hbk := hbd _ hmem im
  cases hF : finG (g.kids.getD (i : Int).toNat (Cd.dflt U.goal)) l now im with
  | none =>
   rw [hF] at hfk hXi
   dsimp only at hXi
   rw [hXi]
   (repeat' ((conv => whnf); first | (exfalso; omega) | refine cpC (hfk) ?_ | refine x0C ?_ | refine spC (fun hb => ?_) fun hb => ?_ | refine saC ?_))
   all_goals exact vwV
  | some more =>
   obtain ⟨hml, hmc⟩ := hbk more (by omega) (by omega) (by omega) hF
   rw [hF] at hfk hXi
   dsimp only at hXi
   have hcn := count_nonneg more
   have hme := merge_len (out ++ more)
   rw [List.length_append] at hme
   have hm2 : Meets Tryz.prog Dc 31 [eS out, eS more] [] (eS (mergeS (out ++ more))) [] := by
    rw [merge_sorted hst]
    exact rsorted _ _ (by omega) (by omega)
   (repeat' ((conv => whnf); first | (exfalso; omega) | refine cpC (hfk) ?_ | refine spC (fun hb => ?_) fun hb => ?_ | refine saC ?_))
   refine loop_upT [some 0] (fun q : Nat × Int => [(33, iS q.1), (29, iS q.2)]) (fun q => []) (fun q => q.1 ≤ more.length ∧ q.2 = im + countE (more.take q.1)) (fun q => more.length - q.1) (0, im) ⟨Nat.zero_le _, by dsimp only; rw [List.take_zero]; show im = im + 0; omega⟩ (by exact bkI) ?_
   rintro ⟨j, z⟩ ⟨hj, hz⟩ K2 hK2
   dsimp only at hj hz hK2 ⊢
   have hcj := count_nonneg (more.take j)
   have hcj2 : countE (more.take j) ≤ countE more := by
    have := count_app (more.take j) (more.drop j)
    rw [List.take_append_drop] at this
    have := count_nonneg (more.drop j)
    omega
   rcases Nat.lt_or_ge j more.length with hjl | hjl
   ·have hsu := countE_take hjl
    by_cases hke : (more.getD (j : Int).toNat (Cd.dflt U.event)).kind = 1
    ·rw [if_pos (show (more.getD j dE).kind = 1 from hke)] at hsu
     (repeat' ((conv => whnf); first | (exfalso; omega) | refine hK2 (j + 1, z + 1) [some 0] _ _ ⟨⟨by dsimp only; omega, by dsimp only; omega⟩⟩ ⟨by dsimp only; omega⟩ (by exact bkI) | refine spC (fun hb => ?_) fun hb => ?_ | refine saC ?_))
     done
    ·rw [if_neg (show ¬ (more.getD j dE).kind = 1 from hke)] at hsu
     (repeat' ((conv => whnf); first | (exfalso; omega) | refine hK2 (j + 1, z) [some 0] _ _ ⟨⟨by dsimp only; omega, by dsimp only; omega⟩⟩ ⟨by dsimp only; omega⟩ (by exact bkI) | refine spC (fun hb => ?_) fun hb => ?_ | refine saC ?_))
     done
   ·have hzz : z = im + countE more := by rw [hz, List.take_of_length_le hjl]
    subst hzz
    (repeat' ((conv => whnf); first | (exfalso; omega) | refine cpC (hm2) ?_ | refine hK (i + 1, im + countE more, mergeS (out ++ more)) [some 0] _ _ ⟨⟨by dsimp only; omega, hXi, by dsimp only; omega, by dsimp only; omega, merge_str _⟩⟩ ⟨by dsimp only; omega⟩ (by exact bkI) | refine spC (fun hb => ?_) fun hb => ?_ | refine saC ?_))
    done
 ·have he : X = some out := by rw [hXi, List.drop_of_length_le hge, finAll]
  rw [he]
  (repeat' ((conv => whnf); first | (exfalso; omega) | refine x0C ?_ | refine spC (fun hb => ?_) fun hb => ?_))
  all_goals exact vwV
theorem rfin_any (g : Goal) (hk : g.kind = 6) (hkl : (g.kids.length : Int) ≤ 4) (l : List Event) (now image : Int) (hm : meanG g l = none) (hs : Meets Tryz.prog Dc 39 [goalA g, eS l] [] (meanR (meanG g l)) [])
  (hf : ∀ k ∈ g.kids, Meets Tryz.prog Dc 52 [goalA k, eS l, iS now, iS image] [] (finR (finG k l now image)) []) :
  Meets Tryz.prog Dc 52 [goalA g, eS l, iS now, iS image] [] (finR (finG g l now image)) [] := by
 rw [finG_eq, hm, if_neg (by simp), if_neg (by omega), if_neg (by omega), if_neg (by omega), if_neg (by omega), if_neg (by omega)]
 rw [hm] at hs
 refine meets_of_gx Ax tab_ok Tryz.func52 (c := _) rfl Tryz.call52 700 ?_
 (repeat' ((conv => whnf); first | (exfalso; omega) | refine cpC (hs) ?_ | refine spC (fun hb => ?_) fun hb => ?_))
 obtain ⟨X, hX⟩ : ∃ X, X = finAny g.kids l now image := ⟨_, rfl⟩
 rw [← hX]
 refine loop_upT [some 0] (fun q : Nat => [(34, iS q)]) (fun q => []) (fun q => q ≤ g.kids.length ∧ X = finAny (g.kids.drop q) l now image) (fun q => g.kids.length - q) 0 ⟨Nat.zero_le _, hX⟩ (by exact bkI) ?_
 rintro i ⟨hi1, hXi⟩ K hK
 rcases Nat.lt_or_ge i g.kids.length with hlt | hge
 ·have hgi := getD_some (d := Cd.dflt U.goal) hlt
  have hfk := hf _ (List.mem_of_getElem? hgi)
  have hdr : g.kids.drop i = g.kids.getD (i : Int).toNat (Cd.dflt U.goal) :: g.kids.drop (i + 1) := drop_getD (d := U.dflt .goal) hlt
  rw [hdr, finAny] at hXi
  cases hF : finG (g.kids.getD (i : Int).toNat (Cd.dflt U.goal)) l now image with
  | none =>
   rw [hF] at hfk hXi
   dsimp only at hXi
   (repeat' ((conv => whnf); first | (exfalso; omega) | refine cpC (hfk) ?_ | refine hK (i + 1) [some 0] _ _ ⟨⟨by omega, hXi⟩⟩ ⟨by omega⟩ (by exact bkI) | refine spC (fun hb => ?_) fun hb => ?_ | refine saC ?_))
   done
  | some more =>
   rw [hF] at hfk hXi
   dsimp only at hXi
   rw [hXi]
   (repeat' ((conv => whnf); first | (exfalso; omega) | refine cpC (hfk) ?_ | refine x0C ?_ | refine spC (fun hb => ?_) fun hb => ?_ | refine saC ?_))
   all_goals exact vwV
 ·have he : X = none := by rw [hXi, List.drop_of_length_le hge, finAny]
  rw [he]
  (repeat' ((conv => whnf); first | (exfalso; omega) | refine x0C ?_ | refine spC (fun hb => ?_) fun hb => ?_))
  all_goals exact vwV
theorem rsame (a : List Event) (hl : (a.length : Int) ≤ 9223372036854775807) (hE : ∀ e ∈ a, ELen e) : Meets Tryz.prog Dc 29 [eS a, eS a] [] (bS true) [] := by
 refine meets_of_gx Ax tab_ok Tryz.func29 (c := _) rfl Tryz.call29 400 ?_
 (repeat' ((conv => whnf); first | (exfalso; omega) | refine spC (fun hb => ?_) fun hb => ?_))
 refine loop_upT [] (fun i : Nat => [(5, iS i)]) (fun _ => []) (fun i => i ≤ a.length) (fun i => a.length - i) 0 (Nat.zero_le _) (by exact bkI) ?_
 intro i hi K hK
 rcases Nat.lt_or_ge i a.length with hlt | hge
 ·have hgi := getD_some (d := Cd.dflt U.event) hlt
  have he := hE _ (List.mem_of_getElem? hgi)
  unfold ELen at he
  have hcc : ((a.getD (i : Int).toNat (Cd.dflt U.event)).clear == (a.getD (i : Int).toNat (Cd.dflt U.event)).clear) = true := by simp
  (repeat' ((conv => whnf); first | (exfalso; omega) | (exfalso; rw [hcc] at hb; cases hb; done) | refine spC (fun hb => ?_) fun hb => ?_ | refine saC ?_))
  refine loop_upT [some 0, some 1] (fun q : Nat × Bool => [(8, bS q.2), (9, iS q.1)]) (fun _ => []) (fun q => q.1 ≤ (a.getD (i : Int).toNat (Cd.dflt U.event)).rows.length ∧ q.2 = true) (fun q => (a.getD (i : Int).toNat (Cd.dflt U.event)).rows.length - q.1) (0, decide (((a.getD (i : Int).toNat (Cd.dflt U.event)).rows.length : Int) = (a.getD (i : Int).toNat (Cd.dflt U.event)).rows.length)) ⟨Nat.zero_le _, decide_eq_true rfl⟩ (by exact bkI) ?_
  rintro ⟨k, sb⟩ ⟨hk, hsb⟩ K2 hK2
  dsimp only at hk hsb hK2 ⊢
  subst hsb
  rcases Nat.lt_or_ge k (a.getD (i : Int).toNat (Cd.dflt U.event)).rows.length with hkl | hkg
  ·have hq : ((a.getD (i : Int).toNat (Cd.dflt U.event)).rows.length : Int) = ((a.getD (i : Int).toNat (U.dflt .event)).rows.length : Int) := rfl
   (repeat' ((conv => whnf); first | (exfalso; omega) | refine hK2 (k + 1, decide ((a.getD (i : Int).toNat (Cd.dflt U.event)).rows.getD (k : Int).toNat (Cd.dflt U.int) = (a.getD (i : Int).toNat (Cd.dflt U.event)).rows.getD (k : Int).toNat (Cd.dflt U.int))) [some 0, some 1] _ _ ⟨⟨by dsimp only; omega, decide_eq_true rfl⟩⟩ ⟨by dsimp only; omega⟩ (by exact bkI) | refine spC (fun hb => ?_) fun hb => ?_ | refine taC ?_ | refine saC ?_ | refine drawX_of mixed ?_))
   done
  ·have hq : ((a.getD (i : Int).toNat (Cd.dflt U.event)).rows.length : Int) = ((a.getD (i : Int).toNat (U.dflt .event)).rows.length : Int) := rfl
   (repeat' ((conv => whnf); first | (exfalso; omega) | refine hK (i + 1) [] _ _ ⟨by omega⟩ ⟨by omega⟩ (by exact bkI) | refine spC (fun hb => ?_) fun hb => ?_ | refine saC ?_))
   done
 ·(repeat' ((conv => whnf); first | refine x0C (eB ?_ rfl) | (exfalso; omega) | refine spC (fun hb => ?_) fun hb => ?_))
  all_goals rfl
theorem rFinish (g : Goal) (hG : GAll g) (l : List Event) (hl : (l.length : Int) ≤ 9223372036854775807) (hE : ∀ e ∈ l, ELen e) (now : Int) (F : Option (List Event)) (hf : okF g l now = true → Meets Tryz.prog Dc 52 [goalA g, eS l, iS now, iS (nextI l)] [] (finR F) []) :
  Meets Tryz.prog Dc 28 [goalA g, eS l, iS now] [] (if okF g l now then .tuple [eS (F.getD []), bS F.isSome, iS 0] else .tuple [eS [], bS false, iS 150]) [] := by
 have h1 := valid13 g hG
 have h2 := rvalidE l hl hE
 have h4 := in15 now 0 1000000
 by_cases hv : validG g = true ∧ validE l = true ∧ inB now 0 1000000 = true
 ·obtain ⟨q1, q2, q3⟩ := hv
  rw [q1] at h1
  rw [q2] at h2
  rw [q3] at h4
  have hlen := (valid_parts q2).1
  have him := valid_image q2
  generalize hR : (if okF g l now then SV.tuple [eS (F.getD []), bS F.isSome, iS 0] else .tuple [eS [], bS false, iS 150]) = R
  have hbad : ∀ e ∈ l, lateB now e = true → R = .tuple [eS [], bS false, iS 150] := fun e he hb => by
   rw [← hR, if_neg]
   unfold okF
   rw [List.any_eq_true.2 ⟨e, he, hb⟩]; simp
  refine meets_of_gx Ax tab_ok Tryz.func28 (c := _) rfl Tryz.call28 300 ?_
  (repeat' ((conv => whnf); first | refine cpC (h1) ?_ | refine cpC (h2) ?_ | refine cpC (h4) ?_))
  refine loop_upT [some 0] (fun i : Nat => [(9, iS (nextN l i)), (10, iS i)]) (fun _ => []) (fun i => i ≤ l.length ∧ (l.take i).any (lateB now) = false) (fun i => l.length - i) 0 ⟨Nat.zero_le _, by simp⟩ (by exact bkI) ?_
  rintro i ⟨hi, hi2⟩ K hK
  have hnb := nextN_bd him i hi
  rcases Nat.lt_or_ge i l.length with hlt | hge
  ·have hgi := getD_some (d := Cd.dflt U.event) hlt
   have hmi := List.mem_of_getElem? hgi
   have hii := him _ hmi
   have hsu2 : max (nextN l i) ((l.getD (i : Int).toNat (Cd.dflt U.event)).image + 1) = nextN l (i + 1) := (nextN_succ hlt).symm
   by_cases hlate : now ≤ (l.getD (i : Int).toNat (Cd.dflt U.event)).at_ ∨ 899 < (l.getD (i : Int).toNat (Cd.dflt U.event)).image
   ·have hRe := hbad _ hmi (by unfold lateB; simp only [Bool.or_eq_true, decide_eq_true_eq]; exact hlate)
    rw [hRe]
    clear hK
    (repeat' ((conv => whnf); first | (exfalso; omega) | refine x0C ?_ | refine spC (fun hb => ?_) fun hb => ?_ | refine saC ?_))
    all_goals exact vwV
   ·have hn : (l.take (i + 1)).any (lateB now) = false := any_take_succ hgi (by unfold lateB; simp only [Bool.or_eq_false_iff, decide_eq_false_iff_not]; exact ⟨fun a => hlate (.inl a), fun a => hlate (.inr a)⟩) hi2
    (repeat' ((conv => whnf); first | (exfalso; omega) | refine hK (i + 1) [some 0] _ _ ⟨⟨by omega, hn⟩⟩ ⟨by omega⟩ (by (rw [← hsu2]; exact bkI)) | refine spC (fun hb => ?_) fun hb => ?_ | refine saC ?_))
    done
  ·have hie : nextN l i = nextI l := by unfold nextI; rw [show l.length = i by omega]
   have hok : okF g l now = true := by
    unfold okF
    rw [q1, q2, q3, any_take_end hge hi2]; rfl
   have hf := hf hok
   rw [finR_cases] at hf
   rw [hie]
   rw [hok, if_pos rfl] at hR
   subst hR
   clear hK
   (repeat' ((conv => whnf); first | (exfalso; omega) | refine cpC (hf) ?_ | refine x0C ?_ | refine spC (fun hb => ?_) fun hb => ?_))
   all_goals exact vwV
 ·have hno : okF g l now = false := by
   cases h : okF g l now with
   | false => rfl
   | true =>
    obtain ⟨a, b, c, d⟩ := okF_ask h
    exact absurd ⟨c, d, (inB_iff _ _ _).2 b⟩ hv
  rw [hno, if_neg (by simp)]
  cases q1 : validG g <;> cases q2 : validE l <;> cases q3 : inB now 0 1000000 <;> simp only [q1, q2, q3] at h1 h2 h4
  case true.true.true => exact absurd ⟨q1, q2, q3⟩ hv
  all_goals (
   refine meets_of_gx Ax tab_ok Tryz.func28 (c := _) rfl Tryz.call28 300 ?_
   (repeat' ((conv => whnf); first | refine cpC (h1) ?_ | refine cpC (h2) ?_ | refine cpC (h4) ?_ | refine x0C ?_))
   all_goals exact vwV)
theorem rDoomed (g : Goal) (l : List Event) (now : Int) (a : List Event) (b : Bool) (c : Int) (hc : c = 0 ∨ c = 150) (h : Meets Tryz.prog Dc 28 [goalA g, eS l, iS now] [] (.tuple [eS a, bS b, iS c]) []) : Meets Tryz.prog Dc 26 [goalA g, eS l, iS now] [] (.tuple [bS (decide (c = 0) && !b), iS c]) [] := by
 rcases hc with rfl | rfl
 ·rw [decide_eq_true rfl, Bool.true_and]
  refine meets_of_gx Ax tab_ok Tryz.func26 (c := _) rfl Tryz.call26 100 ?_
  (repeat' ((conv => whnf); first | refine cpC (h) ?_ | refine x0C ?_))
  all_goals exact vwV
 ·rw [decide_eq_false (by omega), Bool.false_and]
  refine meets_of_gx Ax tab_ok Tryz.func26 (c := _) rfl Tryz.call26 100 ?_
  (repeat' ((conv => whnf); first | refine cpC (h) ?_ | refine x0C ?_))
  all_goals exact vwV
theorem rfin_leaf (g : Goal) (d n : Int) (hs : sizeG g d = some n) (hd1 : 1 ≤ d) (hG : GAll g) (hk3 : g.kind ≤ 3) (l : List Event) (now image : Int) (hc : CtxO l now image) (hl : (l.length : Int) ≤ 1000) (hi : 0 ≤ image ∧ image ≤ 900000) (hnow : 0 ≤ now ∧ now ≤ 1000000) : Meets Tryz.prog Dc 52 [goalA g, eS l, iS now, iS image] [] (finR (finG g l now image)) [] := by
 have hE := ctx_evs hc (by omega)
 have hsen := rmeans_meets 4 g d n (by omega) hd1 hs hG l hE
 obtain ⟨hok, hd, m, hL, rfl⟩ := size_ok hs
 obtain ⟨hgl, hgk⟩ := (GAll_iff g).1 hG
 cases hm : meanG g l with
 | some w => exact rfin_met g l now image w.1 w.2 (by rw [hm]) hsen
 | none =>
  have hkk := (okB_parts hok).1
  have hkb : g.kind = 1 ∨ g.kind = 2 ∨ g.kind = 3 := by omega
  rcases hkb with e | e | e
  ·exact rfin_see g e (size_area hok e) l now image hm hsen
  ·have h1 := ok_one hok (by omega) (by omega) (by omega)
   obtain ⟨q, hq, _, hko, hkk1⟩ := kid_see hok (.inl e) hL
   exact rfin_pair g e h1 (size_area hko hkk1) l now image hi hm hsen
  ·have h1 := ok_one hok (by omega) (by omega) (by omega)
   obtain ⟨q, hq, _, hko, hkk1⟩ := kid_see hok (.inr e) hL
   have hso := see_ok hko hkk1
   have hdy := ok_days hok e
   exact rfin_every g e l now image hm hsen (rgoOn g h1 (ok_times hok e) (by omega) (by omega) (by omega) (size_area hko hkk1) ((GAll_iff _).1 (GAllL_mem hgk (kid0_mem h1))).1 hso.fr l hE (fun x hx => (form_evs (hc.form x hx)).2.1) now image hnow hi)
theorem rfin_meets : ∀ (j : Nat) (g : Goal) (d n : Int), 5 - d ≤ j → 1 ≤ d → sizeG g d = some n → n ≤ 12 → GAll g → ∀ (l : List Event) (now image : Int), CtxO l now image → (l.length : Int) ≤ 120 → (0 ≤ image ∧ image ≤ 10000 - 1000 * j) → (0 ≤ now ∧ now ≤ 1000000) → Meets Tryz.prog Dc 52 [goalA g, eS l, iS now, iS image] [] (finR (finG g l now image)) [] := by
 intro j
 induction j with
 | zero =>
  intro g d n h1 h2 hs
  have := (size_ok hs).2.1
  omega
 | succ j ih =>
  intro g d n h1 h2 hs hn hG l now image hc hl hi hnow
  have hE := ctx_evs hc (by omega)
  have hsen := rmeans_meets 4 g d n (by omega) h2 hs hG l hE
  obtain ⟨hok, hd, m, hL, rfl⟩ := size_ok hs
  obtain ⟨hgl, hgk⟩ := (GAll_iff g).1 hG
  by_cases hk3 : g.kind ≤ 3
  ·exact rfin_leaf g d _ hs h2 hG hk3 l now image hc (by omega) (by omega) hnow
  cases hm : meanG g l with
  | some w => exact rfin_met g l now image w.1 w.2 (by rw [hm]) hsen
  | none =>
   have hkk := (okB_parts hok).1
   have hkb : g.kind = 4 ∨ g.kind = 5 ∨ g.kind = 6 := by omega
   rcases hkb with e | e | e
   ·have hone := ok_one hok (by omega) (by omega) (by omega)
    obtain ⟨q, hq, rfl⟩ := kid_ok hL hone
    have hkk3 := kid_kind hok hone
    unfold lastK at hkk3
    rw [if_neg (by omega), if_pos e] at hkk3
    have hw := ok_within hok e
    have hGk := GAllL_mem hgk (kid0_mem hone)
    have hhc := hoped_ctx (within := g.within) hc hnow
    have hhl := hoped_len l g.within now
    have hfo : ∀ more, finG (kid0 g.kids) (hopedS l g.within now) now image = some more → FinOK (kid0 g.kids) m (hopedS l g.within now) now image more := fun more h => fin_ok _ _ _ _ _ _ _ hq hhc hi.1 hnow h
    have hGe : finG g l now image = delM g l now (finG (kid0 g.kids) (hopedS l g.within now) now image) := by
     rw [finG_eq, hm, if_neg (by simp), if_neg (by omega), if_neg (by omega), if_neg (by omega), if_pos e, finH_eq _ _ _ _ _ hone]
     cases finG (kid0 g.kids) (hopedS l g.within now) now image <;> rfl
    rw [hGe]
    refine rfin_del g e hone hw l hE hc.str (by omega) now image hnow hm hsen _ ?_ ?_ ?_ ?_
    ·exact rfin_leaf _ (d + 1) _ hq (by omega) hGk hkk3 _ now image hhc (by omega) (by omega) hnow
    ·intro more hmore
     have := (fin_len (hfo more hmore)).1
     omega
    ·intro more hmore
     refine rmeans_meets 4 _ (d + 1) _ (by omega) (by omega) hq hGk _ (evs_of ?_ fun x hx => ?_)
     ·have h3 := merge_len (hopedS l g.within now ++ more)
      rw [List.length_append] at h3
      have := (fin_len (hfo more hmore)).1
      omega
     ·rcases List.mem_append.1 (merge_sub hx) with h | h
      ·exact form_evs (hhc.form x h)
      ·exact good_evs hnow.1 (hfo more hmore).good x h
    ·intro more hmore
     cases hw2 : meanG (kid0 g.kids) (mergeS (hopedS l g.within now ++ more)) with
     | none => exact ⟨Nat.zero_le _, List.nodup_nil⟩
     | some w =>
      have hb := mean_bound _ (d + 1) _ _ w.1 w.2 hq (by rw [hw2])
      have ha := mean_asc _ _ w.1 w.2 (by rw [hw2])
      exact ⟨by show w.2.length ≤ _; omega, (asc_lt ha).imp fun h => by omega⟩
   ·have h2' := many_two hok (.inl e)
    refine rfin_all g e h2'.2 l now image (10000 - 1000 * ((j : Int) + 1)) (by omega) (by omega) hm hsen ?_ ?_
    ·intro k hk im hi1 hi2 hi3
     obtain ⟨x, hx, hxm⟩ := sizeL_mem hL hk
     exact ih k (d + 1) x (by omega) (by omega) hx (by omega) (GAllL_mem hgk hk) l now im (ctx_mono hc hi2) hl ⟨hi1, by omega⟩ hnow
    ·intro k hk im more hi1 hi2 hi3 hmore
     obtain ⟨x, hx, hxm⟩ := sizeL_mem hL hk
     have := fin_len (fin_ok k (d + 1) x l now im more hx (ctx_mono hc hi2) hi1 hnow hmore)
     omega
   ·have h2' := many_two hok (.inr e)
    refine rfin_any g e h2'.2 l now image hm hsen fun k hk => ?_
    obtain ⟨x, hx, hxm⟩ := sizeL_mem hL hk
    exact ih k (d + 1) x (by omega) (by omega) hx (by omega) (GAllL_mem hgk hk) l now image hc hl (by omega) hnow
theorem rfin (g : Goal) (hG : GAll g) (l : List Event) (hl : (l.length : Int) ≤ 9223372036854775807) (hE : ∀ e ∈ l, ELen e) (now : Int) :
  Meets Tryz.prog Dc 28 [goalA g, eS l, iS now] [] (if okF g l now then .tuple [eS ((finA g l now).getD []), bS (finA g l now).isSome, iS 0] else .tuple [eS [], bS false, iS 150]) [] := by
 refine rFinish g hG l hl hE now (finA g l now) fun h => ?_
 obtain ⟨a, b, c, d⟩ := okF_ask h
 obtain ⟨n, hn, hn12⟩ := valid_twelve c
 have := next_bd d
 exact rfin_meets 4 g 1 n (by omega) (by omega) hn hn12 hG l now (nextI l) a (valid_parts d).1 (by omega) b
theorem rdoom (g : Goal) (hG : GAll g) (l : List Event) (hl : (l.length : Int) ≤ 9223372036854775807) (hE : ∀ e ∈ l, ELen e) (now : Int) :
  Meets Tryz.prog Dc 26 [goalA g, eS l, iS now] [] (.tuple [bS (okF g l now && (finA g l now).isNone), iS (if okF g l now then 0 else 150)]) [] := by
 have h := rfin g hG l hl hE now
 cases hok : okF g l now with
 | false =>
  rw [hok, if_neg (by simp)] at h
  exact rDoomed g l now [] false 150 (.inr rfl) h
 | true =>
  rw [hok, if_pos rfl] at h
  have := rDoomed g l now _ _ 0 (.inl rfl) h
  rw [if_pos rfl]
  have e : (true && (finA g l now).isNone) = (decide ((0 : Int) = 0) && !(finA g l now).isSome) := by cases finA g l now <;> rfl
  rw [e]
  exact this
/-- what Finish returns -/
theorem fin_small (g : Goal) (l : List Event) (now : Int) (h : okF g l now = true) : (((finA g l now).getD []).length : Int) ≤ 1000 ∧ ∀ e ∈ (finA g l now).getD [], ELen e := by
 obtain ⟨a, b, c, d⟩ := okF_ask h
 obtain ⟨n, hn, hn12⟩ := valid_twelve c
 have hl := (valid_parts d).1
 cases hf : finA g l now with
 | none => exact ⟨by show (0 : Int) ≤ 1000; omega, fun e he => by cases he⟩
 | some out =>
  have hfo := fin_ok g 1 n l now (nextI l) out hn a (next_bd d).1 b hf
  have := (fin_len hfo).1
  exact ⟨by show (out.length : Int) ≤ 1000; omega, fun e he => (good_evs b.1 hfo.good e he).1⟩
def EvL (y : List Event) : Prop := (y.length : Int) ≤ 9223372036854775807 ∧ ∀ e ∈ y, ELen e
theorem getD_all {α : Type} {P : α → Prop} {xs : List α} {d : α} (h : ∀ x ∈ xs, P x) {i : Nat} (hi : i < xs.length) : P (xs.getD i d) := by
 rw [List.getD_eq_getElem?_getD, List.getElem?_eq_getElem hi]
 exact h _ (List.getElem_mem _)
theorem lfuture1 (xs : List A5) (ys : List A4) (hx : ∀ y ∈ xs, A5OK y) (hxl : (xs.length : Int) ≤ 9223372036854775807) (hy : ∀ y ∈ ys, A4OK y) (hyl : (ys.length : Int) ≤ 9223372036854775807) (odd : List Event) (hodd : (odd.length : Int) ≤ 9223372036854775807) (hoddE : ∀ e ∈ odd, ELen e) (which now : Int) (hw : I64 which) (hnw : I64 now) (hset : 0 < ((eventsS (goalS xs) ys).length : Int) ∧ 0 < ((fewS odd).length : Int)) : Meets Tryz.prog Dc 4 [.agg [a5S xs, a4S ys], eS odd, iS which, iS now] [] (bS true) [] := by
 have h0 := lsane
 have h1 := lmade xs ys hx hxl hy hyl
 have hgv := goal_valid xs
 have hsm := events_small xs ys
 obtain ⟨hev, hel⟩ := events_valid (goalS xs) ys
 generalize eventsS (goalS xs) ys = l at *
 generalize goalS xs = g at *
 have hG := valid_gall hgv
 have hE := valid_elen hev
 have h2 := lfew odd hodd hoddE
 have hf1 := few_len odd
 have hf2 := few_elen odd
 generalize fewS odd = short at *
 have h5 := pickL now 3000 hnw (by omega)
 have b5 := pickS_bd (c := now) (n := 3000) (by omega)
 generalize pickS now 3000 = T at *
 have hat : ∀ e ∈ l, 0 ≤ e.at_ ∧ e.at_ ≤ 9400 := fun e he => by
  have h5 := hsm e he
  have h6 := (valid_parts hev).2.1 e he
  unfold formB at h6
  simp only [Bool.and_eq_true, inB_iff] at h6
  omega
 obtain ⟨hs1, hs2⟩ := hset
 have hs1' : (0 : Int) < ((List.take 0 [] ++ l).length : Nat) := hs1
 have h4 : Meets Tryz.prog Dc 12 [iS which, iS ((List.take 0 [] ++ l).length : Nat)] [] (iS (pickS which l.length)) [] := pickL which l.length hw (by omega)
 have hp := pickS_bd (c := which) (n := l.length) (by omega)
 generalize pickS which l.length = w at *
 have hp' : 0 ≤ w ∧ w < ((List.take 0 [] ++ l).length : Nat) := hp
 have hlen : ((List.take 0 [] ++ l).set (0 + w.toNat) (short.getD (Int.toNat 0) (Cd.dflt U.event))).length = (List.take 0 [] ++ l).length := List.length_set
 have hgi := getD_some (d := Cd.dflt U.event) (i := ((l.length : Int) - 1).toNat) (show ((l.length : Int) - 1).toNat < l.length by omega)
 rw [Int.toNat_natCast] at hgi
 have hla := hat _ (List.mem_of_getElem? hgi)
 refine meets_of_gx Ax tab_ok Tryz.func4 (c := _) rfl Tryz.call4 900 ?_
 (repeat' ((conv => whnf); first | (exfalso; omega) | refine cpC (h0) ?_ | refine cpC (h1) ?_ | refine cpC (h2) ?_ | refine dpC (h4) ?_ | refine cpC (h5) ?_ | refine dpC (h5) ?_ | (refine frz_op [some 0, some 1, none, none] [(12, eS ((List.take 0 [] ++ l).set (0 + w.toNat) (short.getD (Int.toNat 0) (Cd.dflt U.event)))), (37, .any), (39, .any), (40, .any), (48, .any), (50, .any), (56, .any), (74, eS ((List.take 0 [] ++ l).set (0 + w.toNat) (short.getD (Int.toNat 0) (Cd.dflt U.event))))] [(2, .rows U.event []), (3, .rows U.event [])] (by exact bkV) ?_) | refine spC (fun hb => ?_) fun hb => ?_ | refine taC ?_ | refine saC ?_ | refine drawX_of mixed ?_))
 have hbl : EvL ((List.take 0 [] ++ l).set (0 + w.toNat) (short.getD (Int.toNat 0) (Cd.dflt U.event))) := by
  refine ⟨by rw [hlen]; show (l.length : Int) ≤ _; omega, fun e he => ?_⟩
  rcases List.mem_or_eq_of_mem_set he with h | h
  ·exact hE e h
  ·rw [h]; exact getD_all (P := ELen) hf2 (by show (0 : Nat) < _; omega)
 generalize ((List.take 0 [] ++ l).set (0 + w.toNat) (short.getD (Int.toNat 0) (Cd.dflt U.event))) = bent at *
 obtain ⟨ls, hls⟩ : ∃ ls : List Evs, ([⟨l⟩, ⟨bent⟩, ⟨short⟩] : List Evs) = ls := ⟨_, rfl⟩
 have hll : ls.length = 3 := by rw [← hls]; rfl
 have hlE : ∀ y ∈ ls, EvL y.l := by
  rw [← hls]
  intro y hy
  rcases List.mem_cons.1 hy with rfl | hy
  ·exact ⟨by show (l.length : Int) ≤ _; omega, hE⟩
  ·rcases List.mem_cons.1 hy with rfl | hy
   ·exact hbl
   ·rw [List.mem_singleton.1 hy]; exact ⟨by show (short.length : Int) ≤ _; omega, hf2⟩
 refine loop_upT [some 0, some 1, none, none, some 4] (fun j : Nat => [(78, iS j)]) (fun _ => [(2, .rows U.event []), (3, .rows U.event []), (4, .rows U.evs ls)]) (fun j => j ≤ 3) (fun j => 3 - j) 0 (Nat.zero_le _) (by exact bkI) ?_
 rintro j hj K hK
 dsimp only at hK ⊢
 rcases Nat.lt_or_ge j 3 with hjl | hjg
 ·have hY : EvL (ls.getD (0 + (j : Int).toNat) (Cd.dflt U.evs)).l := getD_all (P := fun y : Evs => EvL y.l) hlE (by show 0 + j < _; omega)
  obtain ⟨ts, hts⟩ : ∃ ts : List Int, ([now, min ((l.getD ((l.length : Int) - 1).toNat (Cd.dflt U.event)).at_ + 1 + T) 1000000] : List Int) = ts := ⟨_, rfl⟩
  have htl : ts.length = 2 := by rw [← hts]; rfl
  (repeat' ((conv => whnf); first | (exfalso; omega) | refine spC (fun hb => ?_) fun hb => ?_ | refine saC ?_))
  refine loop_upT [some 0, some 1, none, none, some 4, some 5] (fun m : Nat => [(87, iS m)]) (fun _ => [(2, .rows U.event []), (3, .rows U.event []), (5, .rows U.int ts)]) (fun m => m ≤ 2) (fun m => 2 - m) 0 (Nat.zero_le _) (by (rw [← hts]; exact bkI)) ?_
  rintro m hm K' hK'
  dsimp only at hK' ⊢
  rcases Nat.lt_or_ge m 2 with hml | hmg
  ·have d1 := tdoom g hG _ hY.1 hY.2 (ts.getD (0 + (m : Int).toNat) (Cd.dflt U.int))
   have d2 := rdoom g hG _ hY.1 hY.2 (ts.getD (0 + (m : Int).toNat) (Cd.dflt U.int))
   have f1 := tfin g hG _ hY.1 hY.2 (ts.getD (0 + (m : Int).toNat) (Cd.dflt U.int))
   have f2 := rfin g hG _ hY.1 hY.2 (ts.getD (0 + (m : Int).toNat) (Cd.dflt U.int))
   cases hok : okF g (ls.getD (0 + (j : Int).toNat) (Cd.dflt U.evs)).l (ts.getD (0 + (m : Int).toNat) (Cd.dflt U.int)) with
   | false =>
    rw [hok, Bool.false_and, if_neg (by simp)] at d1 d2
    rw [hok, if_neg (by simp)] at f1 f2
    have s1 := rsame [] (by simp) (fun e he => by cases he)
    (repeat' ((conv => whnf); first | (exfalso; omega) | refine cpC (d1) ?_ | refine cpC (d2) ?_ | refine cpC (f1) ?_ | refine cpC (f2) ?_ | refine cpC (s1) ?_ | refine hK' (m + 1) [some 0, some 1, none, none, some 4, some 5] _ _ ⟨by omega⟩ ⟨by omega⟩ (by exact bkI) | refine spC (fun hb => ?_) fun hb => ?_ | refine saC ?_))
    done
   | true =>
    have hsm2 := fin_small g (ls.getD (0 + (j : Int).toNat) (Cd.dflt U.evs)).l (ts.getD (0 + (m : Int).toNat) (Cd.dflt U.int)) hok
    rw [hok, Bool.true_and, if_pos rfl] at d1 d2
    rw [hok, if_pos rfl] at f1 f2
    have s1 := rsame _ (by have := hsm2.1; omega) hsm2.2
    generalize (finA g (ls.getD (0 + (j : Int).toNat) (Cd.dflt U.evs)).l (ts.getD (0 + (m : Int).toNat) (Cd.dflt U.int))).getD [] = out at *
    generalize (finA g (ls.getD (0 + (j : Int).toNat) (Cd.dflt U.evs)).l (ts.getD (0 + (m : Int).toNat) (Cd.dflt U.int))).isSome = bs at *
    generalize (finA g (ls.getD (0 + (j : Int).toNat) (Cd.dflt U.evs)).l (ts.getD (0 + (m : Int).toNat) (Cd.dflt U.int))).isNone = bn at *
    have q1 : (bs == bs) = true := by simp
    have q2 : (bn == bn) = true := by simp
    (repeat' ((conv => whnf); first | (exfalso; omega) | (exfalso; rw [q1] at hb; cases hb; done) | (exfalso; rw [q2] at hb; cases hb; done) | refine cpC (d1) ?_ | refine cpC (d2) ?_ | refine cpC (f1) ?_ | refine cpC (f2) ?_ | refine cpC (s1) ?_ | refine hK' (m + 1) [some 0, some 1, none, none, some 4, some 5] _ _ ⟨by omega⟩ ⟨by omega⟩ (by exact bkI) | refine spC (fun hb => ?_) fun hb => ?_ | refine saC ?_))
    done
  ·(repeat' ((conv => whnf); first | (exfalso; omega) | refine hK (j + 1) [some 0, some 1, none, none, some 4] _ _ ⟨by omega⟩ ⟨by omega⟩ (by exact bkI) | refine spC (fun hb => ?_) fun hb => ?_ | refine saC ?_))
   done
 ·(repeat' ((conv => whnf); first | (exfalso; omega) | refine x0C ?_ | refine spC (fun hb => ?_) fun hb => ?_))
  all_goals exact vwV
theorem lfuture2 (xs : List A5) (ys : List A4) (hx : ∀ y ∈ xs, A5OK y) (hxl : (xs.length : Int) ≤ 9223372036854775807) (hy : ∀ y ∈ ys, A4OK y) (hyl : (ys.length : Int) ≤ 9223372036854775807) (odd : List Event) (hodd : (odd.length : Int) ≤ 9223372036854775807) (hoddE : ∀ e ∈ odd, ELen e) (which now : Int) (hw : I64 which) (hnw : I64 now) (hset : ((eventsS (goalS xs) ys).length : Int) = 0) : Meets Tryz.prog Dc 4 [.agg [a5S xs, a4S ys], eS odd, iS which, iS now] [] (bS true) [] := by
 have h0 := lsane
 have h1 := lmade xs ys hx hxl hy hyl
 have hgv := goal_valid xs
 have hsm := events_small xs ys
 obtain ⟨hev, hel⟩ := events_valid (goalS xs) ys
 generalize eventsS (goalS xs) ys = l at *
 generalize goalS xs = g at *
 have hG := valid_gall hgv
 have hE := valid_elen hev
 have h2 := lfew odd hodd hoddE
 have hf1 := few_len odd
 have hf2 := few_elen odd
 generalize fewS odd = short at *
 have h5 := pickL now 3000 hnw (by omega)
 have b5 := pickS_bd (c := now) (n := 3000) (by omega)
 generalize pickS now 3000 = T at *
 have hat : ∀ e ∈ l, 0 ≤ e.at_ ∧ e.at_ ≤ 9400 := fun e he => by
  have h5 := hsm e he
  have h6 := (valid_parts hev).2.1 e he
  unfold formB at h6
  simp only [Bool.and_eq_true, inB_iff] at h6
  omega
 have hnil : (l.length : Int) = 0 := hset
 have hnil2 : ((List.take 0 [] ++ l).length : Int) = 0 := hset
 refine meets_of_gx Ax tab_ok Tryz.func4 (c := _) rfl Tryz.call4 900 ?_
 (repeat' ((conv => whnf); first | (exfalso; omega) | refine cpC (h0) ?_ | refine cpC (h1) ?_ | refine cpC (h2) ?_ | refine cpC (h5) ?_ | (refine frz_op [some 0, some 1, none, none] [(12, eS (List.take 0 [] ++ l)), (37, .any), (39, .any), (40, .any), (48, .any), (50, .any), (56, .any), (74, eS (List.take 0 [] ++ l))] [(2, .rows U.event []), (3, .rows U.event [])] (by exact bkV) ?_) | refine spC (fun hb => ?_) fun hb => ?_ | refine saC ?_))
 have hbl : EvL (List.take 0 [] ++ l) := ⟨by show (l.length : Int) ≤ _; omega, hE⟩
 generalize (List.take 0 [] ++ l) = bent at *
 obtain ⟨ls, hls⟩ : ∃ ls : List Evs, ([⟨l⟩, ⟨bent⟩, ⟨short⟩] : List Evs) = ls := ⟨_, rfl⟩
 have hll : ls.length = 3 := by rw [← hls]; rfl
 have hlE : ∀ y ∈ ls, EvL y.l := by
  rw [← hls]
  intro y hy
  rcases List.mem_cons.1 hy with rfl | hy
  ·exact ⟨by show (l.length : Int) ≤ _; omega, hE⟩
  ·rcases List.mem_cons.1 hy with rfl | hy
   ·exact hbl
   ·rw [List.mem_singleton.1 hy]; exact ⟨by show (short.length : Int) ≤ _; omega, hf2⟩
 refine loop_upT [some 0, some 1, none, none, some 4] (fun j : Nat => [(78, iS j)]) (fun _ => [(2, .rows U.event []), (3, .rows U.event []), (4, .rows U.evs ls)]) (fun j => j ≤ 3) (fun j => 3 - j) 0 (Nat.zero_le _) (by exact bkI) ?_
 rintro j hj K hK
 dsimp only at hK ⊢
 rcases Nat.lt_or_ge j 3 with hjl | hjg
 ·have hY : EvL (ls.getD (0 + (j : Int).toNat) (Cd.dflt U.evs)).l := getD_all (P := fun y : Evs => EvL y.l) hlE (by show 0 + j < _; omega)
  obtain ⟨ts, hts⟩ : ∃ ts : List Int, ([now, min T 1000000] : List Int) = ts := ⟨_, rfl⟩
  have htl : ts.length = 2 := by rw [← hts]; rfl
  (repeat' ((conv => whnf); first | (exfalso; omega) | refine spC (fun hb => ?_) fun hb => ?_ | refine saC ?_))
  refine loop_upT [some 0, some 1, none, none, some 4, some 5] (fun m : Nat => [(87, iS m)]) (fun _ => [(2, .rows U.event []), (3, .rows U.event []), (5, .rows U.int ts)]) (fun m => m ≤ 2) (fun m => 2 - m) 0 (Nat.zero_le _) (by (rw [← hts]; exact bkI)) ?_
  rintro m hm K' hK'
  dsimp only at hK' ⊢
  rcases Nat.lt_or_ge m 2 with hml | hmg
  ·have d1 := tdoom g hG _ hY.1 hY.2 (ts.getD (0 + (m : Int).toNat) (Cd.dflt U.int))
   have d2 := rdoom g hG _ hY.1 hY.2 (ts.getD (0 + (m : Int).toNat) (Cd.dflt U.int))
   have f1 := tfin g hG _ hY.1 hY.2 (ts.getD (0 + (m : Int).toNat) (Cd.dflt U.int))
   have f2 := rfin g hG _ hY.1 hY.2 (ts.getD (0 + (m : Int).toNat) (Cd.dflt U.int))
   cases hok : okF g (ls.getD (0 + (j : Int).toNat) (Cd.dflt U.evs)).l (ts.getD (0 + (m : Int).toNat) (Cd.dflt U.int)) with
   | false =>
    rw [hok, Bool.false_and, if_neg (by simp)] at d1 d2
    rw [hok, if_neg (by simp)] at f1 f2
    have s1 := rsame [] (by simp) (fun e he => by cases he)
    (repeat' ((conv => whnf); first | (exfalso; omega) | refine cpC (d1) ?_ | refine cpC (d2) ?_ | refine cpC (f1) ?_ | refine cpC (f2) ?_ | refine cpC (s1) ?_ | refine hK' (m + 1) [some 0, some 1, none, none, some 4, some 5] _ _ ⟨by omega⟩ ⟨by omega⟩ (by exact bkI) | refine spC (fun hb => ?_) fun hb => ?_ | refine saC ?_))
    done
   | true =>
    have hsm2 := fin_small g (ls.getD (0 + (j : Int).toNat) (Cd.dflt U.evs)).l (ts.getD (0 + (m : Int).toNat) (Cd.dflt U.int)) hok
    rw [hok, Bool.true_and, if_pos rfl] at d1 d2
    rw [hok, if_pos rfl] at f1 f2
    have s1 := rsame _ (by have := hsm2.1; omega) hsm2.2
    generalize (finA g (ls.getD (0 + (j : Int).toNat) (Cd.dflt U.evs)).l (ts.getD (0 + (m : Int).toNat) (Cd.dflt U.int))).getD [] = out at *
    generalize (finA g (ls.getD (0 + (j : Int).toNat) (Cd.dflt U.evs)).l (ts.getD (0 + (m : Int).toNat) (Cd.dflt U.int))).isSome = bs at *
    generalize (finA g (ls.getD (0 + (j : Int).toNat) (Cd.dflt U.evs)).l (ts.getD (0 + (m : Int).toNat) (Cd.dflt U.int))).isNone = bn at *
    have q1 : (bs == bs) = true := by simp
    have q2 : (bn == bn) = true := by simp
    (repeat' ((conv => whnf); first | (exfalso; omega) | (exfalso; rw [q1] at hb; cases hb; done) | (exfalso; rw [q2] at hb; cases hb; done) | refine cpC (d1) ?_ | refine cpC (d2) ?_ | refine cpC (f1) ?_ | refine cpC (f2) ?_ | refine cpC (s1) ?_ | refine hK' (m + 1) [some 0, some 1, none, none, some 4, some 5] _ _ ⟨by omega⟩ ⟨by omega⟩ (by exact bkI) | refine spC (fun hb => ?_) fun hb => ?_ | refine saC ?_))
    done
  ·(repeat' ((conv => whnf); first | (exfalso; omega) | refine hK (j + 1) [some 0, some 1, none, none, some 4] _ _ ⟨by omega⟩ ⟨by omega⟩ (by exact bkI) | refine spC (fun hb => ?_) fun hb => ?_ | refine saC ?_))
   done
 ·(repeat' ((conv => whnf); first | (exfalso; omega) | refine x0C ?_ | refine spC (fun hb => ?_) fun hb => ?_))
  all_goals exact vwV
theorem lfuture3 (xs : List A5) (ys : List A4) (hx : ∀ y ∈ xs, A5OK y) (hxl : (xs.length : Int) ≤ 9223372036854775807) (hy : ∀ y ∈ ys, A4OK y) (hyl : (ys.length : Int) ≤ 9223372036854775807) (odd : List Event) (hodd : (odd.length : Int) ≤ 9223372036854775807) (hoddE : ∀ e ∈ odd, ELen e) (which now : Int) (hw : I64 which) (hnw : I64 now) (hset : 0 < ((eventsS (goalS xs) ys).length : Int) ∧ ((fewS odd).length : Int) = 0) : Meets Tryz.prog Dc 4 [.agg [a5S xs, a4S ys], eS odd, iS which, iS now] [] (bS true) [] := by
 have h0 := lsane
 have h1 := lmade xs ys hx hxl hy hyl
 have hgv := goal_valid xs
 have hsm := events_small xs ys
 obtain ⟨hev, hel⟩ := events_valid (goalS xs) ys
 generalize eventsS (goalS xs) ys = l at *
 generalize goalS xs = g at *
 have hG := valid_gall hgv
 have hE := valid_elen hev
 have h2 := lfew odd hodd hoddE
 have hf1 := few_len odd
 have hf2 := few_elen odd
 generalize fewS odd = short at *
 have h5 := pickL now 3000 hnw (by omega)
 have b5 := pickS_bd (c := now) (n := 3000) (by omega)
 generalize pickS now 3000 = T at *
 have hat : ∀ e ∈ l, 0 ≤ e.at_ ∧ e.at_ ≤ 9400 := fun e he => by
  have h5 := hsm e he
  have h6 := (valid_parts hev).2.1 e he
  unfold formB at h6
  simp only [Bool.and_eq_true, inB_iff] at h6
  omega
 obtain ⟨hs1, hs2⟩ := hset
 have hs1' : (0 : Int) < ((List.take 0 [] ++ l).length : Nat) := hs1
 have hgi := getD_some (d := Cd.dflt U.event) (i := ((l.length : Int) - 1).toNat) (show ((l.length : Int) - 1).toNat < l.length by omega)
 rw [Int.toNat_natCast] at hgi
 have hla := hat _ (List.mem_of_getElem? hgi)
 refine meets_of_gx Ax tab_ok Tryz.func4 (c := _) rfl Tryz.call4 900 ?_
 (repeat' ((conv => whnf); first | (exfalso; omega) | refine cpC (h0) ?_ | refine cpC (h1) ?_ | refine cpC (h2) ?_ | refine cpC (h5) ?_ | refine dpC (h5) ?_ | (refine frz_op [some 0, some 1, none, none] [(12, eS (List.take 0 [] ++ l)), (37, .any), (39, .any), (40, .any), (48, .any), (50, .any), (56, .any), (74, eS (List.take 0 [] ++ l))] [(2, .rows U.event []), (3, .rows U.event [])] (by exact bkV) ?_) | refine spC (fun hb => ?_) fun hb => ?_ | refine taC ?_ | refine saC ?_ | refine drawX_of mixed ?_))
 have hbl : EvL (List.take 0 [] ++ l) := ⟨by show (l.length : Int) ≤ _; omega, hE⟩
 generalize (List.take 0 [] ++ l) = bent at *
 obtain ⟨ls, hls⟩ : ∃ ls : List Evs, ([⟨l⟩, ⟨bent⟩, ⟨short⟩] : List Evs) = ls := ⟨_, rfl⟩
 have hll : ls.length = 3 := by rw [← hls]; rfl
 have hlE : ∀ y ∈ ls, EvL y.l := by
  rw [← hls]
  intro y hy
  rcases List.mem_cons.1 hy with rfl | hy
  ·exact ⟨by show (l.length : Int) ≤ _; omega, hE⟩
  ·rcases List.mem_cons.1 hy with rfl | hy
   ·exact hbl
   ·rw [List.mem_singleton.1 hy]; exact ⟨by show (short.length : Int) ≤ _; omega, hf2⟩
 refine loop_upT [some 0, some 1, none, none, some 4] (fun j : Nat => [(78, iS j)]) (fun _ => [(2, .rows U.event []), (3, .rows U.event []), (4, .rows U.evs ls)]) (fun j => j ≤ 3) (fun j => 3 - j) 0 (Nat.zero_le _) (by exact bkI) ?_
 rintro j hj K hK
 dsimp only at hK ⊢
 rcases Nat.lt_or_ge j 3 with hjl | hjg
 ·have hY : EvL (ls.getD (0 + (j : Int).toNat) (Cd.dflt U.evs)).l := getD_all (P := fun y : Evs => EvL y.l) hlE (by show 0 + j < _; omega)
  obtain ⟨ts, hts⟩ : ∃ ts : List Int, ([now, min ((l.getD ((l.length : Int) - 1).toNat (Cd.dflt U.event)).at_ + 1 + T) 1000000] : List Int) = ts := ⟨_, rfl⟩
  have htl : ts.length = 2 := by rw [← hts]; rfl
  (repeat' ((conv => whnf); first | (exfalso; omega) | refine spC (fun hb => ?_) fun hb => ?_ | refine saC ?_))
  refine loop_upT [some 0, some 1, none, none, some 4, some 5] (fun m : Nat => [(87, iS m)]) (fun _ => [(2, .rows U.event []), (3, .rows U.event []), (5, .rows U.int ts)]) (fun m => m ≤ 2) (fun m => 2 - m) 0 (Nat.zero_le _) (by (rw [← hts]; exact bkI)) ?_
  rintro m hm K' hK'
  dsimp only at hK' ⊢
  rcases Nat.lt_or_ge m 2 with hml | hmg
  ·have d1 := tdoom g hG _ hY.1 hY.2 (ts.getD (0 + (m : Int).toNat) (Cd.dflt U.int))
   have d2 := rdoom g hG _ hY.1 hY.2 (ts.getD (0 + (m : Int).toNat) (Cd.dflt U.int))
   have f1 := tfin g hG _ hY.1 hY.2 (ts.getD (0 + (m : Int).toNat) (Cd.dflt U.int))
   have f2 := rfin g hG _ hY.1 hY.2 (ts.getD (0 + (m : Int).toNat) (Cd.dflt U.int))
   cases hok : okF g (ls.getD (0 + (j : Int).toNat) (Cd.dflt U.evs)).l (ts.getD (0 + (m : Int).toNat) (Cd.dflt U.int)) with
   | false =>
    rw [hok, Bool.false_and, if_neg (by simp)] at d1 d2
    rw [hok, if_neg (by simp)] at f1 f2
    have s1 := rsame [] (by simp) (fun e he => by cases he)
    (repeat' ((conv => whnf); first | (exfalso; omega) | refine cpC (d1) ?_ | refine cpC (d2) ?_ | refine cpC (f1) ?_ | refine cpC (f2) ?_ | refine cpC (s1) ?_ | refine hK' (m + 1) [some 0, some 1, none, none, some 4, some 5] _ _ ⟨by omega⟩ ⟨by omega⟩ (by exact bkI) | refine spC (fun hb => ?_) fun hb => ?_ | refine saC ?_))
    done
   | true =>
    have hsm2 := fin_small g (ls.getD (0 + (j : Int).toNat) (Cd.dflt U.evs)).l (ts.getD (0 + (m : Int).toNat) (Cd.dflt U.int)) hok
    rw [hok, Bool.true_and, if_pos rfl] at d1 d2
    rw [hok, if_pos rfl] at f1 f2
    have s1 := rsame _ (by have := hsm2.1; omega) hsm2.2
    generalize (finA g (ls.getD (0 + (j : Int).toNat) (Cd.dflt U.evs)).l (ts.getD (0 + (m : Int).toNat) (Cd.dflt U.int))).getD [] = out at *
    generalize (finA g (ls.getD (0 + (j : Int).toNat) (Cd.dflt U.evs)).l (ts.getD (0 + (m : Int).toNat) (Cd.dflt U.int))).isSome = bs at *
    generalize (finA g (ls.getD (0 + (j : Int).toNat) (Cd.dflt U.evs)).l (ts.getD (0 + (m : Int).toNat) (Cd.dflt U.int))).isNone = bn at *
    have q1 : (bs == bs) = true := by simp
    have q2 : (bn == bn) = true := by simp
    (repeat' ((conv => whnf); first | (exfalso; omega) | (exfalso; rw [q1] at hb; cases hb; done) | (exfalso; rw [q2] at hb; cases hb; done) | refine cpC (d1) ?_ | refine cpC (d2) ?_ | refine cpC (f1) ?_ | refine cpC (f2) ?_ | refine cpC (s1) ?_ | refine hK' (m + 1) [some 0, some 1, none, none, some 4, some 5] _ _ ⟨by omega⟩ ⟨by omega⟩ (by exact bkI) | refine spC (fun hb => ?_) fun hb => ?_ | refine saC ?_))
    done
  ·(repeat' ((conv => whnf); first | (exfalso; omega) | refine hK (j + 1) [some 0, some 1, none, none, some 4] _ _ ⟨by omega⟩ ⟨by omega⟩ (by exact bkI) | refine spC (fun hb => ?_) fun hb => ?_ | refine saC ?_))
   done
 ·(repeat' ((conv => whnf); first | (exfalso; omega) | refine x0C ?_ | refine spC (fun hb => ?_) fun hb => ?_))
  all_goals exact vwV
theorem lfuture (xs : List A5) (ys : List A4) (hx : ∀ y ∈ xs, A5OK y) (hxl : (xs.length : Int) ≤ 9223372036854775807) (hy : ∀ y ∈ ys, A4OK y) (hyl : (ys.length : Int) ≤ 9223372036854775807) (odd : List Event) (hodd : (odd.length : Int) ≤ 9223372036854775807) (hoddE : ∀ e ∈ odd, ELen e) (which now : Int) (hw : I64 which) (hnw : I64 now) : Meets Tryz.prog Dc 4 [.agg [a5S xs, a4S ys], eS odd, iS which, iS now] [] (bS true) [] := by
 by_cases h1 : ((eventsS (goalS xs) ys).length : Int) = 0
 ·exact lfuture2 xs ys hx hxl hy hyl odd hodd hoddE which now hw hnw h1
 ·by_cases h2 : ((fewS odd).length : Int) = 0
  ·exact lfuture3 xs ys hx hxl hy hyl odd hodd hoddE which now hw hnw ⟨by omega, h2⟩
  ·exact lfuture1 xs ys hx hxl hy hyl odd hodd hoddE which now hw hnw ⟨by omega, by omega⟩
end Go.SX

namespace Go.SX
open Go.Proofs Go.Proofs.YtdaghncicimipaaGreatDoor Go.ChangeShapes Go.WideShapes Go.ChangeAt Go.RowKit Go.Deep
set_option maxHeartbeats 4000000
set_option maxRecDepth 100000
variable {H : Type} {enc : TypeId × Value → H} {W : World}
theorem rint3 : ReadsAs (C := Cd) Dc enc Tryz.prog W 3 U.int (fun _ => True) := by
 refine ⟨by kernel_rfl, fun fuel cs x h => ?_⟩
 obtain ⟨z, rfl, _, _⟩ := DataW.trod_int Tryz.underlying3 h
 exact ⟨z, pdenL_ints Dc W (Old W) [z], trivial⟩
/-- cells, one by one -/
theorem pdc0 : PDenL Dc W (Old W) [] [] := ⟨rfl, fun j pv v h => by cases h⟩
theorem pdc1 {p : PV Cd} {v : Value} {ps : List (PV Cd)} {vs : List Value} (h : PDen Dc W (Old W) p v) (h2 : PDenL Dc W (Old W) ps vs) : PDenL Dc W (Old W) (p :: ps) (v :: vs) := by
 refine ⟨by simp [h2.1], fun j pv w h3 h4 => ?_⟩
 match j, h3, h4 with
 | 0, h3, h4 =>
  injection h3 with h3; injection h4 with h4
  subst h3 h4; exact h
 | j + 1, h3, h4 => exact h2.2 j pv w h3 h4
theorem fieldOf {t : TypeId} {fs : Array Field} (ht : Tryz.prog.underlying t = some (.struct fs)) {fuel : Nat} {cs : List Value} {x : DataW H × List MemPlace} (h : DataW.trod enc Tryz.prog W 0 (fun _ => true) true fuel t cs = some x) :
  ∃ n, fuel = n + 1 ∧ cs.length = Tryz.prog.cellsOf t ∧ ∀ (i : Nat) (f : Field), fs[i]? = some f → ∃ y, DataW.trod enc Tryz.prog W 0 (fun _ => true) true n f.type ((cs.drop f.offset).take (Tryz.prog.cellsOf f.type)) = some y := by
 obtain ⟨xs, n, hf, _, hlen, hxs, hel⟩ := DataW.trod_struct ht h
 refine ⟨n, hf, hlen, fun i f hi => ?_⟩
 have h1 := hel i f hi
 have h2 : i < fs.size := by
  rcases Nat.lt_or_ge i fs.size with h' | h'
  ·exact h'
  ·rw [Array.getElem?_eq_none h'] at hi; cases hi
 rw [List.getElem?_eq_getElem (by omega)] at h1
 exact ⟨_, h1⟩
theorem k3 : Tryz.prog.cellsOf 3 = 1 := by kernel_rfl
theorem k4 : Tryz.prog.cellsOf 4 = 1 := by kernel_rfl
theorem k26 : Tryz.prog.cellsOf 26 = 1 := by kernel_rfl
theorem k28 : Tryz.prog.cellsOf 28 = 1 := by kernel_rfl
theorem k40 : Tryz.prog.cellsOf 40 = 7 := by kernel_rfl
abbrev Tr (enc : TypeId × Value → H) (W : World) (n : Nat) (t : TypeId) (cs : List Value) : Prop := ∃ y, DataW.trod enc Tryz.prog W 0 (fun _ => true) true n t cs = some y
theorem tr_int {n : Nat} {c : Value} (h : Tr enc W n 3 [c]) : ∃ z, PDen Dc W (Old W) (.int .i64 z) c := by
 obtain ⟨y, h⟩ := h
 obtain ⟨z, e, _, _⟩ := DataW.trod_int Tryz.underlying3 h
 injection e with e
 subst e
 exact ⟨z, .int _ _⟩
theorem tr_bool {n : Nat} {c : Value} (h : Tr enc W n 4 [c]) : ∃ z, PDen Dc W (Old W) (.bool z) c := by
 obtain ⟨y, h⟩ := h
 obtain ⟨z, e, _⟩ := DataW.trod_bool Tryz.underlying4 h
 injection e with e
 subst e
 exact ⟨z, .bool _⟩
theorem tr_ints {n : Nat} {c : Value} (h : Tr enc W n 26 [c]) : ∃ l : List Int, PDen Dc W (Old W) (.dsl U.int l) c ∧ (l.length : Int) ≤ 9223372036854775807 := by
 obtain ⟨y, h⟩ := h
 obtain ⟨v, l, e, h2, _, h3⟩ := readSlice rint3 Tryz.underlying26 h
 injection e with e
 subst e
 have hm : maxLen = 9223372036854775807 := rfl
 exact ⟨l, h2, by omega⟩
theorem tr_area {n : Nat} {c : Value} (h : Tr enc W n 28 [c]) : ∃ l : List Int, PDen Dc W (Old W) (.dsl U.int l) c ∧ (l.length : Int) ≤ 9223372036854775807 := by
 obtain ⟨y, h⟩ := h
 obtain ⟨m, _, _, hf⟩ := fieldOf Tryz.underlying28 h
 have e : Tr enc W m 26 (([c].drop 0).take (Tryz.prog.cellsOf 26)) := hf 0 _ rfl
 rw [k26] at e
 exact tr_ints e
theorem revent : ReadsAs (C := Cd) Dc enc Tryz.prog W 40 U.event ELen := by
 refine ⟨by kernel_rfl, fun fuel cs x h => ?_⟩
 obtain ⟨m, _, hl, hf⟩ := fieldOf Tryz.underlying40 h
 rw [k40] at hl
 match cs, hl with
 | [c0, c1, c2, c3, c4, c5, c6], _ =>
  have e0 : Tr enc W m 3 (([c0, c1, c2, c3, c4, c5, c6].drop 0).take (Tryz.prog.cellsOf 3)) := hf 0 _ rfl
  have e1 : Tr enc W m 3 (([c0, c1, c2, c3, c4, c5, c6].drop 1).take (Tryz.prog.cellsOf 3)) := hf 1 _ rfl
  have e2 : Tr enc W m 3 (([c0, c1, c2, c3, c4, c5, c6].drop 2).take (Tryz.prog.cellsOf 3)) := hf 2 _ rfl
  have e3 : Tr enc W m 28 (([c0, c1, c2, c3, c4, c5, c6].drop 3).take (Tryz.prog.cellsOf 28)) := hf 3 _ rfl
  have e4 : Tr enc W m 3 (([c0, c1, c2, c3, c4, c5, c6].drop 4).take (Tryz.prog.cellsOf 3)) := hf 4 _ rfl
  have e5 : Tr enc W m 3 (([c0, c1, c2, c3, c4, c5, c6].drop 5).take (Tryz.prog.cellsOf 3)) := hf 5 _ rfl
  have e6 : Tr enc W m 4 (([c0, c1, c2, c3, c4, c5, c6].drop 6).take (Tryz.prog.cellsOf 4)) := hf 6 _ rfl
  rw [k3] at e0 e1 e2 e4 e5
  rw [k28] at e3
  rw [k4] at e6
  obtain ⟨z0, d0⟩ := tr_int e0
  obtain ⟨z1, d1⟩ := tr_int e1
  obtain ⟨z2, d2⟩ := tr_int e2
  obtain ⟨z3, d3, b3⟩ := tr_area e3
  obtain ⟨z4, d4⟩ := tr_int e4
  obtain ⟨z5, d5⟩ := tr_int e5
  obtain ⟨z6, d6⟩ := tr_bool e6
  exact ⟨⟨z0, z1, z2, z3, z4, z5, z6⟩, pdc1 d0 (pdc1 d1 (pdc1 d2 (pdc1 d3 (pdc1 d4 (pdc1 d5 (pdc1 d6 pdc0)))))), b3⟩
variable {r : Reach} {b0' : Nat} {v : Value} {d : DataW H} {ps : List MemPlace}
end Go.SX
