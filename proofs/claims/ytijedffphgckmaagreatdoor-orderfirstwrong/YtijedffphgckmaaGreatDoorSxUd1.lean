/-
  Walks: Ud1, Ud2, Ud3, Td4, Tp4, Tq0, Td5: what single functions of the program compute.
-/
import Derived.Test.YtijedffphgckmaaGreatDoorSxUc2
import Derived.Test.YtijedffphgckmaaGreatDoorSxUa3
set_option linter.unusedVariables false
set_option linter.unusedSimpArgs false
namespace Go.SX
open Go.Proofs
set_option maxHeartbeats 4000000
set_option maxRecDepth 100000
theorem manyL_snoc : ∀ (l : List Goal) (k : Goal), manyL (l ++ [k]) = manyL l + manyG k
 | [], k => by simp [manyL]
 | x :: l, k => by rw [List.cons_append, manyL, manyL, manyL_snoc l k]; omega
theorem maxI_bd (a b : Int) : a ≤ maxI a b ∧ b ≤ maxI a b ∧ (maxI a b = a ∨ maxI a b = b) := by unfold maxI; split <;> omega
mutual
theorem deepG_pos : ∀ g : Goal, 1 ≤ deepG g
 | ⟨_, _, _, _, _, _, _, _, _, _, _, kids⟩ => by rw [deepG]; have := deepL_pos kids; omega
theorem deepL_pos : ∀ l : List Goal, 0 ≤ deepL l
 | [] => by simp [deepL]
 | k :: l => by rw [deepL]; have := deepG_pos k; have := maxI_bd (deepG k) (deepL l); omega
end
theorem deepL_snoc : ∀ (l : List Goal) (k : Goal), deepL (l ++ [k]) = maxI (deepL l) (deepG k)
 | [], k => by
  have := deepG_pos k
  simp only [List.nil_append, deepL]
  unfold maxI; split <;> split <;> omega
 | x :: l, k => by
  rw [List.cons_append, deepL, deepL, deepL_snoc l k]
  unfold maxI
  repeat' split
  all_goals omega
theorem manyL_mono {l : List Goal} (h : ∀ k ∈ l, 0 ≤ manyG k) : ∀ i, 0 ≤ manyL (l.take i) ∧ manyL (l.take i) ≤ manyL l := by
 induction l with
 | nil => intro i; simp [manyL]
 | cons x l ih =>
  intro i
  cases i with
  | zero => simp only [List.take_zero, manyL]; have := h x (by simp); have := ih (fun k hk => h k (by simp [hk])) 0; simp [manyL] at this; omega
  | succ i => simp only [List.take_succ_cons, manyL]; have := h x (by simp); have := ih (fun k hk => h k (by simp [hk])) i; omega
mutual
theorem manyG_pos : ∀ g : Goal, 1 ≤ manyG g
 | ⟨_, _, _, _, _, _, _, _, _, _, _, kids⟩ => by rw [manyG]; have := manyL_pos kids; omega
theorem manyL_pos : ∀ l : List Goal, 0 ≤ manyL l
 | [] => by simp [manyL]
 | k :: l => by rw [manyL]; have := manyG_pos k; have := manyL_pos l; omega
end
theorem manyL_mem : ∀ {l : List Goal} {k : Goal}, k ∈ l → manyG k ≤ manyL l
 | [], k, h => by simp at h
 | x :: l, k, h => by
  rw [manyL]
  have h1 := manyL_pos l
  have h2 := manyG_pos x
  rcases List.mem_cons.1 h with rfl | h
  ·omega
  ·have := manyL_mem h; omega
theorem deepL_mem : ∀ {l : List Goal} {k : Goal}, k ∈ l → deepG k ≤ deepL l
 | [], k, h => by simp at h
 | x :: l, k, h => by
  rw [deepL]
  have := maxI_bd (deepG x) (deepL l)
  rcases List.mem_cons.1 h with rfl | h
  ·omega
  ·have := deepL_mem h; omega
theorem lmany : ∀ (n : Nat) (g : Goal), SizeOf.sizeOf g ≤ n → manyG g ≤ 1000000 → Meets Tryz.prog Dc 33 [goalA g] [] (iS (manyG g)) []
 | 0, g, hn, _ => by cases g; simp at hn
 | n + 1, g, hn, hb => by
  have hk : ∀ x ∈ g.kids, SizeOf.sizeOf x ≤ n := fun x hx => by
   have h1 := List.sizeOf_lt_of_mem hx
   have h2 : SizeOf.sizeOf g.kids < SizeOf.sizeOf g := by cases g; simp; omega
   omega
  rw [manyG_eq] at hb ⊢
  have h4 : ∀ x ∈ g.kids, Meets Tryz.prog Dc 33 [goalA x] [] (iS (manyG x)) [] := fun x hx => lmany n x (hk x hx) (by have := manyL_mem hx; omega)
  have hm := manyL_mono (l := g.kids) fun k _ => by have := manyG_pos k; omega
  have hlen : (g.kids.length : Int) ≤ manyL g.kids := by
   have : ∀ l : List Goal, (l.length : Int) ≤ manyL l := by
    intro l
    induction l with
    | nil => simp [manyL]
    | cons x l ih => rw [manyL]; have := manyG_pos x; simp; omega
   exact this _
  clear hk hn
  refine meets_of_gx Ax tab_ok Tryz.func33 (c := _) rfl Tryz.call33 100 ?_
  (repeat' ((conv => whnf); first | (exfalso; omega) | refine x0C ?_ | refine spC (fun hb => ?_) fun hb => ?_ | refine nilC (fun hb => ?_) ?_ | refine taC ?_ | refine saC ?_ | exact sdV | refine side_and ?_ ?_ | refine drawX_of mixed ?_))
  refine loop_up (fun i : Nat => [(3, iS (1 + manyL (g.kids.take i))), (4, iS i)]) (fun _ => []) (fun i => i ≤ g.kids.length) (fun i => g.kids.length - i) 0 (Nat.zero_le _) (by exact bkI) ?_
  intro i hi K hK
  have hmi := hm i
  rcases Nat.lt_or_ge i g.kids.length with hlt | hge
  ·have hmem : g.kids.getD (i : Int).toNat (Cd.dflt U.goal) ∈ g.kids := List.mem_of_getElem? (getD_some (d := Cd.dflt U.goal) hlt)
   have hx := h4 _ hmem
   have h1 := manyL_mem hmem
   have h0 := manyG_pos (g.kids.getD (i : Int).toNat (Cd.dflt U.goal))
   have hs : 1 + manyL (g.kids.take i) + manyG (g.kids.getD (i : Int).toNat (Cd.dflt U.goal)) = 1 + manyL (g.kids.take (i + 1)) := by
    rw [take_getD (d := Cd.dflt U.goal) hlt, manyL_snoc]
    show 1 + manyL (g.kids.take i) + manyG (g.kids.getD i (Cd.dflt U.goal)) = _
    omega
   clear h4
   (repeat' ((conv => whnf); first | (exfalso; omega) | refine cpC (hx) ?_ | refine dpC (hx) ?_ | (rw [hs]; refine hK (i + 1) [some 0] _ _ ⟨by omega⟩ ⟨by omega⟩ (by exact bkI)) | refine x0C ?_ | refine spC (fun hb => ?_) fun hb => ?_ | refine nilC (fun hb => ?_) ?_ | refine taC ?_ | refine saC ?_ | exact sdV | refine side_and ?_ ?_ | refine drawX_of mixed ?_))
  ·rw [List.take_of_length_le hge]
   (repeat' ((conv => whnf); first | (exfalso; omega) | (refine end_fn [] (.inr rfl) ?_ ?_ rfl rfl; (focus exact vwV); exact hsV) | refine x0C ?_ | refine spC (fun hb => ?_) fun hb => ?_ | refine nilC (fun hb => ?_) ?_ | refine taC ?_ | refine saC ?_ | exact sdV | refine side_and ?_ ?_ | refine drawX_of mixed ?_))
theorem maxI_eq (a b : Int) : max a b = maxI a b := by unfold maxI; omega
theorem deepL_len (l : List Goal) : ∀ i, deepL (l.take i) ≤ deepL l := fun i => by
 have key : ∀ (m : List Goal) (l : List Goal), deepL l ≤ deepL (l ++ m) := by
  intro m
  induction m with
  | nil => intro l; simp
  | cons x m ih => intro l; have := ih (l ++ [x]); rw [List.append_assoc] at this; rw [deepL_snoc] at this; have := maxI_bd (deepL l) (deepG x); simp at *; omega
 have := key (l.drop i) (l.take i)
 rwa [List.take_append_drop] at this
theorem ldeep : ∀ (n : Nat) (g : Goal), SizeOf.sizeOf g ≤ n → deepG g ≤ 1000000 → GAll g → Meets Tryz.prog Dc 34 [goalA g] [] (iS (deepG g)) []
 | 0, g, hn, _, _ => by cases g; simp at hn
 | n + 1, g, hn, hb, hG => by
  have hG' := (GAll_iff g).1 hG
  have hk : ∀ x ∈ g.kids, SizeOf.sizeOf x ≤ n := fun x hx => by
   have h1 := List.sizeOf_lt_of_mem hx
   have h2 : SizeOf.sizeOf g.kids < SizeOf.sizeOf g := by cases g; simp; omega
   omega
  rw [deepG_eq] at hb ⊢
  have h4 : ∀ x ∈ g.kids, Meets Tryz.prog Dc 34 [goalA x] [] (iS (deepG x)) [] := fun x hx => ldeep n x (hk x hx) (by have := deepL_mem hx; omega) (GAllL_mem hG'.2 hx)
  have hm := deepL_len g.kids
  have hgl := hG'.1.kids
  have hp := deepL_pos g.kids
  clear hk hn hG hG'
  refine meets_of_gx Ax tab_ok Tryz.func34 (c := _) rfl Tryz.call34 100 ?_
  (repeat' ((conv => whnf); first | (exfalso; omega) | refine x0C ?_ | refine spC (fun hb => ?_) fun hb => ?_ | refine nilC (fun hb => ?_) ?_ | refine taC ?_ | refine saC ?_ | exact sdV | refine side_and ?_ ?_ | refine drawX_of mixed ?_))
  refine loop_up (fun i : Nat => [(3, iS (deepL (g.kids.take i))), (4, iS i)]) (fun _ => []) (fun i => i ≤ g.kids.length) (fun i => g.kids.length - i) 0 (Nat.zero_le _) (by exact bkI) ?_
  intro i hi K hK
  have hmi := hm i
  have hpi := deepL_pos (g.kids.take i)
  rcases Nat.lt_or_ge i g.kids.length with hlt | hge
  ·have hmem : g.kids.getD (i : Int).toNat (Cd.dflt U.goal) ∈ g.kids := List.mem_of_getElem? (getD_some (d := Cd.dflt U.goal) hlt)
   have hx := h4 _ hmem
   have hs : max (deepL (g.kids.take i)) (deepG (g.kids.getD (i : Int).toNat (Cd.dflt U.goal))) = deepL (g.kids.take (i + 1)) := by
    rw [take_getD (d := Cd.dflt U.goal) hlt, deepL_snoc, ← maxI_eq]
    rfl
   clear h4
   (repeat' ((conv => whnf); first | (exfalso; omega) | refine cpC (hx) ?_ | refine dpC (hx) ?_ | (rw [hs]; refine hK (i + 1) [some 0] _ _ ⟨by omega⟩ ⟨by omega⟩ (by exact bkI)) | refine x0C ?_ | refine spC (fun hb => ?_) fun hb => ?_ | refine nilC (fun hb => ?_) ?_ | refine taC ?_ | refine saC ?_ | exact sdV | refine side_and ?_ ?_ | refine drawX_of mixed ?_))
  ·rw [List.take_of_length_le hge]
   (repeat' ((conv => whnf); first | (exfalso; omega) | (refine end_fn [] (.inr rfl) ?_ ?_ rfl rfl; (focus exact vwV); exact hsV) | refine x0C ?_ | refine spC (fun hb => ?_) fun hb => ?_ | refine nilC (fun hb => ?_) ?_ | refine taC ?_ | refine saC ?_ | exact sdV | refine side_and ?_ ?_ | refine drawX_of mixed ?_))
@[reducible] def shF : SV Cd := .fn (.func 46) [] [.ptr 0 0, .ptr 1 0]
@[reducible] def gsS (l : List Goal) : SV Cd := .p (.dsl U.goal l)
theorem oshot1 (r : List Int) (f t lo hi : Int) (c : Bool) (dy tm wi : Int) (ce : List Int) (hr : (r.length : Int) ≤ 1000) : Meets Tryz.prog Dc 46 [goalA ⟨1, r, f, t, lo, hi, c, dy, tm, wi, ce, []⟩, .ptr 0 0, .ptr 1 0] [.vart none [nilS], .vart none [shF]] (.tuple []) [.vart none [.slice 2 0 12 0 1], .vart none [shF], .rows U.goal [⟨1, r, f, t, lo, hi, c, dy, tm, wi, ce, []⟩]] := by
 have hc := cloneI r (by omega)
 refine meets_of_gx Ax tab_ok Tryz.func46 (c := _) rfl Tryz.call46 300 ?_
 (repeat' ((conv => whnf); first | (exfalso; omega) | (refine callh [] hc rfl rfl trivial ?_) | refine x0C ?_ | refine spC (fun hb => ?_) fun hb => ?_ | refine nilC (fun hb => ?_) ?_ | refine taC ?_ | refine saC ?_ | exact sdV | refine side_and ?_ ?_))
 conv => whnf
 refine frz_draw [some 0, some 1, some 2, none] [(0, .any), (12, .any)] [(2, .vart none [iS 1, lS r, iS f, iS t, iS lo, iS hi, bS c, iS dy, iS tm, iS wi, lS ce, gsS []]), (3, .rows U.int [])] (by exact bkV) ?_
 conv => whnf
 refine drawX_of mixed ?_
 (repeat' ((conv => whnf); first | (exfalso; omega) | refine x0C ?_ | refine spC (fun hb => ?_) fun hb => ?_ | refine nilC (fun hb => ?_) ?_ | refine taC ?_ | refine saC ?_ | exact sdV | refine side_and ?_ ?_))
 conv => whnf
 refine loop_up (fun _ : Unit => [(24, iS 0)]) (fun _ => []) (fun _ => True) (fun _ => 0) () trivial (by exact bkW) ?_
 intro _ _ K hK
 (repeat' ((conv => whnf); first | (exfalso; omega) | (refine end_fn [some 0, some 1, some 5] (.inl rfl) ?_ ?_ rfl rfl; (focus exact vwV); exact hsW) | refine x0C ?_ | refine spC (fun hb => ?_) fun hb => ?_ | refine nilC (fun hb => ?_) ?_ | refine taC ?_ | refine saC ?_ | exact sdV | refine side_and ?_ ?_))
theorem oshots (r : List Int) (f t lo hi : Int) (c : Bool) (dy tm wi : Int) (ce : List Int) (hr : (r.length : Int) ≤ 1000) (hv : Meets Tryz.prog Dc 18 [goalA ⟨1, r, f, t, lo, hi, c, dy, tm, wi, ce, []⟩] [] (bS true) []) : Meets Tryz.prog Dc 22 [goalA ⟨1, r, f, t, lo, hi, c, dy, tm, wi, ce, []⟩] [] (gsS [⟨1, r, f, t, lo, hi, c, dy, tm, wi, ce, []⟩]) [] := by
 have h1 := oshot1 r f t lo hi c dy tm wi ce hr
 refine meets_of_gx Ax tab_ok Tryz.func22 (c := _) rfl Tryz.call22 300 ?_
 (repeat' ((conv => whnf); first | (exfalso; omega) | refine cpC (hv) ?_ | refine dpC (hv) ?_ | (refine callh [some 1, some 2] h1 rfl rfl ⟨rfl, rfl, trivial⟩ ?_) | (refine end_fn [] (.inr rfl) ?_ ?_ rfl rfl; (focus exact vwV); exact hsV) | refine x0C ?_ | refine spC (fun hb => ?_) fun hb => ?_ | refine nilC (fun hb => ?_) ?_ | refine taC ?_ | refine saC ?_ | exact sdV | refine side_and ?_ ?_ | refine drawX_of mixed ?_))
theorem gall_see : GAll seeEx := by
 rw [GAll_iff]; exact ⟨⟨by decide, by decide, by decide⟩, by simp [seeEx, GAllL]⟩
theorem gall_zero : GAll zeroO.goal := by
 rw [GAll_iff]; exact ⟨⟨by decide, by decide, by decide⟩, by show GAllL []; simp [GAllL]⟩
theorem oshotsEx : Meets Tryz.prog Dc 22 [goalA seeEx] [] (gsS [seeEx]) [] :=
 oshots _ _ _ _ _ _ _ _ _ _ (by decide) (by have := valid_meets seeEx gall_see; rw [ex_valid] at this; exact this)
theorem lsane : Meets Tryz.prog Dc 10 [] [] (bS true) [] := by
 have h1 : Meets Tryz.prog Dc 14 [ordA oEx] [] (.tuple [wS wantW, iS 0]) [] := by have := oprint oEx gall_see; rw [ex_print] at this; exact this
 have h2 : Meets Tryz.prog Dc 25 [wS wantW] [] (.tuple [ordA oEx, iS 29, iS 0]) [] := by have := oparse wantW (by decide); unfold retP at this; rw [ex_parse] at this; exact this
 have h3 : Meets Tryz.prog Dc 25 [wS bad1] [] (.tuple [ordA zeroO, iS 3, iS 130]) [] := by have := oparse bad1 (by decide); unfold retP at this; rw [ex_bad1] at this; exact this
 have h4 : Meets Tryz.prog Dc 25 [wS bad2] [] (.tuple [ordA zeroO, iS 12, iS 130]) [] := by have := oparse bad2 (by decide); unfold retP at this; rw [ex_bad2] at this; exact this
 have h5 : Meets Tryz.prog Dc 25 [wS bad3] [] (.tuple [ordA zeroO, iS 4, iS 130]) [] := by have := oparse bad3 (by decide); unfold retP at this; rw [ex_bad3] at this; exact this
 have h6 : Meets Tryz.prog Dc 21 [ordA oEx, ordA oEx] [] (bS true) [] := by have := rsameO oEx oEx gall_see gall_see; rw [ex_same] at this; exact this
 have h7 := ktok wantW (by decide)
 have h7l := ex_tok
 have h8 : Meets Tryz.prog Dc 22 [goalA seeEx] [] (gsS [seeEx]) [] := oshotsEx
 have h9 : Meets Tryz.prog Dc 16 [ordA oEx] [] (bS true) [] := by have := ovalid oEx gall_see; rw [ex_ord] at this; exact this
 have h10 : Meets Tryz.prog Dc 16 [ordA zeroO] [] (bS false) [] := by have := ovalid zeroO gall_zero; rw [ex_ord0] at this; exact this
 have h11 : Meets Tryz.prog Dc 18 [goalA seeEx] [] (bS true) [] := by have := valid_meets seeEx gall_see; rw [ex_valid] at this; exact this
 have h12 : Meets Tryz.prog Dc 18 [goalA zeroO.goal] [] (bS false) [] := by have := valid_meets zeroO.goal gall_zero; rw [show validG zeroO.goal = false from ex_goal0] at this; exact this
 have h13 : Meets Tryz.prog Dc 20 [ordA oEx, ordA oEx] [] (bS true) [] := by have := osame oEx oEx gall_see; rw [ex_same] at this; exact this
 have h14 : Meets Tryz.prog Dc 20 [ordA oEx, ordA zeroO] [] (bS false) [] := by have := osame oEx zeroO gall_see; rw [ex_same0] at this; exact this
 have z10 : Meets Tryz.prog Dc 16 [.agg ordZ] [] (bS false) [] := mviewC h10 (by exact snV)
 have z12 : Meets Tryz.prog Dc 18 [kindA 0] [] (bS false) [] := mviewC h12 (by exact snV)
 have z14 : Meets Tryz.prog Dc 20 [ordA oEx, .agg ordZ] [] (bS false) [] := mviewC h14 (by exact snV)
 generalize tokensW wantW = tk at *
 refine meets_of_gx Ax tab_ok Tryz.func10 (c := _) rfl Tryz.call10 900 ?_
 (repeat' ((conv => whnf); first | refine cpC (lsee) ?_ | refine dpC (lsee) ?_ | refine cpC (h1) ?_ | refine dpC (h1) ?_ | refine cpC (h2) ?_ | refine dpC (h2) ?_ | refine cpC (h3) ?_ | refine dpC (h3) ?_ | refine cpC (h4) ?_ | refine dpC (h4) ?_ | refine cpC (h5) ?_ | refine dpC (h5) ?_ | refine cpC (h6) ?_ | refine dpC (h6) ?_ | refine cpC (h7) ?_ | refine dpC (h7) ?_ | refine cpC (h8) ?_ | refine dpC (h8) ?_ | refine cpC (h9) ?_ | refine dpC (h9) ?_ | refine cpC (z10) ?_ | refine dpC (z10) ?_ | refine cpC (h11) ?_ | refine dpC (h11) ?_ | refine cpC (z12) ?_ | refine dpC (z12) ?_ | refine cpC (h13) ?_ | refine dpC (h13) ?_ | refine cpC (z14) ?_ | refine dpC (z14) ?_ | (exfalso; omega) | (refine end_fn [] (.inr rfl) ?_ ?_ rfl rfl; (focus exact vwV); exact hsV) | refine x0C ?_ | refine spC (fun hb => ?_) fun hb => ?_ | refine nilC (fun hb => ?_) ?_ | refine taC ?_ | refine saC ?_ | exact sdV | refine side_and ?_ ?_ | refine drawX_of mixed ?_))
section
variable {C : Cod} {P : Program} {D : Codec C} {tab : Tab C} {Hp : List (HS C)} {ret : SV C}
theorem fzL {θ : List (Option Nat)} {c o n off len : Nat} {u : C.U} {ys xs : List (C.El u)} (h1 : getC Hp c = .rows u xs := by rfl) (h2 : o = 0 := by rfl) (h3 : n = C.n u := by rfl) (h4 : off + len ≤ xs.length := by first | (simp; done) | (simp; omega) | omega)
  (h5 : ys = (xs.drop off).take len := by (simp only [List.drop_zero]; exact (List.take_of_length_le (by first | omega | (simp; omega))).symm)) (h6 : inO θ c = false := by rfl) : FrozenAs Hp θ c o n off len u ys := ⟨xs, h1, h2, h3, h4, h5, h6⟩
theorem vwL {θ : List (Option Nat)} {l : Option (List (SV C))} (h : endV Hp θ ret l := by first | ((repeat' (first | exact trivial | exact rfl | refine And.intro ?_ ?_ | exact fzV | exact fzL | exact fvV)); done) | fail) : EndV Hp θ ret l := ⟨h⟩
end
theorem pick13 (c n : Int) (hc : -9223372036854775808 ≤ c ∧ c ≤ 9223372036854775807) (h : 0 < n) : Meets Tryz.prog Dc 36 [iS c, iS n] [] (iS (pickS c n)) [] := by
 have e : ∀ x : Int, 0 ≤ x → x.tmod n = x % n := fun x hx => Int.tmod_eq_emod_of_nonneg hx
 unfold pickS
 by_cases hc0 : c < 0
 ·rw [if_pos hc0, ← e _ (by omega)]
  refine meets_of_gx Ax tab_ok Tryz.func36 (c := _) rfl Tryz.call36 60 ?_
  (repeat' ((conv => whnf); first | refine x0C (eI ?_ rfl) | (exfalso; omega) | refine x0C ?_ | refine spC (fun hb => ?_) fun hb => ?_ | refine nilC (fun hb => ?_) ?_ | refine taC ?_ | refine saC ?_ | exact sdV | refine side_and ?_ ?_ | refine drawX_of mixed ?_))
  all_goals first | rfl | (rw [Int.zero_sub])
 ·rw [if_neg hc0, ← e _ (by omega)]
  refine meets_of_gx Ax tab_ok Tryz.func36 (c := _) rfl Tryz.call36 60 ?_
  (repeat' ((conv => whnf); first | refine x0C (eI ?_ rfl) | (exfalso; omega) | refine x0C ?_ | refine spC (fun hb => ?_) fun hb => ?_ | refine nilC (fun hb => ?_) ?_ | refine taC ?_ | refine saC ?_ | exact sdV | refine side_and ?_ ?_ | refine drawX_of mixed ?_))
  all_goals first | rfl | (rw [Int.zero_sub])
theorem pickL (c n : Int) (hc : -9223372036854775808 ≤ c ∧ c ≤ 9223372036854775807) (h : 0 < n) : Meets Tryz.prog Dc 13 [iS c, iS n] [] (iS (pickS c n)) [] := by
 have e : ∀ x : Int, 0 ≤ x → x.tmod n = x % n := fun x hx => Int.tmod_eq_emod_of_nonneg hx
 unfold pickS
 by_cases hc0 : c < 0
 ·rw [if_pos hc0, ← e _ (by omega)]
  refine meets_of_gx Ax tab_ok Tryz.func13 (c := _) rfl Tryz.call13 60 ?_
  (repeat' ((conv => whnf); first | refine x0C (eI ?_ rfl) | (exfalso; omega) | refine x0C ?_ | refine spC (fun hb => ?_) fun hb => ?_ | refine nilC (fun hb => ?_) ?_ | refine taC ?_ | refine saC ?_ | exact sdV | refine side_and ?_ ?_ | refine drawX_of mixed ?_))
  all_goals first | rfl | (rw [Int.zero_sub])
 ·rw [if_neg hc0, ← e _ (by omega)]
  refine meets_of_gx Ax tab_ok Tryz.func13 (c := _) rfl Tryz.call13 60 ?_
  (repeat' ((conv => whnf); first | refine x0C (eI ?_ rfl) | (exfalso; omega) | refine x0C ?_ | refine spC (fun hb => ?_) fun hb => ?_ | refine nilC (fun hb => ?_) ?_ | refine taC ?_ | refine saC ?_ | exact sdV | refine side_and ?_ ?_ | refine drawX_of mixed ?_))
  all_goals first | rfl | (rw [Int.zero_sub])
def I64 (c : Int) : Prop := -9223372036854775808 ≤ c ∧ c ≤ 9223372036854775807
@[reducible] def a5A (x : A5) : SV Cd := .agg [iS x.a, iS x.b, iS x.c, iS x.d, iS x.e]
structure A5OK (x : A5) : Prop where
 a : I64 x.a
 b : I64 x.b
 c : I64 x.c
 d : I64 x.d
 e : I64 x.e
theorem tdiv_i64 {c n : Int} (h : -9223372036854775808 ≤ c ∧ c ≤ 9223372036854775807) (hn : 1 < n) : -9223372036854775808 ≤ c.tdiv n ∧ c.tdiv n ≤ 9223372036854775807 := by
 rcases Int.le_total 0 c with h0 | h0
 ·rw [Int.tdiv_eq_ediv_of_nonneg h0]
  have := Int.ediv_nonneg h0 (show 0 ≤ n by omega)
  have := Int.ediv_le_self n h0
  omega
 ·have e : c.tdiv n = -((-c) / n) := by
   have := Int.tdiv_eq_ediv_of_nonneg (a := -c) (b := n) (by omega)
   rw [← this, Int.neg_tdiv, Int.neg_neg]
  rw [e]
  have h1 := Int.ediv_nonneg (show 0 ≤ -c by omega) (show 0 ≤ n by omega)
  have h2 := Int.ediv_le_self n (show 0 ≤ -c by omega)
  omega
theorem rseX (x : A5) (hx : A5OK x) : Meets Tryz.prog Dc 85 [a5A x] [] (goalA (seeS x)) [] := by
 obtain ⟨ha, hb', hc, hd, he⟩ := hx
 unfold I64 at *
 have hda := tdiv_i64 (n := 48) ha (by omega)
 have hdb := tdiv_i64 (n := 24) hb' (by omega)
 have hde := tdiv_i64 (n := 40) he (by omega)
 have p1 := pick13 (x.b.tdiv 24) 3 hdb (by omega)
 have p2 := pick13 (x.a.tdiv 48) 3 hda (by omega)
 have p3 := pick13 x.a 48 ha (by omega)
 have p4 := pick13 x.b 24 hb' (by omega)
 have p5 := pick13 x.c 3 hc (by omega)
 have p6 := pick13 x.c 48 hc (by omega)
 have p7 := pick13 x.c 3000 hc (by omega)
 have p8 := pick13 x.d 5000 hd (by omega)
 have p9 := pick13 x.e 40 he (by omega)
 have p10 := pick13 (x.e.tdiv 40) 51 hde (by omega)
 have p11 := pick13 x.d 2 hd (by omega)
 have b1 := pickS_bd (c := x.b.tdiv 24) (n := 3) (by omega)
 have b2 := pickS_bd (c := x.a.tdiv 48) (n := 3) (by omega)
 have b3 := pickS_bd (c := x.a) (n := 48) (by omega)
 have b4 := pickS_bd (c := x.b) (n := 24) (by omega)
 have b6 := pickS_bd (c := x.c) (n := 48) (by omega)
 have b7 := pickS_bd (c := x.c) (n := 3000) (by omega)
 have b8 := pickS_bd (c := x.d) (n := 5000) (by omega)
 have b9 := pickS_bd (c := x.e) (n := 40) (by omega)
 have b10 := pickS_bd (c := x.e.tdiv 40) (n := 51) (by omega)
 refine meets_of_gx Ax tab_ok Tryz.func85 (c := _) rfl Tryz.call85 400 ?_
 (repeat' ((conv => whnf); first | (exfalso; omega) | refine x0C ?_ | refine spC (fun hb => ?_) fun hb => ?_ | refine nilC (fun hb => ?_) ?_ | refine taC ?_ | refine saC ?_ | exact sdV | refine side_and ?_ ?_ | refine drawX_of mixed ?_))
 refine loop_up (fun y : Nat => [(4, iS y)]) (fun y => [(2, .rows U.int (rowsY x (pickS (x.a.tdiv 48) 3 + 1).toNat y))]) (fun y => (y : Int) ≤ pickS (x.b.tdiv 24) 3 + 1) (fun y => (pickS (x.b.tdiv 24) 3 + 1).toNat - y) 0 (by omega) (by exact bkI) ?_
 intro y hy K hK
 have hyl := rowsY_len x (pickS (x.a.tdiv 48) 3 + 1).toNat y
 rcases Int.lt_or_le (pickS (x.b.tdiv 24) 3) y with hge | hlt
 ·have hye : (pickS (x.b.tdiv 24) 3 + 1).toNat = y := by omega
  unfold seeS seeRows
  rw [hye]
  generalize rowsY x (pickS (x.a.tdiv 48) 3 + 1).toNat y = R at *
  by_cases h5 : pickS x.c 3 = 0
  ·rw [if_pos h5]
   have hol := orAt_len R (pickS x.b 24).toNat (pickS x.c 48)
   unfold orAt at hol ⊢
   rw [← Nat.zero_add (pickS x.b 24).toNat] at hol ⊢
   (repeat' ((conv => whnf); first | (exfalso; omega) | refine cpC (p1) ?_ | refine dpC (p1) ?_ | refine cpC (p2) ?_ | refine dpC (p2) ?_ | refine cpC (p3) ?_ | refine dpC (p3) ?_ | refine cpC (p4) ?_ | refine dpC (p4) ?_ | refine cpC (p5) ?_ | refine dpC (p5) ?_ | refine cpC (p6) ?_ | refine dpC (p6) ?_ | refine cpC (p7) ?_ | refine dpC (p7) ?_ | refine cpC (p8) ?_ | refine dpC (p8) ?_ | refine cpC (p9) ?_ | refine dpC (p9) ?_ | refine cpC (p10) ?_ | refine dpC (p10) ?_ | refine cpC (p11) ?_ | refine dpC (p11) ?_ | refine x0C ?_ | refine spC (fun hb => ?_) fun hb => ?_ | refine nilC (fun hb => ?_) ?_ | refine taC ?_ | refine saC ?_ | exact sdV | refine side_and ?_ ?_ | refine drawX_of mixed ?_))
   all_goals exact vwL
  ·rw [if_neg h5]
   (repeat' ((conv => whnf); first | (exfalso; omega) | refine cpC (p1) ?_ | refine dpC (p1) ?_ | refine cpC (p2) ?_ | refine dpC (p2) ?_ | refine cpC (p3) ?_ | refine dpC (p3) ?_ | refine cpC (p4) ?_ | refine dpC (p4) ?_ | refine cpC (p5) ?_ | refine dpC (p5) ?_ | refine cpC (p6) ?_ | refine dpC (p6) ?_ | refine cpC (p7) ?_ | refine dpC (p7) ?_ | refine cpC (p8) ?_ | refine dpC (p8) ?_ | refine cpC (p9) ?_ | refine dpC (p9) ?_ | refine cpC (p10) ?_ | refine dpC (p10) ?_ | refine cpC (p11) ?_ | refine dpC (p11) ?_ | refine x0C ?_ | refine spC (fun hb => ?_) fun hb => ?_ | refine nilC (fun hb => ?_) ?_ | refine taC ?_ | refine saC ?_ | exact sdV | refine side_and ?_ ?_ | refine drawX_of mixed ?_))
   all_goals exact vwL
 ·(repeat' ((conv => whnf); first | (exfalso; omega) | refine cpC (p1) ?_ | refine dpC (p1) ?_ | refine x0C ?_ | refine spC (fun hb => ?_) fun hb => ?_ | refine nilC (fun hb => ?_) ?_ | refine taC ?_ | refine saC ?_ | exact sdV | refine side_and ?_ ?_ | refine drawX_of mixed ?_))
  refine loop_up (fun k : Nat => [(5, iS k)]) (fun k => [(2, .rows U.int (rowsK x y k (rowsY x (pickS (x.a.tdiv 48) 3 + 1).toNat y)))]) (fun k => (k : Int) ≤ pickS (x.a.tdiv 48) 3 + 1) (fun k => (pickS (x.a.tdiv 48) 3 + 1).toNat - k) 0 (by omega) (by exact bkI) ?_
  intro k hk K2 hK2
  have hkl := rowsK_len x y k (rowsY x (pickS (x.a.tdiv 48) 3 + 1).toNat y)
  rw [hyl] at hkl
  rcases Int.lt_or_le (pickS (x.a.tdiv 48) 3) k with hge2 | hlt2
  ·have hke : (pickS (x.a.tdiv 48) 3 + 1).toNat = k := by omega
   have hs := rowsY_succ x (pickS (x.a.tdiv 48) 3 + 1).toNat y
   rw [show rowsK x y k (rowsY x (pickS (x.a.tdiv 48) 3 + 1).toNat y) = rowsY x (pickS (x.a.tdiv 48) 3 + 1).toNat (y + 1) by rw [hs]; rw [hke]]
   (repeat' ((conv => whnf); first | (exfalso; omega) | refine cpC (p2) ?_ | refine dpC (p2) ?_ | refine hK (y + 1) [some 0, some 1, some 2, some 3] _ _ ⟨by omega⟩ ⟨by omega⟩ (by exact bkI) | refine x0C ?_ | refine spC (fun hb => ?_) fun hb => ?_ | refine nilC (fun hb => ?_) ?_ | refine taC ?_ | refine saC ?_ | exact sdV | refine side_and ?_ ?_ | refine drawX_of mixed ?_))
  ·have ht : (pickS x.a 48 + (k : Int)).tmod 48 = (pickS x.a 48 + (k : Int)) % 48 := Int.tmod_eq_emod_of_nonneg (by omega)
   have ht2 : 0 ≤ (pickS x.a 48 + (k : Int)).tmod 48 ∧ (pickS x.a 48 + (k : Int)).tmod 48 < 48 := by rw [ht]; omega
   have hs := rowsK_succ x y k (rowsY x (pickS (x.a.tdiv 48) 3 + 1).toNat y)
   generalize rowsK x y k (rowsY x (pickS (x.a.tdiv 48) 3 + 1).toNat y) = R at *
   have hm : 0 ≤ min 23 (pickS x.b 24 + (y : Int)) ∧ min 23 (pickS x.b 24 + (y : Int)) < 24 := by omega
   have e1 : R.set (0 + (min 23 (pickS x.b 24 + (y : Int))).toNat) (bitop .or .i64 (R.getD (0 + (min 23 (pickS x.b 24 + (y : Int))).toNat) (Cd.dflt U.int)) (shlop .i64 1 ((pickS x.a 48 + (k : Int)).tmod 48))) = rowsK x y (k + 1) (rowsY x (pickS (x.a.tdiv 48) 3 + 1).toNat y) := by
    rw [hs, Nat.zero_add]; rfl
   (repeat' ((conv => whnf); first | (exfalso; omega) | refine cpC (p2) ?_ | refine dpC (p2) ?_ | refine cpC (p3) ?_ | refine dpC (p3) ?_ | refine cpC (p4) ?_ | refine dpC (p4) ?_ | refine hK2 (k + 1) [some 0, some 1, some 2, some 3] _ _ ⟨by omega⟩ ⟨by omega⟩ (by exact bkI) | refine x0C ?_ | refine spC (fun hb => ?_) fun hb => ?_ | refine nilC (fun hb => ?_) ?_ | refine taC ?_ | refine saC ?_ | exact sdV | refine side_and ?_ ?_ | refine drawX_of mixed ?_))
end Go.SX

/-
 Plain law: what goals mean.
-/
namespace Go.SX
abbrev Sen := Option (Int × List Int)
def kid0 (ks : List Goal) : Goal := ks.getD 0 (U.dflt .goal)
def stepAny (r : Sen) (c : Int) (acc : Sen) : Sen := match r with
 | none => acc
 | some (p, im) => match acc with
  | none => some (p + c, im)
  | some (q, im') => if p + c < q then some (p + c, im) else some (q, im')
/-! numbers, ascending, each once -/
def Asc : List Int → Prop
 | [] => True
 | a :: l => (∀ b ∈ l, a < b) ∧ Asc l
theorem mem_putS {n x : Int} : ∀ {l : List Int}, x ∈ putS l n ↔ x ∈ l ∨ x = n
 | [] => by simp [putS]
 | a :: l => by
  rw [putS]
  split
  ·simp only [List.mem_cons, mem_putS (l := l)]; grind
  ·split
   ·simp only [List.mem_cons]; grind
   ·simp only [List.mem_cons]; grind
theorem asc_putS {n : Int} : ∀ {l : List Int}, Asc l → Asc (putS l n)
 | [], _ => by simp [putS, Asc]
 | a :: l, h => by
  rw [putS]
  obtain ⟨h1, h2⟩ := h
  split
  ·refine ⟨fun b hb => ?_, asc_putS h2⟩
   rcases mem_putS.1 hb with hb | rfl
   ·exact h1 b hb
   ·assumption
  ·split
   ·exact ⟨h1, h2⟩
   ·refine ⟨fun b hb => ?_, h1, h2⟩
    rcases List.mem_cons.1 hb with rfl | hb
    ·omega
    ·have := h1 b hb; omega
theorem len_putS {n : Int} : ∀ {l : List Int}, (putS l n).length ≤ l.length + 1
 | [] => by simp [putS]
 | a :: l => by
  rw [putS]
  have := len_putS (n := n) (l := l)
  split
  ·simp; omega
  ·split <;> simp
def addS (l m : List Int) : List Int := m.foldl putS l
theorem mem_addS {x : Int} : ∀ {m l : List Int}, x ∈ addS l m ↔ x ∈ l ∨ x ∈ m
 | [], l => by simp [addS]
 | a :: m, l => by
  have := mem_addS (x := x) (m := m) (l := putS l a)
  simp only [addS, List.foldl_cons] at *
  rw [this, mem_putS]; simp; grind
theorem asc_addS : ∀ {m l : List Int}, Asc l → Asc (addS l m)
 | [], l, h => h
 | a :: m, l, h => asc_addS (m := m) (asc_putS h)
theorem len_addS : ∀ {m l : List Int}, (addS l m).length ≤ l.length + m.length
 | [], l => by simp [addS]
 | a :: m, l => by
  have := len_addS (m := m) (l := putS l a)
  have := len_putS (n := a) (l := l)
  simp only [addS, List.foldl_cons, List.length_cons] at *
  omega
theorem mem_setS {x : Int} {m : List Int} : x ∈ setS m ↔ x ∈ m := by
 have := mem_addS (x := x) (m := m) (l := [])
 simpa [addS, setS] using this
theorem asc_setS {m : List Int} : Asc (setS m) := asc_addS (l := []) trivial
theorem len_setS {m : List Int} : (setS m).length ≤ m.length := by
 have := len_addS (m := m) (l := [])
 simpa [addS, setS] using this
/-- what is ascending is known by its members -/
theorem asc_ext : ∀ {l m : List Int}, Asc l → Asc m → (∀ x, x ∈ l ↔ x ∈ m) → l = m
 | [], [], _, _, _ => rfl
 | [], b :: m, _, _, h => by have := (h b).2 (by simp); simp at this
 | a :: l, [], _, _, h => by have := (h a).1 (by simp); simp at this
 | a :: l, b :: m, h1, h2, h => by
  have ha := (h a).1 (by simp)
  have hb := (h b).2 (by simp)
  have e : a = b := by
   rcases List.mem_cons.1 ha with ha | ha
   ·exact ha
   ·rcases List.mem_cons.1 hb with hb | hb
    ·exact hb.symm
    ·have := h1.1 b hb; have := h2.1 a ha; omega
  subst e
  congr 1
  refine asc_ext h1.2 h2.2 fun x => ?_
  constructor
  ·intro hx
   have := (h x).1 (by simp [hx])
   rcases List.mem_cons.1 this with rfl | h3
   ·have := h1.1 x hx; omega
   ·exact h3
  ·intro hx
   have := (h x).2 (by simp [hx])
   rcases List.mem_cons.1 this with rfl | h3
   ·have := h2.1 x hx; omega
   ·exact h3
theorem setS_asc {l : List Int} (h : Asc l) : setS l = l := asc_ext asc_setS h fun x => mem_setS
theorem addS_asc {l m : List Int} (h : Asc l) : addS l m = setS (l ++ m) := asc_ext (asc_addS h) asc_setS fun x => by rw [mem_addS, mem_setS, List.mem_append]
/-! bounds -/
theorem okB_parts {g : Goal} (h : okB g = true) : (1 ≤ g.kind ∧ g.kind ≤ 6) ∧ limB g = true ∧ manyB g = true ∧ centsB g = true := by
 unfold okB partsB at h
 simp only [Bool.and_eq_true, inB_iff] at h
 exact ⟨h.1.1.1, h.1.2, h.2.1.1.1, h.2.1.1.2⟩
theorem ok_times {g : Goal} (h : okB g = true) (hk : g.kind = 3) : 1 ≤ g.times ∧ g.times ≤ 6 := by
 have := (okB_parts h).2.1
 unfold limB at this
 rw [hk] at this
 simp [inB_iff] at this
 omega
theorem ok_days {g : Goal} (h : okB g = true) (hk : g.kind = 3) : 1 ≤ g.days ∧ g.days ≤ 60 ∧ 0 ≤ g.within ∧ g.within ≤ 1440 * g.days ∧ 0 ≤ g.from_ ∧ g.from_ ≤ 1000000 := by
 have := (okB_parts h).2.1
 unfold limB at this
 rw [hk] at this
 simp [inB_iff] at this
 omega
theorem ok_cents {g : Goal} (h : okB g = true) : ∀ c ∈ g.cents, 0 ≤ c ∧ c ≤ 1000000000 := by
 have := (okB_parts h).2.2.2
 unfold centsB at this
 split at this
 ·simp [inB_iff] at this
  exact this.2
 ·intro c hc
  have : g.cents.length = 0 := by simpa using this
  rw [List.length_eq_zero_iff.1 this] at hc; cases hc
theorem ok_one {g : Goal} (h : okB g = true) (h1 : g.kind ≠ 1) (h5 : g.kind ≠ 5) (h6 : g.kind ≠ 6) : (g.kids.length : Int) = 1 := by
 have := (okB_parts h).2.2.1
 unfold manyB at this
 simpa [h1, h5, h6] using this
theorem size_pos {g : Goal} {d n : Int} (h : sizeG g d = some n) : 1 ≤ n := by
 have := size_cnt g d
 rw [h] at this
 exact this.1
theorem sizeL_pos : ∀ {l : List Goal} {d n : Int}, sizeL l d = some n → 0 ≤ n
 | [], d, n, h => by rw [sizeL] at h; injection h with h; omega
 | k :: l, d, n, h => by
  rw [sizeL] at h
  split at h
  ·cases h
  ·rename_i m hm
   split at h
   ·cases h
   ·rename_i q hq
    injection h with h
    have := size_pos hm
    have := sizeL_pos hq
    omega
theorem size_ok {g : Goal} {d n : Int} (h : sizeG g d = some n) : okB g = true ∧ d ≤ 4 ∧ ∃ m, sizeL g.kids (d + 1) = some m ∧ n = 1 + m := by
 rw [sizeG_eq] at h
 split at h
 ·cases h
 ·rename_i hc
  simp only [Bool.or_eq_true, decide_eq_true_eq, Bool.not_eq_true', not_or, Bool.not_eq_false] at hc
  split at h
  ·cases h
  ·rename_i m hm
   injection h with h
   exact ⟨hc.2, by omega, m, hm, h.symm⟩
theorem stepAny_some {r : Sen} {c : Int} {acc : Sen} {q : Int} {jm : List Int} (h : stepAny r c acc = some (q, jm)) : acc = some (q, jm) ∨ ∃ p, r = some (p, jm) ∧ q = p + c := by
 unfold stepAny at h
 split at h
 ·exact .inl h
 ·rename_i p im
  split at h
  ·injection h with h; injection h with h1 h2; subst h2; exact .inr ⟨p, rfl, h1.symm⟩
  ·split at h
   ·injection h with h; injection h with h1 h2; subst h2; exact .inr ⟨p, rfl, h1.symm⟩
   ·exact .inl h
end Go.SX
namespace Go.SX
theorem find_hit {α : Type} {p : α → Bool} {xs : List α} {i : Nat} {x : α} (h1 : xs[i]? = some x) (h2 : p x = true) (h3 : (xs.take i).any p = false) : xs.find? p = some x := by
 obtain ⟨hi, e⟩ := List.getElem?_eq_some_iff.1 h1
 rw [List.find?_eq_some_iff_getElem]
 refine ⟨h2, i, hi, e, fun j hj => ?_⟩
 rw [List.any_eq_false] at h3
 have := h3 (xs[j]'(by omega)) (List.mem_iff_getElem.2 ⟨j, by simp; omega, by simp⟩)
 simpa using this
theorem find_miss {α : Type} {p : α → Bool} {xs : List α} (h : xs.any p = false) : xs.find? p = none := by
 rw [List.find?_eq_none]
 rw [List.any_eq_false] at h
 exact h
theorem drop_getD4 {α : Type} {xs : List α} {i : Nat} {d : α} (h : i < xs.length) : xs.drop i = xs.getD i d :: xs.drop (i + 1) := by
 rw [List.drop_eq_getElem_cons h, List.getD_eq_getElem?_getD, List.getElem?_eq_getElem h]; rfl
end Go.SX
namespace Go.SX
end Go.SX
namespace Go.SX
end Go.SX
namespace Go.SX
theorem setS_ne {l : List Int} (h : l ≠ []) : setS l ≠ [] := by
 obtain ⟨a, m, rfl⟩ := List.exists_cons_of_ne_nil h
 intro e
 have := (mem_setS (x := a) (m := a :: m)).2 (by simp)
 rw [e] at this; cases this
theorem many_two {g : Goal} (h : okB g = true) (h5 : g.kind = 5 ∨ g.kind = 6) : 2 ≤ (g.kids.length : Int) ∧ (g.kids.length : Int) ≤ 4 := by
 have := (okB_parts h).2.2.1
 unfold manyB at this
 rw [if_neg (by omega), if_pos h5, inB_iff] at this
 exact this
theorem sizeL_take : ∀ {ks : List Goal} {d n : Int} (i : Nat), sizeL ks d = some n → ∃ m, sizeL (ks.take i) d = some m ∧ m ≤ n
 | ks, d, n, 0, h => ⟨0, by rw [List.take_zero, sizeL], sizeL_pos h⟩
 | [], d, n, i + 1, h => ⟨n, h, Int.le_refl _⟩
 | k :: ks, d, n, i + 1, h => by
  rw [sizeL] at h
  split at h
  ·cases h
  ·rename_i m hm
   split at h
   ·cases h
   ·rename_i x hx
    injection h with h
    obtain ⟨y, h1, h2⟩ := sizeL_take i hx
    refine ⟨m + y, ?_, by omega⟩
    rw [List.take_succ_cons, sizeL, hm, h1]
theorem sizeL_mem4 : ∀ {ks : List Goal} {d n : Int} {k : Goal}, sizeL ks d = some n → k ∈ ks → ∃ m, sizeG k d = some m ∧ m ≤ n
 | [], d, n, k, h, hk => by cases hk
 | a :: ks, d, n, k, h, hk => by
  rw [sizeL] at h
  split at h
  ·cases h
  ·rename_i m hm
   split at h
   ·cases h
   ·rename_i x hx
    injection h with h
    have h1 := sizeL_pos hx
    have h2 := size_pos hm
    rcases List.mem_cons.1 hk with rfl | hk
    ·exact ⟨m, hm, by omega⟩
    ·obtain ⟨y, h3, h4⟩ := sizeL_mem4 hx hk
     exact ⟨y, h3, by omega⟩
theorem take_getD4 {α : Type} {xs : List α} {i : Nat} {d : α} (h : i < xs.length) : xs.take (i + 1) = xs.take i ++ [xs.getD i d] := by
 rw [List.take_add_one, List.getD_eq_getElem?_getD, List.getElem?_eq_getElem h]; rfl
end Go.SX

/-
 Plain law: the events that integers determine; valid events, and a part of them.
-/
namespace Go.SX
/-! the exposures of a goal -/
mutual
def seesG : Goal → List Goal
 | ⟨kind, rows, from_, to_, low, high, clear, days, times, within, cents, kids⟩ =>
  if kind = 1 then [⟨kind, rows, from_, to_, low, high, clear, days, times, within, cents, kids⟩] else seesL kids
def seesL : List Goal → List Goal
 | [] => []
 | k :: l => seesG k ++ seesL l
end
theorem seesG_eq (g : Goal) : seesG g = if g.kind = 1 then [g] else seesL g.kids := by cases g; rw [seesG]
theorem seesL_snoc : ∀ (l : List Goal) (k : Goal), seesL (l ++ [k]) = seesL l ++ seesG k
 | [], k => by simp [seesL]
 | x :: l, k => by rw [List.cons_append, seesL, seesL, seesL_snoc l k, List.append_assoc]
mutual
theorem seesG_ok : ∀ (g : Goal) (d n : Int), sizeG g d = some n → ((seesG g).length : Int) ≤ n ∧ ∀ s ∈ seesG g, okB s = true ∧ s.kind = 1
 | ⟨kind, rows, from_, to_, low, high, clear, days, times, within, cents, kids⟩, d, n, hs => by
  have hL := seesL_ok kids
  obtain ⟨hok, hd, m, hm, rfl⟩ := size_ok hs
  have h0 := sizeL_pos hm
  rw [seesG_eq]
  split
  ·rename_i e
   refine ⟨by simp; omega, fun s hs => ?_⟩
   rw [List.mem_singleton.1 hs]
   exact ⟨hok, e⟩
  ·obtain ⟨h1, h2⟩ := hL (d + 1) m hm
   refine ⟨?_, h2⟩
   show ((seesL kids).length : Int) ≤ 1 + m
   omega
theorem seesL_ok : ∀ (l : List Goal) (d n : Int), sizeL l d = some n → ((seesL l).length : Int) ≤ n ∧ ∀ s ∈ seesL l, okB s = true ∧ s.kind = 1
 | [], d, n, hs => by
  rw [sizeL] at hs; injection hs with hs
  exact ⟨by simp [seesL]; omega, fun s h => by simp [seesL] at h⟩
 | k :: l, d, n, hs => by
  rw [sizeL] at hs
  split at hs
  ·cases hs
  ·rename_i m hm
   split at hs
   ·cases hs
   ·rename_i q hq
    injection hs with hs
    obtain ⟨h1, h2⟩ := seesG_ok k d m hm
    obtain ⟨h3, h4⟩ := seesL_ok l d q hq
    rw [seesL]
    refine ⟨by rw [List.length_append]; omega, fun s hs' => ?_⟩
    rcases List.mem_append.1 hs' with h | h
    ·exact h2 s h
    ·exact h4 s h
end
def shotsS (g : Goal) : List Goal := if validG g then seesG g else []
/-- what is known of an exposure -/
structure SeeOK (s : Goal) : Prop where
 rl : s.rows.length = 24
 rows : ∀ r ∈ s.rows, 0 ≤ r ∧ r ≤ 281474976710655
 fr : 0 ≤ s.from_ ∧ s.from_ ≤ 1000000
 to : s.from_ + 1 ≤ s.to_ ∧ s.to_ ≤ 1000000
 low : 0 ≤ s.low ∧ s.low ≤ 90
 high : s.low ≤ s.high ∧ s.high ≤ 90
theorem see_ok {s : Goal} (h : okB s = true) (hk : s.kind = 1) : SeeOK s := by
 have := (okB_parts h).2.1
 unfold limB at this
 rw [if_pos hk] at this
 simp only [Bool.and_eq_true, inB_iff] at this
 have ha := this.1.1.1.1.1
 unfold areaB at ha
 simp only [Bool.and_eq_true, decide_eq_true_eq, List.all_eq_true] at ha
 exact ⟨by omega, fun r hr => by have := ha.2 r hr; unfold rowOK at this; exact (inB_iff _ _ _).1 this, by omega, by omega, by omega, by omega⟩
theorem shots_ok (g : Goal) : (shotsS g).length ≤ 12 ∧ ∀ s ∈ shotsS g, SeeOK s := by
 unfold shotsS
 split
 ·rename_i h
  unfold validG at h
  split at h
  ·cases h
  ·rename_i n hn
   obtain ⟨h1, h2⟩ := seesG_ok g 1 n hn
   have : n ≤ 12 := by simpa using h
   exact ⟨by omega, fun s hs => see_ok (h2 s hs).1 (h2 s hs).2⟩
 ·exact ⟨by simp, fun s hs => by cases hs⟩
/-! an event more -/
/-! the events -/
/-! a part of valid events -/
end Go.SX

namespace Go.SX
open Go.Proofs
set_option maxHeartbeats 4000000
set_option maxRecDepth 100000
@[reducible] def a5S (x : List A5) : SV Cd := .p (.dsl U.arr5 x)
theorem y5_in {x : List A5} {i : Int} (h0 : 0 ≤ i) (h : i < x.length) : y5 x i = x.getD i.toNat (Cd.dflt U.arr5) := if_pos h
theorem y5_out {x : List A5} {i : Int} (h : ¬ i < x.length) : y5 x i = zero5 := if_neg h
theorem y5_ok {x : List A5} (hx : ∀ y ∈ x, A5OK y) {i : Int} (h0 : 0 ≤ i) : A5OK (y5 x i) := by
 by_cases h : i < x.length
 ·rw [y5_in h0 h]
  refine hx _ ?_
  rw [List.getD_eq_getElem?_getD, List.getElem?_eq_getElem (by omega)]
  exact List.getElem_mem _
 ·rw [y5_out h]
  have : I64 0 := by unfold I64; omega
  exact ⟨this, this, this, this, this⟩
theorem arr5_den {w : World} {E : Env} {a b c d e : Int} {vs : List Value} (h : DenA Dc w E [.agg [.arr U.int 5 [a, b, c, d, e]]] vs) : DenA Dc w E [.agg [iS a, iS b, iS c, iS d, iS e]] vs := by
 simp only [DenA, Den, DenC] at h ⊢
 obtain ⟨v, v2, rfl, ⟨cs, rfl, _, v1, v3, hv, hp, rfl⟩, rfl⟩ := h
 refine ⟨_, _, rfl, ⟨cs, rfl, ?_⟩, rfl⟩
 rw [List.append_nil] at hv
 rw [hv]
 obtain ⟨hl, hd⟩ := hp
 match v1, hl with
 | [x0, x1, x2, x3, x4], _ =>
  have g := fun (j : Nat) pv v h1 h2 => hd j pv v h1 h2
  have e0 := g 0 _ _ rfl rfl
  have e1 := g 1 _ _ rfl rfl
  have e2 := g 2 _ _ rfl rfl
  have e3 := g 3 _ _ rfl rfl
  have e4 := g 4 _ _ rfl rfl
  exact ⟨x0, _, rfl, e0.oneCell, e0, x1, _, rfl, e1.oneCell, e1, x2, _, rfl, e2.oneCell, e2, x3, _, rfl, e3.oneCell, e3, x4, _, rfl, e4.oneCell, e4, rfl⟩
theorem rsee0 : Meets Tryz.prog Dc 85 [.agg [.arr U.int 5 (List.replicate 5 (Cd.dflt U.int))]] [] (goalA (seeS zero5)) [] := by
  have h := rseX zero5 (by have : I64 0 := by (unfold I64; omega)
                           exact ⟨this, this, this, this, this⟩)
  exact ⟨h.enter, fun w E hm vs hs hd => h.calls w E hm vs hs (arr5_den (a := 0) (b := 0) (c := 0) (d := 0) (e := 0) hd)⟩
theorem rgoals1 (x : List A5) (hx : ∀ y ∈ x, A5OK y) (hxl : (x.length : Int) ≤ 9223372036854775807) (deep at_ most : Int) (h1 : 0 ≤ at_ ∧ at_ ≤ 1000) (h3 : 1 ≤ most ∧ most ≤ 9) (hdeep : 1 ≤ deep ∧ deep ≤ 4)
  (hk : deep = 4 ∨ most < 2 ∨ (x.length : Int) ≤ at_ + 1 ∨ (5 ≤ 1 + pickS ((y5 x at_).a.tdiv 144) 6 ∧ most < 3) ∨ pickS ((y5 x at_).a.tdiv 144) 6 = 0) :
  Meets Tryz.prog Dc 60 [a5S x, iS at_, iS deep, iS most] [] (.tuple [goalA (seeS (y5 x at_)), iS 1, iS 1]) [] := by
 have hy := y5_ok hx h1.1
 have hs := rseX (y5 x at_) hy
 have hp := pick13 ((y5 x at_).a.tdiv 144) 6 (tdiv_i64 hy.a (by omega)) (by omega)
 have hb2 := pickS_bd (c := (y5 x at_).a.tdiv 144) (n := 6) (by omega)
 have hya := hy.a
 have htd := tdiv_i64 (n := 144) hya (by omega)
 unfold I64 at hya
 by_cases hc : at_ < x.length
 ·rw [y5_in h1.1 hc] at *
  refine meets_of_gx Ax tab_ok Tryz.func60 (c := _) rfl Tryz.call60 400 ?_
  (repeat' ((conv => whnf); first | (exfalso; omega) | refine cpC (hs) ?_ | refine dpC (hs) ?_ | refine cpC (hp) ?_ | refine dpC (hp) ?_ | refine x0C ?_ | refine spC (fun hb => ?_) fun hb => ?_ | refine nilC (fun hb => ?_) ?_ | refine taC ?_ | refine saC ?_ | exact sdV | refine side_and ?_ ?_ | refine drawX_of mixed ?_))
  all_goals exact vwV
 ·rw [y5_out hc] at *
  have hp0 : Meets Tryz.prog Dc 36 [iS (Int.tdiv ((List.replicate 5 (Cd.dflt U.int)).getD (Int.toNat 0) (Cd.dflt U.int)) 144), iS 6] [] (iS (pickS (zero5.a.tdiv 144) 6)) [] := hp
  have hr0 : Side ((144 : Int) ≠ 0 ∧ InR IntKind.i64 (Int.tdiv ((List.replicate 5 (Cd.dflt U.int)).getD (Int.toNat 0) (Cd.dflt U.int)) 144)) := ⟨by decide, by rfl⟩
  refine meets_of_gx Ax tab_ok Tryz.func60 (c := _) rfl Tryz.call60 400 ?_
  (repeat' ((conv => whnf); first | (exfalso; omega) | exact hr0 | refine cpC (rsee0) ?_ | refine dpC (rsee0) ?_ | refine cpC (hp0) ?_ | refine dpC (hp0) ?_ | refine x0C ?_ | refine spC (fun hb => ?_) fun hb => ?_ | refine nilC (fun hb => ?_) ?_ | refine taC ?_ | refine saC ?_ | exact sdV | refine side_and ?_ ?_ | refine drawX_of mixed ?_))
  all_goals exact vwV
/-- there are parts: an integer, and one behind it -/
structure TwoOK (x : List A5) (at_ : Int) : Prop where
 y : A5OK (x.getD at_.toNat (Cd.dflt U.arr5))
 z : A5OK (x.getD (at_ + 1).toNat (Cd.dflt U.arr5))
theorem two_ok {x : List A5} (hx : ∀ y ∈ x, A5OK y) {at_ : Int} (h1 : 0 ≤ at_) (h2 : at_ + 1 < x.length) : TwoOK x at_ := by
 have e1 := y5_ok hx h1
 have e2 := y5_ok hx (i := at_ + 1) (by omega)
 rw [y5_in h1 (by omega)] at e1
 rw [y5_in (by omega) h2] at e2
 exact ⟨e1, e2⟩
theorem rgoals2 (x : List A5) (hx : ∀ y ∈ x, A5OK y) (hxl : (x.length : Int) ≤ 9223372036854775807) (deep at_ most : Int) (h1 : 0 ≤ at_ ∧ at_ ≤ 1000) (h3 : 1 ≤ most ∧ most ≤ 9) (hdeep : 1 ≤ deep ∧ deep ≤ 3)
  (h4 : 2 ≤ most) (h5 : at_ + 1 < x.length) (K : Int) (hK : 2 ≤ K ∧ K ≤ 4) (hk : 1 + pickS ((x.getD at_.toNat (Cd.dflt U.arr5)).a.tdiv 144) 6 = K) (g : Goal)
  (hg : g = if K = 2 then ⟨1 + pickS ((x.getD at_.toNat (Cd.dflt U.arr5)).a.tdiv 144) 6, [], 0, 0, 1 + pickS (x.getD at_.toNat (Cd.dflt U.arr5)).b 8, 0, false, 0, 0, 1 + pickS (x.getD at_.toNat (Cd.dflt U.arr5)).c 3000, [], [seeS (x.getD (at_ + 1).toNat (Cd.dflt U.arr5))]⟩
   else if K = 3 then ⟨1 + pickS ((x.getD at_.toNat (Cd.dflt U.arr5)).a.tdiv 144) 6, [], pickS (x.getD at_.toNat (Cd.dflt U.arr5)).e 3000, 0, 0, 0, false, 1 + pickS (x.getD at_.toNat (Cd.dflt U.arr5)).b 4, 1 + pickS (x.getD at_.toNat (Cd.dflt U.arr5)).c 4, pickS (x.getD at_.toNat (Cd.dflt U.arr5)).d (1440 * (1 + pickS (x.getD at_.toNat (Cd.dflt U.arr5)).b 4) + 1), [], [seeS (x.getD (at_ + 1).toNat (Cd.dflt U.arr5))]⟩
   else ⟨1 + pickS ((x.getD at_.toNat (Cd.dflt U.arr5)).a.tdiv 144) 6, [], 0, 0, 0, 0, false, 0, 0, pickS (x.getD at_.toNat (Cd.dflt U.arr5)).b 3000, [], [seeS (x.getD (at_ + 1).toNat (Cd.dflt U.arr5))]⟩) :
  Meets Tryz.prog Dc 60 [a5S x, iS at_, iS deep, iS most] [] (.tuple [goalA g, iS 2, iS 2]) [] := by
 obtain ⟨hy, hz⟩ := two_ok hx h1.1 h5
 have hs := rseX _ hz
 have htd := tdiv_i64 (n := 144) hy.a (by omega)
 have hp := pick13 ((x.getD at_.toNat (Cd.dflt U.arr5)).a.tdiv 144) 6 htd (by omega)
 have hb2 := pickS_bd (c := (x.getD at_.toNat (Cd.dflt U.arr5)).a.tdiv 144) (n := 6) (by omega)
 have hya := hy.a
 unfold I64 at hya
 have q1 := pick13 (x.getD at_.toNat (Cd.dflt U.arr5)).b 8 hy.b (by omega)
 have q2 := pick13 (x.getD at_.toNat (Cd.dflt U.arr5)).c 3000 hy.c (by omega)
 have q3 := pick13 (x.getD at_.toNat (Cd.dflt U.arr5)).b 4 hy.b (by omega)
 have q4 := pick13 (x.getD at_.toNat (Cd.dflt U.arr5)).c 4 hy.c (by omega)
 have r1 := pickS_bd (c := (x.getD at_.toNat (Cd.dflt U.arr5)).b) (n := 8) (by omega)
 have r2 := pickS_bd (c := (x.getD at_.toNat (Cd.dflt U.arr5)).c) (n := 3000) (by omega)
 have r3 := pickS_bd (c := (x.getD at_.toNat (Cd.dflt U.arr5)).b) (n := 4) (by omega)
 have r4 := pickS_bd (c := (x.getD at_.toNat (Cd.dflt U.arr5)).c) (n := 4) (by omega)
 have q5 := pick13 (x.getD at_.toNat (Cd.dflt U.arr5)).d (1440 * (1 + pickS (x.getD at_.toNat (Cd.dflt U.arr5)).b 4) + 1) hy.d (by omega)
 have q6 := pick13 (x.getD at_.toNat (Cd.dflt U.arr5)).e 3000 hy.e (by omega)
 have q7 := pick13 (x.getD at_.toNat (Cd.dflt U.arr5)).b 3000 hy.b (by omega)
 rcases (show K = 2 ∨ K = 3 ∨ K = 4 by omega) with rfl | rfl | rfl
 ·rw [if_pos rfl] at hg
  subst hg
  refine meets_of_gx Ax tab_ok Tryz.func60 (c := _) rfl Tryz.call60 400 ?_
  (repeat' ((conv => whnf); first | (exfalso; omega) | refine cpC (hs) ?_ | refine dpC (hs) ?_ | refine cpC (hp) ?_ | refine dpC (hp) ?_ | refine cpC (q1) ?_ | refine dpC (q1) ?_ | refine cpC (q2) ?_ | refine dpC (q2) ?_ | refine x0C ?_ | refine spC (fun hb => ?_) fun hb => ?_ | refine nilC (fun hb => ?_) ?_ | refine taC ?_ | refine saC ?_ | exact sdV | refine side_and ?_ ?_ | refine drawX_of mixed ?_))
  all_goals exact vwV
 ·rw [if_neg (by omega), if_pos rfl] at hg
  subst hg
  refine meets_of_gx Ax tab_ok Tryz.func60 (c := _) rfl Tryz.call60 400 ?_
  (repeat' ((conv => whnf); first | (exfalso; omega) | refine cpC (hs) ?_ | refine dpC (hs) ?_ | refine cpC (hp) ?_ | refine dpC (hp) ?_ | refine cpC (q3) ?_ | refine dpC (q3) ?_ | refine cpC (q4) ?_ | refine dpC (q4) ?_ | refine cpC (q5) ?_ | refine dpC (q5) ?_ | refine cpC (q6) ?_ | refine dpC (q6) ?_ | refine x0C ?_ | refine spC (fun hb => ?_) fun hb => ?_ | refine nilC (fun hb => ?_) ?_ | refine taC ?_ | refine saC ?_ | exact sdV | refine side_and ?_ ?_ | refine drawX_of mixed ?_))
  all_goals exact vwV
 ·rw [if_neg (by omega), if_neg (by omega)] at hg
  subst hg
  refine meets_of_gx Ax tab_ok Tryz.func60 (c := _) rfl Tryz.call60 400 ?_
  (repeat' ((conv => whnf); first | (exfalso; omega) | refine cpC (hs) ?_ | refine dpC (hs) ?_ | refine cpC (hp) ?_ | refine dpC (hp) ?_ | refine cpC (q7) ?_ | refine dpC (q7) ?_ | refine x0C ?_ | refine spC (fun hb => ?_) fun hb => ?_ | refine nilC (fun hb => ?_) ?_ | refine taC ?_ | refine saC ?_ | exact sdV | refine side_and ?_ ?_ | refine drawX_of mixed ?_))
  all_goals exact vwV
end Go.SX
