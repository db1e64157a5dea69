/-
  SX, part I: stores; slices made and appended to.
-/
import Derived.Test.YtiflflnmonljeaaGreatDoorSxE
import Derived.Great.FillDense
set_option linter.unusedVariables false
set_option linter.unusedSimpArgs false
namespace Go.SX
open Go.RowKit
variable {C : Cod}
section
variable {P : Program} {D : aL C} {tab : Tab C} {B : dZ} {E : Env} {σ : Nat → SV C} {H : Nat → HS C} {df : List Deferred} {a : Act} {w : World} {o : Oper}
theorem vS (hR : Rel D B E σ H df a w) {t : TypeId} {i : TI C} (ht : rY P D t i) {oa ov : Operand} (ho : o.op = .store t oa ov) {c b o' : Nat} (hb : E.β c = .loc b)
  (ha : a.eval oa = .pointer (some ⟨b, o', none⟩)) {cs : Array Value} {T : TypeId} (hcs : Row w b cs T) (hsz : (a.eval ov).cells.size = i.size)
  (hfit : o' + i.size ≤ cs.size) (h1 : ∀ u ∈ (a.eval ov).cells.toList, u.oneCell' = true) {h' : HS C}
  (hok : ∀ w' cs', cI w E w' E → Row w' b cs' T → cs'.toList = cs.toList.take o' ++ (a.eval ov).cells.toList ++ cs.toList.drop (o' + i.size) → h'.at D w' E b) :
  fX P D B σ H df a w o .any [(c, h')] := by
 have hrun := N1 ht hcs hsz hfit h1
 refine ⟨undef, w.setRow b (cs.toList.take o' ++ (a.eval ov).cells.toList ++ cs.toList.drop (o' + i.size)).toArray, E, .inr ⟨?_, rfl⟩, ?_, trivial⟩
 ·simp only [execOp, ho, Instr.storeAt, ha, Instr.sureAddr, Sem.run_bind, Sem.run_pure, Result.andThen_ok, hrun]
 rw [dQ]
 have hsize : (cs.toList.take o' ++ (a.eval ov).cells.toList ++ cs.toList.drop (o' + i.size)).toArray.size = cs.size := by
  simp only [List.size_toArray, List.length_append, List.length_take, List.length_drop, Array.length_toList, hsz]
  omega
 exact hR.setRow hb hcs hsize fun hL => hok _ _ hL (hcs.set hsize) (by simp)
theorem tD : ∀ (vs : List (SV C)) (o : Nat) (u : C.U) (N : Nat) (xs ys : List (C.El u)), mM vs o = .elem u N xs 0 → ∃ vs', fG vs o u ys = some vs' := by
 intro vs
 induction vs with
 | nil => intro o u N xs ys h; simp [mM] at h
 | cons x r ih =>
  intro o u N xs ys h
  cases hx : x.isArr with
  | false =>
   cases o with
   | zero => rw [kT hx] at h; cases h
   | succ o =>
    rw [iW hx] at h
    obtain ⟨vs', h'⟩ := ih o u N xs ys h
    exact ⟨x :: vs', by rw [nD hx, h']⟩
  | true =>
   obtain ⟨u', N', xs', rfl⟩ := SV.arr_of hx
   simp only [mM] at h
   simp only [fG]
   cases hs : tF o (N' * C.n u') with
   | none =>
    rw [hs] at h
    simp only [Hit.elem.injEq] at h
    obtain ⟨rfl, rfl, _, rfl⟩ := h
    exact ⟨_, rfl⟩
   | some o' =>
    simp only [hs] at h
    obtain ⟨vs', h'⟩ := ih o' u N xs ys h
    exact ⟨.arr u' N' xs' :: vs', by simp [h']⟩
theorem Nm (hT : bH P D tab) (hR : Rel D B E σ H df a w) {t : TypeId} {oa ov : Operand} (ho : o.op = .store t oa ov) {hs : List (Nat × HS C)} (hhs : ∀ c, (ev σ oa).topId = some c → lk hs c = H c) :
  bF P D B σ H df a w o (pR D tab t (ev σ oa) (ev σ ov) hs) := by
 have ha := aR hR oa
 have hv := aR hR ov
 generalize ev σ oa = sa at *
 generalize ev σ ov = sv at *
 unfold pR
 cases htab : tab t with
 | none => trivial
 | some i =>
  have ht := hT t i htab
  simp only
  cases sa with
  | ptr c o' =>
   simp only
   rw [hhs c rfl]
   cases hH : H c with
   | vart ty vs =>
    simp only
    obtain ⟨b, cs, T, hb, ⟨h1, hty⟩, h2⟩ := X9 hR.sat hH
    have e := eX ha hb
    cases hc : cellsOf sv with
    | none => trivial
    | some l =>
     simp only
     have hcd := gT hc hv
     cases htk : iB l i.size with
     | none => trivial
     | some l' =>
      simp only
      split
      ·rename_i hdr
       obtain ⟨h3, h4⟩ := sV htk hdr hcd
       have hsz : (a.eval ov).cells.size = i.size := by simpa using h3
       have hone := C6 _ _ hcd
       have spl : ∀ vs', nF vs o' i.size l' = some vs' → fX P D B σ H df a w o .any [(c, .vart ty vs')] := fun vs' hsp => by
        obtain ⟨h5, h6⟩ := rD hsp h2 h4
        refine vS hR ht ho hb e h1 hsz (by simpa using h6) hone fun w' cs' hL hw' hcs' => ⟨cs', T, ⟨hw', hty⟩, ?_⟩
        rw [hcs']
        exact DenC.mono hL _ _ h5
       have hh := jG vs o' cs.toList h2
       split
       ·rename_i u N xs k hhit
        rw [hhit] at hh
        obtain ⟨a1, a2, a3, a4, a5⟩ := hh
        split
        ·split
         ·rename_i vs' hsp; exact spl vs' hsp
         ·trivial
        ·split
         ·rename_i xs' hset
          split
          ·rename_i vs' hsa
           have hkd : k / C.n u < xs.length := by rw [a1]; exact (Nat.div_lt_iff_lt_mul (D.n_pos u)).2 a2
           obtain ⟨b1, b2, b3, b4, b5⟩ := rS hset hkd hv a5
           have e3 : k / C.n u * C.n u + k % C.n u = k := by
            have := Nat.div_add_mod k (C.n u)
            rw [Nat.mul_comm] at this
            exact this
           rw [e3] at b4
           have hst := Ed vs o' u N xs k hhit
           have hfin := nX vs (o' - k) u N xs xs' vs' cs.toList _ hst.2 hsa b1 h2 b4
           have hlen : k + i.size ≤ N * C.n u := by
            have hq : (k / C.n u + 1) * C.n u ≤ N * C.n u := Nat.mul_le_mul_right _ (a1 ▸ hkd)
            rw [Nat.add_mul, Nat.one_mul] at hq
            omega
           refine vS hR ht ho hb e h1 hsz (by have := a4; simp at this; omega) hone fun w' cs' hL hw' hcs' => ⟨cs', T, ⟨hw', hty⟩, ?_⟩
           refine DenC.mono hL _ _ ?_
           rw [hcs']
           have hlv : ((List.drop (o' - k) cs.toList).take (N * C.n u)).length = N * C.n u := by
            simp only [List.length_take, List.length_drop]; omega
           have goal : cs.toList.take (o' - k) ++ (((cs.toList.drop (o' - k)).take (N * C.n u)).take k ++ (a.eval ov).cells.toList ++ ((cs.toList.drop (o' - k)).take (N * C.n u)).drop (k + i.size)) ++
             cs.toList.drop (o' - k + (((cs.toList.drop (o' - k)).take (N * C.n u)).take k ++ (a.eval ov).cells.toList ++ ((cs.toList.drop (o' - k)).take (N * C.n u)).drop (k + i.size)).length) =
             cs.toList.take o' ++ (a.eval ov).cells.toList ++ cs.toList.drop (o' + i.size) := by
            have f1 : cs.toList.take (o' - k) ++ ((cs.toList.drop (o' - k)).take (N * C.n u)).take k = cs.toList.take o' := by
             rw [List.take_take, Nat.min_eq_left (by omega), ← List.take_add]
             congr 1
             omega
            have f2 : (((cs.toList.drop (o' - k)).take (N * C.n u)).take k ++ (a.eval ov).cells.toList ++ ((cs.toList.drop (o' - k)).take (N * C.n u)).drop (k + i.size)).length = N * C.n u := by
             simp only [List.length_append, List.length_take, List.length_drop, Array.length_toList, hsz] at hlv ⊢
             simp only [Array.length_toList] at a4
             omega
            have f3 : ((cs.toList.drop (o' - k)).take (N * C.n u)).drop (k + i.size) ++ cs.toList.drop (o' - k + N * C.n u) = cs.toList.drop (o' + i.size) := by
             have f4 : cs.toList.drop (o' - k + N * C.n u) = ((cs.toList.drop (o' - k)).drop (k + i.size)).drop (N * C.n u - (k + i.size)) := by
              rw [List.drop_drop, List.drop_drop]; congr 1; omega
             rw [f4, List.drop_take, List.take_append_drop, List.drop_drop]
             congr 1
             omega
            rw [f2, ← f1, ← f3]
            simp only [List.append_assoc]
           rw [← goal]
           exact hfin
          ·trivial
         ·trivial
       ·split
        ·rename_i vs' hsp; exact spl vs' hsp
        ·trivial
       ·trivial
      ·trivial
   | _ => trivial
  | eptr c o' n k f =>
   simp only
   rw [hhs c rfl]
   cases hsq : eA (H c) o' with
   | no => trivial
   | some u xs =>
    simp only
    cases hset : uR D u xs k f i.size sv with
    | none => trivial
    | some xs' =>
     simp only
     rintro ⟨hk, hn⟩
     subst hn
     rcases gK hR.sat (c := c) (by intro e; rw [e] at hsq; cases hsq) (by intro e; rw [e] at hsq; cases hsq) with ⟨_, u', h⟩ | ⟨b, hb, hat⟩
     ·rw [h] at hsq
      cases o' <;> simp [eA] at hsq
      obtain ⟨rfl, h2⟩ := hsq
      cases h2
      simp at hk
     ·have e := mD ha hb
      have hq := gG (o := o') hat
      rw [hsq] at hq
      obtain ⟨cs, T, h1, h2, h3⟩ := hq
      obtain ⟨b1, b2, b3, b4, b5⟩ := rS hset hk hv h3
      have hkn : k * C.n u + C.n u ≤ xs.length * C.n u := by
       have := Nat.mul_le_mul_right (C.n u) hk
       rwa [Nat.succ_mul] at this
      refine vS hR ht ho hb e h1 b2 (by omega) b5 fun w' cs' hL hw' hcs' => ?_
      have hlv : ((cs.toList.drop o').take (xs.length * C.n u)).length = xs.length * C.n u := by
       simp only [List.length_take, List.length_drop, Array.length_toList]; omega
      generalize hkf : k * C.n u + f = g at *
      have hg : g + i.size ≤ xs.length * C.n u := by omega
      have b4' := b4.mono (w' := w') hL.F
      generalize hV : (cs.toList.drop o').take (xs.length * C.n u) = V at *
      have hto : (cs.toList.take o').length = o' := by simp; omega
      have hfull : cs'.toList = cs.toList.take o' ++ (V.take g ++ (a.eval ov).cells.toList ++ V.drop (g + i.size)) ++ cs.toList.drop (o' + xs.length * C.n u) := by
       rw [hcs', show o' + k * C.n u + f = o' + g by omega]
       have f1 : cs.toList.take (o' + g) = cs.toList.take o' ++ V.take g := by
        rw [List.take_add, ← hV, List.take_take, Nat.min_eq_left (by omega)]
       have f2 : cs.toList.drop (o' + g + i.size) = V.drop (g + i.size) ++ cs.toList.drop (o' + xs.length * C.n u) := by
        rw [← hV, List.drop_take]
        have f4 : cs.toList.drop (o' + xs.length * C.n u) = ((cs.toList.drop o').drop (g + i.size)).drop (xs.length * C.n u - (g + i.size)) := by
         rw [List.drop_drop, List.drop_drop]; congr 1; omega
        rw [f4, List.take_append_drop, List.drop_drop]
        congr 1
        omega
       rw [f1, f2]
       simp
      have hl2 : (V.take g ++ (a.eval ov).cells.toList ++ V.drop (g + i.size)).length = xs.length * C.n u := by
       simp only [List.length_append, List.length_take, List.length_drop, Array.length_toList, b2, hlv]; omega
      have hnew : (cs'.toList.drop o').take (xs.length * C.n u) = V.take g ++ (a.eval ov).cells.toList ++ V.drop (g + i.size) := by
       rw [hfull, List.append_assoc, List.drop_left' hto, List.take_left' hl2]
      cases hH : H c with
      | fresh => rw [hH] at hsq; cases hsq
      | dead => rw [hH] at hsq; cases hsq
      | obj ob => rw [hH] at hsq; cases hsq
      | rows u0 xs0 =>
       rw [hH] at hsq
       cases o' with
       | succ o' => simp [eA] at hsq
       | zero =>
        simp only [lF]
        rw [hH] at hat
        obtain ⟨cs2, T2, c1, _⟩ := hat
        obtain ⟨rfl, rfl⟩ := h1.inj c1.1
        have hu : u0 = u := by simp only [eA, Sq.some.injEq] at hsq; exact hsq.1
        subst hu
        refine ⟨cs', T, ⟨hw', c1.2⟩, ?_, ?_⟩
        ·rw [b1, ← Array.length_toList, hcs']
         simp only [List.length_append, List.length_take, List.length_drop, Array.length_toList, b2]
         omega
        ·rw [b1]
         simp only [List.drop_zero] at hnew
         rw [hnew]
         exact b4'
      | vart ty vs =>
       rw [hH] at hsq
       simp only [eA] at hsq
       cases hhit : mM vs o' with
       | miss => simp [hhit] at hsq
       | cell x => simp [hhit] at hsq
       | elem u1 N xs1 k1 =>
        cases k1 with
        | succ k1 => simp [hhit] at hsq
        | zero =>
         simp [hhit] at hsq
         obtain ⟨rfl, hx1⟩ := hsq
         cases hx1
         simp only [lF]
         cases hsa : fG vs o' u1 xs' with
         | none => obtain ⟨_, h7⟩ := tD vs o' u1 N xs1 xs' hhit; rw [h7] at hsa; cases hsa
         | some vs' =>
          simp only
          rw [hH] at hat
          obtain ⟨cs2, T2, c1, c2⟩ := hat
          obtain ⟨rfl, rfl⟩ := h1.inj c1.1
          have hfin := nX vs o' u1 N xs1 xs' vs' cs.toList _ hhit hsa b1 c2 b4
          refine ⟨cs', T, ⟨hw', c1.2⟩, DenC.mono hL _ _ ?_⟩
          rw [hl2] at hfin
          rw [hfull]
          exact hfin
  | _ => trivial
end
end Go.SX
namespace Go.SX
open Go.RowKit
variable {C : Cod}
section
variable {P : Program} {D : aL C} {tab : Tab C} {B : dZ} {E : Env} {σ : Nat → SV C} {H : Nat → HS C} {df : List Deferred} {a : Act} {w : World} {o : Oper}
theorem B9 : ∀ (ps : List (Nat × Operand)), S7 ps ((ps.map (·.2)).map (ev σ)) = ps.map fun q => (q.1, ev σ q.2)
 | [] => rfl
 | (i, x) :: l => by simp only [List.map_cons, S7, B9 l]
theorem L6 (off : Nat) (l : List Value) (cs : Array Value) (h : off + l.length ≤ cs.size) :
  ((l.zipIdx).foldl (fun cs (x : Value × Nat) => cs.setIfInBounds (off + x.2) x.1) cs).toList = cs.toList.take off ++ l ++ cs.toList.drop (off + l.length) := by
 obtain ⟨h1, h2⟩ := Great.foldl_set off l 0 cs
 apply List.ext_getElem?
 intro k
 have := h2 k
 simp only [Nat.add_zero] at this
 rw [Array.getElem?_toList, this]
 by_cases hk : k < off
 ·rw [if_neg (by omega), List.append_assoc, List.getElem?_append_left (by simp; omega), List.getElem?_take, if_pos hk, Array.getElem?_toList]
 ·have hto : (cs.toList.take off).length = off := by simp; omega
  by_cases hk2 : k < off + l.length
  ·rw [if_pos (by omega), List.append_assoc, List.getElem?_append_right (by omega), List.getElem?_append_left (by omega), hto]
  ·rw [if_neg (by omega), List.getElem?_append_right (by simp; omega), List.getElem?_drop]
   simp only [List.length_append, hto]
   rw [show off + l.length + (k - (off + l.length)) = k by omega, Array.getElem?_toList]
theorem xU {place : Nat → Option (Nat × Nat)} : ∀ (ps : List (Nat × Operand)) (vs vs' : List (SV C)) (cs : Array Value),
  (∀ x, Den D w E (ev σ x) (a.eval x)) → Ex place vs (ps.map fun q => (q.1, ev σ q.2)) = some vs' → DenC D w E vs cs.toList →
  ∃ cs', Instr.fill place cs (ps.map fun q => (q.1, a.eval q.2)) = some cs' ∧ DenC D w E vs' cs'.toList
 | [], vs, vs', cs, _, h, hd => by
  simp only [List.map_nil, Ex, Option.some.injEq] at h
  subst h
  exact ⟨cs, rfl, hd⟩
 | (i, x) :: ps, vs, vs', cs, he, h, hd => by
  simp only [List.map_cons, Ex] at h
  cases hp : place i with
  | none => simp [hp] at h
  | some p =>
   obtain ⟨off, size⟩ := p
   simp only [hp] at h
   cases hc : cellsOf (ev σ x) with
   | none => simp [hc] at h
   | some l =>
    simp only [hc] at h
    cases htk : iB l size with
    | none => simp [htk] at h
    | some l' =>
     simp only [htk] at h
     split at h
     ·rename_i hdr
      cases hsp : nF vs off size l' with
      | none => simp [hsp] at h
      | some vs1 =>
       simp only [hsp] at h
       have hcd := gT hc (he x)
       obtain ⟨h3, h4⟩ := sV htk hdr hcd
       obtain ⟨h5, h6⟩ := rD hsp hd h4
       have hsz : (a.eval x).cells.size = size := by simpa using h3
       have hfit : off + size ≤ cs.size := by simpa using h6
       have hfold := L6 off (a.eval x).cells.toList cs (by simp [hsz]; omega)
       simp only [Array.length_toList, hsz] at hfold
       obtain ⟨cs', h7, h8⟩ := xU ps vs1 vs' _ he h (hfold ▸ h5)
       refine ⟨cs', ?_, h8⟩
       simp only [List.map_cons, Instr.fill, hp, hsz]
       rw [if_neg (by simp; omega), ← h7]
       congr 1
       rw [← Array.foldl_toList]
       congr 1
       simp
     ·cases h
theorem Hz {D : aL C} {w : World} {F : Nat → Prop} : ∀ (t : List (PV C)) {l : List (PV C)} {vs : List Value}, bE D w F l vs → bE D w F (Ci t l) vs := by
 intro t l
 fun_induction Ci t l with
 | case1 u x t l ih =>
  rintro vs ⟨h1, h2⟩
  cases vs with
  | nil => simp at h1
  | cons v vs =>
   obtain ⟨g1, g2⟩ := ih ⟨by simpa using h1, fun j pv v hp hv => h2 (j + 1) pv v (by simpa using hp) (by simpa using hv)⟩
   refine ⟨by simp [g1], fun j pv v' hp hv => ?_⟩
   cases j with
   | zero =>
    simp at hp hv; subst hp hv
    have := h2 0 _ v rfl rfl
    cases this with
    | lit _ _ => exact .dslNil u none 0
   | succ j => exact g2 j pv v' (by simpa using hp) (by simpa using hv)
 | case2 y t x l hn ih =>
  rintro vs ⟨h1, h2⟩
  cases vs with
  | nil => simp at h1
  | cons v vs =>
   obtain ⟨g1, g2⟩ := ih ⟨by simpa using h1, fun j pv v hp hv => h2 (j + 1) pv v (by simpa using hp) (by simpa using hv)⟩
   refine ⟨by simp [g1], fun j pv v' hp hv => ?_⟩
   cases j with
   | zero => exact h2 0 pv v' (by simpa using hp) (by simpa using hv)
   | succ j => exact g2 j pv v' (by simpa using hp) (by simpa using hv)
 | case3 l => exact fun h => h
 | case4 y t => exact fun h => h
theorem jT {u : C.U} : ∀ (ps : List (Nat × Operand)) (k : Nat) (xs : List (C.El u)), (∀ x, Den D w E (ev σ x) (a.eval x)) →
  gB D u k (ps.map fun q => (q.1, ev σ q.2)) = some xs →
  ps.map (fun q => (q.1, a.eval q.2)) = ((ps.map fun q => a.eval q.2).zipIdx k).map (fun x => (x.2, x.1)) ∧ (∀ v ∈ ps.map (fun q => a.eval q.2), v.cells.size = C.n u) ∧
   xs.length = ps.length ∧ bE D w E.F (xs.flatMap (D.enc u)) ((ps.map fun q => a.eval q.2).flatMap fun v => v.cells.toList)
 | [], k, xs, _, h => by
  simp only [List.map_nil, gB, Option.some.injEq] at h
  subst h
  exact ⟨rfl, by simp, rfl, ⟨rfl, fun j pv v hp _ => by simp at hp⟩⟩
 | (i, x) :: ps, k, xs, he, h => by
  simp only [List.map_cons, gB] at h
  split at h
  ·rename_i hik
   subst hik
   cases hc : cellsOf (ev σ x) with
   | none => simp [hc] at h
   | some l =>
    simp only [hc] at h
    cases hp : D9 l with
    | none => simp [hp] at h
    | some pl =>
     simp only [hp] at h
     cases hd : D.dec u (Ci (D.enc u (C.dflt u)) pl) with
     | none => simp [hd] at h
     | some y =>
      simp only [hd] at h
      cases hr : gB D u (i + 1) (ps.map fun q => (q.1, ev σ q.2)) with
      | none => simp [hr] at h
      | some r =>
       simp [hr] at h
       subst h
       obtain ⟨h1, h2, h3, h4⟩ := jT ps (i + 1) r he hr
       have hy := D.dec_ok u _ y hd
       have hpl := Hz (D.enc u (C.dflt u)) (uL _ _ _ hp (gT hc (he x)))
       have hn : (a.eval x).cells.size = C.n u := by
        rw [← Array.length_toList, ← hpl.1, ← hy, D.enc_len]
       refine ⟨by simp only [List.map_cons, List.zipIdx_cons, h1], fun v hv => ?_, by simp [h3], ?_⟩
       ·simp only [List.map_cons, List.mem_cons] at hv
        rcases hv with rfl | hv
        ·exact hn
        ·exact h2 v hv
       ·simp only [List.flatMap_cons, List.map_cons, hy]
        exact hpl.append h4
  ·cases h
theorem Ll (hT : bH P D tab) (hR : Rel D B E σ H df a w) {t : TypeId} {ps : Array (Nat × Operand)} (ho : o.op = .build t ps) :
  bF P D B σ H df a w o (W1 D tab t (S7 ps.toList ((ps.toList.map (·.2)).map (ev σ)))) := by
 rw [B9]
 unfold W1
 cases htab : tab t with
 | none => trivial
 | some i =>
  have ht := hT t i htab
  obtain ⟨info, z, h1, h2, h3, h4, h5, h6⟩ := ht.info
  have heq : (ps.map fun (i, x) => (i, a.eval x)).toList = ps.toList.map fun q => (q.1, a.eval q.2) := by simp
  simp only
  split
  ·rename_i fs hk
   have hkk := ht.und
   rw [hk] at hkk
   obtain ⟨d, hu, F, rfl, hF, hfi⟩ := hkk
   split
   ·rename_i vs' hfw
    have hpl : ∃ places, F.toList.mapM (fun f => (P.info? f.type).map fun i => (f.offset, i.size)) = some places ∧ ∀ k off size, kM tab fs k = some (off, size) → places[k]? = some (off, size) := by
     clear hfw
     have gen : ∀ (L : List Field) (G : List (Nat × TypeId)), L.map (fun f => (f.offset, f.type)) = G → (∀ f ∈ G, (P.info? f.2).isSome = true) →
       ∃ places, L.mapM (fun f => (P.info? f.type).map fun i => (f.offset, i.size)) = some places ∧ ∀ k off size, kM tab G k = some (off, size) → places[k]? = some (off, size) := by
      intro L
      induction L with
      | nil => intro G hG _; subst hG; exact ⟨[], rfl, fun k off size h => by simp [kM, ixL] at h⟩
      | cons f L ih =>
       intro G hG hin
       subst hG
       obtain ⟨places, hp1, hp2⟩ := ih _ rfl (fun q hq => hin q (by simp at hq ⊢; exact .inr hq))
       obtain ⟨fi, hfi'⟩ := Option.isSome_iff_exists.1 (hin (f.offset, f.type) (by simp))
       refine ⟨(f.offset, fi.size) :: places, by simp [List.mapM_cons, hfi', hp1], fun k off size hk' => ?_⟩
       cases k with
       | zero =>
        simp only [kM, List.map_cons, ixL] at hk'
        cases htf : tab f.type with
        | none => simp [htf] at hk'
        | some j =>
         simp [htf] at hk'
         obtain ⟨rfl, rfl⟩ := hk'
         obtain ⟨info', z', g1, g2, _⟩ := (hT _ _ htf).info
         simp only at hfi'
         rw [g1] at hfi'; cases hfi'
         simp [g2]
       | succ k =>
        simp only [List.getElem?_cons_succ]
        exact hp2 k off size (by simpa [kM, ixL] using hk')
     exact gen F.toList fs hF hfi
    obtain ⟨places, hp1, hp2⟩ := hpl
    obtain ⟨cs', h7, h8⟩ := xU ps.toList i.zero vs' z.cells (fun x => aR hR x) hfw (h6 w E)
    have hfill : Instr.fill (fun x => places[x]?) z.cells (ps.toList.map fun q => (q.1, a.eval q.2)) = some cs' := by
     have gen : ∀ (l : List (Nat × Value)) (c c' : Array Value), Instr.fill (kM tab fs) c l = some c' → Instr.fill (fun x => places[x]?) c l = some c' := by
      intro l
      induction l with
      | nil => intro c c' h; exact h
      | cons q l ih =>
       intro c c' h
       obtain ⟨k, v⟩ := q
       simp only [Instr.fill] at h ⊢
       cases hpo : kM tab fs k with
       | none => simp [hpo] at h
       | some p =>
        obtain ⟨off, size⟩ := p
        rw [hp2 k off size hpo]
        simp only [hpo] at h
        simp only
        split
        ·rename_i hc; rw [if_pos hc] at h; cases h
        ·rename_i hc; rw [if_neg hc] at h; exact ih _ _ h
     exact gen _ _ _ h7
    have hb : P.built t (ps.map fun (i, x) => (i, a.eval x)).toList = some cs' := by
     rw [heq]
     simp only [Program.built, h1, hu, h4, hp1]
     simpa using hfill
    refine aH hR (u := .agg cs') ?_ (by simp only [Den]; exact ⟨cs', rfl, h8⟩)
    simp only [execOp, ho, Sem.run_bind, run_build w t _ cs' hb, Result.andThen_ok, Sem.run_pure]
   ·trivial
  ·rename_i len e hk
   have hu := arr_of ht hk
   obtain ⟨ie, hie, hsize⟩ := Nw ht hk
   split
   ·rename_i hps
    have hps' : ps.toList = [] := by simpa using hps
    have hps'' : ps = #[] := by simpa using hps'
    refine aH hR (u := .agg z.cells) ?_ (by simp only [Den]; exact ⟨_, rfl, h6 w E⟩)
    have hb : P.built t (ps.map fun (i, x) => (i, a.eval x)).toList = some z.cells := by
     rw [heq, hps']
     simp [Program.built, h1, hu, h4, hie, Instr.fill]
    simp only [execOp, ho, Sem.run_bind, run_build w t _ _ hb, Result.andThen_ok, Sem.run_pure]
   ·rename_i q0 rest hps
    cases hte : tab e with
    | none => trivial
    | some j =>
     simp only
     cases hcode : j.code with
     | none => trivial
     | some u =>
      simp only
      cases hdp : gB D u 0 (ps.toList.map fun q => (q.1, ev σ q.2)) with
      | none => trivial
      | some xs =>
       simp only
       split
       ·rename_i hlen
        have hj := hT e j hte
        obtain ⟨g1, g2, g3, g4⟩ := jT ps.toList 0 xs (fun x => aR hR x) hdp
        have hn := hj.code u hcode
        obtain ⟨ie', z', f1, f2, _⟩ := hj.info
        rw [hie] at f1; cases f1
        have hfill := Great.fill_whole (D.n_pos u) (ps.toList.map fun q => a.eval q.2) z.cells g2 (by simp only [List.length_map]; rw [← g3, hlen, hn, ← f2, h5, hsize])
        have hb : P.built t (ps.map fun (i, x) => (i, a.eval x)).toList = some ((ps.toList.map fun q => a.eval q.2).flatMap fun v => v.cells.toList).toArray := by
         rw [heq, g1]
         simp only [Program.built, h1, hu, h4, hie]
         rw [show ie.size = C.n u by rw [f2, hn]]
         exact hfill
        refine aH hR (u := .agg ((ps.toList.map fun q => a.eval q.2).flatMap fun v => v.cells.toList).toArray) ?_ ?_
        ·simp only [execOp, ho, Sem.run_bind, run_build w t _ _ hb, Result.andThen_ok, Sem.run_pure]
        ·simp only [Den]
         refine ⟨_, rfl, ?_⟩
         simp only [DenC]
         exact ⟨hlen, _, [], by simp, g4, rfl⟩
       ·trivial
  ·trivial
theorem R8 {f : Operand → SV C} {ps : List (Nat × Operand)} {vs : List (SV C)} (h : xG (ps.map fun q => (q.1, f q.2)) = some vs) : ∃ ox oy, ps = [(0, ox), (1, oy)] ∧ vs = [f ox, f oy] ∧ (f ox).one = true ∧ (f oy).one = true := by
 match ps, h with
 | [], h => simp [xG] at h
 | [(i, x)], h => simp [xG] at h
 | [(i, x), (j, y)], h =>
  unfold xG at h
  split at h
  ·rename_i u v e
   simp only [List.map_cons, List.map_nil, List.cons.injEq, Prod.mk.injEq, and_true] at e
   obtain ⟨⟨rfl, rfl⟩, rfl, rfl⟩ := e
   split at h
   ·rename_i h1 h2
    injection h with h
    exact ⟨x, y, rfl, h.symm, h1, h2⟩
   ·cases h
  ·cases h
 | (i, x) :: (j, y) :: z :: ps, h =>
  unfold xG at h
  split at h
  ·rename_i u v e
   simp at e
  ·cases h
theorem yU (hT : bH P D tab) (hR : Rel D B E σ H df a w) {m : Nat} (hm : H m = .fresh) {t : TypeId} {len : Nat} {ps : Array (Nat × Operand)} (ho : o.op = .buildSlice t len ps) :
    bF P D B σ H df a w o (lD D tab t len (S7 ps.toList ((ps.toList.map (·.2)).map (ev σ))) m) := by
  rw [B9]
  unfold lD
  cases htab : tab t with
  | none => trivial
  | some i =>
    have ht := hT t i htab
    have heq : (ps.map fun (i, x) => (i, a.eval x)).toList = ps.toList.map fun q => (q.1, a.eval q.2) := by simp
    simp only
    split
    · rename_i e hk
      have hu := bN ht hk
      cases hte : tab e with
      | none => trivial
      | some j =>
        simp only
        cases hcode : j.code with
        | none => trivial
        | some u =>
          simp only
          cases hdp : gB D u 0 (ps.toList.map fun q => (q.1, ev σ q.2)) with
          | none =>
            simp only
            split
            · rename_i hs1
              split
              · rename_i vs hvs
                obtain ⟨ox, oy, hps, rfl, h1, h2⟩ := R8 hvs
                have hj := hT e j hte
                obtain ⟨ie, z, f1, f2, f3, f4, f5, f6⟩ := hj.info
                have dx := aR hR ox
                have dy := aR hR oy
                have cx := sU (Den.one_of h1 dx)
                have cy := sU (Den.one_of h2 dy)
                have hpa : ps = #[(0, ox), (1, oy)] := by
                  apply Array.ext'
                  simpa using hps
                subst hpa
                have hk := Great.fill_whole (s := 1) (by omega) [a.eval ox, a.eval oy] ((Array.range (2 * 1)).map (z.cells[· % z.cells.size]!)) (by
                  intro v hv
                  rcases List.mem_cons.1 hv with rfl | hv
                  · rw [cx]; rfl
                  · rw [List.mem_singleton.1 hv, cy]; rfl) (by simp)
                have hcl : (([a.eval ox, a.eval oy]).flatMap fun v => v.cells.toList).toArray = #[a.eval ox, a.eval oy] := by simp [cx, cy]
                rw [hcl] at hk
                have hrun : (execOp a.eval o).run P w = .ok (.value (.slice (some ⟨w.heap.size, 0, none⟩) 2 2)) (w.alloc (.cells #[a.eval ox, a.eval oy] e)) := by
                  have hk' : Instr.fill (fun i => some (i * j.size, j.size)) ((Array.range (2 * j.size)).map (z.cells[· % z.cells.size]!)) ((#[(0, ox), (1, oy)] : Array (Nat × Operand)).map fun (i, x) => (i, a.eval x)).toList = some #[a.eval ox, a.eval oy] := by rw [hs1, heq]; exact hk
                  have hsmall : ¬ (2 ^ 24 < 2 * j.size) := by omega
                  have h0 : ¬ (2 * j.size = 0) := by omega
                  simp only [execOp, ho, Instr.buildSlice, run_underlying hu, Sem.run_bind, Result.andThen_ok, run_sizeOf hj, gt_iff_lt, if_neg hsmall, if_neg h0, Sem.run_pure, zeroValue, typeInfo, run_program, f1, f4, hk']
                  simp [newRow]
                refine ⟨_, _, E.up m (.loc w.heap.size), .inl hrun, ?_, ?_⟩
                · rw [dQ]
                  refine hR.alloc hm _ e ⟨_, e, ⟨Row.new (heap_alloc_new w _), fun t h => by cases h⟩, ?_⟩
                  refine DenC.mono (cJ (jHβ hR.sat hm) _ hR.sat.F) _ _ ?_
                  rw [aZ (qD h1)]
                  refine ⟨_, _, rfl, Den.one_of h1 dx, dx, ?_⟩
                  rw [aZ (qD h2)]
                  exact ⟨_, _, rfl, Den.one_of h2 dy, dy, by simp [DenC]⟩
                · simp only [Den, Env.up_same]
                  exact .inr ⟨2, _, e, by simp, by omega, Row.new (heap_alloc_new w _), by simp⟩
              · trivial
            · trivial
          | some xs =>
            simp only
            rintro ⟨hlen, h24⟩
            · have hj := hT e j hte
              obtain ⟨g1, g2, g3, g4⟩ := jT ps.toList 0 xs (fun x => aR hR x) hdp
              have hn := hj.code u hcode
              obtain ⟨ie, z, f1, f2, f3, f4, f5, f6⟩ := hj.info
              simp only [List.length_map] at hlen
              have hsmall : ¬ (2 ^ 24 < len * j.size) := by omega
              have key : ∀ (start : Array Value), start.size = len * j.size →
                  Instr.fill (fun i => some (i * j.size, j.size)) start (ps.map fun (i, x) => (i, a.eval x)).toList = some ((ps.toList.map fun q => a.eval q.2).flatMap fun v => v.cells.toList).toArray := fun start hs => by
                rw [heq, g1, show j.size = C.n u from hn.symm]
                exact Great.fill_whole (D.n_pos u) (ps.toList.map fun q => a.eval q.2) start g2 (by simp only [List.length_map]; rw [hlen, hn, hs])
              generalize hcells : ((ps.toList.map fun q => a.eval q.2).flatMap fun v => v.cells.toList).toArray = cells at *
              have hcl : bE D w E.F (xs.flatMap (D.enc u)) cells.toList := by rw [← hcells]; simpa using g4
              have hrun : (execOp a.eval o).run P w = .ok (.value (.slice (some ⟨w.heap.size, 0, none⟩) len len)) (w.alloc (.cells cells e)) := by
                by_cases h0 : len * j.size = 0
                · have hl0 : len = 0 := by
                    rcases Nat.eq_zero_or_pos len with h | h
                    · exact h
                    · have := Nat.mul_pos h hj.pos; omega
                  have hps0 : ps.toList = [] := List.eq_nil_of_length_eq_zero (by rw [hlen, hl0])
                  have hps1 : ps = #[] := by simpa using hps0
                  subst hl0
                  subst hps1
                  have hc0 : cells = #[] := by rw [← hcells]; rfl
                  subst hc0
                  simp [execOp, ho, Instr.buildSlice, run_underlying hu, run_sizeOf hj, newRow, Instr.fill]
                  rw [show (Array.map (fun _ => (default : Value)) (Array.range 0)) = #[] from Array.eq_empty_of_size_eq_zero (by simp)]
                · have hk := key ((Array.range (len * j.size)).map (z.cells[· % z.cells.size]!)) (by simp)
                  simp only [execOp, ho, Instr.buildSlice, run_underlying hu, Sem.run_bind, Result.andThen_ok, run_sizeOf hj, gt_iff_lt, if_neg hsmall, if_neg h0, Sem.run_pure, zeroValue, typeInfo, run_program, f1, f4, hk]
                  simp [newRow]
              refine ⟨_, _, E.up m (.loc w.heap.size), .inl hrun, ?_, ?_⟩
              · rw [dQ]
                refine hR.alloc hm cells e ⟨cells, e, ⟨Row.new (heap_alloc_new w _), fun t h => (hj.ctype u t hcode h).symm⟩, ?_, ?_⟩
                · rw [← Array.length_toList, ← hcl.1, aQ]; exact Nat.le_refl _
                · rw [List.take_of_length_le (by rw [← hcl.1, aQ]; exact Nat.le_refl _)]
                  exact hcl.mono (cJ (jHβ hR.sat hm) _ hR.sat.F).F
              · simp only [Den, Env.up_same]
                refine .inr ⟨len, cells, e, by simp, Nat.le_refl _, Row.new (heap_alloc_new w _), ?_⟩
                rw [← Array.length_toList, ← hcl.1, aQ, g3, hlen, hn]
                simp
    · trivial
end
end Go.SX
namespace Go.SX
open Go.RowKit
variable {C : Cod}
section
variable {P : Program} {D : aL C} {tab : Tab C} {B : dZ} {E : Env} {σ : Nat → SV C} {H : Nat → HS C} {df : List Deferred} {a : Act} {w : World} {o : Oper}
theorem iZ (u : C.U) (x : C.El u) : ∀ (n : Nat) (k : Nat), k < n * C.n u → ((List.replicate n x).flatMap (D.enc u))[k]? = (D.enc u x)[k % C.n u]? := by
 intro n k hk
 have hd : k / C.n u < n := (Nat.div_lt_iff_lt_mul (D.n_pos u)).2 hk
 have hm : k % C.n u < C.n u := Nat.mod_lt _ (D.n_pos u)
 have := eU (D := D) u (List.replicate n x) (k / C.n u) (k % C.n u) x (by simp [hd]) hm
 rw [show k / C.n u * C.n u + k % C.n u = k by rw [Nat.mul_comm]; exact Nat.div_add_mod k _] at this
 exact this
theorem M5 (hT : bH P D tab) (hR : Rel D B E σ H df a w) {m : Nat} (hm : H m = .fresh) {t : TypeId} {ol oc : Operand} (ho : o.op = .makeSlice t ol oc) :
  bF P D B σ H df a w o (mW D tab t (ev σ ol) (ev σ oc) m) := by
 have hl := aR hR ol
 have hc := aR hR oc
 generalize ev σ ol = sl at *
 generalize ev σ oc = sc at *
 unfold mW
 cases htab : tab t with
 | none => trivial
 | some i =>
  have ht := hT t i htab
  simp only
  split
  ·rename_i e l k hk
   have hu := bN ht hk
   have el := bV hl
   have ek := bV hc
   cases hte : tab e with
   | none => trivial
   | some j =>
    simp only
    cases hcode : j.code with
    | none => trivial
    | some u =>
     rintro ⟨h0, h1, h2, h3, h4⟩
     have hj := hT e j hte
     have hn := hj.code u hcode
     obtain ⟨ie, z, f1, f2, f3, f4, f5, f6⟩ := hj.info
     have wl : IntKind.i64.wrap l = l := IntWalk.i64_in _ (by omega)
     have wk : IntKind.i64.wrap k = k := IntWalk.i64_in _ (by omega)
     have hb : ¬ ((281474976710656 : Int) < (j.bytes : Int) * k) := by rw [Int.mul_comm]; omega
     have hb2 : ¬ ((281474976710656 : Int) < (j.bytes : Int) * l) := by
      have : (j.bytes : Int) * l ≤ (j.bytes : Int) * k := Int.mul_le_mul_of_nonneg_left h1 (by omega)
      omega
     have hneg : ¬ l < 0 := by omega
     have hnegk : ¬ k < 0 := by omega
     have hlk : ¬ k < l := by omega
     let cells : Array Value := (Array.range (k.toNat * j.size)).map (z.cells[· % z.cells.size]!)
     have hrun : (execOp a.eval o).run P w = .ok (.value (.slice (some ⟨w.heap.size, 0, none⟩) l.toNat k.toNat)) (w.alloc (.cells cells e)) := by
      by_cases hz : k.toNat * j.size = 0
      ·have hc0 : cells = #[] := Array.eq_empty_of_size_eq_zero (by simp [cells, hz])
       rw [hc0]
       have hc1 : ∀ (g : Nat → Value), (Array.range (k.toNat * j.size)).map g = #[] := fun g => Array.eq_empty_of_size_eq_zero (by simp [hz])
       simp [execOp, ho, Instr.makeSlice, run_underlying hu, el, ek, asInt, asIntOf, typeInfo, f1, wl, wk, hneg, hnegk, hlk, f3, hb, run_sizeOf hj, newRow, hc1]
       exact fun h => absurd hz h
      ·simp [execOp, ho, Instr.makeSlice, run_underlying hu, el, ek, asInt, asIntOf, typeInfo, f1, wl, wk, hneg, hnegk, hlk, f3, hb, run_sizeOf hj, newRow, zeroValue, f4, hz]
       rfl
     have hsz : cells.size = k.toNat * C.n u := by simp [cells, hn]
     have hden : bE D w E.F ((List.replicate l.toNat (C.dflt u)).flatMap (D.enc u)) (cells.toList.take (l.toNat * C.n u)) := by
      have hz := f6 w E
      rw [h4] at hz
      have hle : l.toNat * C.n u ≤ k.toNat * C.n u := Nat.mul_le_mul_right _ (by omega)
      refine ⟨by rw [aQ, List.length_take, show cells.toList.length = k.toNat * C.n u from by rw [Array.length_toList, hsz], Nat.min_eq_left hle, List.length_replicate], fun q pv v hp hv => ?_⟩
      have hq : q < l.toNat * C.n u := by
       have := (List.getElem?_eq_some_iff.1 hp).1
       rw [aQ] at this
       simpa using this
      rw [iZ u _ _ _ hq] at hp
      rw [List.getElem?_take, if_pos hq] at hv
      have hzs : z.cells.size = C.n u := by rw [f5, hn]
      have hmod : q % C.n u < z.cells.size := by rw [hzs]; exact Nat.mod_lt _ (D.n_pos u)
      have hv' : v = z.cells[q % C.n u] := by
       have hqk : q < k.toNat * j.size := by rw [← hn]; omega
       simp [cells, hqk, hzs] at hv
       rw [← hv]
       rw [getElem!_pos z.cells (q % C.n u) hmod]
      subst hv'
      have gen : ∀ (l : List (PV C)) (vs : List Value), DenC D w E (rP l) vs → ∀ (j : Nat) (pv : PV C) (v : Value), l[j]? = some pv → vs[j]? = some v → eM D w E.F pv v := by
       intro l
       induction l with
       | nil => intro vs _ j pv v h; simp at h
       | cons x l ih =>
        intro vs h j pv v h1 h2
        simp only [rP, List.map_cons, DenC, Den] at h
        obtain ⟨v0, v2, rfl, _, h3, h4⟩ := h
        cases j with
        | zero => simp at h1 h2; subst h1; subst h2; exact h3
        | succ j => exact ih v2 h4 j pv v (by simpa using h1) (by simpa using h2)
      exact gen _ _ hz _ _ _ hp (by simp [hmod])
     refine ⟨_, _, E.up m (.loc w.heap.size), .inl hrun, ?_, ?_⟩
     ·rw [dQ]
      refine hR.alloc hm cells e ⟨cells, e, ⟨Row.new (heap_alloc_new w _), fun t h => (hj.ctype u t hcode h).symm⟩, ?_, ?_⟩
      ·simp only [List.length_replicate, hsz]; exact Nat.mul_le_mul_right _ (by omega)
      ·simp only [List.length_replicate]
       exact hden.mono (cJ (jHβ hR.sat hm) _ hR.sat.F).F
     ·simp only [Den, Env.up_same]
      refine .inr ⟨k.toNat, cells, e, by simp, by omega, Row.new (heap_alloc_new w _), ?_⟩
      rw [hsz, hn]; simp
  ·trivial
theorem Wc (hT : bH P D tab) (hR : Rel D B E σ H df a w) {tys : Array TypeId} {ox : Operand} (ho : o.op = .call { callee := .builtin .len, args := #[ox], argTypes := tys }) {hs : List (Nat × HS C)}
  (hhs : ∀ c, (ev σ ox).topId = some c → lk hs c = H c) (hty : 0 < tys.size) :
  bF P D B σ H df a w o (Sx tab (tys.getD 0 0) (ev σ ox) hs) := by
 have hx := aR hR ox
 generalize ev σ ox = sx at *
 have ht0 : tys[0]? = some (tys.getD 0 0) := by simp [Array.getD_eq_getD_getElem?, Array.getElem?_eq_getElem hty]
 generalize tys.getD 0 0 = t at *
 have key : ∀ n : Nat, (Builtin.len_ tys o.type #[a.eval ox]).run P w = .ok (.int .i64 n) w → bF P D B σ H df a w o (.val (.p (.int .i64 n))) := fun n h =>
  aH hR (u := .int .i64 n) (by simp [execOp, ho, resolve, invoke, builtin, h]) (dH _ _)
 unfold Sx
 cases htab : tab t with
 | none => trivial
 | some i =>
  have ht := hT t i htab
  simp only
  split
  ·rename_i l hk
   have e := gL hx
   exact key _ (by simp [Builtin.len_, ht0, run_underlying (vY ht hk), e, goInt, tB])
  ·rename_i u xs hk
   have hu := bN ht hk
   simp only [Den] at hx
   generalize hxx : a.eval ox = vx at hx
   cases hx with
   | dslNil => exact key 0 (by simp [Builtin.len_, ht0, run_underlying hu, hxx, goInt])
   | dsl => exact key _ (by simp [Builtin.len_, ht0, run_underlying hu, hxx, goInt])
  ·rename_i hk
   have hu := bN ht hk
   have e := bR hx
   exact key 0 (by simp [Builtin.len_, ht0, run_underlying hu, e, goInt])
  ·rename_i e c o' n' off len hk
   have hu := bN ht hk
   refine bO fun hl => ?_
   rw [hhs c rfl] at hl
   rcases bT hR.sat hl hx with ⟨rfl, ⟨ad, e, _⟩ | ⟨ad, b, e, _⟩⟩ | ⟨b, cap, cs, T, _, e, _⟩
   ·exact key 0 (by simp [Builtin.len_, ht0, run_underlying hu, e, goInt])
   ·exact key 0 (by simp [Builtin.len_, ht0, run_underlying hu, e, goInt])
   ·exact key _ (by simp [Builtin.len_, ht0, run_underlying hu, e, goInt])
  ·rename_i n e hk
   have hu := arr_of ht hk
   exact key _ (by simp [Builtin.len_, ht0, run_underlying hu, goInt])
  ·trivial
theorem O9 (hR : Rel D B E σ H df a w) {tys : Array TypeId} {ox oy : Operand} (mx : Bool) (ho : o.op = .call { callee := .builtin (match mx with | true => .max | false => .min), args := #[ox, oy], argTypes := tys }) :
  bF P D B σ H df a w o (Y7 mx (ev σ ox) (ev σ oy)) := by
 have hx := aR hR ox
 have hy := aR hR oy
 generalize ev σ ox = sx at *
 generalize ev σ oy = sy at *
 unfold Y7
 split
 ·rename_i k x k' y
  have ex := bV hx
  have ey := bV hy
  split
  ·rename_i hk
   subst hk
   cases mx with
   | true =>
    refine aH hR (u := .int k (max x y)) ?_ (dH _ _)
    have : (if y > x then y else x) = max x y := by rw [Int.max_def]; split <;> split <;> omega
    simp [execOp, ho, resolve, invoke, builtin, ex, ey, Builtin.max_, Builtin.max2, List.foldlM]
    simpa using this
   | false =>
    refine aH hR (u := .int k (min x y)) ?_ (dH _ _)
    have : (if y < x then y else x) = min x y := by rw [Int.min_def]; split <;> split <;> omega
    simp [execOp, ho, resolve, invoke, builtin, ex, ey, Builtin.min_, Builtin.min2, List.foldlM]
    simpa using this
  ·trivial
 ·trivial
theorem gD {isSl : Bool} {len cap : Nat} {olo ohi : Option Operand} {x y : Int} (hlo : cE 0 (olo.map (ev σ)) = some x) (hhi : cE len (ohi.map (ev σ)) = some y)
  (hR : Rel D B E σ H df a w) (h0 : 0 ≤ x) (h1 : x ≤ y) (h2 : y ≤ len) (hc : len ≤ cap) :
  (Instr.sliceBounds isSl len cap (olo.map a.eval) (ohi.map a.eval) none).run P w = .ok (x.toNat, y.toNat, cap) w := by
 have elo : ∀ (q : Operand), olo = some q → ∃ k, a.eval q = .int k x := fun q hq => by
  subst hq
  have hd := aR hR q
  simp only [Option.map_some] at hlo
  cases hs : ev σ q with
  | p pv =>
   rw [hs] at hlo hd
   cases pv with
   | int k n => simp [cE] at hlo; subst hlo; exact ⟨k, bV hd⟩
   | _ => simp [cE] at hlo
  | _ => rw [hs] at hlo; simp [cE] at hlo
 have ehi : ∀ (q : Operand), ohi = some q → ∃ k, a.eval q = .int k y := fun q hq => by
  subst hq
  have hd := aR hR q
  simp only [Option.map_some] at hhi
  cases hs : ev σ q with
  | p pv =>
   rw [hs] at hhi hd
   cases pv with
   | int k n => simp [cE] at hhi; subst hhi; exact ⟨k, bV hd⟩
   | _ => simp [cE] at hhi
  | _ => rw [hs] at hhi; simp [cE] at hhi
 cases olo with
 | none =>
  simp [cE] at hlo; subst hlo
  cases ohi with
  | none => simp [cE] at hhi; subst hhi; simp [Instr.sliceBounds]
  | some q =>
   obtain ⟨k, e⟩ := ehi q rfl
   have : 0 ≤ y ∧ y ≤ (cap : Int) := by omega
   simp [Instr.sliceBounds, Instr.sliceBound, e, asIntOf, this]
 | some p =>
  obtain ⟨k, e⟩ := elo p rfl
  cases ohi with
  | none =>
   simp [cE] at hhi; subst hhi
   have : 0 ≤ x ∧ x ≤ (len : Int) := by omega
   simp [Instr.sliceBounds, Instr.sliceBound, e, asIntOf, this]
  | some q =>
   obtain ⟨k', e'⟩ := ehi q rfl
   have h3 : 0 ≤ y ∧ y ≤ (cap : Int) := by omega
   have h4 : 0 ≤ x ∧ x ≤ (y.toNat : Int) := by omega
   have h5 : ¬ max y 0 < x := by omega
   simp [Instr.sliceBounds, Instr.sliceBound, e, e', asIntOf, h3, h0]
   omega
theorem Ow (hT : bH P D tab) (hR : Rel D B E σ H df a w) {t : TypeId} {ox : Operand} {olo ohi : Option Operand} (ho : o.op = .slice t ox olo ohi none) {hs : List (Nat × HS C)} (hhs : ∀ c, (ev σ ox).topId = some c → lk hs c = H c) :
  bF P D B σ H df a w o (pZ tab t (ev σ ox) (olo.map (ev σ)) (ohi.map (ev σ)) hs) := by
 have hx := aR hR ox
 generalize hsx : ev σ ox = sx at *
 unfold pZ
 cases htab : tab t with
 | none => trivial
 | some i =>
  have ht := hT t i htab
  simp only
  split
  ·rename_i l hk
   have hu := vY ht hk
   have e := gL hx
   split
   ·rename_i x y hx' hy'
    rintro ⟨h0, h1, h2⟩
    refine aH hR (u := .string ⟨⟨(l.take y.toNat).drop x.toNat⟩⟩) ?_ (wZ _)
    have hb := gD (P := P) (isSl := false) (len := l.length) (cap := l.length) hx' hy' hR h0 h1 h2 (Nat.le_refl _)
    have hex : (⟨⟨l⟩⟩ : ByteArray).extract x.toNat y.toNat = ⟨⟨(l.take y.toNat).drop x.toNat⟩⟩ := by
     apply ByteArray.ext
     simp [List.extract_eq_take_drop, List.drop_take]
    simp [execOp, ho, Instr.sliceAt, run_underlying hu, Instr.slice, e, tB, hb, hex]
   ·trivial
  ·rename_i e u xs hk
   have hu := bN ht hk
   cases hte : tab e with
   | none => trivial
   | some j =>
    have hj := hT e j hte
    simp only
    split
    ·rename_i x y hx' hy'
     rintro ⟨h0, h1, h2, h3⟩
     simp only [Den] at hx
     have hlen : ((xs.take y.toNat).drop x.toNat).length = y.toNat - x.toNat := by simp; omega
     generalize hxx : a.eval ox = vx at hx
     cases hx with
     | dslNil _ ad cap =>
      have hb := gD (P := P) (isSl := true) (len := 0) (cap := cap) hx' hy' hR h0 h1 h2 (Nat.zero_le _)
      have hx0 : x.toNat = 0 := by simp at h2; omega
      have hy0 : y.toNat = 0 := by simp at h2; omega
      refine aH hR (u := .slice (if cap = 0 then ad else ad.map (·.add 0)) 0 cap) ?_ ?_
      ·simp [execOp, ho, Instr.sliceAt, run_underlying hu, Instr.slice, hxx, hb, run_sizeOf hj, hx0, hy0]
      ·simp only [Den, List.take_nil, List.drop_nil]
       exact .dslNil _ _ _
     | dsl _ _ b o' cap cv hF hc hcell hden =>
      have hb := gD (P := P) (isSl := true) (len := xs.length) (cap := cap) hx' hy' hR h0 h1 h2 hc
      refine aH hR (u := .slice (if cap = x.toNat then some ⟨b, o', none⟩ else some ⟨b, o' + x.toNat * j.size, none⟩) (y.toNat - x.toNat) (cap - x.toNat)) ?_ ?_
      ·simp [execOp, ho, Instr.sliceAt, run_underlying hu, Instr.slice, hxx, hb, run_sizeOf hj, Addr.add_lit]
      ·simp only [Den]
       by_cases hcx : cap = x.toNat
       ·have hnil : (xs.take y.toNat).drop x.toNat = [] := List.eq_nil_of_length_eq_zero (by rw [hlen]; omega)
        have hz : y.toNat - x.toNat = 0 := by omega
        rw [hnil, hz]
        exact .dslNil _ _ _
       ·rw [if_neg hcx, ← hlen]
        refine .dsl u _ b _ _ (fun i j => cv (x.toNat + i) j) (fun hne => hF (fun e => by rw [e] at hne; simp at hne)) (by rw [hlen]; omega) ?_ ?_
        ·intro i y' hy'' jj pv hp
         have hxi : xs[x.toNat + i]? = some y' := by
          rw [List.getElem?_drop, List.getElem?_take] at hy''
          split at hy''
          ·exact hy''
          ·cases hy''
         have := hcell _ _ hxi _ _ hp
         rw [h3]
         rw [show o' + x.toNat * C.n u + i * C.n u + jj = o' + (x.toNat + i) * C.n u + jj by rw [Nat.add_mul]; omega]
         exact this
        ·intro i y' hy'' jj pv hp
         have hxi : xs[x.toNat + i]? = some y' := by
          rw [List.getElem?_drop, List.getElem?_take] at hy''
          split at hy''
          ·exact hy''
          ·cases hy''
         exact hden _ _ hxi _ _ hp
    ·trivial
  ·rename_i e c o' n off len hk
   have hu := bN ht hk
   cases hte : tab e with
   | none => trivial
   | some j =>
    have hj := hT e j hte
    simp only
    split
    ·rename_i x y hx' hy'
     refine bO fun hl => ?_
     rw [hhs c rfl] at hl
     rintro ⟨h0, h1, h2, h3⟩
     rcases bT hR.sat hl hx with ⟨rfl, hn⟩ | ⟨b, cap, cs, T, hb, e, hlc, hcs, hsz⟩
     ·have hb := gD (P := P) (isSl := true) (len := 0) (cap := 0) hx' hy' hR h0 h1 h2 (Nat.zero_le _)
      have hx0 : x.toNat = 0 := by omega
      have hy0 : y.toNat = 0 := by omega
      rcases hn with ⟨ad, e, hβ⟩ | ⟨ad, b, e, hβ⟩
      ·refine aH hR (u := .slice ad 0 0) ?_ ?_
       ·simp [execOp, ho, Instr.sliceAt, run_underlying hu, Instr.slice, e, hb, run_sizeOf hj, hx0, hy0]
       ·simp only [Den, hβ]; exact ⟨ad, by first | rfl | trivial, by omega⟩
      ·refine aH hR (u := .slice ad 0 0) ?_ ?_
       ·simp [execOp, ho, Instr.sliceAt, run_underlying hu, Instr.slice, e, hb, run_sizeOf hj, hx0, hy0]
       ·simp only [Den, hβ]; exact .inl ⟨by omega, ad, rfl⟩
     ·have hbr := gD (P := P) (isSl := true) (len := len) (cap := cap) hx' hy' hR h0 h1 h2 hlc
      refine aH hR (u := .slice (if cap = x.toNat then some ⟨b, o' + off * n, none⟩ else some ⟨b, o' + off * n + x.toNat * j.size, none⟩) (y.toNat - x.toNat) (cap - x.toNat)) ?_ ?_
      ·simp [execOp, ho, Instr.sliceAt, run_underlying hu, Instr.slice, e, hbr, run_sizeOf hj, Addr.add_lit]
      ·simp only [Den, hb]
       by_cases hcx : cap = x.toNat
       ·exact .inl ⟨by omega, _, by rw [show y.toNat - x.toNat = 0 by omega, show cap - x.toNat = 0 by omega]⟩
       ·refine .inr ⟨cap - x.toNat, cs, T, ?_, by omega, hcs, ?_⟩
        ·rw [if_neg hcx, h3, Nat.add_mul, Nat.add_assoc]
        ·rw [show off + x.toNat + (cap - x.toNat) = off + cap by omega]; exact hsz
    ·trivial
  ·rename_i len e c o' hk
   have hu := arr_of ht hk
   cases hte : tab e with
   | none => trivial
   | some j =>
    have hj := hT e j hte
    simp only
    split
    ·rename_i u xs hsq
     split
     ·rename_i x y hx' hy'
      rintro ⟨h0, h1, h2, h3, h4⟩
      rw [hhs c rfl] at hsq
      have hl : (H c).live = true := by cases hH : H c <;> rw [hH] at hsq <;> first | rfl | (simp [eA] at hsq)
      obtain ⟨b, hb⟩ := jX hR.sat hl hx
      have e := eX hx hb
      have hn := mY hl
      have hat : (H c).at D w E b := by
       rcases gK hR.sat hn.1 hn.2 with ⟨hv, _⟩ | ⟨b', hb', h⟩
       ·rw [hb] at hv; cases hv
       ·rw [hb] at hb'; cases hb'; exact h
      have hq := gG (o := o') hat
      rw [hsq] at hq
      obtain ⟨cs, T, hcs, hsz, _⟩ := hq
      have hbr := gD (P := P) (isSl := false) (len := len) (cap := len) hx' hy' hR h0 h1 h2 (Nat.le_refl _)
      refine aH hR (u := .slice (if len = x.toNat then some ⟨b, o', none⟩ else some ⟨b, o' + x.toNat * j.size, none⟩) (y.toNat - x.toNat) (len - x.toNat)) ?_ ?_
      ·simp [execOp, ho, Instr.sliceAt, run_underlying hu, Instr.sureAddr, e, hbr, run_sizeOf hj, Addr.add_lit]
       split <;> simp_all
      ·simp only [Den, hb]
       by_cases hcx : len = x.toNat
       ·exact .inl ⟨by omega, _, by rw [show y.toNat - x.toNat = 0 by omega, show len - x.toNat = 0 by omega]⟩
       ·refine .inr ⟨len - x.toNat, cs, T, ?_, by omega, hcs, ?_⟩
        ·rw [if_neg hcx, h3]
        ·have : len * C.n u ≤ xs.length * C.n u := Nat.mul_le_mul_right _ h4
         rw [show x.toNat + (len - x.toNat) = len by omega]
         omega
     ·trivial
    ·trivial
  ·trivial
end
end Go.SX
