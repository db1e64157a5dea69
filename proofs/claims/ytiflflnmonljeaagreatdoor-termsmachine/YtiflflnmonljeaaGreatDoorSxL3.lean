/-
  SX, part L3: full slices, copy, unsafe.String.
-/
import Derived.Test.YtiflflnmonljeaaGreatDoorSxL
import Derived.MapKept
import GoSem.Instr.Address
set_option linter.unusedVariables false
set_option linter.unusedSimpArgs false
namespace Go.SX
open Go.RowKit
variable {C : Cod}
section
variable {P : Program} {D : aL C} {tab : Tab C} {B : dZ} {E : Env} {σ : Nat → SV C} {H : Nat → HS C} {df : List Deferred} {a : Act} {w : World} {o : Oper}
theorem eR {len cap : Nat} {k k' k'' : IntKind} {x y m : Int} (h0 : 0 ≤ x) (h1 : x ≤ y) (h2 : y ≤ m) (h3 : m ≤ len) (hc : len ≤ cap) :
  (Instr.sliceBounds true len cap (some (.int k x)) (some (.int k' y)) (some (.int k'' m))).run P w = .ok (x.toNat, y.toNat, m.toNat) w := by
 have a1 : 0 ≤ m ∧ m ≤ (cap : Int) := by omega
 have a2 : 0 ≤ y ∧ y ≤ (m.toNat : Int) := by omega
 have a3 : 0 ≤ x ∧ x ≤ (y.toNat : Int) := by omega
 simp only [Instr.sliceBounds, Instr.sliceBound, asIntOf, Sem.run_bind, Sem.run_pure, Result.andThen_ok, if_pos a1, if_pos a2, if_pos a3]
theorem Ge (hT : bH P D tab) (hR : Rel D B E σ H df a w) {m : Nat} {t : TypeId} {ox ol oh om : Operand} (ho : o.op = .slice t ox (some ol) (some oh) (some om)) {hs : List (Nat × HS C)} (hhs : ∀ c, (ev σ ox).topId = some c → lk hs c = H c)
  (hmf : H m = .fresh) : bF P D B σ H df a w o (zQ tab t (ev σ ox) (ev σ ol) (ev σ oh) (ev σ om) hs m) := by
 have hx := aR hR ox
 have hl := aR hR ol
 have hh := aR hR oh
 have hm := aR hR om
 generalize ev σ ox = sx at *
 generalize ev σ ol = sl at *
 generalize ev σ oh = sh at *
 generalize ev σ om = sm at *
 unfold zQ
 cases htab : tab t with
 | none => trivial
 | some i =>
  have ht := hT t i htab
  simp only
  split
  ·rename_i e k x k' y k'' m hk
   have hu := bN ht hk
   have el := bV hl
   have eh := bV hh
   have em := bV hm
   cases hte : tab e with
   | none => trivial
   | some j =>
    have hj := hT e j hte
    simp only
    split
    ·rename_i u xs
     split
     ·rename_i hz
      rintro h4
      simp only [Yo, Bool.and_eq_true, decide_eq_true_eq] at hz
      obtain ⟨⟨rfl, rfl⟩, rfl⟩ := hz
      simp only [Den] at hx
      have hex : ∃ ad, (execOp a.eval o).run P w = .ok (.value (.slice ad 0 0)) w := by
       generalize hxx : a.eval ox = vx at hx
       cases hx with
       | dslNil _ ad cap =>
        have hb := eR (P := P) (w := w) (len := 0) (cap := cap) (x := 0) (y := 0) (m := 0) (k := k) (k' := k') (k'' := k'') (by omega) (by omega) (by omega) (by omega) (Nat.zero_le _)
        exact ⟨ad, by simp [execOp, ho, Instr.sliceAt, run_underlying hu, Instr.slice, hxx, el, eh, em, hb, run_sizeOf hj]⟩
       | dsl _ _ b o' cap cv hF hc hcell hden =>
        have hb := eR (P := P) (w := w) (len := xs.length) (cap := cap) (x := 0) (y := 0) (m := 0) (k := k) (k' := k') (k'' := k'') (by omega) (by omega) (by omega) (by omega) hc
        exact ⟨some ⟨b, o', none⟩, by simp [execOp, ho, Instr.sliceAt, run_underlying hu, Instr.slice, hxx, el, eh, em, hb, run_sizeOf hj, Addr.add_lit]⟩
      obtain ⟨ad, hex⟩ := hex
      refine ⟨_, _, _, .inl hex, hR.virt hmf u, ?_⟩
      simp only [Den, Env.up_same]
      exact ⟨ad, rfl, by first | rfl | trivial⟩
     rintro ⟨h0, h1, h2, h3, h4⟩
     simp only [Den] at hx
     have hlen : ((xs.take y.toNat).drop x.toNat).length = y.toNat - x.toNat := by simp; omega
     generalize hxx : a.eval ox = vx at hx
     cases hx with
     | dslNil _ ad cap =>
      have hb := eR (P := P) (w := w) (len := 0) (cap := cap) (k := k) (k' := k') (k'' := k'') h0 h1 h2 (by simpa using h3) (Nat.zero_le _)
      have hx0 : x.toNat = 0 := by simp at h3; omega
      have hy0 : y.toNat = 0 := by simp at h3; omega
      have hm0 : m.toNat = 0 := by simp at h3; omega
      rw [hx0, hy0, hm0] at hb
      refine aH hR (u := .slice ad 0 0) ?_ ?_
      ·simp [execOp, ho, Instr.sliceAt, run_underlying hu, Instr.slice, hxx, el, eh, em, hb, run_sizeOf hj]
      ·simp only [Den, List.take_nil, List.drop_nil]
       exact .dslNil _ _ _
     | dsl _ _ b o' cap cv hF hc hcell hden =>
      have hb := eR (P := P) (w := w) (len := xs.length) (cap := cap) (k := k) (k' := k') (k'' := k'') h0 h1 h2 h3 hc
      refine aH hR (u := .slice (if m.toNat = x.toNat then some ⟨b, o', none⟩ else some ⟨b, o' + x.toNat * j.size, none⟩) (y.toNat - x.toNat) (m.toNat - x.toNat)) ?_ ?_
      ·simp [execOp, ho, Instr.sliceAt, run_underlying hu, Instr.slice, hxx, el, eh, em, hb, run_sizeOf hj, Addr.add_lit]
      ·simp only [Den]
       by_cases hcx : m.toNat = x.toNat
       ·have hnil : (xs.take y.toNat).drop x.toNat = [] := List.eq_nil_of_length_eq_zero (by rw [hlen]; omega)
        have hz : y.toNat - x.toNat = 0 := by omega
        rw [hnil, hz]
        exact .dslNil _ _ _
       ·rw [if_neg hcx, ← hlen]
        refine .dsl u _ b _ _ (fun i j => cv (x.toNat + i) j) (fun hne => hF (fun e => by rw [e] at hne; simp at hne)) (by rw [hlen]; omega) ?_ ?_
        ·intro i y' hy'' jj pv hp
         have hxi : xs[x.toNat + i]? = some y' := by
          rw [List.getElem?_drop, List.getElem?_take] at hy''
          split at hy''
          ·exact hy''
          ·cases hy''
         have := hcell _ _ hxi _ _ hp
         rw [h4]
         rw [show o' + x.toNat * C.n u + i * C.n u + jj = o' + (x.toNat + i) * C.n u + jj by rw [Nat.add_mul]; omega]
         exact this
        ·intro i y' hy'' jj pv hp
         have hxi : xs[x.toNat + i]? = some y' := by
          rw [List.getElem?_drop, List.getElem?_take] at hy''
          split at hy''
          ·exact hy''
          ·cases hy''
         exact hden _ _ hxi _ _ hp
    ·rename_i c o' n off len
     refine bO fun hlv => ?_
     rw [hhs c rfl] at hlv
     rintro ⟨h0, h1, h2, h3, h4⟩
     rcases bT hR.sat hlv hx with ⟨rfl, hn⟩ | ⟨b, cap, cs, T, hb, e, hlc, hcs, hsz⟩
     ·have hb := eR (P := P) (w := w) (len := 0) (cap := 0) (k := k) (k' := k') (k'' := k'') h0 h1 h2 h3 (Nat.zero_le _)
      have hx0 : x.toNat = 0 := by omega
      have hy0 : y.toNat = 0 := by omega
      have hm0 : m.toNat = 0 := by omega
      rw [hx0, hy0, hm0] at hb
      rcases hn with ⟨ad, e, hβ⟩ | ⟨ad, b, e, hβ⟩
      ·refine aH hR (u := .slice ad 0 0) ?_ ?_
       ·simp [execOp, ho, Instr.sliceAt, run_underlying hu, Instr.slice, e, el, eh, em, hb, run_sizeOf hj]
       ·simp only [Den, hβ]; exact ⟨ad, by first | rfl | trivial, by omega⟩
      ·refine aH hR (u := .slice ad 0 0) ?_ ?_
       ·simp [execOp, ho, Instr.sliceAt, run_underlying hu, Instr.slice, e, el, eh, em, hb, run_sizeOf hj]
       ·simp only [Den, hβ]; exact .inl ⟨by omega, ad, rfl⟩
     ·have hbr := eR (P := P) (w := w) (len := len) (cap := cap) (k := k) (k' := k') (k'' := k'') h0 h1 h2 h3 hlc
      refine aH hR (u := .slice (if m.toNat = x.toNat then some ⟨b, o' + off * n, none⟩ else some ⟨b, o' + off * n + x.toNat * j.size, none⟩) (y.toNat - x.toNat) (m.toNat - x.toNat)) ?_ ?_
      ·simp [execOp, ho, Instr.sliceAt, run_underlying hu, Instr.slice, e, el, eh, em, hbr, run_sizeOf hj, Addr.add_lit]
      ·simp only [Den, hb]
       by_cases hcx : m.toNat = x.toNat
       ·exact .inl ⟨by omega, _, by rw [show y.toNat - x.toNat = 0 by omega, show m.toNat - x.toNat = 0 by omega]⟩
       ·refine .inr ⟨m.toNat - x.toNat, cs, T, ?_, by omega, hcs, ?_⟩
        ·rw [if_neg hcx, h4, Nat.add_mul, Nat.add_assoc]
        ·have : (off + x.toNat + (m.toNat - x.toNat)) * n ≤ (off + cap) * n := Nat.mul_le_mul_right _ (by omega)
         omega
    ·trivial
  ·trivial
theorem iD {len cap : Nat} {k' k'' : IntKind} {y m : Int} (h1 : 0 ≤ y) (h2 : y ≤ m) (h3 : m ≤ len) (hc : len ≤ cap) :
  (Instr.sliceBounds true len cap none (some (.int k' y)) (some (.int k'' m))).run P w = .ok (0, y.toNat, m.toNat) w := by
 have a1 : 0 ≤ m ∧ m ≤ (cap : Int) := by omega
 have a2 : 0 ≤ y ∧ y ≤ (m.toNat : Int) := by omega
 simp only [Instr.sliceBounds, Instr.sliceBound, asIntOf, Sem.run_bind, Sem.run_pure, Result.andThen_ok, if_pos a1, if_pos a2]
theorem Uc (hT : bH P D tab) (hR : Rel D B E σ H df a w) {t : TypeId} {ox oh om : Operand} (ho : o.op = .slice t ox none (some oh) (some om)) {hs : List (Nat × HS C)} (hhs : ∀ c, (ev σ ox).topId = some c → lk hs c = H c) :
  bF P D B σ H df a w o (Hn tab t (ev σ ox) (ev σ oh) (ev σ om) hs) := by
 have hx := aR hR ox
 have hh := aR hR oh
 have hm := aR hR om
 generalize ev σ ox = sx at *
 generalize ev σ oh = sh at *
 generalize ev σ om = sm at *
 unfold Hn
 cases htab : tab t with
 | none => trivial
 | some i =>
  have ht := hT t i htab
  simp only
  split
  ·rename_i e k' y k'' m hk
   have hu := bN ht hk
   have eh := bV hh
   have em := bV hm
   cases hte : tab e with
   | none => trivial
   | some j =>
    have hj := hT e j hte
    simp only
    split
    ·rename_i u xs
     rintro ⟨h0, rfl, h3, h4⟩
     simp only [Den] at hx
     have hlen : (xs.take y.toNat).length = y.toNat := by simp; omega
     generalize hxx : a.eval ox = vx at hx
     cases hx with
     | dslNil _ ad cap =>
      have hb := iD (P := P) (w := w) (len := 0) (cap := cap) (k' := k') (k'' := k'') h0 (Int.le_refl _) (by simpa using h3) (Nat.zero_le _)
      have hy0 : y.toNat = 0 := by simp at h3; omega
      rw [hy0] at hb
      refine aH hR (u := .slice ad 0 0) ?_ ?_
      ·simp [execOp, ho, Instr.sliceAt, run_underlying hu, Instr.slice, hxx, eh, em, hb, run_sizeOf hj]
      ·simp only [Den, List.take_nil]
       exact .fds u [] ad (.dslNil _ _ _)
     | dsl _ _ b o' cap cv hF hc hcell hden =>
      have hb := iD (P := P) (w := w) (len := xs.length) (cap := cap) (k' := k') (k'' := k'') h0 (Int.le_refl _) h3 hc
      have hrun : (execOp a.eval o).run P w = .ok (.value (.slice (some ⟨b, o', none⟩) y.toNat y.toNat)) w := by
       simp [execOp, ho, Instr.sliceAt, run_underlying hu, Instr.slice, hxx, eh, em, hb, run_sizeOf hj, Addr.add_lit]
      refine aH hR (u := .slice (some ⟨b, o', none⟩) y.toNat y.toNat) hrun ?_
      simp only [Den]
      have hmem : ∀ {i : Nat} {x : C.El u}, (xs.take y.toNat)[i]? = some x → xs[i]? = some x := fun h => by
       rw [List.getElem?_take] at h
       split at h
       ·exact h
       ·cases h
      have := eM.dsl (D := D) (w := w) (F := E.F) u (xs.take y.toNat) b o' y.toNat cv (fun hne => hF (fun e => by rw [e] at hne; simp at hne)) (by rw [hlen]; exact Nat.le_refl _) (fun i x hx => hcell i x (hmem hx)) (fun i x hx => hden i x (hmem hx))
      have h5 := eM.fds (D := D) (w := w) (F := E.F) u (xs.take y.toNat) (some ⟨b, o', none⟩) (by rw [hlen] at this ⊢; exact this)
      rw [hlen] at h5
      exact h5
    ·rename_i c o' n off len
     refine bO fun hlv => ?_
     rw [hhs c rfl] at hlv
     rintro ⟨h0, h2, h3, h4⟩
     rcases bT hR.sat hlv hx with ⟨rfl, hn⟩ | ⟨b, cap, cs, T, hb, e, hlc, hcs, hsz⟩
     ·have hb := iD (P := P) (w := w) (len := 0) (cap := 0) (k' := k') (k'' := k'') h0 h2 h3 (Nat.zero_le _)
      have hy0 : y.toNat = 0 := by omega
      have hm0 : m.toNat = 0 := by omega
      rw [hy0, hm0] at hb
      rcases hn with ⟨ad, e, hβ⟩ | ⟨ad, b, e, hβ⟩
      ·refine aH hR (u := .slice ad 0 0) ?_ ?_
       ·simp [execOp, ho, Instr.sliceAt, run_underlying hu, Instr.slice, e, eh, em, hb, run_sizeOf hj]
       ·simp only [Den, hβ]; exact ⟨ad, by first | rfl | trivial, by omega⟩
      ·refine aH hR (u := .slice ad 0 0) ?_ ?_
       ·simp [execOp, ho, Instr.sliceAt, run_underlying hu, Instr.slice, e, eh, em, hb, run_sizeOf hj]
       ·simp only [Den, hβ]; exact .inl ⟨by omega, ad, rfl⟩
     ·have hbr := iD (P := P) (w := w) (len := len) (cap := cap) (k' := k') (k'' := k'') h0 h2 h3 hlc
      refine aH hR (u := .slice (some ⟨b, o' + off * n, none⟩) y.toNat m.toNat) ?_ ?_
      ·simp [execOp, ho, Instr.sliceAt, run_underlying hu, Instr.slice, e, eh, em, hbr, run_sizeOf hj, Addr.add_lit]
      ·simp only [Den, hb]
       refine .inr ⟨m.toNat, cs, T, rfl, by omega, hcs, ?_⟩
       have : (off + m.toNat) * n ≤ (off + cap) * n := Nat.mul_le_mul_right _ (by omega)
       omega
    ·trivial
  ·trivial
theorem H3 {w' : World} {h : HS C} {b o' : Nat} {u : C.U} {xs xs' : List (C.El u)} {cs cs' : Array Value} {T : TypeId} {V' : List Value} (hsq : eA h o' = .some u xs) (hat : h.at D w E b) (hcs : Row w b cs T)
  (hw' : Row w' b cs' T) (hL : cI w E w' E) (hlen : xs'.length = xs.length) (hfit : o' + xs.length * C.n u ≤ cs.size) (hV : bE D w E.F (xs'.flatMap (D.enc u)) V')
  (hcs' : cs'.toList = cs.toList.take o' ++ V' ++ cs.toList.drop (o' + xs.length * C.n u)) : (lF h o' u xs').at D w' E b := by
 have hVl : V'.length = xs.length * C.n u := by rw [hV.len, hlen]
 have hto : (cs.toList.take o').length = o' := by simp; omega
 cases h with
 | fresh => cases hsq
 | dead => cases hsq
 | obj ob => cases hsq
 | rows u0 xs0 =>
  cases o' with
  | succ o' => simp [eA] at hsq
  | zero =>
   simp only [eA, Sq.some.injEq] at hsq
   obtain ⟨rfl, hx⟩ := hsq
   cases hx
   simp only [lF]
   obtain ⟨cs2, T2, c1, _, _⟩ := hat
   obtain ⟨rfl, rfl⟩ := hcs.inj c1.1
   refine ⟨cs', T, ⟨hw', c1.2⟩, ?_, ?_⟩
   ·rw [hlen, ← Array.length_toList, hcs']
    simp only [List.length_append, List.length_take, List.length_drop, Array.length_toList, hVl]
    omega
   ·rw [hlen, hcs', List.take_zero, List.nil_append, List.take_left' hVl]
    exact hV.mono hL.F
 | vart ty vs =>
  simp only [eA] at hsq
  cases hhit : mM vs o' with
  | miss => simp [hhit] at hsq
  | cell x => simp [hhit] at hsq
  | elem u1 N xs1 k1 =>
   cases k1 with
   | succ k1 => simp [hhit] at hsq
   | zero =>
    simp [hhit] at hsq
    obtain ⟨rfl, hx1⟩ := hsq
    cases hx1
    simp only [lF]
    obtain ⟨cs2, T2, c1, c2⟩ := hat
    obtain ⟨rfl, rfl⟩ := hcs.inj c1.1
    cases hsa : fG vs o' u1 xs' with
    | none => obtain ⟨_, h7⟩ := tD vs o' u1 N xs1 xs' hhit; rw [h7] at hsa; cases hsa
    | some vs' =>
     simp only
     have hfin := nX vs o' u1 N xs1 xs' vs' cs.toList V' hhit hsa hlen c2 hV
     refine ⟨cs', T, ⟨hw', c1.2⟩, DenC.mono hL _ _ ?_⟩
     rw [hVl] at hfin
     rw [hcs']
     exact hfin
theorem nC : ∀ (vs : List (SV C)) (o : Nat) (u : C.U) (N : Nat) (xs : List (C.El u)), mM vs o = .elem u N xs 0 → fG vs o u xs = some vs
 | [], o, u, N, xs, h => by simp [mM] at h
 | x :: r, o, u, N, xs, h => by
  cases hx : x.isArr with
  | false =>
   cases o with
   | zero => rw [kT hx] at h; cases h
   | succ o =>
    rw [iW hx] at h
    rw [nD hx, nC r o u N xs h]
  | true =>
   obtain ⟨v, M, ys, rfl⟩ := SV.arr_of hx
   simp only [mM] at h
   simp only [fG]
   cases hs : tF o (M * C.n v) with
   | some o' =>
    rw [hs] at h
    simp only at h ⊢
    rw [nC r o' u N xs h]
   | none =>
    rw [hs] at h
    simp only at h ⊢
    cases h
    rfl
theorem tU {h : HS C} {o' : Nat} {u : C.U} {xs : List (C.El u)} (hsq : eA h o' = .some u xs) : lF h o' u xs = h := by
 cases h with
 | fresh => cases hsq
 | dead => cases hsq
 | obj ob => cases hsq
 | rows u0 xs0 =>
  cases o' with
  | succ o' => simp [eA] at hsq
  | zero =>
   simp only [eA, Sq.some.injEq] at hsq
   obtain ⟨rfl, hx⟩ := hsq
   cases hx; rfl
 | vart ty vs =>
  simp only [eA] at hsq
  cases hhit : mM vs o' with
  | miss => simp [hhit] at hsq
  | cell x => simp [hhit] at hsq
  | elem u1 N xs1 k1 =>
   cases k1 with
   | succ k1 => simp [hhit] at hsq
   | zero =>
    simp [hhit] at hsq
    obtain ⟨rfl, hx1⟩ := hsq
    cases hx1
    simp only [lF, nC vs o' u1 N xs1 hhit]
theorem Aw (H : Nat → HS C) (c : Nat) : upH H c (H c) = H := by
 funext i; unfold upH; split
 ·rename_i h; rw [h]
 ·rfl
theorem Tn (A : Aux C D) (hT : bH P D tab) (hR : Rel D B E σ H df a w) {t t2 : TypeId} {od ox : Operand} (ho : o.op = .call { callee := .builtin .copy, args := #[od, ox], argTypes := #[t, t2] }) {hs : List (Nat × HS C)}
  (hhd : ∀ c, (ev σ od).topId = some c → lk hs c = H c) (hhx : ∀ c, (ev σ ox).topId = some c → lk hs c = H c) : bF P D B σ H df a w o (Gf A tab t t2 (ev σ od) (ev σ ox) hs) := by
 have hdd := aR hR od
 have hdx := aR hR ox
 generalize ev σ od = sd at *
 generalize ev σ ox = sx at *
 unfold Gf
 cases htab : tab t with
 | none => trivial
 | some i =>
  have ht := hT t i htab
  simp only
  split
  case h_2 => trivial
  rename_i e hk
  have hu := bN ht hk
  cases hte : tab e with
  | none => trivial
  | some j =>
   have hj := hT e j hte
   obtain ⟨ie, z, f1, f2, f3, f4, f5, f6⟩ := hj.info
   simp only
   split
   case h_2 => trivial
   rename_i c o' n off len
   split
   case h_2 => trivial
   rename_i u xs hsq
   split
   case h_2 => trivial
   rename_i p zs hsrc
   rintro ⟨hp, hn, hju, hfit⟩
   subst hn
   obtain ⟨news, hS⟩ := uG A hT hR.sat hu hdx hhx hsrc hp (size := ie.size) (f2.trans hju)
   rw [hhd c rfl] at hsq ⊢
   have hlive : (H c).live = true := by cases hH : H c <;> rw [hH] at hsq <;> first | rfl | (simp [eA] at hsq)
   have hmin : Nat.min zs.length len = (zs.take len).length := by rw [List.length_take, Nat.min_comm]
   have hcopy : ∀ v w', (Builtin.copy_ #[t, t2] o.type #[a.eval od, a.eval ox]).run P w = .ok v w' → (execOp a.eval o).run P w = .ok (.value v) w' := fun v w' h => by
    simp [execOp, ho, resolve, invoke, builtin, h]
   have hfst := hS.firstN w (fun _ => rfl) (zs.take len).length (by rw [List.length_take]; omega)
   rcases bT hR.sat hlive hdd with ⟨rfl, hnil⟩ | ⟨b, cap, cs, T, hb, es, hlc, hcs, hsz⟩
   ·have hos : ∃ base, a.eval od = .slice base 0 0 := by
     rcases hnil with ⟨ad, e, _⟩ | ⟨ad, _, e, _⟩
     ·exact ⟨_, e⟩
     ·exact ⟨_, e⟩
    obtain ⟨base, es⟩ := hos
    have hrun : (Builtin.copy_ #[t, t2] o.type #[a.eval od, a.eval ox]).run P w = .ok (.int .i64 0) w := by
     simp only [List.take_zero, List.length_nil, Nat.zero_mul] at hfst hmin
     rw [es]
     cases base <;> simp [Builtin.copy_, run_underlying hu, hS.len, sizeOf, typeInfo, f1, hmin, hfst, storeCells, goInt]
    refine ⟨_, _, E, .inl (hcopy _ _ hrun), ?_, ?_⟩
    ·have e1 : iM xs zs off 0 = xs := by simp [iM]
     rw [dQ, e1, tU hsq, Aw]
     exact hR
    ·simp only [List.take_zero, List.length_nil]; exact dH _ _
   ·have hn := mY hlive
    have hat : (H c).at D w E b := by
     rcases gK hR.sat hn.1 hn.2 with ⟨hv, _⟩ | ⟨b', hb', h⟩
     ·rw [hb] at hv; cases hv
     ·rw [hb] at hb'; cases hb'; exact h
    have hq := gG (o := o') hat
    rw [hsq] at hq
    obtain ⟨cs2, T2, hcs2, hsz2, hV⟩ := hq
    obtain ⟨rfl, rfl⟩ := hcs.inj hcs2
    have hyl : (zs.take len).length ≤ len := by rw [List.length_take]; omega
    obtain ⟨N, hN⟩ : ∃ N, news.take ((zs.take len).length * ie.size) = N := ⟨_, rfl⟩
    rw [hN] at hfst
    have hNd : bE D w E.F ((zs.take len).flatMap (D.enc u)) N := by
     have h1 := hS.den.take ((zs.take len).length * C.n u)
     rw [oU] at h1
     rw [← hN, f2, hju]; exact h1
    have hNl : N.length = (zs.take len).length * C.n u := hNd.len
    have hkn : ((zs.take len).length + off) * C.n u ≤ xs.length * C.n u := Nat.mul_le_mul_right _ (by omega)
    rw [Nat.add_mul] at hkn
    have hst := cS (P := P) (o := o' + off * C.n u) N 0 cs w hcs (by rw [hNl]; omega) hNd.oneCell
    simp only [Nat.add_zero] at hst
    obtain ⟨cs', hcs'⟩ : ∃ cs', (cs.toList.take (o' + off * C.n u) ++ N ++ cs.toList.drop (o' + off * C.n u + N.length)).toArray = cs' := ⟨_, rfl⟩
    rw [hcs'] at hst
    have hsize : cs'.size = cs.size := by
     rw [← hcs']
     simp only [List.size_toArray, List.length_append, List.length_take, List.length_drop, Array.length_toList]
     omega
    have hrun : (Builtin.copy_ #[t, t2] o.type #[a.eval od, a.eval ox]).run P w = .ok (.int .i64 (zs.take len).length) (w.setRow b cs') := by
     rw [es]
     have hf2 := hfst
     rw [List.length_take] at hf2
     simp [Builtin.copy_, run_underlying hu, hS.len, sizeOf, typeInfo, f1, hmin, hf2, hst, goInt]
    refine ⟨_, _, E, .inl (hcopy _ _ hrun), ?_, dH _ _⟩
    rw [dQ]
    refine hR.setRow hb hcs hsize fun hL => ?_
    obtain ⟨V, hVd⟩ : ∃ V, (cs.toList.drop o').take (xs.length * C.n u) = V := ⟨_, rfl⟩
    rw [hVd] at hV
    have hVl : V.length = xs.length * C.n u := hV.len
    refine H3 (V' := V.take (off * C.n u) ++ N ++ V.drop (off * C.n u + N.length)) hsq hat hcs (hcs.set hsize) hL ?_ hsz2 ?_ ?_
    ·unfold iM
     simp only [List.length_append, List.length_take, List.length_drop]
     simp only [List.length_take] at hyl
     omega
    ·unfold iM
     rw [List.flatMap_append, List.flatMap_append, dA, iI, Nat.add_mul, ← hNl]
     exact ((hV.take _).append hNd).append (hV.drop _)
    ·rw [← hcs', ← hVd]
     simp only [List.toList_toArray]
     have g1 : cs.toList.take (o' + off * C.n u) = cs.toList.take o' ++ ((cs.toList.drop o').take (xs.length * C.n u)).take (off * C.n u) := by
      rw [List.take_add, List.take_take, Nat.min_eq_left (by omega)]
     have g2 : cs.toList.drop (o' + off * C.n u + N.length) = ((cs.toList.drop o').take (xs.length * C.n u)).drop (off * C.n u + N.length) ++ cs.toList.drop (o' + xs.length * C.n u) := by
      rw [List.drop_take]
      have g3 : cs.toList.drop (o' + xs.length * C.n u) = ((cs.toList.drop o').drop (off * C.n u + N.length)).drop (xs.length * C.n u - (off * C.n u + N.length)) := by
       rw [List.drop_drop, List.drop_drop]; congr 1; omega
      rw [g3, List.take_append_drop, List.drop_drop]
      congr 1; omega
     rw [g1, g2]
     simp
theorem A1 {x : PV C} {m : List (PV C)} {v : Value} {vs : List Value} (h : bE D w E.F m vs) (hx : eM D w E.F x v) : bE D w E.F (x :: m) (v :: vs) := by
 refine ⟨by simp [h.1], fun j pv v' hp hv => ?_⟩
 cases j with
 | zero => simp at hp hv; subst hp; subst hv; exact hx
 | succ j => exact h.2 j pv v' (by simpa using hp) (by simpa using hv)
theorem pF : ∀ (l : List (SV C)) (m : List (PV C)) (vs : List Value), Uf l m = true → DenC D w E l vs → bE D w E.F m vs
 | l, m, vs, h, hd => by
  unfold Uf at h
  split at h
  ·simp only [DenC] at hd; subst hd; exact ⟨rfl, fun j pv v hp _ => by simp at hp⟩
  all_goals try (cases h; done)
  all_goals (
   simp only [DenC] at hd
   obtain ⟨v0, v2, rfl, h1, h2, h3⟩ := hd)
  ·exact A1 (pF _ _ _ h h3) (by rw [bR h2]; exact .dslNil _ _ _)
  ·split at h
   ·rename_i e _
    split at h
    ·rename_i e2 _
     subst e; subst e2
     exact A1 (pF _ _ _ h h3) (by rw [bV h2]; exact .int _ _)
    ·cases h
   ·cases h
  ·split at h
   ·rename_i e _
    subst e
    exact A1 (pF _ _ _ h h3) (by rw [fZ h2]; exact .bool _)
   ·cases h
  ·exact A1 (pF _ _ _ h h3) (by rw [gL h2]; exact .str _)
theorem Gm {u : C.U} {x : C.El u} {z : Array Value} (hz : bE D w E.F (D.enc u x) z.toList) (n : Nat) : bE D w E.F ((List.replicate n x).flatMap (D.enc u)) (Builtin.zeroCells z n).toList := by
 have hzs : z.size = C.n u := by rw [← D.enc_len u x, hz.1, Array.length_toList]
 have hn := D.n_pos u
 refine ⟨by rw [aQ]; simp [Builtin.zeroCells, hzs], fun q pv v hp hv => ?_⟩
 have hq : q < n * C.n u := by
  have := (List.getElem?_eq_some_iff.1 hp).1
  rw [aQ] at this
  simpa using this
 rw [iZ u _ _ _ hq] at hp
 have hmod : q % C.n u < z.size := by rw [hzs]; exact Nat.mod_lt _ hn
 have hv' : v = z[q % C.n u] := by
  simp [Builtin.zeroCells, hzs, hq] at hv
  rw [← hv, getElem!_pos z (q % C.n u) hmod]
 subst hv'
 exact hz.2 _ _ _ hp (by simp [hmod])
theorem Lf (hT : bH P D tab) (hR : Rel D B E σ H df a w) {t : TypeId} {od : Operand} (ho : o.op = .call { callee := .builtin .clear, args := #[od], argTypes := #[t] }) {hs : List (Nat × HS C)}
  (hhd : ∀ c, (ev σ od).topId = some c → lk hs c = H c) : bF P D B σ H df a w o (T3 D tab t (ev σ od) hs) := by
 have hdd := aR hR od
 generalize ev σ od = sd at *
 unfold T3
 cases htab : tab t with
 | none => trivial
 | some i =>
  have ht := hT t i htab
  simp only
  split
  case h_2 => trivial
  rename_i e hk
  have hu := bN ht hk
  cases hte : tab e with
  | none => trivial
  | some j =>
   have hj := hT e j hte
   obtain ⟨ie, z, f1, f2, f3, f4, f5, f6⟩ := hj.info
   simp only
   split
   case h_2 => trivial
   rename_i c o' n off len
   split
   case h_2 => trivial
   rename_i u xs hsq
   split
   case h_2 => trivial
   rename_i hfitz
   rintro ⟨hn, hju, hfit⟩
   subst hn
   rw [hhd c rfl] at hsq ⊢
   have hlive : (H c).live = true := by cases hH : H c <;> rw [hH] at hsq <;> first | rfl | (simp [eA] at hsq)
   obtain ⟨zs, hzs⟩ : ∃ zs, List.replicate len (C.dflt u) = zs := ⟨_, rfl⟩
   have hzl : zs.take len = zs := List.take_of_length_le (by rw [← hzs]; simp)
   have hzlen : zs.length = len := by rw [← hzs]; simp
   have hcl : ∀ v w', (Builtin.clear_ #[t] o.type #[a.eval od]).run P w = .ok v w' → (execOp a.eval o).run P w = .ok (.value v) w' := fun v w' h => by
    simp [execOp, ho, resolve, invoke, builtin, h]
   rw [hzs]
   have hnone : len = 0 → (∃ base cap, a.eval od = .slice base 0 cap) → fX P D B σ H df a w o (.tuple []) [(c, lF (H c) o' u (iM xs zs off len))] := by
    rintro rfl ⟨base, cap, es⟩
    have hrun : (Builtin.clear_ #[t] o.type #[a.eval od]).run P w = .ok (.tuple #[]) w := by
     rw [es]
     cases base <;> simp [Builtin.clear_, run_underlying hu]
    refine ⟨_, _, E, .inl (hcl _ _ hrun), ?_, ?_⟩
    ·have e1 : iM xs zs off 0 = xs := by simp [iM]
     rw [dQ, e1, tU hsq, Aw]
     exact hR
    ·simp only [Den, DenA]; exact ⟨_, rfl, rfl⟩
   rcases bT hR.sat hlive hdd with ⟨h0, hnil⟩ | ⟨b, cap, cs, T, hb, es, hlc, hcs, hsz⟩
   ·refine hnone h0 ?_
    rcases hnil with ⟨ad, e, _⟩ | ⟨ad, _, e, _⟩
    ·exact ⟨_, _, e⟩
    ·exact ⟨_, _, e⟩
   rcases Nat.eq_zero_or_pos len with h0 | hpos
   ·exact hnone h0 ⟨_, _, by rw [es, h0]⟩
   ·have hn := mY hlive
    have hat : (H c).at D w E b := by
     rcases gK hR.sat hn.1 hn.2 with ⟨hv, _⟩ | ⟨b', hb', h⟩
     ·rw [hb] at hv; cases hv
     ·rw [hb] at hb'; cases hb'; exact h
    have hq := gG (o := o') hat
    rw [hsq] at hq
    obtain ⟨cs2, T2, hcs2, hsz2, hV⟩ := hq
    obtain ⟨rfl, rfl⟩ := hcs.inj hcs2
    have hyl : (zs.take len).length ≤ len := by rw [List.length_take]; omega
    obtain ⟨N, hN⟩ : ∃ N, (Builtin.zeroCells z.cells len).toList = N := ⟨_, rfl⟩
    have hNd : bE D w E.F ((zs.take len).flatMap (D.enc u)) N := by
     rw [hzl, ← hzs, ← hN]
     exact Gm (pF _ _ _ hfitz (f6 w E)) len
    have hNl : N.length = (zs.take len).length * C.n u := hNd.len
    have hkn : ((zs.take len).length + off) * C.n u ≤ xs.length * C.n u := Nat.mul_le_mul_right _ (by omega)
    rw [Nat.add_mul] at hkn
    have hst := cS (P := P) (o := o' + off * C.n u) N 0 cs w hcs (by rw [hNl]; omega) hNd.oneCell
    simp only [Nat.add_zero] at hst
    obtain ⟨cs', hcs'⟩ : ∃ cs', (cs.toList.take (o' + off * C.n u) ++ N ++ cs.toList.drop (o' + off * C.n u + N.length)).toArray = cs' := ⟨_, rfl⟩
    rw [hcs'] at hst
    have hsize : cs'.size = cs.size := by
     rw [← hcs']
     simp only [List.size_toArray, List.length_append, List.length_take, List.length_drop, Array.length_toList]
     omega
    have hrun : (Builtin.clear_ #[t] o.type #[a.eval od]).run P w = .ok (.tuple #[]) (w.setRow b cs') := by
     rw [es]
     obtain ⟨m, hm⟩ : ∃ m, len = m + 1 := ⟨len - 1, by omega⟩
     rw [hm] at hN ⊢
     simp [Builtin.clear_, run_underlying hu, zeroValue, typeInfo, f1, f4, hN, hst, Result.andThen]
    refine ⟨_, _, E, .inl (hcl _ _ hrun), ?_, by simp only [Den, DenA]; exact ⟨_, rfl, rfl⟩⟩
    rw [dQ]
    refine hR.setRow hb hcs hsize fun hL => ?_
    obtain ⟨V, hVd⟩ : ∃ V, (cs.toList.drop o').take (xs.length * C.n u) = V := ⟨_, rfl⟩
    rw [hVd] at hV
    have hVl : V.length = xs.length * C.n u := hV.len
    refine H3 (V' := V.take (off * C.n u) ++ N ++ V.drop (off * C.n u + N.length)) hsq hat hcs (hcs.set hsize) hL ?_ hsz2 ?_ ?_
    ·unfold iM
     simp only [List.length_append, List.length_take, List.length_drop]
     simp only [List.length_take] at hyl
     omega
    ·unfold iM
     rw [List.flatMap_append, List.flatMap_append, dA, iI, Nat.add_mul, ← hNl]
     exact ((hV.take _).append hNd).append (hV.drop _)
    ·rw [← hcs', ← hVd]
     simp only [List.toList_toArray]
     have g1 : cs.toList.take (o' + off * C.n u) = cs.toList.take o' ++ ((cs.toList.drop o').take (xs.length * C.n u)).take (off * C.n u) := by
      rw [List.take_add, List.take_take, Nat.min_eq_left (by omega)]
     have g2 : cs.toList.drop (o' + off * C.n u + N.length) = ((cs.toList.drop o').take (xs.length * C.n u)).drop (off * C.n u + N.length) ++ cs.toList.drop (o' + xs.length * C.n u) := by
      rw [List.drop_take]
      have g3 : cs.toList.drop (o' + xs.length * C.n u) = ((cs.toList.drop o').drop (off * C.n u + N.length)).drop (xs.length * C.n u - (off * C.n u + N.length)) := by
       rw [List.drop_drop, List.drop_drop]; congr 1; omega
      rw [g3, List.take_append_drop, List.drop_drop]
      congr 1; omega
     rw [g1, g2]
     simp
theorem O5 (hR : Rel D B E σ H df a w) {tys : Array TypeId} {ox : Operand} (ho : o.op = .call { callee := .builtin .unsafeSliceData, args := #[ox], argTypes := tys }) {hs : List (Nat × HS C)} (hhs : ∀ c, (ev σ ox).topId = some c → lk hs c = H c) :
  bF P D B σ H df a w o (nZ (ev σ ox) hs) := by
 have hx := aR hR ox
 generalize ev σ ox = sx at *
 unfold nZ
 split
 ·have e := bR hx
  have hrun := Lib.run_unsafeSliceData_nil (P := P) w tys o.type 0 0
  exact aH hR (u := .pointer none) (by simp [execOp, ho, resolve, invoke, builtin, e, hrun]) (by simp only [Den]; exact .lit _ rfl)
 ·rename_i c o' n off len
  refine bO fun hl => ?_
  rw [hhs c rfl] at hl
  intro h0
  rcases bT hR.sat hl hx with ⟨rfl, _⟩ | ⟨b, cap, cs, T, hb, e, hlc, hcs, hsz⟩
  ·omega
  ·have hrun := Lib.run_unsafeSliceData_row (P := P) w tys o.type ⟨b, o' + off * n, none⟩ len cap (by omega)
   refine aH hR (u := .pointer (some ⟨b, o' + off * n, none⟩)) (by simp [execOp, ho, resolve, invoke, builtin, e, hrun]) ?_
   simp only [Den, hb, Nat.add_zero]
 ·trivial
theorem Wy (hT : bH P D tab) (hR : Rel D B E σ H df a w) {t : TypeId} {ox : Operand} (ho : o.op = .call { callee := .builtin .cap, args := #[ox], argTypes := #[t] }) : bF P D B σ H df a w o (Ve tab t (ev σ ox)) := by
 have hx := aR hR ox
 generalize ev σ ox = sx at *
 unfold Ve
 cases htab : tab t with
 | none => trivial
 | some i =>
  have ht := hT t i htab
  simp only
  split
  ·rename_i e hk
   have hu := bN ht hk
   have ex := bR hx
   exact aH hR (u := .int .i64 0) (by simp [execOp, ho, resolve, invoke, builtin, ex, Builtin.cap_, run_underlying hu, goInt]) (dH _ _)
  ·rename_i n e hk
   have hu := arr_of ht hk
   exact aH hR (u := .int .i64 n) (by simp [execOp, ho, resolve, invoke, builtin, Builtin.cap_, run_underlying hu, goInt]) (dH _ _)
  ·trivial
theorem mS : ∀ (ns : List Int) (ad : Addr) (acc : ByteArray), (∀ j v, (ns.map (Value.int .u8))[j]? = some v → w.cell? (ad.add j) = some v) →
  (loadBytes ad acc ns.length).run P w = .ok ⟨⟨acc.data.toList ++ ns.map fun n => UInt8.ofNat n.toNat⟩⟩ w
 | [], ad, acc, _ => by obtain ⟨⟨l⟩⟩ := acc; simp [loadBytes]
 | n :: ns, ad, acc, h => by
  have h0 : w.cell? ad = some (.int .u8 n) := by
   have := h 0 (.int .u8 n) rfl
   simpa [Addr.add] using this
  have ih := mS ns (ad.add 1) (acc.push n.toNat.toUInt8) (fun j v hv => by
   have := h (j + 1) v (by simpa using hv)
   have e : (ad.add 1).add j = ad.add (j + 1) := by
    unfold Addr.add
    by_cases hj : j = 0
    ·subst hj; simp
    ·simp [hj]; omega
   rw [e]; exact this)
  simp only [List.length_cons, loadBytes, Sem.run_bind, run_load, h0, Result.andThen]
  rw [ih]
  congr 1
  apply ByteArray.ext
  simp [ByteArray.push]
theorem Rel.frost (h : Rel D B E σ H df a w) {c b : Nat} (hb : E.β c = .loc b) (ad : Addr) (had : ad.block = b) (n : Nat) : Rel D B (E.up c .dead) σ (upH H c .dead) df a (w.freeze ad n) := by
 have hk := h.kill c
 by_cases hn : n = 0
 ·unfold World.freeze; rw [if_pos hn]; exact hk
 have hoth : ∀ k, k ≠ b → (w.freeze ad n).heap[k]? = w.heap[k]? := fun k hkb => by
  unfold World.freeze
  rw [if_neg hn]
  simp only [Array.getElem?_modify]
  rw [if_neg (by rw [had]; exact Ne.symm hkb)]
 have hsize : (w.freeze ad n).heap.size = w.heap.size := by unfold World.freeze; rw [if_neg hn]; simp
 have hown := h.sat.own c b hb
 have hnat : ∀ i k, (E.up c .dead).β i = .loc k → k ≠ b := fun i k e ek => by
  subst ek
  by_cases hi : i = c
  ·subst hi; rw [Env.up_same] at e; cases e
  ·rw [Env.up_other E _ hi] at e
   exact hi (h.sat.inj i c k e hb)
 have hFb : ∀ k, (E.up c .dead).F k → k ≠ b := fun k hF e => hown.2 (e ▸ hF)
 have hL : cI w (E.up c .dead) (w.freeze ad n) (E.up c .dead) :=
  ⟨fun k hF => ⟨hF, hoth k (hFb k hF)⟩, fun _ => .inl rfl, fun i k e _ cs T hr => ⟨cs, T, Row.of (hoth k (hnat i k e)) hr, rfl⟩⟩
 refine hk.later hL ⟨fun i => HS.ok_mono hL (hk.sat.ok i) fun k e => hoth k (hnat i k e), fun i k e => ?_, hk.sat.inj, fun k hF => ?_, hk.sat.glob.mono hL.F⟩ ?_
 ·have := hk.sat.own i k e; rw [hsize]; exact this
 ·have := hk.sat.F k hF; rw [hsize]; exact this
 ·have hO := h.fr.newO c b hb
  have hos : (w.freeze ad n).os = w.os ∧ (w.freeze ad n).tape = w.tape ∧ (w.freeze ad n).output = w.output := by
   unfold World.freeze; rw [if_neg hn]; exact ⟨rfl, rfl, rfl⟩
  refine ⟨hos.1.trans hk.fr.os, hos.2.1.trans hk.fr.tape, hos.2.2.trans hk.fr.output, by rw [hsize]; exact hk.fr.size, fun k hlt ho => ?_, hk.fr.late.trans hL, hk.fr.newF, hk.fr.newO⟩
  refine (hoth k fun e => ?_).trans (hk.fr.same k hlt ho)
  subst e
  rcases hO with h1 | h1
  ·exact ho h1
  ·omega
theorem tM (A : Aux C D) (hT : bH P D tab) (hR : Rel D B E σ H df a w) {t t2 : TypeId} {ox on : Operand} (ho : o.op = .call { callee := .builtin .unsafeString, args := #[ox, on], argTypes := #[t, t2] }) {hs : List (Nat × HS C)} (hhs : ∀ c, (ev σ ox).topId = some c → lk hs c = H c) :
  bF P D B σ H df a w o (iQ A tab t (ev σ ox) (ev σ on) hs) := by
 have hx := aR hR ox
 have hn := aR hR on
 generalize ev σ ox = sx at *
 generalize ev σ on = sn at *
 unfold iQ
 split
 case h_2 => trivial
 rename_i k len
 split
 case h_2 => trivial
 have en := bV hn
 split
 ·rintro rfl
  have ex := bR hx
  have hrun := Lib.run_unsafeString_none (P := P) w t t2 o.type none
  exact aH hR (u := .string .empty) (by simp [execOp, ho, resolve, invoke, builtin, ex, en, hrun]) (wZ [])
 ·rename_i c o' n' off f
  cases htab : tab t with
  | none => trivial
  | some i =>
   simp only
   split
   case h_2 => trivial
   rename_i e hk
   have hu := yF (hT t i htab) hk
   cases hte : tab e with
   | none => trivial
   | some j =>
    simp only
    split
    case h_2 => trivial
    rename_i u xs hlk
    cases hty : C.ty u with
    | none => trivial
    | some e' =>
     simp only
     split
     case h_2 => trivial
     rename_i hbe
     have hee := Nat.eq_of_beq_eq_true hbe
     subst hee
     split
     case h_2 => trivial
     rename_i l hbts
     rintro ⟨h0, h1, h2, h3⟩
     have hH : H c = .rows u xs := by rw [← hhs c rfl]; exact hlk
     obtain ⟨hn1, ns, g1, rfl⟩ := A.toBytes_ok _ _ _ hbts
     have hlive : (H c).live = true := by rw [hH]; rfl
     obtain ⟨b, hb⟩ := oV hR.sat hlive hx
     have ex := mD hx hb
     have hat : (H c).at D w E b := by
      have := hR.sat.ok c
      rw [hb] at this; exact this
     rw [hH] at hat
     obtain ⟨cs, T, ⟨hrow, hTe⟩, hsz, hV⟩ := hat
     have hT' := hTe e' hty
     subst hT'
     obtain ⟨z, hz, hth⟩ := hrow
     have hnl : ns.length = len.toNat := by
      have := congrArg List.length g1
      rw [aQ, hn1] at this
      simp at this
      omega
     have hcells : ∀ j v, (ns.map (Value.int .u8))[j]? = some v → w.cell? ((⟨b, 0, none⟩ : Addr).add j) = some v := by
      have hV2 := hV.take (len.toNat * C.n u)
      rw [← dA, g1] at hV2
      have := wX hV2 rfl
      intro j v hv
      rw [← this] at hv
      rw [Addr.add_lit, Nat.zero_add, cell_of_row w b j cs T z hz]
      rw [List.getElem?_take] at hv
      split at hv
      ·rw [List.getElem?_take] at hv
       split at hv
       ·simpa using hv
       ·cases hv
      ·cases hv
     obtain ⟨info, zz, f1, f2, _⟩ := (hT T j hte).info
     have hcof : P.cellsOf T = 1 := by simp [Program.cellsOf, f1, f2, h2]
     have hsh : w.shape? b = some (T, cs.size) := by unfold World.shape?; rw [hz]
     have hlies := Lib.liesAt_bytes (P := P) hcof (cs.size / P.cellsOf T) ns.length (by rw [hcof]; rw [hn1] at hsz; simp; omega)
     have hlb := mS (P := P) (w := w) ns ⟨b, 0, none⟩ .empty hcells
     have hlen' : len = (ns.length : Int) := by omega
     have hns0 : ns.length ≠ 0 := by omega
     have hns1 : ¬ (ns.length : Int) < 0 := by omega
     have hns2 : ¬ (9223372036854775807 : Int) < (ns.length : Int) := by omega
     have hmax : IntKind.i64.max = 9223372036854775807 := rfl
     have hrun : (Builtin.unsafeString_ #[t, t2] o.type #[.pointer (some ⟨b, 0, none⟩), .int .i64 ns.length]).run P w = .ok (.string ⟨⟨ns.map fun n => UInt8.ofNat n.toNat⟩⟩) (w.freeze ⟨b, 0, none⟩ ns.length) := by
      have e0 : (ByteArray.empty.data.toList ++ ns.map fun n => UInt8.ofNat n.toNat) = ns.map fun n => UInt8.ofNat n.toNat := by simp
      rw [e0] at hlb
      obtain ⟨s1, s2, s3, hdef⟩ : ∃ s1 s2 s3, Builtin.unsafeString_ #[t, t2] o.type #[.pointer (some ⟨b, 0, none⟩), .int .i64 ns.length] = (do
        let n ← asInt (.int .i64 ns.length)
        if n < 0 then runtimePanic (.error s1)
        if n > IntKind.i64.max then unsupported (.unsafePointer s2)
        if n = 0 then pure (.string .empty)
        else if ← variablesAt ⟨b, 0, none⟩ (← elemOf t) n.toNat then do
         let s ← loadBytes ⟨b, 0, none⟩ .empty n.toNat
         freeze ⟨b, 0, none⟩ n.toNat
         pure (.string s)
        else unsupported (.unsafePointer s3)) := ⟨_, _, _, rfl⟩
      rw [hdef]
      simp [asInt, asIntOf, hmax, hns2, hns1, hns0, variablesAt, hsh, elemOf, run_underlying hu, hlies, hlb]
     refine ⟨.string ⟨⟨ns.map fun n => UInt8.ofNat n.toNat⟩⟩, w.freeze ⟨b, 0, none⟩ ns.length, E.up c .dead, .inl ?_, ?_, wZ _⟩
     ·simp only [Nat.zero_mul, Nat.add_zero, Nat.zero_add] at ex
      simp [execOp, ho, resolve, invoke, builtin, ex, en, hlen', hrun]
     ·rw [dQ]
      exact hR.frost hb _ rfl _
 ·trivial
end
end Go.SX
namespace Go.SX
open Go.RowKit Go.MapKept
variable {C : Cod}
section
variable {P : Program} {D : aL C} {tab : Tab C} {B : dZ} {E : Env} {σ : Nat → SV C} {H : Nat → HS C} {df : List Deferred} {a : Act} {w : World} {o : Oper}
mutual
theorem sS : ∀ (x : SV C) (v u : Value), qG x = some v → Den D w E x u → u = v
 | .p (.int k n), v, u, h, hd => by simp only [qG, Option.some.injEq] at h; subst h; exact bV hd
 | .p (.bool b), v, u, h, hd => by simp only [qG, Option.some.injEq] at h; subst h; exact fZ hd
 | .p (.str l), v, u, h, hd => by simp only [qG, Option.some.injEq] at h; subst h; exact gL hd
 | .p (.lit z), v, u, h, hd => by simp only [qG, Option.some.injEq] at h; subst h; exact bR hd
 | .p (.dsl _ _), v, u, h, hd => by simp [qG] at h
 | .p (.fds _ _), v, u, h, hd => by simp [qG] at h
 | .fn f [] [], v, u, h, hd => by
  simp only [qG, Option.some.injEq] at h; subst h
  simp only [Den, DenA] at hd
  obtain ⟨xs, ys, e, h1, h2⟩ := hd
  rw [e]
  congr 1
  ·exact Array.toList_inj.1 h1
  ·exact Array.toList_inj.1 h2
 | .fn f (_ :: _) _, v, u, h, hd => by simp [qG] at h
 | .fn f [] (_ :: _), v, u, h, hd => by simp [qG] at h
 | .agg vs, v, u, h, hd => by
  simp only [qG] at h
  cases hv : valVs vs with
  | none => simp [hv] at h
  | some l =>
   simp only [hv, Option.some.injEq] at h; subst h
   simp only [Den] at hd
   obtain ⟨cs, e, h1⟩ := hd
   rw [e, ← valVs_den vs l _ hv h1]
 | .any, v, u, h, hd => by simp [qG] at h
 | .ptr _ _, v, u, h, hd => by simp [qG] at h
 | .eptr _ _ _ _ _, v, u, h, hd => by simp [qG] at h
 | .dptr _ _, v, u, h, hd => by simp [qG] at h
 | .slice _ _ _ _ _, v, u, h, hd => by simp [qG] at h
 | .arr _ _ _, v, u, h, hd => by simp [qG] at h
 | .iface _ _, v, u, h, hd => by simp [qG] at h
 | .tuple _, v, u, h, hd => by simp [qG] at h
 | .yieldv _, v, u, h, hd => by simp [qG] at h
 | .mapp _, v, u, h, hd => by simp [qG] at h
theorem valVs_den : ∀ (l : List (SV C)) (m us : List Value), valVs l = some m → DenC D w E l us → us = m
 | [], m, us, h, hd => by simp only [valVs, Option.some.injEq] at h; subst h; simpa only [DenC] using hd
 | x :: l, m, us, h, hd => by
  have hx : x.isArr = false := by
   cases hx : x.isArr with
   | false => rfl
   | true => obtain ⟨u, N, xs, rfl⟩ := SV.arr_of hx; simp [valVs] at h
  rw [aZ hx] at hd
  obtain ⟨v, v2, rfl, _, h2, h3⟩ := hd
  have hh : valVs (x :: l) = (match qG x with | some v => (match valVs l with | some r => some (v :: r) | none => none) | none => none) := by
   cases x <;> first | rfl | simp [SV.isArr] at hx
  rw [hh] at h
  cases hv : qG x with
  | none => simp [hv] at h
  | some y =>
   cases hl : valVs l with
   | none => simp [hv, hl] at h
   | some r =>
    simp only [hv, hl, Option.some.injEq] at h; subst h
    rw [sS x y v hv h2, valVs_den l r v2 hl h3]
end
theorem Bv {q : CK} {x : SV C} {v u : Value} (h : Zl q x = some v) (hd : Den D w E x u) : u = v ∧ IsKey (fB q) v := by
 unfold Zl at h
 split at h
 ·split at h
  ·rename_i hk
   injection h with h; subst h; subst hk
   exact ⟨bV hd, by simp [IsKey, fB]⟩
  ·cases h
 ·injection h with h; subst h
  exact ⟨gL hd, by simp [IsKey, fB]⟩
 ·cases h
theorem L4 {t : TypeId} {i : TI C} (ht : rY P D t i) (hk : i.kind.plain = true) : ∃ d, P.underlying t = some d ∧ ∀ m, d ≠ .interface m := by
 obtain ⟨d, hu, h⟩ := ht.und
 refine ⟨d, hu, fun m e => ?_⟩
 subst e
 cases hq : i.kind <;> rw [hq] at h hk <;> first | (simp [TK.plain] at hk; done) | (simp [iG] at h; done) | (obtain ⟨F, h, _⟩ := h; cases h)
theorem My (hT : bH P D tab) (hR : Rel D B E σ H df a w) {t : TypeId} {ox : Operand} (ho : o.op = .makeInterface t ox) : bF P D B σ H df a w o (V8 tab t (ev σ ox)) := by
 unfold V8
 cases hi : tab t with
 | none => trivial
 | some i =>
  cases hk : i.kind.plain with
  | false => simp only [hk]; trivial
  | true =>
   obtain ⟨d, hu, hd⟩ := L4 (hT t i hi) hk
   simp only [hk]
   split
   ·rename_i u hv
    have he := sS _ _ _ hv (aR hR ox)
    refine aH hR (u := .iface t u) ?_ (by simp only [Den]; exact .lit _ rfl)
    simp only [execOp, ho, Instr.makeInterface, Sem.run_bind, run_underlying hu, Result.andThen_ok]
    cases d <;> first | (exact absurd rfl (hd _)) | (simp [he])
   ·trivial
theorem Ew (hT : bH P D tab) (hR : Rel D B E σ H df a w) {s t : TypeId} {ok : Bool} {ox : Operand} (ho : o.op = .typeAssert ox s t ok) : bF P D B σ H df a w o (C2 tab t ok (ev σ ox)) := by
 unfold C2
 cases hi : tab t with
 | none => trivial
 | some i =>
  cases hk : i.kind.plain with
  | false => simp only [hk]; trivial
  | true =>
   have ht := hT t i hi
   obtain ⟨d, hu, hd⟩ := L4 ht hk
   obtain ⟨info, z, h1, h2, h3, h4, h5, h6⟩ := ht.info
   simp only [hk]
   have hx := aR hR ox
   split
   ·rename_i s' u hv
    rw [hv] at hx
    have hx := bR hx
    have hsame : s' = t → ∀ b : Bool, (execOp a.eval o).run P w = .ok (.value (if ok then .tuple #[u, .bool true] else u)) w := fun e b => by
     subst e
     simp only [execOp, ho, Instr.typeAssert, Sem.run_bind, run_underlying hu, Result.andThen_ok, hx]
     cases d <;> first | (exact absurd rfl (hd _)) | simp
    split
    ·rename_i hb
     have e := Nat.eq_of_beq_eq_true hb
     have := hsame e true
     cases ok with
     | true => exact aH hR this (by simp only [Den, DenA]; exact ⟨_, rfl, _, _, rfl, tY u, _, _, rfl, bJ true, rfl⟩)
     | false => exact aH hR this (tY u)
    ·rename_i hb
     have hne : ¬ s' = t := fun e => by subst e; rw [Nat.beq_refl] at hb; cases hb
     cases ok with
     | false => trivial
     | true =>
      refine aH hR (u := .tuple #[z, .bool false]) ?_ (by simp only [Den, DenA]; exact ⟨_, rfl, _, _, rfl, trivial, _, _, rfl, bJ false, rfl⟩)
      simp only [execOp, ho, Instr.typeAssert, Sem.run_bind, run_underlying hu, Result.andThen_ok, hx]
      cases d <;> first | (exact absurd rfl (hd _)) | simp [hne, zeroValue, typeInfo, h1, h4]
   ·trivial
theorem Pz {t : TypeId} {i : TI C} (ht : rY P D t i) {q : CK} {e : TypeId} (hk : i.kind = .map q e) : ∃ kt, P.underlying t = some (.map kt e) ∧ P.underlying kt = some (fB q) := by
 obtain ⟨d, hu, h⟩ := ht.und
 rw [hk] at h
 obtain ⟨kt, rfl, h2⟩ := h
 exact ⟨kt, hu, h2⟩
theorem Jc (hs : Sat D w E H) {c : Nat} {es : Array MapEntry} {clk : Nat} (hc : H c = .obj (.map es clk)) {v : Value} (hd : Den D w E (.mapp c) v) : ∃ b, E.β c = .loc b ∧ v = .map (some b) ∧ w.heap[b]? = some (.map es clk) := by
 rcases gK hs (c := c) (by rw [hc]; simp) (by rw [hc]; simp) with ⟨_, u, h⟩ | ⟨b, hb, hat⟩
 ·rw [hc] at h; cases h
 ·rw [hc] at hat
  simp only [Den, hb] at hd
  exact ⟨b, hb, hd, hat.1⟩
structure Ar (P : Program) (w : World) (kt : TypeId) (kv : Value) (es : Array MapEntry) (r : Option (Nat × Value)) : Prop where
 check : ∀ em, (Instr.checkKey em 10000 kt kv).run P w = .ok () w
 find : (Instr.findKey kt kv es.toList).run P w = .ok r w
 stays : ∀ i v, r = some (i, v) → (Instr.keyThatStays (((es[i]?).map (·.key)).getD kv) kv).run P w = .ok kv w
theorem Ro {q : CK} {k v : Value} (hk : IsKey (fB q) k) {b : Bool} (h : Instr.sameNow (fB q) k v = some b) : b = true → v = k := by
 intro e; subst e
 cases q <;> cases k <;> simp [IsKey, fB] at hk <;> cases v <;> simp [Instr.sameNow, fB] at h
 ·obtain ⟨rfl, rfl⟩ := h; rfl
 ·subst h; rfl
 ·simp [bytes_beq] at h; subst h; rfl
theorem tT {q : CK} {k : Value} (hk : IsKey (fB q) k) : ∀ (l : List MapEntry) (n i : Nat) (v : Value), Instr.findNow (fB q) k l n = some (some (i, v)) → n ≤ i ∧ (l[i - n]?).map (·.key) = some k
 | [], n, i, v, h => by simp [Instr.findNow] at h
 | e :: l, n, i, v, h => by
  unfold Instr.findNow at h
  split at h
  ·rename_i hs
   injection h with h; injection h with h; injection h with h1 h2; subst h1
   exact ⟨Nat.le_refl _, by simp [Ro hk hs rfl]⟩
  ·obtain ⟨h1, h2⟩ := tT hk l (n + 1) i v h
   refine ⟨by omega, ?_⟩
   rw [show i - n = (i - (n + 1)) + 1 by omega]
   simpa using h2
  ·cases h
theorem yL {q : CK} {kt : TypeId} (hu : P.underlying kt = some (fB q)) {kv : Value} (hk : IsKey (fB q) kv) {es : Array MapEntry} {r : Option (Nat × Value)} (h : Instr.findNow (fB q) kv es.toList 0 = some r) : Ar P w kt kv es r where
 check em := Go.MapKept.run_checkKey hu hk em _
 find := Go.MapKept.run_findKey hu h
 stays i v e := by
  subst e
  obtain ⟨_, h2⟩ := tT hk _ _ _ _ h
  rw [Nat.sub_zero, Array.getElem?_toList] at h2
  rw [h2]
  exact Go.MapKept.run_keyThatStays (d := fB q) hk
theorem tW : ∀ {ks : List CK} {l : List Value}, kdB ks l = true → Kd ks l
 | [], [], _ => trivial
 | [], _ :: _, h => by simp [kdB] at h
 | _ :: _, [], h => by simp [kdB] at h
 | c :: ks, v :: l, h => by
  simp only [kdB] at h
  split at h
  ·rename_i hc; exact ⟨hc, tW h⟩
  ·cases h
theorem lZ : ∀ {ks : List CK} {l m : List Value}, Kd ks l → Kd ks m → (yI l m = true ↔ l = m)
 | [], [], [], _, _ => by simp [yI]
 | [], _ :: _, _, h, _ => h.elim
 | [], [], _ :: _, _, h => h.elim
 | _ :: _, [], _, h, _ => h.elim
 | _ :: _, _ :: _, [], _, h => h.elim
 | c :: ks, v :: l, u :: m, h, h' => by
  have ih := lZ h.2 h'.2
  have h1 := h.1
  have h2 := h'.1
  have hc : Ul v u = true ↔ v = u := by
   cases c <;> cases v <;> simp [CK.is] at h1 <;> cases u <;> simp [CK.is] at h2 <;> simp [Ul]
   rename_i x y; obtain ⟨x⟩ := x; obtain ⟨y⟩ := y; simp
  simp [yI, hc, ih]
theorem qE (em : Bool) (d : Nat) : ∀ (m : Nat) (t : TypeId) (l : List CK), ckB P m t l = true → ∀ w v cs, Vof P t v cs → Kd l cs → (Instr.checkKey em (d + m) t v).run P w = .ok () w
 | 0, _, _, h => by simp [ckB] at h
 | m + 1, t, l, h => by
  intro w v cs hv hk
  rw [show d + (m + 1) = (d + m) + 1 from rfl]
  have h0 := h
  unfold ckB at h
  unfold Instr.checkKey
  cases hu : P.underlying t with
  | none => simp [hu] at h
  | some k =>
   simp only [Sem.run_bind, run_underlying hu, Result.andThen]
   cases k
   case bool => cases v <;> rfl
   case int q => cases v <;> rfl
   case string => cases v <;> rfl
   case array n e =>
    simp only [hu, Bool.and_eq_true, decide_eq_true_eq, List.all_eq_true, List.mem_range] at h
    obtain ⟨⟨⟨⟨h1, h2⟩, h3⟩, h4⟩, h5⟩ := h
    simp only [Vof, hu] at hv
    subst hv
    obtain ⟨i, hi⟩ := Option.isSome_iff_exists.1 h4
    have hsz : i.size = P.cellsOf e := by simp [Program.cellsOf, hi]
    simp only [Std.Legacy.Range.forIn_eq_forIn_range']
    have hall : ∀ j ∈ List.range' 0 n, j < n := fun j hj => by simp [List.mem_range'_1] at hj; exact hj
    simp only [Std.Legacy.Range.size, Nat.sub_zero, Nat.add_one_sub_one, Nat.div_one]
    generalize List.range' 0 n = L at hall
    induction L with
    | nil => rfl
    | cons j L ih =>
     have hj' := hall j (List.mem_cons_self ..)
     have hlt : j * P.cellsOf e + P.cellsOf e ≤ l.length := by rw [h2, ← Nat.succ_mul]; exact Nat.mul_le_mul_right _ hj'
     obtain ⟨a, pa, va⟩ := pU (xs := cs.toArray) (off := j * P.cellsOf e) (h5 j hj') (hk.sl _ _) (by simp [sl]; omega) w
     have hck := qE em d m e _ (h5 j hj') w a _ va (hk.sl _ _)
     simp only [List.forIn_cons, Sem.run_bind, Go.run_sizeOf w hi, hsz, Result.andThen_ok, pa, hck, Sem.run_pure] at ih ⊢
     exact ih fun y hy => hall y (List.mem_cons_of_mem _ hy)
   case struct fs =>
    simp only [hu, Bool.and_eq_true, Bool.not_eq_true', decide_eq_true_eq, List.all_eq_true, List.mem_range, List.any_eq_true, bne_iff_ne, ne_eq] at h
    obtain ⟨⟨⟨h1, h2⟩, h3⟩, h4⟩ := h
    simp only [Vof, hu] at hv
    subst hv
    simp only []
    rw [← Array.forIn_toList]
    clear h4
    generalize fs.toList = L at h3
    induction L with
    | nil => rfl
    | cons f L ih =>
     obtain ⟨⟨g1, g2⟩, g3⟩ := h3 f (List.mem_cons_self ..)
     obtain ⟨a, pa, va⟩ := pU (xs := cs.toArray) (off := f.offset) g3 (hk.sl _ _) (by simp [sl]; omega) w
     have hck := qE em d m f.type _ g3 w a _ va (hk.sl _ _)
     simp only [List.forIn_cons, Sem.run_bind, g1, ne_eq, not_false_eq_true, if_true, Result.andThen_ok, pa, hck, Sem.run_pure] at ih ⊢
     exact ih fun y hy => h3 y (List.mem_cons_of_mem _ hy)
   all_goals (simp [hu] at h; done)
theorem W9 {kt : TypeId} (ha : Qf P kt = true) (cs : List Value) : Vof P kt (.agg cs.toArray) cs := by
 unfold Qf at ha
 unfold Vof
 split at ha
 ·rename_i h; rw [h]
 ·rename_i h; rw [h]
 ·cases ha
open Classical in
theorem M0 {kt : TypeId} {ks : List CK} (hc : ckB P 64 kt ks = true) (ha : Qf P kt = true) {k : List Value} (hk : Kd ks k) : ∀ (l : List MapEntry) (n : Nat) (r : Option (Nat × Value)), kK ks k l n = some r →
  (Instr.findAsking kt (.agg k.toArray) l n).run P w = .ok r w ∧ ∀ i v, r = some (i, v) → n ≤ i ∧ (l[i - n]?).map (·.key) = some (.agg k.toArray)
 | [], n, r, h => by
  simp only [kK, Option.some.injEq] at h; subst h
  exact ⟨rfl, fun i v e => by cases e⟩
 | e :: l, n, r, h => by
  unfold kK at h
  split at h
  ·rename_i cs hcs
   split at h
   ·rename_i hkd
    have heq := X6 (P := P) 9936 64 kt ks hc w (.agg k.toArray) (.agg cs) k cs.toList (W9 ha k) (by have := W9 (P := P) ha cs.toList; simpa using this) hk (tW hkd)
    have he : (Op.equal kt (.agg k.toArray) e.key).run P w = .ok (decide (k = cs.toList)) w := by rw [hcs]; exact heq
    unfold Instr.findAsking
    simp only [Sem.run_bind, he, Result.andThen]
    split at h
    ·rename_i hd
     injection h with h; subst h
     have hkc := (lZ hk (tW hkd)).1 hd
     rw [decide_eq_true hkc]
     refine ⟨by simp, fun i v e => ?_⟩
     injection e with e; injection e with e1 e2; subst e1
     exact ⟨Nat.le_refl _, by simp [hcs, hkc]⟩
    ·rename_i hd
     obtain ⟨h1, h2⟩ := M0 hc ha hk l (n + 1) r h
     have hkc : ¬ k = cs.toList := fun e => by rw [(lZ hk (tW hkd)).2 e] at hd; cases hd
     rw [decide_eq_false hkc]
     refine ⟨h1, fun i v e => ?_⟩
     obtain ⟨h3, h4⟩ := h2 i v e
     refine ⟨by omega, ?_⟩
     rw [show i - n = (i - (n + 1)) + 1 by omega]
     simpa using h4
   ·cases h
  ·cases h
theorem vN : ∀ {ks : List CK} {l : List Value}, Kd ks l → ∀ n, (l.zip l).all (fun (x, y) => Instr.sameBits n x y) = true
 | [], [], _, _ => rfl
 | [], _ :: _, h, _ => h.elim
 | _ :: _, [], h, _ => h.elim
 | c :: ks, v :: l, h, n => by
  have ih := vN h.2 n
  have hc := h.1
  simp only [List.zip_cons_cons, List.all_cons, Bool.and_eq_true]
  refine ⟨?_, ih⟩
  cases c <;> cases v <;> simp [CK.is] at hc <;> cases n <;> simp [Instr.sameBits]
  all_goals exact (Go.MapKept.bytes_beq _ _).2 rfl
theorem yJ {kt : TypeId} {ks : List CK} (hc : ckB P 64 kt ks = true) (ha : Qf P kt = true) {k : List Value} (hk : Kd ks k) {es : Array MapEntry} {r : Option (Nat × Value)} (h : kK ks k es.toList 0 = some r) : Ar P w kt (.agg k.toArray) es r := by
 obtain ⟨h1, h2⟩ := M0 (w := w) hc ha hk _ _ _ h
 have hd : ∃ d, P.underlying kt = some d ∧ ∀ (l : List MapEntry) (n : Nat), Instr.findNow d (.agg k.toArray) l n = none ∨ l = [] := by
  unfold Qf at ha
  split at ha
  ·rename_i hu; exact ⟨_, hu, fun l n => by
    cases l with
    | nil => exact .inr rfl
    | cons e l =>
     left
     unfold Instr.findNow
     cases e.key <;> rfl⟩
  ·rename_i hu; exact ⟨_, hu, fun l n => by
    cases l with
    | nil => exact .inr rfl
    | cons e l =>
     left
     unfold Instr.findNow
     cases e.key <;> rfl⟩
  ·cases ha
 obtain ⟨d, hu, hf⟩ := hd
 refine ⟨fun em => qE em 9936 64 kt ks hc w _ _ (W9 ha k) hk, ?_, fun i v e => ?_⟩
 ·simp only [Instr.findKey, Sem.run_bind, run_underlying hu, Result.andThen]
  rcases hf es.toList 0 with hf | hf
  ·rw [hf]; exact h1
  ·rw [hf] at h1 ⊢; exact h1
 ·obtain ⟨_, h4⟩ := h2 i v e
  rw [Nat.sub_zero, Array.getElem?_toList] at h4
  rw [h4]
  simp only [Option.getD_some, Instr.keyThatStays]
  rw [if_pos]
  ·rfl
  ·simp only [Instr.sameBits, BEq.rfl, Bool.true_and]
   exact vN hk _
theorem Gq {F : Nat → Prop} {x : PV C} {v u : Value} (h : pvV x = some v) (hd : eM D w F x u) : u = v := by
 cases hd <;> simp [pvV] at h <;> exact h
theorem Z7 {F : Nat → Prop} : ∀ (l : List (PV C)) (vs us : List Value), Xz l = some vs → bE D w F l us → us = vs
 | [], vs, us, h, hd => by simp only [Xz, Option.some.injEq] at h; subst h; exact pS hd
 | x :: l, vs, us, h, hd => by
  obtain ⟨v, r, rfl, h1, h2⟩ := lO hd
  simp only [Xz] at h
  split at h
  ·rename_i y hy
   split at h
   ·rename_i z hz
    injection h with h; subst h
    rw [Gq hy h1, Z7 l _ _ hz h2]
   ·cases h
  ·cases h
theorem D4 : ∀ (l : List (SV C)) (vs us : List Value), F2 D l = some vs → DenC D w E l us → us = vs
 | [], vs, us, h, hd => by simp only [F2, Option.some.injEq] at h; subst h; simpa only [DenC] using hd
 | .arr u N xs :: l, vs, us, h, hd => by
  simp only [DenC] at hd
  obtain ⟨_, v1, v2, rfl, h2, h3⟩ := hd
  simp only [F2] at h
  split at h
  ·rename_i y hy
   split at h
   ·rename_i z hz
    injection h with h; subst h
    rw [Z7 _ _ _ hy h2, D4 l _ _ hz h3]
   ·cases h
  ·cases h
 | .p x :: l, vs, us, h, hd => by
  simp only [DenC] at hd
  obtain ⟨v, v2, rfl, _, h2, h3⟩ := hd
  simp only [F2] at h
  split at h
  ·rename_i y hy
   split at h
   ·rename_i z hz
    injection h with h; subst h
    have h2' : eM D w E.F x v := by simpa only [Den] using h2
    rw [Gq hy h2', D4 l _ _ hz h3]
   ·cases h
  ·cases h
 | .any :: _, _, _, h, _ => by simp [F2] at h
 | .ptr _ _ :: _, _, _, h, _ => by simp [F2] at h
 | .eptr _ _ _ _ _ :: _, _, _, h, _ => by simp [F2] at h
 | .dptr _ _ :: _, _, _, h, _ => by simp [F2] at h
 | .slice _ _ _ _ _ :: _, _, _, h, _ => by simp [F2] at h
 | .agg _ :: _, _, _, h, _ => by simp [F2] at h
 | .fn _ _ _ :: _, _, _, h, _ => by simp [F2] at h
 | .iface _ _ :: _, _, _, h, _ => by simp [F2] at h
 | .tuple _ :: _, _, _, h, _ => by simp [F2] at h
 | .yieldv _ :: _, _, _, h, _ => by simp [F2] at h
 | .mapp _ :: _, _, _, h, _ => by simp [F2] at h
theorem Y8 {ks : List CK} {x : SV C} {k : List Value} {u : Value} (h : Zn D ks x = some k) (hd : Den D w E x u) : u = .agg k.toArray ∧ Kd ks k := by
 unfold Zn at h
 split at h
 ·split at h
  ·rename_i l hl
   split at h
   ·rename_i hk
    injection h with h; subst h
    simp only [Den] at hd
    obtain ⟨cs, rfl, h2⟩ := hd
    have := D4 _ _ _ hl h2
    exact ⟨by rw [← this], tW hk⟩
   ·cases h
  ·cases h
 ·cases h
def Nt (cm : Bool) (z : Value) : Option (Nat × Value) → Value
 | some (_, v) => match cm with
  | true => .tuple #[v, .bool true]
  | false => v
 | none => match cm with
  | true => .tuple #[z, .bool false]
  | false => z
theorem Dy (hR : Rel D B E σ H df a w) {m : Nat} (hm : H m = .fresh) {t : TypeId} (ho : o.op = .makeMap t none) : bF P D B σ H df a w o (.mem (.mapp m) [(m, .obj (.map #[] 0))]) := by
 refine ⟨.map (some w.heap.size), w.alloc (.map #[] 0), E.up m (.loc w.heap.size), .inl ?_, ?_, ?_⟩
 ·simp only [execOp, ho]; rfl
 ·rw [dQ]
  exact hR.allocO hm _ ⟨heap_alloc_new w _, fun _ _ _ => by simp⟩
 ·simp only [Den, Env.up_same]
theorem tH (hT : bH P D tab) (hR : Rel D B E σ H df a w) {t : TypeId} {ox ok : Operand} {cm : Bool} (ho : o.op = .lookup t ox ok cm) {hs : List (Nat × HS C)} (hhs : ∀ c, (ev σ ox).topId = some c → lk hs c = H c)
  {kt e : TypeId} (hu : P.underlying t = some (.map kt e)) {c : Nat} (hx : ev σ ox = .mapp c) {es : Array MapEntry} {clk : Nat} (hc : lk hs c = .obj (.map es clk)) {kv : Value} (ek : a.eval ok = kv) {j : TI C} (hj : tab e = some j) {r : Option (Nat × Value)} (hk : Ar P w kt kv es r) :
  fX P D B σ H df a w o (qW cm (kN j) r) [] := by
 have hlk := hhs c (by rw [hx]; rfl)
 rw [hc] at hlk
 have hdx := aR hR ox
 rw [hx] at hdx
 obtain ⟨b, hb, ev1, hob⟩ := Jc hR.sat hlk.symm hdx
 have hres : ∀ z, (kN j = .any ∨ Den D w E (kN j) z) → Den D w E (qW cm (kN j) r) (Nt cm z r) := by
  intro z hz
  have hz' : Den D w E (kN j) z := by
   rcases hz with hz | hz
   ·rw [hz]; trivial
   ·exact hz
  cases r with
  | none =>
   cases cm with
   | true => simp only [qW, Den, DenA]; exact ⟨_, rfl, _, _, rfl, hz', _, _, rfl, bJ false, rfl⟩
   | false => exact hz'
  | some p =>
   obtain ⟨i', v⟩ := p
   cases cm with
   | true => simp only [qW, Den, DenA]; exact ⟨_, rfl, _, _, rfl, tY v, _, _, rfl, bJ true, rfl⟩
   | false => exact tY v
 have hzr : ∃ z, (zeroValue e).run P w = .ok z w ∧ (kN j = .any ∨ Den D w E (kN j) z) := by
  by_cases hb : j.kind = .bool
  ·obtain ⟨info, h1, h2⟩ := (hT e j hj).zb hb
   refine ⟨.bool false, by simp [zeroValue, typeInfo, h1, h2], .inr ?_⟩
   simp only [kN, hb]; exact bJ false
  ·obtain ⟨info, z, h1, _, _, h4, h5, h6⟩ := (hT e j hj).info
   refine ⟨z, by simp [zeroValue, typeInfo, h1, h4], ?_⟩
   unfold kN; split
   ·rename_i h; exact absurd h hb
   ·split
    ·rename_i hsz
     have h2 := Nat.le_of_ble_eq_true hsz
     rw [← h5] at h2
     refine .inr ?_
     have h7 := h6 w E
     cases z <;> first | (simp only [Den]; exact ⟨_, rfl, h7⟩) | (simp [Value.cells] at h2)
    ·exact .inl rfl
   ·exact .inl rfl
 obtain ⟨z, hz1, hz2⟩ := hzr
 refine ⟨_, w, E, .inl ?_, hR, hres z hz2⟩
 have key : (Instr.lookup t (.map (some b)) kv cm).run P w = .ok (Nt cm z r) w := by
  simp only [Instr.lookup, Sem.run_bind, run_underlying hu, Go.MapKept.run_getObj_map hob, hk.check, hk.find, Result.andThen, Sem.run_pure]
  cases r with
  | none => cases cm <;> simp [hz1, Result.andThen, Nt]
  | some p => cases cm <;> simp [Nt]
 simp only [execOp, ho, ev1, ek, Sem.run_bind, key, Result.andThen, Sem.run_pure]
theorem Hc {t : TypeId} {i : TI C} (ht : rY P D t i) {ks : List CK} {e : TypeId} (hk : i.kind = .mapg ks e) : ∃ kt, P.underlying t = some (.map kt e) ∧ ckB P 64 kt ks = true ∧ Qf P kt = true := by
 obtain ⟨d, hu, h⟩ := ht.und
 rw [hk] at h
 obtain ⟨kt, rfl, h2⟩ := h
 exact ⟨kt, hu, h2⟩
theorem Jr (hT : bH P D tab) (hR : Rel D B E σ H df a w) {t : TypeId} {ox ok : Operand} {cm : Bool} (ho : o.op = .lookup t ox ok cm) {hs : List (Nat × HS C)} (hhs : ∀ c, (ev σ ox).topId = some c → lk hs c = H c) :
    bF P D B σ H df a w o (C9 D tab t (ev σ ox) (ev σ ok) cm hs) := by
  unfold C9
  repeat' split
  all_goals first
    | trivial
    | (rename_i i hi _ q e hk _ c hx _ es clk hc _ kv hkv _ j hj
       obtain ⟨kt, hu, hu2⟩ := Pz (hT t i hi) hk
       obtain ⟨ek, hik⟩ := Bv hkv (aR hR ok)
       intro r hr
       exact tH hT hR ho hhs hu hx hc ek hj (yL hu2 hik hr))
    | (rename_i i hi _ q e hk _ c hx _ es clk hc _ kv hkv _ j hj
       obtain ⟨kt, hu, hu2, hu3⟩ := Hc (hT t i hi) hk
       obtain ⟨ek, hik⟩ := Y8 hkv (aR hR ok)
       intro r hr
       exact tH hT hR ho hhs hu hx hc ek hj (yJ hu2 hu3 hik hr))
theorem R2 (u : C.U) {xs : List (C.El u)} {J : Nat} {pv : PV C} (h : (xs.flatMap (D.enc u))[J]? = some pv) : ∃ x, xs[J / C.n u]? = some x ∧ (D.enc u x)[J % C.n u]? = some pv := by
 have hn := D.n_pos u
 have hJ : J < xs.length * C.n u := by
  rw [← aQ (D := D) u xs]
  exact (List.getElem?_eq_some_iff.1 h).1
 have hi : J / C.n u < xs.length := (Nat.div_lt_iff_lt_mul hn).2 hJ
 refine ⟨xs[J / C.n u], List.getElem?_eq_getElem hi, ?_⟩
 have := eU (D := D) u xs (J / C.n u) (J % C.n u) _ (List.getElem?_eq_getElem hi) (Nat.mod_lt _ hn)
 rw [Nat.div_add_mod' J (C.n u)] at this
 rw [← this]; exact h
theorem Hx (hT : bH P D tab) (hR : Rel D B E σ H df a w) {t : TypeId} {ox : Operand} (ho : o.op = .sliceToArrayPointer t ox) : bF P D B σ H df a w o (zL D tab t (ev σ ox)) := by
 have hx := aR hR ox
 unfold zL
 split
 ·trivial
 ·rename_i i hi
  split
  ·rename_i len e hk
   have hu := arr_of (hT t i hi) hk
   split
   ·rename_i u xs hev
    rintro ⟨h0, h1⟩
    rw [hev] at hx
    simp only [Den] at hx
    generalize hxx : a.eval ox = vx at hx
    cases hx with
    | dslNil => simp at h1; omega
    | dsl _ _ b o' cap cv hF hc hcell hden =>
     refine aH hR (u := .pointer (some ⟨b, o', none⟩)) ?_ ?_
     ·simp only [execOp, ho, Instr.arrayAt, hxx, Sem.run_bind, run_underlying hu, Result.andThen]
      rw [if_neg (by omega)]
      rfl
     ·simp only [Den]
      refine ⟨b, o', by simp, fun J pv hp => ?_⟩
      obtain ⟨x, hx, he⟩ := R2 u hp
      refine ⟨hF (fun e => by rw [e] at hx; simp at hx), cv (J / C.n u) (J % C.n u), ?_, hden _ _ hx _ _ he⟩
      have := hcell _ _ hx _ _ he
      rw [Nat.add_assoc, Nat.div_add_mod' J (C.n u)] at this
      exact this
   ·trivial
  ·trivial
theorem By (hR : Rel D B E σ H df a w) {t : TypeId} {ox ok ov : Operand} (ho : o.op = .mapUpdate t ox ok ov ∨ o.op = .insert t ox ok ov) {hs : List (Nat × HS C)} (hhs : ∀ c, (ev σ ox).topId = some c → lk hs c = H c)
  {kt e : TypeId} (hu : P.underlying t = some (.map kt e)) {c : Nat} (hx : ev σ ox = .mapp c) {es : Array MapEntry} {clk : Nat} (hc : lk hs c = .obj (.map es clk)) {kv vv : Value} (ek : a.eval ok = kv) (ev2 : a.eval ov = vv) {r : Option (Nat × Value)} (hk : Ar P w kt kv es r) :
  fX P D B σ H df a w o .any [(c, .obj (putO es clk kv vv r))] := by
 have hlk := hhs c (by rw [hx]; rfl)
 rw [hc] at hlk
 have hdx := aR hR ox
 rw [hx] at hdx
 obtain ⟨b, hb, ev1, hob⟩ := Jc hR.sat hlk.symm hdx
 have hput := hR.putO hb hlk.symm (o' := putO es clk kv vv r) (by unfold putO; split <;> simp)
 refine ⟨undef, _, E, .inr ⟨?_, rfl⟩, hput.1, trivial⟩
 cases r with
 | none =>
  rcases ho with ho | ho <;>
  ·simp only [execOp, ho, Instr.mapUpdate, ev1, ek, ev2, Sem.run_bind, run_underlying hu, Go.MapKept.run_getObj_map hob, hk.check, hk.find, Go.MapKept.run_setObj_map _ hob, Result.andThen]
   rfl
 | some p =>
  have hst := hk.stays p.1 p.2 rfl
  rcases ho with ho | ho <;>
  ·simp only [execOp, ho, Instr.mapUpdate, ev1, ek, ev2, Sem.run_bind, run_underlying hu, Go.MapKept.run_getObj_map hob, hk.check, hk.find, hst, Go.MapKept.run_setObj_map _ hob, Result.andThen]
   rfl
theorem Qr (hT : bH P D tab) (hR : Rel D B E σ H df a w) {t : TypeId} {ox ok ov : Operand} (ho : o.op = .mapUpdate t ox ok ov ∨ o.op = .insert t ox ok ov) {hs : List (Nat × HS C)} (hhs : ∀ c, (ev σ ox).topId = some c → lk hs c = H c) :
    bF P D B σ H df a w o (Lo D tab t (ev σ ox) (ev σ ok) (ev σ ov) hs) := by
  unfold Lo
  repeat' split
  all_goals first
    | trivial
    | (rename_i i hi _ q e hk _ c hx _ es clk hc _ kv hkv _ vv hvv
       obtain ⟨kt, hu, hu2⟩ := Pz (hT t i hi) hk
       obtain ⟨ek, hik⟩ := Bv hkv (aR hR ok)
       intro r hr
       exact By hR ho hhs hu hx hc ek (sS _ _ _ hvv (aR hR ov)) (yL hu2 hik hr))
    | (rename_i i hi _ q e hk _ c hx _ es clk hc _ kv hkv _ vv hvv
       obtain ⟨kt, hu, hu2, hu3⟩ := Hc (hT t i hi) hk
       obtain ⟨ek, hik⟩ := Y8 hkv (aR hR ok)
       intro r hr
       exact By hR ho hhs hu hx hc ek (sS _ _ _ hvv (aR hR ov)) (yJ hu2 hu3 hik hr))
end
end Go.SX
namespace Go.SX
open Go.RowKit
variable {C : Cod}
section
variable {P : Program} {D : aL C} {tab : Tab C} {B : dZ} {E : Env} {σ : Nat → SV C} {H : Nat → HS C} {df : List Deferred} {a : Act} {w : World} {o : Oper}
theorem jS : ∀ (l m : List (SV C)) (vs ws : List Value), DenA D w E l vs → DenA D w E m ws → DenA D w E (l ++ m) (vs ++ ws)
 | [], m, vs, ws, h, k => by simp only [DenA] at h; subst h; simpa using k
 | x :: l, m, vs, ws, h, k => by
  simp only [DenA] at h
  obtain ⟨v, v2, rfl, h1, h2⟩ := h
  simp only [List.cons_append, DenA]
  exact ⟨v, v2 ++ ws, rfl, h1, jS l m _ _ h2 k⟩
def Out.plain : Out C → Bool
 | .mem _ _ => false
 | .smem _ _ _ => false
 | .call _ _ => false
 | .yieldc _ _ => false
 | .ask _ _ _ => false
 | .may _ _ => false
 | _ => true
theorem dX (t : TypeId) (x : SV C) (hs : List (Nat × HS C)) : (mN D tab t x hs).plain = true := by
 unfold mN
 split
 ·rfl
 ·split
  ·split
   ·unfold lN
    split
    ·split
     ·split <;> rfl
     ·rfl
    ·split
     ·rfl
     ·split <;> rfl
     ·rfl
   ·rfl
  ·split
   ·unfold oS; split <;> rfl
   ·rfl
  ·unfold vQ; (repeat' split) <;> rfl
  ·rfl
theorem E7 (A : Aux C D) (hT : bH P D tab) (hR : Rel D B E σ H df a w) {m : Nat} (hm : H m = .fresh) {vals : List (SV C)} (hv : vals = (aO o.op).map (ev σ)) {hs : List (Nat × HS C)}
  (hhs : ∀ x ∈ vals, ∀ c, x.topId = some c → lk hs c = H c) : bF P D B σ H df a w o (exec A tab o.op vals hs m) := by
 subst hv
 cases ho : o.op with
 | move x => simp only [exec, aO, List.map_cons, List.map_nil]; exact Gg hR (.inl ho)
 | assign x => simp only [exec, aO, List.map_cons, List.map_nil]; exact Gg hR (.inr ho)
 | pick c x y =>
  simp only [exec, aO, List.map_cons, List.map_nil]
  cases hc : ev σ c with
  | p pv =>
   cases pv with
   | bool b =>
    simp only
    cases b with
    | true => exact Jw hR ho hc
    | false => exact Jw hR ho hc
   | _ => trivial
  | _ => trivial
 | alloc t => simp only [exec]; exact Lg hT hR hm ho
 | box t x => simp only [exec, aO, List.map_cons, List.map_nil]; exact Wz hR hm ho
 | build t ps => simp only [exec, aO]; exact Ll hT hR ho
 | buildSlice t len ps => simp only [exec, aO]; exact yU hT hR hm ho
 | load t x =>
  simp only [exec, aO, List.map_cons, List.map_nil]
  have h := Ta hT hR ho (hs := hs) (hhs (ev σ x) (by simp [ho, aO]))
  generalize hout : mN D tab t (ev σ x) hs = out at h
  cases out with
  | stuck => trivial
  | val v => exact h
  | side p v => exact h
  | mem v ws => have := dX (D := D) (tab := tab) t (ev σ x) hs; rw [hout] at this; cases this
  | smem p v ws => have := dX (D := D) (tab := tab) t (ev σ x) hs; rw [hout] at this; cases this
  | call f args => have := dX (D := D) (tab := tab) t (ev σ x) hs; rw [hout] at this; cases this
  | yieldc f args => have := dX (D := D) (tab := tab) t (ev σ x) hs; rw [hout] at this; cases this
  | may q K => have := dX (D := D) (tab := tab) t (ev σ x) hs; rw [hout] at this; cases this
  | ask q K W => have := dX (D := D) (tab := tab) t (ev σ x) hs; rw [hout] at this; cases this
 | store t x y => simp only [exec, aO, List.map_cons, List.map_nil]; exact Nm hT hR ho (hhs (ev σ x) (by simp [ho, aO]))
 | nilCheck x => simp only [exec, aO, List.map_cons, List.map_nil]; exact V2 hR ho (hhs (ev σ x) (by simp [ho, aO]))
 | binOp op t x y yt =>
  simp only [exec, aO, List.map_cons, List.map_nil]
  split
  ·exact Ds hT hR ho (by assumption)
  split
  ·exact Ib { A with wr := true } hT hR ho (hhs (ev σ x) (by simp [ho, aO]))
  ·exact Ib A hT hR ho (hhs (ev σ x) (by simp [ho, aO]))
 | unOp op t x => simp only [exec, aO, List.map_cons, List.map_nil]; exact q0g hR ho
 | convert src dst x => simp only [exec, aO, List.map_cons, List.map_nil]; exact Sg A hT hR hm ho (hhs (ev σ x) (by simp [ho, aO]))
 | makeFunc f first captured =>
  simp only [exec, aO, List.map_append]
  have h1 : ((first.toList.map (ev σ) ++ captured.toList.map (ev σ)).take first.size) = first.toList.map (ev σ) := List.take_left' (by simp)
  have h2 : ((first.toList.map (ev σ) ++ captured.toList.map (ev σ)).drop first.size) = captured.toList.map (ev σ) := List.drop_left' (by simp)
  rw [h1, h2]
  exact S8 hR ho
 | makeSlice t l c => simp only [exec, aO, List.map_cons, List.map_nil]; exact M5 hT hR hm ho
 | slice t x lo hi mx =>
  cases mx with
  | some q =>
   cases lo with
   | none =>
    cases hi with
    | none => trivial
    | some h =>
     have := Uc hT hR ho (hs := hs) (hhs (ev σ x) (by simp [ho, aO]))
     simp only [exec, aO, List.map_cons, List.map_nil, List.append_nil, List.nil_append, List.cons_append]
     exact this
   | some l =>
    cases hi with
    | none => trivial
    | some h =>
     have := Ge (m := m) hT hR ho (hs := hs) (hhs (ev σ x) (by simp [ho, aO]))
     simp only [exec, aO, List.map_cons, List.map_nil, List.append_nil, List.nil_append, List.cons_append]
     exact this hm
  | none =>
   have h := Ow hT hR ho (hs := hs) (hhs (ev σ x) (by simp [ho, aO]))
   cases lo <;> cases hi <;> simp only [exec, aO, List.map_cons, List.map_nil, List.append_nil, List.nil_append, List.cons_append] <;> exact h
 | fieldAddr s x f => simp only [exec, aO, List.map_cons, List.map_nil]; exact I6 hT hR ho (hhs (ev σ x) (by simp [ho, aO]))
 | field t x f => simp only [exec, aO, List.map_cons, List.map_nil]; exact Lc hT hR ho
 | indexAddr t x i => simp only [exec, aO, List.map_cons, List.map_nil]; exact I5 hT hR ho (hhs (ev σ x) (by simp [ho, aO]))
 | index t x i => simp only [exec, aO, List.map_cons, List.map_nil]; exact Kv hT hR ho
 | sliceToArrayPointer t x => simp only [exec, aO, List.map_cons, List.map_nil]; exact Hx hT hR ho
 | makeMap t r =>
  cases r with
  | none => simp only [exec]; exact Dy hR hm ho
  | some r => trivial
 | makeInterface t x => simp only [exec, aO, List.map_cons, List.map_nil]; exact My hT hR ho
 | typeAssert x s t ok => simp only [exec, aO, List.map_cons, List.map_nil]; exact Ew hT hR ho
 | lookup t x k ok => simp only [exec, aO, List.map_cons, List.map_nil]; exact Jr hT hR ho (hhs (ev σ x) (by simp [ho, aO]))
 | mapUpdate t x k v => simp only [exec, aO, List.map_cons, List.map_nil]; exact Qr hT hR (.inl ho) (hhs (ev σ x) (by simp [ho, aO]))
 | insert t x k v => simp only [exec, aO, List.map_cons, List.map_nil]; exact Qr hT hR (.inr ho) (hhs (ev σ x) (by simp [ho, aO]))
 | extract x i => simp only [exec, aO, List.map_cons, List.map_nil]; exact Dr hR ho
 | call c =>
  obtain ⟨callee, args, argTypes⟩ := c
  cases callee with
  | invoke r n => simp only [exec]; trivial
  | value f =>
   simp only [exec, aO, List.map_cons]
   unfold Ra
   split
   ·rename_i k first captured rest heq
    simp only [List.cons.injEq] at heq
    obtain ⟨hf, rfl⟩ := heq
    intro E' hR'
    have hd := aR hR' f
    rw [hf] at hd
    simp only [Den] at hd
    obtain ⟨xs, ys, e, h1, h2⟩ := hd
    refine ⟨xs.toList ++ (args.toList.map a.eval ++ ys.toList), jS _ _ _ _ h1 (jS _ _ _ _ (oF hR' _) h2), ?_⟩
    simp only [execOp, ho, resolve, e, Deferred.ofValue, invoke, Sem.run_bind, Sem.run_pure, Result.andThen_ok]
    congr 2
    apply Array.ext'
    simp
   ·rename_i c rest heq
    simp only [List.cons.injEq] at heq
    obtain ⟨hf, rfl⟩ := heq
    intro E' hR' b hb
    have hd := aR hR' f
    rw [hf] at hd
    simp only [Den, hb] at hd
    refine ⟨args.toList.map a.eval, oF hR' _, ?_⟩
    simp only [execOp, ho, resolve, hd, Deferred.ofValue, invoke, Sem.run_bind, Sem.run_pure, Result.andThen_ok]
    congr 2
    apply Array.ext'
    simp
   ·trivial
  | builtin b =>
   have hat : argTypes = argTypes.toList.toArray := by simp
   cases b with
   | len =>
    simp only [exec, aO]
    split
    ·rename_i x hx
     split
     ·rename_i t ht
      have hargs : ∃ y, args = #[y] ∧ ev σ y = x := by
       cases hl : args.toList with
       | nil => rw [hl] at hx; simp at hx
       | cons y l =>
        rw [hl] at hx
        simp at hx
        obtain ⟨h1, h2⟩ := hx
        subst h2
        exact ⟨y, by rw [← Array.toArray_toList (xs := args), hl], h1⟩
      obtain ⟨y, rfl, rfl⟩ := hargs
      have htt : argTypes = #[t] := by rw [hat, ht]
      subst htt
      have := Wc hT hR ho (hs := hs) (hhs (ev σ y) (by simp [ho, aO])) (by simp)
      exact this
     ·trivial
    ·trivial
   | append =>
    simp only [exec, aO]
    split
    ·rename_i x y hxy
     split
     ·rename_i t t2 ht
      have hargs : ∃ p q, args = #[p, q] ∧ ev σ p = x ∧ ev σ q = y := by
       cases hl : args.toList with
       | nil => rw [hl] at hxy; simp at hxy
       | cons p l =>
        rw [hl] at hxy
        cases l with
        | nil => simp at hxy
        | cons q l =>
         simp at hxy
         obtain ⟨h1, h2, h3⟩ := hxy
         subst h3
         exact ⟨p, q, by rw [← Array.toArray_toList (xs := args), hl], h1, h2⟩
      obtain ⟨p, q, rfl, rfl, rfl⟩ := hargs
      have htt : argTypes = #[t, t2] := by rw [hat, ht]
      subst htt
      exact Ia A hT hR hm ho (hhs (ev σ p) (by simp [ho, aO])) (hhs (ev σ q) (by simp [ho, aO]))
     ·trivial
    ·trivial
   | copy =>
    simp only [exec, aO]
    split
    ·rename_i x y hxy
     split
     ·rename_i t t2 ht
      have hargs : ∃ p q, args = #[p, q] ∧ ev σ p = x ∧ ev σ q = y := by
       cases hl : args.toList with
       | nil => rw [hl] at hxy; simp at hxy
       | cons p l =>
        rw [hl] at hxy
        cases l with
        | nil => simp at hxy
        | cons q l =>
         simp at hxy
         obtain ⟨h1, h2, h3⟩ := hxy
         subst h3
         exact ⟨p, q, by rw [← Array.toArray_toList (xs := args), hl], h1, h2⟩
      obtain ⟨p, q, rfl, rfl, rfl⟩ := hargs
      have htt : argTypes = #[t, t2] := by rw [hat, ht]
      subst htt
      exact Tn A hT hR ho (hhs (ev σ p) (by simp [ho, aO])) (hhs (ev σ q) (by simp [ho, aO]))
     ·trivial
    ·trivial
   | unsafeString =>
    simp only [exec, aO]
    split
    ·rename_i x y hxy
     split
     ·rename_i t t2 ht
      have hargs : ∃ p q, args = #[p, q] ∧ ev σ p = x ∧ ev σ q = y := by
       cases hl : args.toList with
       | nil => rw [hl] at hxy; simp at hxy
       | cons p l =>
        rw [hl] at hxy
        cases l with
        | nil => simp at hxy
        | cons q l =>
         simp at hxy
         obtain ⟨h1, h2, h3⟩ := hxy
         subst h3
         exact ⟨p, q, by rw [← Array.toArray_toList (xs := args), hl], h1, h2⟩
      obtain ⟨p, q, rfl, rfl, rfl⟩ := hargs
      have htt : argTypes = #[t, t2] := by rw [hat, ht]
      subst htt
      exact tM A hT hR ho (hhs (ev σ p) (by simp [ho, aO]))
     ·trivial
    ·trivial
   | clear =>
    simp only [exec, aO]
    split
    ·rename_i x hx
     split
     ·rename_i t ht
      have hargs : ∃ y, args = #[y] ∧ ev σ y = x := by
       cases hl : args.toList with
       | nil => rw [hl] at hx; simp at hx
       | cons y l =>
        rw [hl] at hx
        simp at hx
        obtain ⟨h1, h2⟩ := hx
        subst h2
        exact ⟨y, by rw [← Array.toArray_toList (xs := args), hl], h1⟩
      obtain ⟨y, rfl, rfl⟩ := hargs
      have htt : argTypes = #[t] := by rw [← Array.toArray_toList (xs := argTypes), ht]
      subst htt
      exact Lf hT hR ho (hhs (ev σ y) (by simp [ho, aO]))
     ·trivial
    ·trivial
   | unsafeSliceData =>
    simp only [exec, aO]
    split
    ·rename_i x hx
     have hargs : ∃ y, args = #[y] ∧ ev σ y = x := by
      cases hl : args.toList with
      | nil => rw [hl] at hx; simp at hx
      | cons y l =>
       rw [hl] at hx
       simp at hx
       obtain ⟨h1, h2⟩ := hx
       subst h2
       exact ⟨y, by rw [← Array.toArray_toList (xs := args), hl], h1⟩
     obtain ⟨y, rfl, rfl⟩ := hargs
     exact O5 hR ho (hhs (ev σ y) (by simp [ho, aO]))
    ·trivial
   | cap =>
    simp only [exec, aO]
    split
    ·rename_i x hx
     split
     ·rename_i t ht
      have hargs : ∃ y, args = #[y] ∧ ev σ y = x := by
       cases hl : args.toList with
       | nil => rw [hl] at hx; simp at hx
       | cons y l =>
        rw [hl] at hx
        simp at hx
        obtain ⟨h1, h2⟩ := hx
        subst h2
        exact ⟨y, by rw [← Array.toArray_toList (xs := args), hl], h1⟩
      obtain ⟨y, rfl, rfl⟩ := hargs
      have htt : argTypes = #[t] := by rw [hat, ht]
      subst htt
      exact Wy hT hR ho
     ·trivial
    ·trivial
   | min =>
    simp only [exec, aO]
    split
    ·rename_i x y hxy
     have hargs : ∃ p q, args = #[p, q] ∧ ev σ p = x ∧ ev σ q = y := by
      cases hl : args.toList with
      | nil => rw [hl] at hxy; simp at hxy
      | cons p l =>
       rw [hl] at hxy
       cases l with
       | nil => simp at hxy
       | cons q l =>
        simp at hxy
        obtain ⟨h1, h2, h3⟩ := hxy
        subst h3
        exact ⟨p, q, by rw [← Array.toArray_toList (xs := args), hl], h1, h2⟩
     obtain ⟨p, q, rfl, rfl, rfl⟩ := hargs
     exact O9 hR false ho
    ·trivial
   | max =>
    simp only [exec, aO]
    split
    ·rename_i x y hxy
     have hargs : ∃ p q, args = #[p, q] ∧ ev σ p = x ∧ ev σ q = y := by
      cases hl : args.toList with
      | nil => rw [hl] at hxy; simp at hxy
      | cons p l =>
       rw [hl] at hxy
       cases l with
       | nil => simp at hxy
       | cons q l =>
        simp at hxy
        obtain ⟨h1, h2, h3⟩ := hxy
        subst h3
        exact ⟨p, q, by rw [← Array.toArray_toList (xs := args), hl], h1, h2⟩
     obtain ⟨p, q, rfl, rfl, rfl⟩ := hargs
     exact O9 hR true ho
    ·trivial
   | _ => simp only [exec]; trivial
 | _ => simp only [exec]; trivial
end
end Go.SX
