/-
  SX, part L: append.
-/
import Derived.Test.YtiflflnmonljeaaGreatDoorSxI
import Derived.Lib.UnsafeStr
import Derived.Lib.Builder
import Derived.Laws.BytesString
import Derived.Lib.ConvBytes
set_option linter.unusedVariables false
set_option linter.unusedSimpArgs false
namespace Go.SX
open Go.RowKit
variable {C : Cod}
section
variable {P : Program} {D : aL C} {tab : Tab C} {B : dZ} {E : Env} {σ : Nat → SV C} {H : Nat → HS C} {df : List Deferred} {a : Act} {w : World} {o : Oper}
theorem iI (u : C.U) : ∀ (xs : List (C.El u)) (k : Nat), (xs.drop k).flatMap (D.enc u) = (xs.flatMap (D.enc u)).drop (k * C.n u)
 | [], k => by simp
 | x :: xs, 0 => by simp
 | x :: xs, k + 1 => by
  rw [List.drop_succ_cons, iI u xs k, List.flatMap_cons, Nat.add_mul, Nat.one_mul, Nat.add_comm, ← List.drop_drop, List.drop_left' (D.enc_len u x)]
theorem dA (u : C.U) : ∀ (xs : List (C.El u)) (k : Nat), (xs.take k).flatMap (D.enc u) = (xs.flatMap (D.enc u)).take (k * C.n u)
 | [], k => by simp
 | x :: xs, 0 => by simp
 | x :: xs, k + 1 => by
  rw [List.take_succ_cons, List.flatMap_cons, List.flatMap_cons, dA u xs k, Nat.add_mul, Nat.one_mul, Nat.add_comm, List.take_add, List.take_left' (D.enc_len u x), List.drop_left' (D.enc_len u x)]
theorem oU (u : C.U) (xs : List (C.El u)) (k : Nat) : (xs.flatMap (D.enc u)).take ((xs.take k).length * C.n u) = (xs.take k).flatMap (D.enc u) := by
 rw [dA]
 by_cases h : k ≤ xs.length
 ·rw [List.length_take, Nat.min_eq_left h]
 ·rw [List.length_take, Nat.min_eq_right (by omega), List.take_of_length_le (by rw [aQ]; exact Nat.le_refl _), List.take_of_length_le (by rw [aQ]; exact Nat.mul_le_mul_right _ (by omega))]
theorem Rel.virt (h : Rel D B E σ H df a w) {m : Nat} (hm : H m = .fresh) (u : C.U) : Rel D B (E.up m .virt) σ (upH H m (.rows u [])) df a w := by
 have hβ := jHβ h.sat hm
 have hL : cI w E w (E.up m .virt) := ⟨fun b hb => ⟨hb, rfl⟩, fun i => by
  by_cases hi : i = m
  ·subst hi; exact .inr (.inr hβ)
  ·exact .inl (Env.up_other E _ hi), fun _ _ _ _ cs T hc => ⟨cs, T, hc, rfl⟩⟩
 have key : ∀ i b, (E.up m .virt).β i = .loc b → E.β i = .loc b := fun i b e => by
  by_cases hi : i = m
  ·subst hi; rw [Env.up_same] at e; cases e
  ·rwa [Env.up_other E _ hi] at e
 refine h.later hL ⟨fun i => ?_, fun i b e => h.sat.own i b (key i b e), fun i i' b e e' => h.sat.inj i i' b (key i b e) (key i' b e'), h.sat.F, h.sat.glob.mono hL.F⟩
  ⟨h.fr.os, h.fr.tape, h.fr.output, h.fr.size, h.fr.same, h.fr.late.trans hL, h.fr.newF, fun i b e => h.fr.newO i b (key i b e)⟩
 by_cases hi : i = m
 ·subst hi; rw [Env.up_same]; simp [upH, HS.ok]
 ·rw [Env.up_other E _ hi]; simp only [upH, if_neg hi]
  exact HS.ok_mono hL (h.sat.ok i) (fun _ _ => rfl)
theorem Rel.cut (h : Rel D B E σ H df a w) {c : Nat} {u : C.U} {xs : List (C.El u)} (hc : H c = .rows u xs) (k : Nat) : Rel D B E σ (upH H c (.rows u (xs.take k))) df a w := by
 refine h.later (cI.refl w E) ⟨fun i => ?_, h.sat.own, h.sat.inj, h.sat.F, h.sat.glob⟩ h.fr
 by_cases hi : i = c
 ·subst hi
  simp only [upH, if_true]
  have := h.sat.ok i
  rw [hc] at this
  cases hb : E.β i with
  | fresh => rw [hb] at this; simp [HS.ok] at this
  | dead => rw [hb] at this; simp [HS.ok] at this
  | virt =>
   rw [hb] at this
   obtain ⟨u', hu'⟩ := this
   cases hu'
   exact ⟨u, by simp⟩
  | loc b =>
   rw [hb] at this
   obtain ⟨cs, T, h1, h2, h3⟩ := this
   have hle : (xs.take k).length * C.n u ≤ xs.length * C.n u := Nat.mul_le_mul_right _ (by simp; omega)
   refine ⟨cs, T, h1, by omega, ?_⟩
   have h4 := h3.take ((xs.take k).length * C.n u)
   rw [List.take_take, Nat.min_eq_left hle] at h4
   have : (xs.flatMap (D.enc u)).take ((xs.take k).length * C.n u) = (xs.take k).flatMap (D.enc u) := by
    rw [oU]
   rw [this] at h4
   exact h4
 ·simp only [upH, if_neg hi]
  exact h.sat.ok i
theorem Rel.rename (h : Rel D B E σ H df a w) {c m : Nat} (hm : H m = .fresh) (hl : (H c).live = true) :
  Rel D B ((E.up c .dead).up m (E.β c)) σ (upH (upH H c .dead) m (H c)) df a w := by
 have hβ := jHβ h.sat hm
 have hcm : c ≠ m := fun e => by subst e; rw [hm] at hl; cases hl
 have hE : ∀ i, ((E.up c .dead).up m (E.β c)).β i = if i = m then E.β c else if i = c then .dead else E.β i := fun i => rfl
 have hL : cI w E w ((E.up c .dead).up m (E.β c)) := ⟨fun b hb => ⟨hb, rfl⟩, fun i => by
  rw [hE]
  by_cases hi : i = m
  ·subst hi; exact .inr (.inr hβ)
  ·rw [if_neg hi]
   by_cases hc : i = c
   ·rw [if_pos hc]; exact .inr (.inl rfl)
   ·rw [if_neg hc]; exact .inl rfl, fun _ _ _ _ cs T hc => ⟨cs, T, hc, rfl⟩⟩
 have key : ∀ i b, ((E.up c .dead).up m (E.β c)).β i = .loc b → (i = m ∧ E.β c = .loc b) ∨ (i ≠ m ∧ i ≠ c ∧ E.β i = .loc b) := fun i b e => by
  rw [hE] at e
  by_cases hi : i = m
  ·rw [if_pos hi] at e; exact .inl ⟨hi, e⟩
  ·rw [if_neg hi] at e
   by_cases hc : i = c
   ·rw [if_pos hc] at e; cases e
   ·rw [if_neg hc] at e; exact .inr ⟨hi, hc, e⟩
 refine h.later hL ⟨fun i => ?_, fun i b e => ?_, fun i i' b e e' => ?_, h.sat.F, h.sat.glob.mono hL.F⟩
  ⟨h.fr.os, h.fr.tape, h.fr.output, h.fr.size, h.fr.same, h.fr.late.trans hL, h.fr.newF, fun i b e => ?_⟩
 ·rw [hE]
  by_cases hi : i = m
  ·rw [if_pos hi]; subst hi; simp only [upH, if_true]
   exact HS.ok_mono hL (h.sat.ok c) (fun _ _ => rfl)
  ·rw [if_neg hi]; simp only [upH, if_neg hi]
   by_cases hc : i = c
   ·rw [if_pos hc, if_pos hc]; rfl
   ·rw [if_neg hc, if_neg hc]
    exact HS.ok_mono hL (h.sat.ok i) (fun _ _ => rfl)
 ·rcases key i b e with ⟨_, e⟩ | ⟨_, _, e⟩
  ·exact h.sat.own c b e
  ·exact h.sat.own i b e
 ·rcases key i b e with ⟨h1, e⟩ | ⟨h1, h2, e⟩ <;> rcases key i' b e' with ⟨h3, e'⟩ | ⟨h3, h4, e'⟩
  ·rw [h1, h3]
  ·exact absurd (h.sat.inj i' c b e' e) h4
  ·exact absurd (h.sat.inj i c b e e') h2
  ·exact h.sat.inj i i' b e e'
 ·rcases key i b e with ⟨_, e⟩ | ⟨_, _, e⟩
  ·exact h.fr.newO c b e
  ·exact h.fr.newO i b e
def q00 (D : aL C) (w : World) (E : Env) (L : List (PV C)) (n : Nat) (v : Value) : Prop :=
 ∃ ax cap news, v = .slice ax n cap ∧ bE D w E.F L news ∧ ((ax = none ∧ news = []) ∨ ∃ ad, ax = some ad ∧ ∀ j u, news[j]? = some u → w.cell? (ad.add j) = some u)
theorem B5 (hs : Sat D w E H) {x : SV C} {v : Value} (hx : Den D w E x v) {l : List (Nat × HS C)} (hl : ∀ c, x.topId = some c → lk l c = H c) {u : C.U} {ys : List (C.El u)} (h : Jd l x = .some u ys)
    (hlen : uN u ys x) : q00 D w E (ys.flatMap (D.enc u)) ys.length v := by
  unfold Jd at h
  split at h
  · rename_i u' xs
    cases h
    simp only [Den] at hx
    cases hx with
    | dslNil _ ad cap => exact ⟨ad, cap, [], rfl, ⟨rfl, fun j pv v hp _ => by simp at hp⟩, by cases ad with
        | none => exact .inl ⟨rfl, rfl⟩
        | some ad => exact .inr ⟨ad, rfl, fun j u hu => by simp at hu⟩⟩
    | dsl _ _ b o' cap cv hF hc hcell hden =>
      refine ⟨_, cap, (List.range (ys.length * C.n u)).map fun q => cv (q / C.n u) (q % C.n u), rfl, ⟨by rw [aQ]; simp, fun j pv v hp hv => ?_⟩, .inr ⟨_, rfl, fun j v hv => ?_⟩⟩
      · have hj : j < ys.length * C.n u := by
          have := (List.getElem?_eq_some_iff.1 hp).1
          rwa [aQ] at this
        simp [hj] at hv
        subst hv
        have hk : j / C.n u < ys.length := (Nat.div_lt_iff_lt_mul (D.n_pos u)).2 hj
        have hm : j % C.n u < C.n u := Nat.mod_lt _ (D.n_pos u)
        have hy : ys[j / C.n u]? = some ys[j / C.n u] := List.getElem?_eq_getElem hk
        have := eU (D := D) u ys (j / C.n u) (j % C.n u) _ hy hm
        rw [show j / C.n u * C.n u + j % C.n u = j by rw [Nat.mul_comm]; exact Nat.div_add_mod j _, hp] at this
        exact hden _ _ hy _ _ this.symm
      · have hj : j < ys.length * C.n u := by
          have := (List.getElem?_eq_some_iff.1 hv).1
          simpa using this
        simp [hj] at hv
        subst hv
        have hk : j / C.n u < ys.length := (Nat.div_lt_iff_lt_mul (D.n_pos u)).2 hj
        have hm : j % C.n u < C.n u := Nat.mod_lt _ (D.n_pos u)
        have hy : ys[j / C.n u]? = some ys[j / C.n u] := List.getElem?_eq_getElem hk
        have hq : (D.enc u ys[j / C.n u])[j % C.n u]? = some ((D.enc u ys[j / C.n u])[j % C.n u]'(by rw [D.enc_len]; exact hm)) := List.getElem?_eq_getElem _
        have := hcell _ _ hy _ _ hq
        rw [Addr.add_lit]
        rw [show o' + j / C.n u * C.n u + j % C.n u = o' + j by have := Nat.div_add_mod j (C.n u); rw [Nat.mul_comm] at this; omega] at this
        exact this
  · rename_i c o' n off len
    split at h
    · rename_i u' xs hsq
      cases h
      rw [hl c rfl] at hsq
      have hlive : (H c).live = true := by cases hH : H c <;> rw [hH] at hsq <;> first | rfl | (simp [eA] at hsq)
      simp only [uN] at hlen
      rcases bT hs hlive hx with ⟨rfl, hn⟩ | ⟨b, cap, cs, T, hb, e, hlc, hcs, hsz⟩
      · have hy : (xs.drop off).take 0 = [] := by simp
        rw [hy]
        simp only [List.length_nil]
        rcases hn with ⟨ad, e, _⟩ | ⟨ad, b, e, _⟩
        · exact ⟨ad, 0, [], e, ⟨rfl, fun j pv v hp _ => by simp at hp⟩, by cases ad with
            | none => exact .inl ⟨rfl, rfl⟩
            | some ad => exact .inr ⟨ad, rfl, fun j u hu => by simp at hu⟩⟩
        · exact ⟨ad, 0, [], e, ⟨rfl, fun j pv v hp _ => by simp at hp⟩, by cases ad with
            | none => exact .inl ⟨rfl, rfl⟩
            | some ad => exact .inr ⟨ad, rfl, fun j u hu => by simp at hu⟩⟩
      · obtain ⟨h1, h2⟩ := hlen
        subst h1
        rw [← h2]
        have hn := mY hlive
        have hat : (H c).at D w E b := by
          rcases gK hs hn.1 hn.2 with ⟨hv, _⟩ | ⟨b', hb', h⟩
          · rw [hb] at hv; cases hv
          · rw [hb] at hb'; cases hb'; exact h
        have hq := gG (o := o') hat
        rw [hsq] at hq
        obtain ⟨cs', T', hcs', hsz', hp⟩ := hq
        obtain ⟨rfl, rfl⟩ := hcs.inj hcs'
        have hoff : off + len ≤ xs.length ∨ len = 0 := by
          rcases Nat.eq_zero_or_pos len with h0 | h0
          · exact .inr h0
          · left
            simp only [List.length_take, List.length_drop] at h2
            omega
        have hfm : ((xs.drop off).take len).flatMap (D.enc u) = ((xs.flatMap (D.enc u)).drop (off * C.n u)).take (len * C.n u) := by
          rw [dA, iI]
        refine ⟨_, cap, ((cs.toList.drop (o' + off * C.n u)).take (len * C.n u)), e, ?_, .inr ⟨_, rfl, fun j v hv => ?_⟩⟩
        · rw [hfm]
          have h3 := (hp.drop (off * C.n u)).take (len * C.n u)
          have h4 : ((((cs.toList.drop o').take (xs.length * C.n u)).drop (off * C.n u)).take (len * C.n u)) = (cs.toList.drop (o' + off * C.n u)).take (len * C.n u) := by
            rw [List.drop_take, List.take_take, List.drop_drop, Nat.min_eq_left]
            rcases hoff with h | h
            · have := Nat.mul_le_mul_right (C.n u) h
              rw [Nat.add_mul] at this
              omega
            · subst h; simp
          rw [h4] at h3
          exact h3
        · rw [Addr.add_lit, gC hcs]
          rw [List.getElem?_take] at hv
          split at hv
          · rwa [List.getElem?_drop] at hv
          · cases hv
    · cases h
  · cases h
theorem dM {t ty e : TypeId} {i : TypeInfo} {z : Value} (ht : P.underlying t = some (.slice e)) (hi : P.info? e = some i) (hz : i.zero = some z)
    {base : Option Addr} {sLen sCap : Nat} {vx : Value} {n : Nat} {t2 : TypeId} {olds news : List Value} (ht2 : ∃ d, P.underlying t2 = some d ∧ ∀ k, d ≠ .int k) (hlen : ∀ w' : World, (Builtin.lenOf vx).run P w' = .ok n w')
    (hnews : ∀ w' : World, (∀ a, w'.cell? a = w.cell? a) → (Builtin.firstCells i.size n vx).run P w' = .ok news.toArray w')
    (holds : ∀ w' : World, (∀ a, w'.cell? a = w.cell? a) → (Builtin.firstCells i.size sLen (.slice base sLen sCap)).run P w' = .ok olds.toArray w')
    (h63 : sLen + n ≤ 9223372036854775807) (hb : (sLen + n) * i.bytes ≤ 140737488355328) :
    (sCap < sLen + n ∧ (Builtin.append_ #[t, t2] ty #[.slice base sLen sCap, vx]).run P w =
      .ok (.slice (some ⟨w.heap.size, 0, none⟩) (sLen + n) (grownCap w (sLen + n) sCap e)) (w.drew.alloc (.cells (olds.toArray ++ news.toArray ++ Builtin.zeroCells z.cells (grownCap w (sLen + n) sCap e - (sLen + n))) e))) ∨
    (sLen + n ≤ sCap ∧ (Builtin.append_ #[t, t2] ty #[.slice base sLen sCap, vx]).run P w =
      (do (match base with | some a => storeCells (a.add (sLen * i.size)) news | none => pure ()); pure (Value.slice base (sLen + n) sCap) : Sem Value).run P w) := by
  obtain ⟨d2, hd2, hnd⟩ := ht2
  have hz2 : (match d2 with | .int _ => true | _ => false) = false := by
    cases d2 <;> first | rfl | exact absurd rfl (hnd _)
  rcases Nat.lt_or_ge sCap (sLen + n) with hg | hg
  · left
    refine ⟨hg, ?_⟩
    have hn : ¬ (sLen + n ≤ sCap) := by omega
    have h63' : ¬ (9223372036854775807 < ((sLen : Int) + (n : Int))) := by omega
    have hfit := growslice_fits (bytes := i.bytes) hg hb
    have h48' : ¬ (281474976710656 < Builtin.nextslicecap (sLen + n) sCap * i.bytes) := by omega
    have hf := hnews w.drew (fun _ => rfl)
    have hfo := holds w.drew (fun _ => rfl)
    simp [Builtin.append_, run_underlying ht, run_underlying hd2, hz2, sizeOf, typeInfo, zeroValue, hi, hz, hlen, hn, h63', h48', Question.forced, hf, hfo, newRow, grownCap]
    congr 2
    apply Array.ext'
    simp [List.append_assoc]
  · right
    refine ⟨hg, ?_⟩
    have hf := hnews w (fun _ => rfl)
    cases base with
    | none => simp [Builtin.append_, run_underlying ht, run_underlying hd2, hz2, sizeOf, typeInfo, hi, hlen, hg, hf]
    | some b => simp [Builtin.append_, run_underlying ht, run_underlying hd2, hz2, sizeOf, typeInfo, hi, hlen, hg, hf]
theorem X0 {u u' : C.U} {zs : List (C.El u)} {ys : List (C.El u')} (h : zs.map (D.enc u) = ys.map (D.enc u')) : zs.flatMap (D.enc u) = ys.flatMap (D.enc u') := by
 rw [List.flatMap_def, List.flatMap_def, h]
structure q0l (P : Program) (D : aL C) (w : World) (E : Env) (t2 : TypeId) (u : C.U) (zs : List (C.El u)) (vx : Value) (size : Nat) (news : List Value) : Prop where
 typ : ∃ d, P.underlying t2 = some d ∧ ∀ k, d ≠ .int k
 len : ∀ w' : World, (Builtin.lenOf vx).run P w' = .ok zs.length w'
 firstN : ∀ w' : World, (∀ a, w'.cell? a = w.cell? a) → ∀ k, k ≤ zs.length → (Builtin.firstCells size k vx).run P w' = .ok (news.take (k * size)).toArray w'
 sz : news.length = zs.length * size
 den : bE D w E.F (zs.flatMap (D.enc u)) news
theorem q0l.first {t2 : TypeId} {u : C.U} {zs : List (C.El u)} {vx : Value} {size : Nat} {news : List Value} (h : q0l P D w E t2 u zs vx size news) (w' : World) (hw : ∀ a, w'.cell? a = w.cell? a) :
  (Builtin.firstCells size zs.length vx).run P w' = .ok news.toArray w' := by
 rw [h.firstN w' hw _ (Nat.le_refl _), List.take_of_length_le (by rw [h.sz]; exact Nat.le_refl _)]
theorem pI {F : Nat → Prop} (l : List UInt8) : bE D w F (l.map fun b => PV.int .u8 b.toNat) (l.map fun b => Value.int .u8 b.toNat) := by
 refine ⟨by simp, fun j pv v hp hv => ?_⟩
 rw [List.getElem?_map] at hp hv
 obtain ⟨b, hb, rfl⟩ := Option.map_eq_some_iff.1 hp
 obtain ⟨b', hb', rfl⟩ := Option.map_eq_some_iff.1 hv
 rw [hb] at hb'; cases hb'
 exact .int _ _
theorem uG (A : Aux C D) (hT : bH P D tab) (hs : Sat D w E H) {t t2 e : TypeId} (hu : P.underlying t = some (.slice e)) {x : SV C} {v : Value} (hx : Den D w E x v) {l : List (Nat × HS C)} (hl : ∀ c, x.topId = some c → lk l c = H c) {u : C.U} {zs : List (C.El u)} {p : Prop}
  (h : Vm A tab t t2 u l x = some (p, zs)) (hp : p) {size : Nat} (hsz : size = C.n u) : ∃ news, q0l P D w E t2 u zs v size news := by
 unfold Vm at h
 split at h
 ·rename_i bs
  split at h
  ·rename_i i2 hi2
   split at h
   ·rename_i hk
    split at h
    ·rename_i zs1 hz
     cases h
     obtain ⟨h1, h2⟩ := A.ofBytes_ok _ _ _ hz
     have hv := gL hx
     subst hv
     have hlen : zs.length = bs.length := by
      have := congrArg List.length h2
      rw [aQ, h1] at this
      simpa using this
     refine ⟨bs.map fun b => Value.int .u8 b.toNat, ⟨⟨_, vY (hT t2 i2 hi2) hk, fun k e => by cases e⟩, fun w' => ?_, fun w' _ k hk => ?_, by rw [hsz, h1]; simp [hlen], ?_⟩⟩
     ·rw [hlen]; rfl
     ·have e1 : ((ByteArray.extract ⟨⟨bs⟩⟩ 0 k).data.toList) = bs.take k := by
       simp [List.extract_eq_take_drop]
      simp only [Builtin.firstCells, Sem.run_pure]
      congr 1
      apply Array.ext'
      rw [hsz, h1]
      simp [e1, List.map_take]
     ·rw [h2]; exact pI bs
    ·cases h
   ·cases h
  ·cases h
 ·split at h
  ·rename_i i2 hi2
   split at h
   ·rename_i e2 hk
    cases h
    have hv := bR hx
    subst hv
    refine ⟨[], ⟨⟨_, bN (hT t2 i2 hi2) hk, fun k e => by cases e⟩, fun w' => rfl, fun w' _ k hk => by simp [Builtin.firstCells], by simp, ⟨rfl, fun j pv v hp _ => by simp at hp⟩⟩⟩
   ·cases h
  ·cases h
 ·split at h
  ·rename_i u' ys hsrc
   split at h
   ·rename_i zs' hcast
    cases h
    obtain ⟨e2, hsl⟩ := hp
    obtain ⟨hzy, hnn⟩ := A.castL_ok u u' ys zs hcast
    have hzl : zs.length = ys.length := by simpa using congrArg List.length hzy
    obtain ⟨ax, cap, news, hvx, hpn, hcase⟩ := B5 hs hx hl hsrc hsl
    have hpn' : bE D w E.F (zs.flatMap (D.enc u)) news := by rw [X0 hzy]; exact hpn
    have hnl : news.length = zs.length * size := by rw [hpn'.len, hsz]
    refine ⟨news, ⟨⟨_, e2 ▸ hu, fun k e => by cases e⟩, fun w' => ?_, fun w' hw' k hk => ?_, hnl, hpn'⟩⟩
    ·rw [hvx, hzl]; rfl
    ·subst hvx
     have hkl : (news.take (k * size)).length = k * size := by
      rw [List.length_take, hnl, Nat.min_eq_left (Nat.mul_le_mul_right _ hk)]
     rcases hcase with ⟨rfl, rfl⟩ | ⟨ad, rfl, hc⟩
     ·simp [Builtin.firstCells]
     ·refine run_firstCells_some w' size k ad _ cap _ hkl fun j u hu => (hw' _).trans (hc j u ?_)
      rw [List.getElem?_take] at hu
      split at hu
      ·exact hu
      ·cases hu
   ·cases h
  ·cases h
theorem Ia (A : Aux C D) (hT : bH P D tab) (hR : Rel D B E σ H df a w) {m : Nat} (hm : H m = .fresh) {t t2 : TypeId} {os ox : Operand} (ho : o.op = .call { callee := .builtin .append, args := #[os, ox], argTypes := #[t, t2] }) {hs : List (Nat × HS C)}
  (hhs : ∀ c, (ev σ os).topId = some c → lk hs c = H c) (hhx : ∀ c, (ev σ ox).topId = some c → lk hs c = H c) :
  bF P D B σ H df a w o (zN A tab t t2 (ev σ os) (ev σ ox) hs m) := by
 have hds := aR hR os
 have hdx := aR hR ox
 generalize hss : ev σ os = ss at *
 generalize hsx : ev σ ox = sx at *
 unfold zN
 cases htab : tab t with
 | none => trivial
 | some i =>
  have ht := hT t i htab
  simp only
  split
  case h_2 => trivial
  rename_i e hk
  have hu := bN ht hk
  cases hte : tab e with
  | none => trivial
  | some j =>
   have hj := hT e j hte
   obtain ⟨ie, z, f1, f2, f3, f4, f5, f6⟩ := hj.info
   simp only
   have hex' : ∀ (v : Value) (w' : World), (Builtin.append_ #[t, t2] o.type #[a.eval os, a.eval ox]).run P w = .ok v w' → (execOp a.eval o).run P w = .ok (.value v) w' := fun v w' h => by
    simp [execOp, ho, resolve, invoke, builtin, h]
   have grown : ∀ {E2 : Env} {H2 : Nat → HS C} (hR2 : Rel D B E2 σ H2 df a w) (hm2 : H2 m = .fresh) (u : C.U) (xs zs : List (C.El u)) (olds news : List Value) (sCap : Nat), C.n u = j.size →
     bE D w E2.F (xs.flatMap (D.enc u)) olds → bE D w E2.F (zs.flatMap (D.enc u)) news → (∀ t', C.ty u = some t' → e = t') →
     (Builtin.append_ #[t, t2] o.type #[a.eval os, a.eval ox]).run P w =
      .ok (.slice (some ⟨w.heap.size, 0, none⟩) (xs.length + zs.length) (grownCap w (xs.length + zs.length) sCap e)) (w.drew.alloc (.cells (olds.toArray ++ news.toArray ++ Builtin.zeroCells z.cells (grownCap w (xs.length + zs.length) sCap e - (xs.length + zs.length))) e)) →
     ∃ u' w' E', ((execOp a.eval o).run P w = .ok (.value u') w' ∨ ((execOp a.eval o).run P w = .ok .skip w' ∧ u' = undef)) ∧
      Rel D B E' σ (upH H2 m (.rows u (xs ++ zs))) df a w' ∧ Den D w' E' (.slice m 0 (C.n u) 0 (xs ++ zs).length) u' := by
    intro E2 H2 hR2 hm2 u xs zs olds news sCap hn hol hne hce hrun
    have hR3 := hR2.drew
    have hge := grownCap_ge w (xs.length + zs.length) sCap e
    generalize hcap : grownCap w (xs.length + zs.length) sCap e = cap at *
    have hcells : (olds.toArray ++ news.toArray ++ Builtin.zeroCells z.cells (cap - (xs.length + zs.length))).size = cap * C.n u := by
     simp only [Array.size_append, List.size_toArray, size_zeroCells, f5, hol.len, hne.len, ← hn, ← Nat.add_mul]
     congr 1
     omega
    refine ⟨_, _, E2.up m (.loc w.drew.heap.size), .inl (hex' _ _ hrun), ?_, ?_⟩
    ·refine hR3.alloc hm2 _ e ⟨_, e, ⟨Row.new (heap_alloc_new w.drew _), hce⟩, ?_, ?_⟩
     ·rw [hcells, List.length_append]; exact Nat.mul_le_mul_right _ hge
     ·have happ := (hol.append hne)
      rw [← List.flatMap_append] at happ
      have hlen : (olds ++ news).length = (xs ++ zs).length * C.n u := happ.len
      have hh : (olds.toArray ++ news.toArray ++ Builtin.zeroCells z.cells (cap - (xs.length + zs.length))).toList.take ((xs ++ zs).length * C.n u) = olds ++ news := by
       simp only [Array.toList_append]
       exact List.take_left' hlen
      rw [hh]
      exact happ.mono (cJ (jHβ hR3.sat hm2) _ hR3.sat.F).F
    ·simp only [Den, Env.up_same]
     refine .inr ⟨cap, _, e, by simp, by rw [List.length_append]; exact hge, Row.new (heap_alloc_new w.drew _), ?_⟩
     rw [hcells]; simp
   split
   ·
    rename_i c o' n off len
    split
    case h_2 => trivial
    rename_i u xs hlk
    have hHc : H c = .rows u xs := by rw [← hhs c rfl]; exact hlk
    cases hfit0 : Nv (C.ty u) e with
    | false => trivial
    | true =>
    have hce : ∀ t', C.ty u = some t' → e = t' := fun t' h => by
     rw [h] at hfit0; exact Nat.eq_of_beq_eq_true hfit0
    simp only
    split
    case h_2 => trivial
    rename_i p zs hsrc
    rintro ⟨hp, hlx, hn, hju, hby, h63, hne, hcm⟩
    obtain ⟨news, hS⟩ := uG A hT hR.sat hu hdx hhx hsrc hp (size := ie.size) (f2.trans hju)
    have hpn' := hS.den
    have hnews := hS.first
    have hnl : news.length = zs.length * ie.size := by rw [hpn'.len, f2, hju]
    have hlive : (H c).live = true := by rw [hHc]; rfl
    have hxt : (xs.take len).length = len := by simp; omega
    rcases bT hR.sat hlive hds with ⟨rfl, hnil⟩ | ⟨b, cap', cs, T, hb, es, hlc, hcs, hsz⟩
    ·
     have hos : ∃ base, a.eval os = .slice base 0 0 := by
      rcases hnil with ⟨ad, e, _⟩ | ⟨ad, _, e, _⟩
      ·exact ⟨_, e⟩
      ·exact ⟨_, e⟩
     obtain ⟨base, es⟩ := hos
     have holds : ∀ w' : World, (∀ a, w'.cell? a = w.cell? a) → (Builtin.firstCells ie.size 0 (.slice base 0 0)).run P w' = .ok ([] : List Value).toArray w' := fun w' _ => by
      cases base with
      | none => simp [Builtin.firstCells]
      | some ad => simp [Builtin.firstCells, loadCells, loadCellsFrom]
     rcases dM (w := w) (ty := o.type) hu f1 f4 hS.typ hS.len hnews holds (by omega) (by rw [f3]; exact hby) with ⟨hg, hrun⟩ | ⟨hg, hrun⟩
     ·rw [← es] at hrun
      have := grown (hR.kill c) (by simp [upH, Ne.symm hcm, hm]) u [] zs [] news 0 hju.symm ⟨rfl, fun j pv v hp _ => by simp at hp⟩ hpn' hce (by simpa using hrun)
      simpa [fX, kH] using this
     ·have hz0 : zs = [] := List.eq_nil_of_length_eq_zero (by omega)
      subst hz0
      have hnews0 : news = [] := List.eq_nil_of_length_eq_zero (by rw [hnl]; simp)
      have hr : (Builtin.append_ #[t, t2] o.type #[a.eval os, a.eval ox]).run P w = .ok (.slice base 0 0) w := by
       rw [es, hrun, hnews0]
       cases base <;> simp [storeCells]
      have hcut := hR.cut hHc 0
      have hm' : upH H c (.rows u (xs.take 0)) m = .fresh := by simp [upH, Ne.symm hcm, hm]
      have hren := hcut.rename (c := c) hm' (by simp [upH, HS.live])
      refine ⟨.slice base 0 0, w, (E.up c .dead).up m (E.β c), .inl (hex' _ _ hr), ?_, ?_⟩
      ·show Rel D B _ σ (upH (upH H c .dead) m (.rows u (xs.take 0 ++ []))) df a w
       have e3 : upH (upH (upH H c (.rows u (xs.take 0))) c .dead) m ((upH H c (.rows u (xs.take 0))) c) = upH (upH H c .dead) m (.rows u (xs.take 0 ++ [])) := by
        funext q
        simp only [upH, if_true, List.append_nil]
        by_cases h1 : q = m
        ·rw [if_pos h1, if_pos h1]
        ·rw [if_neg h1, if_neg h1]
         by_cases h2 : q = c
         ·rw [if_pos h2, if_pos h2]
         ·rw [if_neg h2, if_neg h2, if_neg h2]
       rw [← e3]
       exact hren
      ·simp only [Den, Env.up_same, List.append_nil, List.take_zero, List.length_nil]
       rcases hnil with ⟨ad, e, hβ⟩ | ⟨ad, b, e, hβ⟩
       ·rw [hβ]; exact ⟨_, rfl, by first | rfl | trivial⟩
       ·rw [hβ]; exact .inl ⟨trivial, _, rfl⟩
    ·
     subst hn
     have hat : (H c).at D w E b := by
      have := hR.sat.ok c
      rw [hb] at this; exact this
     rw [hHc] at hat
     obtain ⟨cs', T', ⟨hcs', hTy⟩, hz1, hz2⟩ := hat
     obtain ⟨rfl, rfl⟩ := hcs.inj hcs'
     simp only [Nat.zero_mul, Nat.zero_add] at es hsz
     have hcl : len * C.n u ≤ cs.size := by
      have := Nat.mul_le_mul_right (C.n u) hlx
      omega
     have holen : (cs.toList.take (len * C.n u)).length = len * ie.size := by
      rw [f2, hju]; simp; omega
     have holds : ∀ w' : World, (∀ a, w'.cell? a = w.cell? a) → (Builtin.firstCells ie.size len (.slice (some ⟨b, 0, none⟩) len cap')).run P w' = .ok (cs.toList.take (len * C.n u)).toArray w' := fun w' hw' =>
      run_firstCells_some w' ie.size len _ len cap' _ holen fun jj v hv => by
       rw [hw', Addr.add_lit, Nat.zero_add, gC hcs]
       rw [List.getElem?_take] at hv
       split at hv
       ·exact hv
       ·cases hv
     have hold : bE D w E.F ((xs.take len).flatMap (D.enc u)) (cs.toList.take (len * C.n u)) := by
      have h4 := hz2.take (len * C.n u)
      rw [List.take_take, Nat.min_eq_left (Nat.mul_le_mul_right _ hlx), ← dA] at h4
      exact h4
     rcases dM (w := w) (ty := o.type) hu f1 f4 hS.typ hS.len hnews holds (by omega) (by rw [f3]; exact hby) with ⟨hg, hrun⟩ | ⟨hg, hrun⟩
     ·rw [← es] at hrun
      have := grown (hR.kill c) (by simp [upH, Ne.symm hcm, hm]) u (xs.take len) zs _ news cap' hju.symm hold hpn' hce (by rw [hxt]; exact hrun)
      simpa [fX, kH] using this
     ·have hfit : (len + zs.length) * C.n u ≤ cs.size := Nat.le_trans (Nat.mul_le_mul_right _ hg) hsz
      have hst := cS (P := P) (o := len * C.n u) news 0 cs w hcs (by rw [hpn'.len, Nat.add_zero, ← Nat.add_mul]; exact hfit) hpn'.oneCell
      simp only [Nat.add_zero] at hst
      generalize hcs2 : (cs.toList.take (len * C.n u) ++ news ++ cs.toList.drop (len * C.n u + news.length)).toArray = cs2 at *
      have hr : (Builtin.append_ #[t, t2] o.type #[a.eval os, a.eval ox]).run P w = .ok (.slice (some ⟨b, 0, none⟩) (len + zs.length) cap') (w.setRow b cs2) := by
       rw [es, hrun]
       simp only [Addr.add_lit, Nat.zero_add, f2, hju, Sem.run_bind, hst, Result.andThen_ok, Sem.run_pure]
      have hsz2 : cs2.size = cs.size := by
       rw [← hcs2]
       simp only [List.size_toArray, List.length_append, List.length_take, List.length_drop, Array.length_toList, hpn'.len]
       rw [Nat.add_mul] at hfit
       omega
      have happ := hold.append hpn'
      rw [← List.flatMap_append] at happ
      have hset := hR.setRow hb hcs hsz2 (hs := .rows u (xs.take len ++ zs)) fun hL => ⟨cs2, T, ⟨hcs.set hsz2, hTy⟩, by
        rw [List.length_append, hxt, hsz2]; exact hfit, by
        have : cs2.toList.take ((xs.take len ++ zs).length * C.n u) = cs.toList.take (len * C.n u) ++ news := by
         rw [← hcs2]
         exact List.take_left' happ.len
        rw [this]
        exact happ.mono hL.F⟩
      have hm' : upH H c (.rows u (xs.take len ++ zs)) m = .fresh := by simp [upH, Ne.symm hcm, hm]
      have hren := hset.rename (c := c) hm' (by simp [upH, HS.live])
      refine ⟨_, w.setRow b cs2, (E.up c .dead).up m (E.β c), .inl (hex' _ _ hr), ?_, ?_⟩
      ·show Rel D B _ σ (upH (upH H c .dead) m (.rows u (xs.take len ++ zs))) df a (w.setRow b cs2)
       have e3 : upH (upH (upH H c (.rows u (xs.take len ++ zs))) c .dead) m ((upH H c (.rows u (xs.take len ++ zs))) c) = upH (upH H c .dead) m (.rows u (xs.take len ++ zs)) := by
        funext q
        simp only [upH, if_true]
        by_cases h1 : q = m
        ·rw [if_pos h1, if_pos h1]
        ·rw [if_neg h1, if_neg h1]
         by_cases h2 : q = c
         ·rw [if_pos h2, if_pos h2]
         ·rw [if_neg h2, if_neg h2, if_neg h2]
       rw [← e3]
       exact hren
      ·simp only [Den, Env.up_same, hb]
       refine .inr ⟨cap', cs2, T, by rw [List.length_append, hxt]; simp, by rw [List.length_append, hxt]; exact hg, hcs.set hsz2, ?_⟩
       rw [hsz2]; simpa using hsz
   ·
    rename_i u xs
    cases hfit0 : Nv (C.ty u) e with
    | false => trivial
    | true =>
    have hce : ∀ t', C.ty u = some t' → e = t' := fun t' h => by
     rw [h] at hfit0; exact Nat.eq_of_beq_eq_true hfit0
    simp only
    split
    case h_2 => trivial
    rename_i p zs hsrc
    rintro ⟨hp, hju, hz0, hby, h63⟩
    obtain ⟨news, hS⟩ := uG A hT hR.sat hu hdx hhx hsrc hp (size := ie.size) (f2.trans hju)
    have hpn' := hS.den
    have hnews := hS.first
    simp only [Den] at hds
    obtain ⟨ad, hev, hdd⟩ : ∃ ad, a.eval os = .slice ad xs.length xs.length ∧ eM D w E.F (.dsl u xs) (.slice ad xs.length xs.length) := by
     generalize a.eval os = vs at hds
     cases hds with
     | fds _ _ ad h => exact ⟨ad, rfl, h⟩
    obtain ⟨ax, cap, olds, he, hold, hcells⟩ := B5 (l := []) (x := .p (.dsl u xs)) hR.sat (by simp only [Den]; exact hdd) (fun c h => by cases h) (u := u) (ys := xs) rfl trivial
    cases he
    have holen : olds.length = xs.length * ie.size := by rw [hold.len, f2, hju]
    have holds : ∀ w' : World, (∀ a, w'.cell? a = w.cell? a) → (Builtin.firstCells ie.size xs.length (.slice ad xs.length xs.length)).run P w' = .ok olds.toArray w' := fun w' hw' => by
     rcases hcells with ⟨rfl, rfl⟩ | ⟨ad', rfl, hc⟩
     ·simp [Builtin.firstCells]
     ·exact run_firstCells_some w' ie.size xs.length ad' xs.length _ olds holen fun j u hu => (hw' _).trans (hc j u hu)
    rcases dM (w := w) (ty := o.type) hu f1 f4 hS.typ hS.len hnews holds h63 (by rw [f3]; exact hby) with ⟨hg, hrun⟩ | ⟨hg, hrun⟩
    ·rw [← hev] at hrun
     have := grown hR hm u xs zs olds news xs.length hju.symm hold hpn' hce hrun
     simpa [fX, kH] using this
    ·omega
   ·
    cases hcode : j.code with
    | none => trivial
    | some u =>
     simp only
     split
     case h_2 => trivial
     rename_i p zs hsrc
     have key : bF P D B σ H df a w o (M6 u m none (p ∧ j.size = C.n u ∧ zs.length * j.bytes ≤ 140737488355328 ∧ zs.length ≤ 9223372036854775807) zs) ∧
       (zs = [] → bF P D B σ H df a w o (.side (p ∧ j.size = C.n u ∧ zs.length * j.bytes ≤ 140737488355328 ∧ zs.length ≤ 9223372036854775807) (.p (.lit (.slice none 0 0))))) := ?_
     ·unfold Pr
      split
      ·exact key.1
      ·split
       ·exact key.2 rfl
       ·exact key.1
     refine ⟨?_, ?_⟩
     rotate_left
     ·rintro rfl ⟨hp, hju, hby, h63⟩
      obtain ⟨news, hS⟩ := uG A hT hR.sat hu hdx hhx hsrc hp (size := ie.size) (f2.trans hju)
      have hnews := hS.first
      have es := bR hds
      have hn0 : news = [] := List.eq_nil_of_length_eq_zero (by rw [hS.sz]; simp)
      have holds : ∀ w' : World, (∀ a, w'.cell? a = w.cell? a) → (Builtin.firstCells ie.size 0 (.slice none 0 0)).run P w' = .ok ([] : List Value).toArray w' := fun w' _ => by
       simp [Builtin.firstCells]
      rcases dM (w := w) (ty := o.type) (base := none) (sLen := 0) (sCap := 0) hu f1 f4 hS.typ hS.len hnews holds (by simp) (by simp) with ⟨hg, _⟩ | ⟨_, hrun⟩
      ·simp at hg
      ·have hr : (Builtin.append_ #[t, t2] o.type #[a.eval os, a.eval ox]).run P w = .ok (.slice none 0 0) w := by
        rw [es, hrun]; simp
       exact aH hR (hex' _ _ hr) (by simp only [Den]; exact .lit _ rfl)
     rintro ⟨hp, hju, hby, h63⟩
     obtain ⟨news, hS⟩ := uG A hT hR.sat hu hdx hhx hsrc hp (size := ie.size) (f2.trans hju)
     have hpn' := hS.den
     have hnews := hS.first
     have hnl : news.length = zs.length * ie.size := by rw [hpn'.len, f2, hju]
     have hce : ∀ t', C.ty u = some t' → e = t' := fun t' h => (hj.ctype u t' hcode h).symm
     have es := bR hds
     have holds : ∀ w' : World, (∀ a, w'.cell? a = w.cell? a) → (Builtin.firstCells ie.size 0 (.slice none 0 0)).run P w' = .ok ([] : List Value).toArray w' := fun w' _ => by
      simp [Builtin.firstCells]
     rcases dM (w := w) (ty := o.type) hu f1 f4 hS.typ hS.len hnews holds (by omega) (by rw [f3]; simpa using hby) with ⟨hg, hrun⟩ | ⟨hg, hrun⟩
     ·rw [← es] at hrun
      have := grown hR hm u [] zs [] news 0 hju.symm ⟨rfl, fun j pv v hp _ => by simp at hp⟩ hpn' hce (by simpa using hrun)
      simpa [fX, kH] using this
     ·have hz0 : zs = [] := List.eq_nil_of_length_eq_zero (by omega)
      subst hz0
      have hr : (Builtin.append_ #[t, t2] o.type #[a.eval os, a.eval ox]).run P w = .ok (.slice none 0 0) w := by
       rw [es, hrun]; simp
      refine ⟨_, _, _, .inl (hex' _ _ hr), hR.virt hm u, ?_⟩
      simp only [Den, Env.up_same, List.length_nil]
      exact ⟨none, by first | rfl | trivial, by first | rfl | trivial⟩
   ·trivial
end
end Go.SX
namespace Go.SX
open Go.RowKit
variable {C : Cod}
section
variable {P : Program} {D : aL C} {tab : Tab C} {B : dZ} {E : Env} {σ : Nat → SV C} {H : Nat → HS C} {df : List Deferred} {a : Act} {w : World} {o : Oper}
theorem yF {t : TypeId} {i : TI C} (ht : rY P D t i) {e : TypeId} (hk : i.kind = .ptr e) : P.underlying t = some (.pointer e) := by
 obtain ⟨d, hu, hkk⟩ := ht.und
 rw [hk] at hkk; simp only [iG] at hkk; subst hkk; exact hu
theorem Gn {t : TypeId} {i : TI C} (ht : rY P D t i) (hk : i.kind = .uptr) : P.underlying t = some .unsafePointer := by
 obtain ⟨d, hu, hkk⟩ := ht.und
 rw [hk] at hkk; simp only [iG] at hkk; subst hkk; exact hu
theorem Ff {t : TypeId} {i : TI C} (ht : rY P D t i) {k : IntKind} (hk : i.kind = .int k) : P.underlying t = some (.int k) := by
 obtain ⟨d, hu, hkk⟩ := ht.und
 rw [hk] at hkk; simp only [iG] at hkk; subst hkk; exact hu
theorem P9 (w : World) (cs : Array Value) (e : TypeId) : (w.alloc (.cells cs e)).freeze ⟨w.heap.size, cs.size, none⟩ 1 = w.alloc (.cells cs e (cs.size, cs.size + 1)) := by
 unfold World.freeze
 rw [if_neg (by omega)]
 unfold World.alloc
 simp only [World.mk.injEq, and_true]
 apply Array.ext_getElem?
 intro i
 simp only [Array.getElem?_modify, Array.getElem?_push]
 by_cases h : i = w.heap.size
 ·subst h; simp
 ·simp [h, Ne.symm h]
theorem W3 (n : Nat) : Xr (n, n + 1) n := fun o h1 h2 _ => by simp at h2; omega
theorem Dt (ns : List Int) (s : ByteArray) : ns.foldl (fun r n => r.push (UInt8.ofNat n.toNat)) s = ⟨⟨s.data.toList ++ ns.map fun n => UInt8.ofNat n.toNat⟩⟩ := by
 induction ns generalizing s with
 | nil => obtain ⟨⟨l⟩⟩ := s; simp
 | cons n ns ih =>
  rw [List.foldl_cons, ih]
  apply ByteArray.ext
  simp [ByteArray.push]
theorem wX {F : Nat → Prop} {l : List (PV C)} {news : List Value} {ns : List Int} (h : bE D w F l news) (hl : l = ns.map (PV.int .u8)) : news = ns.map (Value.int .u8) := by
 subst hl
 apply List.ext_getElem?
 intro j
 have hlen := h.1
 rw [List.length_map] at hlen
 by_cases hj : j < ns.length
 ·have h1 : (ns.map (PV.int (C := C) .u8))[j]? = some (.int .u8 ns[j]) := by simp [hj]
  obtain ⟨v, h2⟩ : ∃ v, news[j]? = some v := ⟨_, List.getElem?_eq_getElem (by omega)⟩
  have := h.2 j _ _ h1 h2
  cases this
  rw [h2]; simp [hj]
 ·rw [List.getElem?_eq_none (by omega), List.getElem?_eq_none (by simp; omega)]
theorem xD {hs : List (Nat × HS C)} (A : Aux C D) (hT : bH P D tab) (hR : Rel D B E σ H df a w) {src dst : TypeId} {ox : Operand} (ho : o.op = .convert src dst ox) {e : TypeId}
  (hsrc : P.underlying src = some (.slice e)) (he : P.underlying e = some (.int .u8)) (hdst : P.underlying dst = some .string) {sx : SV C} (hx : Den D w E sx (a.eval ox)) (hhs : ∀ c, sx.topId = some c → lk hs c = H c)
  {u : C.U} {ys : List (C.El u)} (hq : Jd hs sx = .some u ys) (hlen : uN u ys sx) {l : List UInt8} (hb : A.toBytes u ys = some l) : fX P D B σ H df a w o (.p (.str l)) [] := by
 obtain ⟨hn1, ns, h1, rfl⟩ := A.toBytes_ok _ _ _ hb
 obtain ⟨ax, cap, news, hv, hpn, hcase⟩ := B5 hR.sat hx hhs hq hlen
 have hnews := wX hpn h1
 have hyl : ys.length = ns.length := by
  have := congrArg List.length h1
  rw [aQ, hn1] at this
  simpa using this
 subst hnews
 refine aH hR (u := .string ⟨⟨ns.map fun n => UInt8.ofNat n.toNat⟩⟩) ?_ (wZ _)
 have hconv := run_convert_bytes_string (P := P) w src dst e ax ys.length cap hsrc he hdst
 have hfin : (Conv.bytesToString (.slice ax ys.length cap)).run P w = .ok (.string ⟨⟨ns.map fun n => UInt8.ofNat n.toNat⟩⟩) w := by
  rcases hcase with ⟨rfl, h0⟩ | ⟨ad, rfl, hc⟩
  ·have hz : ns = [] := by simpa using h0
   subst hz
   rfl
  ·have hld := run_loadCells_list (P := P) w ad (ns.map (Value.int .u8)) hc
   rw [List.length_map, ← hyl] at hld
   rw [run_bytesToString w ad _ cap ns hld, Dt]
   simp
 simp [execOp, ho, hv, hconv, hfin]
theorem qT : ∀ (vs : List (SV C)) (cs : List Value), DenC D w E vs cs → cs.length = tO vs
 | [], cs, h => by simp only [DenC] at h; subst h; rfl
 | x :: r, cs, h => by
  cases hx : x.isArr with
  | false =>
   rw [aZ hx] at h
   obtain ⟨v, v2, rfl, _, _, h3⟩ := h
   have ih := qT r v2 h3
   have e : tO (x :: r) = 1 + tO r := by cases x <;> first | rfl | (simp [SV.isArr] at hx)
   rw [e, List.length_cons, ih, Nat.add_comm]
  | true =>
   obtain ⟨u, N, xs, rfl⟩ := SV.arr_of hx
   simp only [DenC] at h
   obtain ⟨h0, v1, v2, rfl, h2, h3⟩ := h
   have ih := qT r v2 h3
   simp only [tO, List.length_append, ih, h2.len, h0]
theorem Qx (hT : bH P D tab) (hs : Sat D w E H) {c : Nat} {t : TypeId} (h : zT tab t (H c) = true) :
  ∃ b cs it info, E.β c = .loc b ∧ tab t = some it ∧ it.typed = true ∧ P.info? t = some info ∧ info.size = it.size ∧ 0 < it.size ∧ w.shape? b = some (t, (cs : Array Value).size) ∧ liesAt P P.depth t (cs.size / P.cellsOf t) 0 t 1 = true ∧ cs.size = it.size := by
 unfold zT at h
 split at h
 ·rename_i t' vs hH
  split at h
  ·rename_i hbe
   have htt := Nat.eq_of_beq_eq_true hbe
   subst htt
   split at h
   ·rename_i it htab
    split at h
    ·rename_i hty
     have hsz := Nat.eq_of_beq_eq_true h
     obtain ⟨b, cs, T, hb, ⟨⟨z, h1, _⟩, h2⟩, h3⟩ := X9 hs hH
     have hT' := h2 t' rfl
     subst hT'
     have hlen := qT vs cs.toList h3
     rw [Array.length_toList, hsz] at hlen
     have ht := hT T it htab
     obtain ⟨info, zz, f1, f2, _⟩ := ht.info
     refine ⟨b, cs, it, info, hb, htab, hty, f1, f2, ht.pos, ?_, ?_, hlen⟩
     ·unfold World.shape?; rw [h1]
     ·rw [hlen]; exact ht.lies hty
    ·cases h
   ·cases h
  ·cases h
 ·cases h
theorem Sg (A : Aux C D) (hT : bH P D tab) (hR : Rel D B E σ H df a w) {m : Nat} (hm : H m = .fresh) {src dst : TypeId} {ox : Operand} (ho : o.op = .convert src dst ox) {hs : List (Nat × HS C)} (hhs : ∀ c, (ev σ ox).topId = some c → lk hs c = H c) :
  bF P D B σ H df a w o (Fz A tab src dst (ev σ ox) hs m) := by
 have hx := aR hR ox
 have hold := Ec hT hR ho
 generalize hsx : ev σ ox = sx at *
 unfold Fz
 cases hsrc : tab src with
 | none => trivial
 | some i =>
 cases hdst : tab dst with
 | none => trivial
 | some k =>
 simp only
 have ht := hT src i hsrc
 have hd := hT dst k hdst
 split
 ·
  rename_i e hke
  have hud := bN hd hke
  split
  ·rename_i l hki
   have hus := vY ht hki
   have hv := gL hx
   cases hte : tab e with
   | none => trivial
   | some j =>
    have hj := hT e j hte
    simp only
    split
    ·rename_i hkj
     have hue := Ff hj hkj
     cases hcode : j.code with
     | none => trivial
     | some u =>
      simp only
      split
      ·rename_i xs hz
       obtain ⟨hn1, hfm⟩ := A.ofBytes_ok _ _ _ hz
       have hxl : xs.length = l.length := by
        have := congrArg List.length hfm
        rw [aQ, hn1] at this
        simpa using this
       have hcap := grownCap_ge w l.length 0 e
       obtain ⟨cap, hcapd⟩ : ∃ cap, grownCap w l.length 0 e = cap := ⟨_, rfl⟩
       rw [hcapd] at hcap
       obtain ⟨cs, hcs⟩ : ∃ cs : Array Value, (l.map fun b => Value.int .u8 (b.toNat : Int)).toArray ++ Array.replicate (cap - l.length) (.int .u8 0) = cs := ⟨_, rfl⟩
       have hcsz : cs.size = cap := by rw [← hcs]; simp; omega
       have hrun : (execOp a.eval o).run P w = .ok (.value (.slice (some ⟨w.heap.size, 0, none⟩) l.length cap)) (w.drew.alloc (.cells cs e (cs.size, cs.size + 1))) := by
        have hconv := Lib.run_convert_string_bytes (P := P) w src dst e ⟨⟨l⟩⟩ hus hud hue
        have hcells : Lib.bytesCells w e ⟨⟨l⟩⟩ = cs := by
         rw [← hcs, ← hcapd]
         simp [Lib.bytesCells, tB]
        have hw : Lib.bytesWorld w e ⟨⟨l⟩⟩ = w.drew.alloc (.cells cs e (cs.size, cs.size + 1)) := by
         unfold Lib.bytesWorld
         rw [hcells]
         exact P9 w.drew cs e
        rw [tB, hcapd, hw] at hconv
        simp [execOp, ho, hv, hconv]
       have hL := cJ (w := w.drew) (jHβ hR.drew.sat hm) (.cells cs e (cs.size, cs.size + 1)) hR.drew.sat.F
       have hrow : Row (w.drew.alloc (.cells cs e (cs.size, cs.size + 1))) w.drew.heap.size cs e := ⟨_, heap_alloc_new w.drew _, W3 _⟩
       refine ⟨_, _, E.up m (.loc w.drew.heap.size), .inl hrun, ?_, ?_⟩
       ·rw [dQ]
        refine hR.drew.allocO hm _ ⟨cs, e, ⟨hrow, fun t h => (hj.ctype u t hcode h).symm⟩, ?_, ?_⟩
        ·rw [hn1, hxl, hcsz]; omega
        ·have e1 : cs.toList.take (xs.length * C.n u) = l.map fun b => Value.int .u8 (b.toNat : Int) := by
          rw [hn1, hxl, ← hcs]
          simp
         rw [e1, hfm]
         exact pI l
       ·simp only [Den, Env.up_same]
        refine .inr ⟨cap, cs, e, by rw [hxl]; simp, by omega, hrow, ?_⟩
        rw [hn1, hcsz]; omega
      ·trivial
    ·trivial
  ·trivial
 ·
  rename_i hke
  have hud := vY hd hke
  split
  ·rename_i l hki
   have hus := vY ht hki
   have hv := gL hx
   exact aH hR (u := .string ⟨⟨l⟩⟩) (by simp [execOp, ho, hv, convert, run_underlying hus, run_underlying hud]) (wZ _)
  ·rename_i e u xs hki
   have hus := bN ht hki
   cases hte : tab e with
   | none => trivial
   | some j =>
    simp only
    split
    ·rename_i hkj
     have hue := Ff (hT e j hte) hkj
     split
     ·rename_i l hb
      exact xD (hs := hs) A hT hR ho hus hue hud hx hhs (u := u) (ys := xs) rfl trivial hb
     ·trivial
    ·trivial
  ·rename_i e c o' n off len hki
   have hus := bN ht hki
   cases hte : tab e with
   | none => trivial
   | some j =>
    simp only
    split
    ·rename_i hkj
     have hue := Ff (hT e j hte) hkj
     split
     ·rename_i u xs hsq
      split
      ·rename_i l hb
       rintro ⟨h1, h2⟩
       exact xD (hs := hs) A hT hR ho hus hue hud hx hhs (u := u) (ys := (xs.drop off).take len) (by simp [Jd, hsq]) ⟨h1, h2⟩ hb
      ·trivial
     ·trivial
    ·trivial
  ·trivial
 ·
  rename_i hke
  have hud := Gn hd hke
  split
  ·rename_i t c o' hki
   have hus := yF ht hki
   split
   ·split
    ·rename_i hvr
     rw [hhs c rfl] at hvr
     obtain ⟨b, cs, it, info, hb, htab, hty, hinf, hsz, h0, hsh, hlies, hcs0⟩ := Qx hT hR.sat hvr
     have hv := eX hx hb
     have hrun := Lib.run_to_unsafe (P := P) w (src := src) (dst := dst) (t := t) ⟨b, 0, none⟩ hus hud hinf (by omega) hsh (by show 0 < cs.size; omega)
     exact aH hR (u := .pointer (some ⟨b, 0, none⟩)) (by simp [execOp, ho, hv, hrun]) (by simp only [Den, hb])
    ·trivial
   ·trivial
  ·trivial
 ·
  rename_i t hke
  have hud := yF hd hke
  split
  ·rename_i c o' hki
   have hus := Gn ht hki
   split
   ·split
    ·rename_i hvr
     rw [hhs c rfl] at hvr
     obtain ⟨b, cs, it, info, hb, htab, hty, hinf, hsz, h0, hsh, hlies, hcs0⟩ := Qx hT hR.sat hvr
     have hv := eX hx hb
     have hrun := Lib.run_from_unsafe (P := P) w (src := src) (dst := dst) (u := t) ⟨b, 0, none⟩ hus hud hinf hsh hlies
     exact aH hR (u := .pointer (some ⟨b, 0, none⟩)) (by simp [execOp, ho, hv, hrun]) (by simp only [Den, hb])
    ·trivial
   ·trivial
  ·trivial
 ·exact hold
theorem sD (hR : Rel D B E σ H df a w) {op : BinOp} {t yt : TypeId} {ox oy : Operand} (ho : o.op = .binOp op t ox oy yt) {b : Bool}
  (hg : ∀ op : BinOp, ∃ u, (eqGuard op t ox oy (a.eval ox) (a.eval oy)).run P w = .ok u w) (h1 : (binOp .eql t (a.eval ox) (a.eval oy)).run P w = .ok (.bool b) w) (h2 : (binOp .neq t (a.eval ox) (a.eval oy)).run P w = .ok (.bool !b) w) : bF P D B σ H df a w o (K7 op b) := by
 unfold K7
 obtain ⟨u1, g1⟩ := hg .eql
 obtain ⟨u2, g2⟩ := hg .neq
 split
 ·exact aH hR (u := .bool b) (by simp [execOp, ho, h1, g1]) (bJ _)
 ·exact aH hR (u := .bool !b) (by simp [execOp, ho, h2, g2]) (bJ _)
 ·trivial
theorem Ag (hT : bH P D tab) (hR : Rel D B E σ H df a w) {op : BinOp} {t yt : TypeId} {ox oy : Operand} (ho : o.op = .binOp op t ox oy yt) {p : Prop} (hy : a.eval oy = .slice none 0 0) (hx : ∃ ad n cap, a.eval ox = .slice ad n cap ∧ (ad = none → p)) :
  bF P D B σ H df a w o (Mn tab op t p) := by
 obtain ⟨ad, n, cap, h1, h2⟩ := hx
 unfold Mn
 cases htab : tab t with
 | none => trivial
 | some i =>
  simp only
  split
  ·rename_i e hk
   have hu := bN (hT t i htab) hk
   have key : ∀ d : Nat, (Op.equalIn (d + 1) t (.slice ad n cap) (.slice none 0 0)).run P w = .ok ad.isNone w := fun d => by
    cases ad <;> simp [Op.equalIn, run_underlying hu]
   have hp : ad.isNone = true → p := fun h => h2 (by simpa using h)
   split
   ·refine ⟨ad.isNone, hp, aH hR (u := .bool ad.isNone) ?_ (bJ _)⟩
    simp only [execOp, ho, h1, hy]
    simp [eqGuard, binOp, Op.equal, Op.maxDepth, key 9999]
   ·refine ⟨ad.isNone, hp, aH hR (u := .bool !ad.isNone) ?_ (bJ _)⟩
    simp only [execOp, ho, h1, hy]
    simp [eqGuard, binOp, Op.equal, Op.maxDepth, key 9999]
   ·trivial
  ·trivial
theorem yV (hT : bH P D tab) (hR : Rel D B E σ H df a w) {op : BinOp} {t yt : TypeId} {ox oy : Operand} (ho : o.op = .binOp op t ox oy yt) {b : Bool} (h : (a.eval ox = .nilIface ∧ a.eval oy = .nilIface ∧ b = true ∧ ∃ z, oy = .const z) ∨ ((∃ s u, a.eval ox = .iface s u) ∧ a.eval oy = .nilIface ∧ b = false)) :
  bF P D B σ H df a w o (Cr tab op t b) := by
 unfold Cr
 cases htab : tab t with
 | none => trivial
 | some i =>
  simp only
  split
  ·rename_i hk
   obtain ⟨d, hu, hd⟩ := (hT t i htab).und
   rw [hk] at hd
   obtain ⟨ms, rfl⟩ := hd
   have key : ∀ d : Nat, (Op.equalIn (d + 1) t (a.eval ox) (a.eval oy)).run P w = .ok b w := fun d => by
    rcases h with ⟨h1, h2, h3, _⟩ | ⟨⟨s, u, h1⟩, h2, h3⟩
    ·rw [h1, h2, h3]; simp [Op.equalIn, run_underlying hu]
    ·rw [h1, h2, h3]; simp [Op.equalIn, run_underlying hu]
   have hgd : ∀ op : BinOp, (eqGuard op t ox oy (a.eval ox) (a.eval oy)).run P w = .ok () w := fun op => by
    rcases h with ⟨h1, h2, h3, z, rfl⟩ | ⟨⟨s, u, h1⟩, h2, h3⟩
    ·rw [h1, h2]; unfold eqGuard; cases op <;> simp
    ·rw [h1, h2]; unfold eqGuard; cases op <;> simp
   unfold K7
   split
   ·refine aH hR (u := .bool b) ?_ (bJ _)
    rcases h with ⟨h1, h2, h3, _⟩ | ⟨⟨s, u, h1⟩, h2, h3⟩ <;>
    ·rw [h1, h2] at key hgd
     simp only [execOp, ho, h1, h2, Sem.run_bind, hgd, Result.andThen_ok]
     simp [binOp, Op.equal, Op.maxDepth, key 9999]
   ·refine aH hR (u := .bool !b) ?_ (bJ _)
    rcases h with ⟨h1, h2, h3, _⟩ | ⟨⟨s, u, h1⟩, h2, h3⟩ <;>
    ·rw [h1, h2] at key hgd
     simp only [execOp, ho, h1, h2, Sem.run_bind, hgd, Result.andThen_ok]
     simp [binOp, Op.equal, Op.maxDepth, key 9999]
   ·trivial
  ·trivial
theorem Ds (hT : bH P D tab) (hR : Rel D B E σ H df a w) {op : BinOp} {t yt : TypeId} {ox oy : Operand} (ho : o.op = .binOp op t ox oy yt) (h : R5 (ev σ ox) (ev σ oy) oy = true) : bF P D B σ H df a w o (Cr tab op t true) := by
 have hx := aR hR ox
 have hy := aR hR oy
 generalize ev σ ox = sx at *
 generalize ev σ oy = sy at *
 unfold R5 at h
 split at h
 ·exact yV hT hR ho (.inl ⟨bR hx, bR hy, rfl, _, rfl⟩)
 ·cases h
theorem Ib (A : Aux C D) (hT : bH P D tab) (hR : Rel D B E σ H df a w) {op : BinOp} {t yt : TypeId} {ox oy : Operand} (ho : o.op = .binOp op t ox oy yt) {hs : List (Nat × HS C)} (hhs : ∀ c, (ev σ ox).topId = some c → lk hs c = H c) :
  bF P D B σ H df a w o (Z9 A tab op t (ev σ ox) (ev σ oy) hs) := by
 have hx := aR hR ox
 have hy := aR hR oy
 have hold := Xp A hT hR ho
 generalize ev σ ox = sx at *
 generalize ev σ oy = sy at *
 unfold Z9
 split
 ·refine yV hT hR ho (.inr ⟨⟨_, _, bR hx⟩, bR hy, rfl⟩)
 ·simp only [Den] at hx
  obtain ⟨v, hx, _⟩ := hx
  refine yV hT hR ho (.inr ⟨⟨_, _, hx⟩, bR hy, rfl⟩)
 ·rename_i u xs
  refine Ag hT hR ho (bR hy) ?_
  simp only [Den] at hx
  generalize a.eval ox = vx at hx
  cases hx with
  | dslNil _ ad cap => exact ⟨_, _, _, rfl, fun _ => rfl⟩
  | dsl => exact ⟨_, _, _, rfl, fun h => by cases h⟩
 ·rename_i c o' n off len
  refine bO fun hl => ?_
  rw [hhs c rfl] at hl
  refine Ag hT hR ho (bR hy) ?_
  rcases bT hR.sat hl hx with ⟨h0, ⟨ad, e, _⟩ | ⟨ad, b, e, _⟩⟩ | ⟨b, cap, cs, T, _, e, _⟩
  ·exact ⟨_, _, _, e, fun _ => h0⟩
  ·exact ⟨_, _, _, e, fun _ => h0⟩
  ·exact ⟨_, _, _, e, fun h => by cases h⟩
 ·cases htab : tab t with
  | none => trivial
  | some i =>
   simp only
   split
   ·rename_i e hk
    have hu := bN (hT t i htab) hk
    have h1 := bR hx
    have h2 := bR hy
    have key : ∀ d : Nat, (Op.equalIn (d + 1) t (.slice none 0 0) (.slice none 0 0)).run P w = .ok true w := fun d => by
     simp [Op.equalIn, run_underlying hu]
    refine sD hR ho (fun op => ⟨(), by rw [h1, h2]; simp [eqGuard]⟩) ?_ ?_
    ·rw [h1, h2]; simp only [binOp]; simp [Op.equal, Op.maxDepth, key 9999]
    ·rw [h1, h2]; simp only [binOp]; simp [Op.equal, Op.maxDepth, key 9999]
   ·trivial
 ·rename_i c o'
  cases htab : tab t with
  | none => trivial
  | some i =>
   simp only
   split
   ·rename_i e hk
    have hu := yF (hT t i htab) hk
    refine bO fun hl => ?_
    rw [hhs c rfl] at hl
    obtain ⟨b, hb⟩ := jX hR.sat hl hx
    have h1 := eX hx hb
    have h2 := bR hy
    have key : ∀ d : Nat, (Op.equalIn (d + 1) t (.pointer (some ⟨b, o', none⟩)) (.pointer none)).run P w = .ok false w := fun d => by
     simp [Op.equalIn, run_underlying hu]
    refine sD hR ho (fun op => ⟨(), by rw [h1, h2]; simp [eqGuard]⟩) ?_ ?_
    ·rw [h1, h2]; simp only [binOp]; simp [Op.equal, Op.maxDepth, key 9999]
    ·rw [h1, h2]; simp only [binOp]; simp [Op.equal, Op.maxDepth, key 9999]
   ·trivial
 ·cases htab : tab t with
  | none => trivial
  | some i =>
   simp only
   split
   ·rename_i e hk
    have hu := yF (hT t i htab) hk
    have h1 := bR hx
    have h2 := bR hy
    have key : ∀ d : Nat, (Op.equalIn (d + 1) t (.pointer none) (.pointer none)).run P w = .ok true w := fun d => by
     simp [Op.equalIn, run_underlying hu]
    refine sD hR ho (fun op => ⟨(), by rw [h1, h2]; simp [eqGuard]⟩) ?_ ?_
    ·rw [h1, h2]; simp only [binOp]; simp [Op.equal, Op.maxDepth, key 9999]
    ·rw [h1, h2]; simp only [binOp]; simp [Op.equal, Op.maxDepth, key 9999]
   ·trivial
 ·rename_i c o' c' o''
  cases htab : tab t with
  | none => trivial
  | some i =>
   simp only
   split
   ·rename_i e hk
    have hu := yF (hT t i htab) hk
    cases hte : tab e with
    | none => trivial
    | some j =>
     obtain ⟨info, z, f1, _⟩ := (hT e j hte).info
     simp only
     split
     ·rename_i hc
      have hc' := Nat.eq_of_beq_eq_true hc
      subst hc'
      split
      ·rename_i hc2
       have hc2' := Nat.eq_of_beq_eq_true hc2
       subst hc2'
       refine bO fun hl => ?_
       rw [hhs c rfl] at hl
       obtain ⟨b, hb⟩ := jX hR.sat hl hx
       have h1 := eX hx hb
       have h2 := eX hy hb
       have key : ∀ d : Nat, (Op.equalIn (d + 1) t (.pointer (some ⟨b, o', none⟩)) (.pointer (some ⟨b, o', none⟩))).run P w = .ok true w := fun d => by
        simp [Op.equalIn, run_underlying hu, sizeOf, typeInfo, f1, run_sameAddr_same]
       refine sD hR ho (fun op => ⟨(), by rw [h1, h2]; simp [eqGuard]⟩) ?_ ?_
       ·rw [h1, h2]; simp only [binOp]; simp [Op.equal, Op.maxDepth, key 9999]
       ·rw [h1, h2]; simp only [binOp]; simp [Op.equal, Op.maxDepth, key 9999]
      ·trivial
     ·trivial
   ·trivial
 ·exact hold
end
end Go.SX
