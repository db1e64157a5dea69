/-
  SX, part L: append.
-/
import Derived.Test.YtdaghncicimipaaGreatDoorSxK
set_option linter.unusedVariables false
set_option linter.unusedSimpArgs false
namespace Go.SX
open Go.RowKit
variable {C : Cod}
section
variable {P : Program} {D : Codec C} {tab : Tab C} {B : Base} {E : Env} {σ : Nat → SV C} {H : Nat → HS C} {df : List Deferred} {a : Act} {w : World} {o : Oper}

theorem flatMap_drop (u : C.U) : ∀ (xs : List (C.El u)) (k : Nat), (xs.drop k).flatMap (D.enc u) = (xs.flatMap (D.enc u)).drop (k * C.n u)
  | [], k => by simp
  | x :: xs, 0 => by simp
  | x :: xs, k + 1 => by
    rw [List.drop_succ_cons, flatMap_drop u xs k, List.flatMap_cons, Nat.add_mul, Nat.one_mul, Nat.add_comm, ← List.drop_drop, List.drop_left' (D.enc_len u x)]
theorem flatMap_take (u : C.U) : ∀ (xs : List (C.El u)) (k : Nat), (xs.take k).flatMap (D.enc u) = (xs.flatMap (D.enc u)).take (k * C.n u)
  | [], k => by simp
  | x :: xs, 0 => by simp
  | x :: xs, k + 1 => by
    rw [List.take_succ_cons, List.flatMap_cons, List.flatMap_cons, flatMap_take u xs k, Nat.add_mul, Nat.one_mul, Nat.add_comm, List.take_add, List.take_left' (D.enc_len u x), List.drop_left' (D.enc_len u x)]

theorem flatMap_take' (u : C.U) (xs : List (C.El u)) (k : Nat) : (xs.flatMap (D.enc u)).take ((xs.take k).length * C.n u) = (xs.take k).flatMap (D.enc u) := by
  rw [flatMap_take]
  by_cases h : k ≤ xs.length
  · rw [List.length_take, Nat.min_eq_left h]
  · rw [List.length_take, Nat.min_eq_right (by omega), List.take_of_length_le (by rw [flatMap_length]; exact Nat.le_refl _), List.take_of_length_le (by rw [flatMap_length]; exact Nat.mul_le_mul_right _ (by omega))]

/-- a fresh number for a slice that is still nil -/
theorem Rel.virt (h : Rel D B E σ H df a w) {m : Nat} (hm : H m = .fresh) (u : C.U) : Rel D B (E.up m .virt) σ (upH H m (.rows u [])) df a w := by
  have hβ := fresh_β h.sat hm
  have hL : Later w E w (E.up m .virt) := ⟨fun b hb => ⟨hb, rfl⟩, fun i => by
    by_cases hi : i = m
    · subst hi; exact .inr (.inr hβ)
    · exact .inl (Env.up_other E _ hi), fun _ _ _ _ cs T hc => ⟨cs, T, hc, rfl⟩⟩
  have key : ∀ i b, (E.up m .virt).β i = .loc b → E.β i = .loc b := fun i b e => by
    by_cases hi : i = m
    · subst hi; rw [Env.up_same] at e; cases e
    · rwa [Env.up_other E _ hi] at e
  refine h.later hL ⟨fun i => ?_, fun i b e => h.sat.own i b (key i b e), fun i i' b e e' => h.sat.inj i i' b (key i b e) (key i' b e'), h.sat.F, h.sat.glob.mono hL.F⟩
    ⟨h.fr.os, h.fr.tape, h.fr.output, h.fr.size, h.fr.same, h.fr.late.trans hL, h.fr.newF, fun i b e => h.fr.newO i b (key i b e)⟩
  by_cases hi : i = m
  · subst hi; rw [Env.up_same]; simp [upH, HS.ok]
  · rw [Env.up_other E _ hi]; simp only [upH, if_neg hi]
    exact HS.ok_mono hL (h.sat.ok i) (fun _ _ => rfl)

/-- of an owned slice's elements the first ones alone are spoken of -/
theorem Rel.cut (h : Rel D B E σ H df a w) {c : Nat} {u : C.U} {xs : List (C.El u)} (hc : H c = .rows u xs) (k : Nat) : Rel D B E σ (upH H c (.rows u (xs.take k))) df a w := by
  refine h.later (Later.refl w E) ⟨fun i => ?_, h.sat.own, h.sat.inj, h.sat.F, h.sat.glob⟩ h.fr
  by_cases hi : i = c
  · subst hi
    simp only [upH, if_true]
    have := h.sat.ok i
    rw [hc] at this
    cases hb : E.β i with
    | fresh => rw [hb] at this; simp [HS.ok] at this
    | dead => rw [hb] at this; simp [HS.ok] at this
    | virt =>
      rw [hb] at this
      obtain ⟨u', hu'⟩ := this
      cases hu'
      exact ⟨u, by simp⟩
    | loc b =>
      rw [hb] at this
      obtain ⟨cs, T, h1, h2, h3⟩ := this
      have hle : (xs.take k).length * C.n u ≤ xs.length * C.n u := Nat.mul_le_mul_right _ (by simp; omega)
      refine ⟨cs, T, h1, by omega, ?_⟩
      have h4 := h3.take ((xs.take k).length * C.n u)
      rw [List.take_take, Nat.min_eq_left hle] at h4
      have : (xs.flatMap (D.enc u)).take ((xs.take k).length * C.n u) = (xs.take k).flatMap (D.enc u) := by
        rw [flatMap_take']
      rw [this] at h4
      exact h4
  · simp only [upH, if_neg hi]
    exact h.sat.ok i

/-- a chunk goes on under a fresh number -/
theorem Rel.rename (h : Rel D B E σ H df a w) {c m : Nat} (hm : H m = .fresh) (hl : (H c).live = true) :
    Rel D B ((E.up c .dead).up m (E.β c)) σ (upH (upH H c .dead) m (H c)) df a w := by
  have hβ := fresh_β h.sat hm
  have hcm : c ≠ m := fun e => by subst e; rw [hm] at hl; cases hl
  have hE : ∀ i, ((E.up c .dead).up m (E.β c)).β i = if i = m then E.β c else if i = c then .dead else E.β i := fun i => rfl
  have hL : Later w E w ((E.up c .dead).up m (E.β c)) := ⟨fun b hb => ⟨hb, rfl⟩, fun i => by
    rw [hE]
    by_cases hi : i = m
    · subst hi; exact .inr (.inr hβ)
    · rw [if_neg hi]
      by_cases hc : i = c
      · rw [if_pos hc]; exact .inr (.inl rfl)
      · rw [if_neg hc]; exact .inl rfl, fun _ _ _ _ cs T hc => ⟨cs, T, hc, rfl⟩⟩
  have key : ∀ i b, ((E.up c .dead).up m (E.β c)).β i = .loc b → (i = m ∧ E.β c = .loc b) ∨ (i ≠ m ∧ i ≠ c ∧ E.β i = .loc b) := fun i b e => by
    rw [hE] at e
    by_cases hi : i = m
    · rw [if_pos hi] at e; exact .inl ⟨hi, e⟩
    · rw [if_neg hi] at e
      by_cases hc : i = c
      · rw [if_pos hc] at e; cases e
      · rw [if_neg hc] at e; exact .inr ⟨hi, hc, e⟩
  refine h.later hL ⟨fun i => ?_, fun i b e => ?_, fun i i' b e e' => ?_, h.sat.F, h.sat.glob.mono hL.F⟩
    ⟨h.fr.os, h.fr.tape, h.fr.output, h.fr.size, h.fr.same, h.fr.late.trans hL, h.fr.newF, fun i b e => ?_⟩
  · rw [hE]
    by_cases hi : i = m
    · rw [if_pos hi]; subst hi; simp only [upH, if_true]
      exact HS.ok_mono hL (h.sat.ok c) (fun _ _ => rfl)
    · rw [if_neg hi]; simp only [upH, if_neg hi]
      by_cases hc : i = c
      · rw [if_pos hc, if_pos hc]; rfl
      · rw [if_neg hc, if_neg hc]
        exact HS.ok_mono hL (h.sat.ok i) (fun _ _ => rfl)
  · rcases key i b e with ⟨_, e⟩ | ⟨_, _, e⟩
    · exact h.sat.own c b e
    · exact h.sat.own i b e
  · rcases key i b e with ⟨h1, e⟩ | ⟨h1, h2, e⟩ <;> rcases key i' b e' with ⟨h3, e'⟩ | ⟨h3, h4, e'⟩
    · rw [h1, h3]
    · exact absurd (h.sat.inj i' c b e' e) h4
    · exact absurd (h.sat.inj i c b e e') h2
    · exact h.sat.inj i i' b e e'
  · rcases key i b e with ⟨_, e⟩ | ⟨_, _, e⟩
    · exact h.fr.newO c b e
    · exact h.fr.newO i b e

/-- what an append's second operand is -/
def SrcOK (D : Codec C) (w : World) (E : Env) (L : List (PV C)) (n : Nat) (v : Value) : Prop :=
  ∃ ax cap news, v = .slice ax n cap ∧ PDenL D w E.F L news ∧ ((ax = none ∧ news = []) ∨ ∃ ad, ax = some ad ∧ ∀ j u, news[j]? = some u → w.cell? (ad.add j) = some u)

theorem srcOf_ok (hs : Sat D w E H) {x : SV C} {v : Value} (hx : Den D w E x v) {l : List (Nat × HS C)} (hl : ∀ c, x.topId = some c → lk l c = H c) {u : C.U} {ys : List (C.El u)} (h : srcOf l x = .some u ys)
    (hlen : srcSide u ys x) : SrcOK D w E (ys.flatMap (D.enc u)) ys.length v := by
  unfold srcOf at h
  split at h
  · rename_i u' xs
    cases h
    simp only [Den] at hx
    cases hx with
    | dslNil _ ad cap => exact ⟨ad, cap, [], rfl, ⟨rfl, fun j pv v hp _ => by simp at hp⟩, by cases ad with
        | none => exact .inl ⟨rfl, rfl⟩
        | some ad => exact .inr ⟨ad, rfl, fun j u hu => by simp at hu⟩⟩
    | dsl _ _ b o' cap cv hF hc hcell hden =>
      refine ⟨_, cap, (List.range (ys.length * C.n u)).map fun q => cv (q / C.n u) (q % C.n u), rfl, ⟨by rw [flatMap_length]; simp, fun j pv v hp hv => ?_⟩, .inr ⟨_, rfl, fun j v hv => ?_⟩⟩
      · have hj : j < ys.length * C.n u := by
          have := (List.getElem?_eq_some_iff.1 hp).1
          rwa [flatMap_length] at this
        simp [hj] at hv
        subst hv
        have hk : j / C.n u < ys.length := (Nat.div_lt_iff_lt_mul (D.n_pos u)).2 hj
        have hm : j % C.n u < C.n u := Nat.mod_lt _ (D.n_pos u)
        have hy : ys[j / C.n u]? = some ys[j / C.n u] := List.getElem?_eq_getElem hk
        have := flatMap_get (D := D) u ys (j / C.n u) (j % C.n u) _ hy hm
        rw [show j / C.n u * C.n u + j % C.n u = j by rw [Nat.mul_comm]; exact Nat.div_add_mod j _, hp] at this
        exact hden _ _ hy _ _ this.symm
      · have hj : j < ys.length * C.n u := by
          have := (List.getElem?_eq_some_iff.1 hv).1
          simpa using this
        simp [hj] at hv
        subst hv
        have hk : j / C.n u < ys.length := (Nat.div_lt_iff_lt_mul (D.n_pos u)).2 hj
        have hm : j % C.n u < C.n u := Nat.mod_lt _ (D.n_pos u)
        have hy : ys[j / C.n u]? = some ys[j / C.n u] := List.getElem?_eq_getElem hk
        have hq : (D.enc u ys[j / C.n u])[j % C.n u]? = some ((D.enc u ys[j / C.n u])[j % C.n u]'(by rw [D.enc_len]; exact hm)) := List.getElem?_eq_getElem _
        have := hcell _ _ hy _ _ hq
        rw [Addr.add_lit]
        rw [show o' + j / C.n u * C.n u + j % C.n u = o' + j by have := Nat.div_add_mod j (C.n u); rw [Nat.mul_comm] at this; omega] at this
        exact this
  · rename_i c o' n off len
    split at h
    · rename_i u' xs hsq
      cases h
      rw [hl c rfl] at hsq
      have hlive : (H c).live = true := by cases hH : H c <;> rw [hH] at hsq <;> first | rfl | (simp [seqAt] at hsq)
      simp only [srcSide] at hlen
      rcases slice_live hs hlive hx with ⟨rfl, hn⟩ | ⟨b, cap, cs, T, hb, e, hlc, hcs, hsz⟩
      · have hy : (xs.drop off).take 0 = [] := by simp
        rw [hy]
        simp only [List.length_nil]
        rcases hn with ⟨ad, e, _⟩ | ⟨ad, b, e, _⟩
        · exact ⟨ad, 0, [], e, ⟨rfl, fun j pv v hp _ => by simp at hp⟩, by cases ad with
            | none => exact .inl ⟨rfl, rfl⟩
            | some ad => exact .inr ⟨ad, rfl, fun j u hu => by simp at hu⟩⟩
        · exact ⟨ad, 0, [], e, ⟨rfl, fun j pv v hp _ => by simp at hp⟩, by cases ad with
            | none => exact .inl ⟨rfl, rfl⟩
            | some ad => exact .inr ⟨ad, rfl, fun j u hu => by simp at hu⟩⟩
      · obtain ⟨h1, h2⟩ := hlen
        subst h1
        rw [← h2]
        have hn := live_ne hlive
        have hat : (H c).at D w E b := by
          rcases live_at hs hn.1 hn.2 with ⟨hv, _⟩ | ⟨b', hb', h⟩
          · rw [hb] at hv; cases hv
          · rw [hb] at hb'; cases hb'; exact h
        have hq := seqAt_spec (o := o') hat
        rw [hsq] at hq
        obtain ⟨cs', T', hcs', hsz', hp⟩ := hq
        obtain ⟨rfl, rfl⟩ := hcs.inj hcs'
        have hoff : off + len ≤ xs.length ∨ len = 0 := by
          rcases Nat.eq_zero_or_pos len with h0 | h0
          · exact .inr h0
          · left
            simp only [List.length_take, List.length_drop] at h2
            omega
        have hfm : ((xs.drop off).take len).flatMap (D.enc u) = ((xs.flatMap (D.enc u)).drop (off * C.n u)).take (len * C.n u) := by
          rw [flatMap_take, flatMap_drop]
        refine ⟨_, cap, ((cs.toList.drop (o' + off * C.n u)).take (len * C.n u)), e, ?_, .inr ⟨_, rfl, fun j v hv => ?_⟩⟩
        · rw [hfm]
          have h3 := (hp.drop (off * C.n u)).take (len * C.n u)
          have h4 : ((((cs.toList.drop o').take (xs.length * C.n u)).drop (off * C.n u)).take (len * C.n u)) = (cs.toList.drop (o' + off * C.n u)).take (len * C.n u) := by
            rw [List.drop_take, List.take_take, List.drop_drop, Nat.min_eq_left]
            rcases hoff with h | h
            · have := Nat.mul_le_mul_right (C.n u) h
              rw [Nat.add_mul] at this
              omega
            · subst h; simp
          rw [h4] at h3
          exact h3
        · rw [Addr.add_lit, cells_cell hcs]
          rw [List.getElem?_take] at hv
          split at hv
          · rwa [List.getElem?_drop] at hv
          · cases hv
    · cases h
  · cases h

/-- the run of an append, in place or not -/
theorem run_append_any {t ty e : TypeId} {i : TypeInfo} {z : Value} (ht : P.underlying t = some (.slice e)) (hi : P.info? e = some i) (hz : i.zero = some z)
    {base : Option Addr} {sLen sCap : Nat} {vx : Value} {n : Nat} {t2 : TypeId} {olds news : List Value} (ht2 : ∃ d, P.underlying t2 = some d ∧ ∀ k, d ≠ .int k) (hlen : ∀ w' : World, (Builtin.lenOf vx).run P w' = .ok n w')
    (hnews : ∀ w' : World, (∀ a, w'.cell? a = w.cell? a) → (Builtin.firstCells i.size n vx).run P w' = .ok news.toArray w')
    (holds : ∀ w' : World, (∀ a, w'.cell? a = w.cell? a) → (Builtin.firstCells i.size sLen (.slice base sLen sCap)).run P w' = .ok olds.toArray w')
    (h63 : sLen + n ≤ 9223372036854775807) (hb : (sLen + n) * i.bytes ≤ 140737488355328) :
    (sCap < sLen + n ∧ (Builtin.append_ #[t, t2] ty #[.slice base sLen sCap, vx]).run P w =
      .ok (.slice (some ⟨w.heap.size, 0, none⟩) (sLen + n) (grownCap w (sLen + n) sCap e)) (w.drew.alloc (.cells (olds.toArray ++ news.toArray ++ Builtin.zeroCells z.cells (grownCap w (sLen + n) sCap e - (sLen + n))) e))) ∨
    (sLen + n ≤ sCap ∧ (Builtin.append_ #[t, t2] ty #[.slice base sLen sCap, vx]).run P w =
      (do (match base with | some a => storeCells (a.add (sLen * i.size)) news | none => pure ()); pure (Value.slice base (sLen + n) sCap) : Sem Value).run P w) := by
  obtain ⟨d2, hd2, hnd⟩ := ht2
  have hz2 : (match d2 with | .int _ => true | _ => false) = false := by
    cases d2 <;> first | rfl | exact absurd rfl (hnd _)
  rcases Nat.lt_or_ge sCap (sLen + n) with hg | hg
  · left
    refine ⟨hg, ?_⟩
    have hn : ¬ (sLen + n ≤ sCap) := by omega
    have h63' : ¬ (9223372036854775807 < ((sLen : Int) + (n : Int))) := by omega
    have hfit := growslice_fits (bytes := i.bytes) hg hb
    have h48' : ¬ (281474976710656 < Builtin.nextslicecap (sLen + n) sCap * i.bytes) := by omega
    have hf := hnews w.drew (fun _ => rfl)
    have hfo := holds w.drew (fun _ => rfl)
    simp [Builtin.append_, run_underlying ht, run_underlying hd2, hz2, sizeOf, typeInfo, zeroValue, hi, hz, hlen, hn, h63', h48', Question.forced, hf, hfo, newRow, grownCap]
    congr 2
    apply Array.ext'
    simp [List.append_assoc]
  · right
    refine ⟨hg, ?_⟩
    have hf := hnews w (fun _ => rfl)
    cases base with
    | none => simp [Builtin.append_, run_underlying ht, run_underlying hd2, hz2, sizeOf, typeInfo, hi, hlen, hg, hf]
    | some b => simp [Builtin.append_, run_underlying ht, run_underlying hd2, hz2, sizeOf, typeInfo, hi, hlen, hg, hf]

theorem flat_of_map {u u' : C.U} {zs : List (C.El u)} {ys : List (C.El u')} (h : zs.map (D.enc u) = ys.map (D.enc u')) : zs.flatMap (D.enc u) = ys.flatMap (D.enc u') := by
  rw [List.flatMap_def, List.flatMap_def, h]

/-- the second operand of an append, as the run sees it -/
structure SrcR (P : Program) (D : Codec C) (w : World) (E : Env) (t2 : TypeId) (u : C.U) (zs : List (C.El u)) (vx : Value) (size : Nat) (news : List Value) : Prop where
  typ : ∃ d, P.underlying t2 = some d ∧ ∀ k, d ≠ .int k
  len : ∀ w' : World, (Builtin.lenOf vx).run P w' = .ok zs.length w'
  firstN : ∀ w' : World, (∀ a, w'.cell? a = w.cell? a) → ∀ k, k ≤ zs.length → (Builtin.firstCells size k vx).run P w' = .ok (news.take (k * size)).toArray w'
  sz : news.length = zs.length * size
  den : PDenL D w E.F (zs.flatMap (D.enc u)) news

theorem SrcR.first {t2 : TypeId} {u : C.U} {zs : List (C.El u)} {vx : Value} {size : Nat} {news : List Value} (h : SrcR P D w E t2 u zs vx size news) (w' : World) (hw : ∀ a, w'.cell? a = w.cell? a) :
    (Builtin.firstCells size zs.length vx).run P w' = .ok news.toArray w' := by
  rw [h.firstN w' hw _ (Nat.le_refl _), List.take_of_length_le (by rw [h.sz]; exact Nat.le_refl _)]
theorem byteCells_den {F : Nat → Prop} (l : List UInt8) : PDenL D w F (l.map fun b => PV.int .u8 b.toNat) (l.map fun b => Value.int .u8 b.toNat) := by
  refine ⟨by simp, fun j pv v hp hv => ?_⟩
  rw [List.getElem?_map] at hp hv
  obtain ⟨b, hb, rfl⟩ := Option.map_eq_some_iff.1 hp
  obtain ⟨b', hb', rfl⟩ := Option.map_eq_some_iff.1 hv
  rw [hb] at hb'; cases hb'
  exact .int _ _
theorem srcZ_ok (A : Aux C D) (hT : TabOK P D tab) (hs : Sat D w E H) {t t2 e : TypeId} (hu : P.underlying t = some (.slice e)) {x : SV C} {v : Value} (hx : Den D w E x v) {l : List (Nat × HS C)} (hl : ∀ c, x.topId = some c → lk l c = H c) {u : C.U} {zs : List (C.El u)} {p : Prop}
    (h : srcZ A tab t t2 u l x = some (p, zs)) (hp : p) {size : Nat} (hsz : size = C.n u) : ∃ news, SrcR P D w E t2 u zs v size news := by
  unfold srcZ at h
  split at h
  · rename_i bs
    split at h
    · rename_i i2 hi2
      split at h
      · rename_i hk
        split at h
        · rename_i zs1 hz
          cases h
          obtain ⟨h1, h2⟩ := A.ofBytes_ok _ _ _ hz
          have hv := den_str hx
          subst hv
          have hlen : zs.length = bs.length := by
            have := congrArg List.length h2
            rw [flatMap_length, h1] at this
            simpa using this
          refine ⟨bs.map fun b => Value.int .u8 b.toNat, ⟨⟨_, str_of (hT t2 i2 hi2) hk, fun k e => by cases e⟩, fun w' => ?_, fun w' _ k hk => ?_, by rw [hsz, h1]; simp [hlen], ?_⟩⟩
          · rw [hlen]; rfl
          · have e1 : ((ByteArray.extract ⟨⟨bs⟩⟩ 0 k).data.toList) = bs.take k := by
              simp [List.extract_eq_take_drop]
            simp only [Builtin.firstCells, Sem.run_pure]
            congr 1
            apply Array.ext'
            rw [hsz, h1]
            simp [e1, List.map_take]
          · rw [h2]; exact byteCells_den bs
        · cases h
      · cases h
    · cases h
  · split at h
    · rename_i i2 hi2
      split at h
      · rename_i e2 hk
        cases h
        have hv := den_lit hx
        subst hv
        refine ⟨[], ⟨⟨_, slice_of (hT t2 i2 hi2) hk, fun k e => by cases e⟩, fun w' => rfl, fun w' _ k hk => by simp [Builtin.firstCells], by simp, ⟨rfl, fun j pv v hp _ => by simp at hp⟩⟩⟩
      · cases h
    · cases h
  · split at h
    · rename_i u' ys hsrc
      split at h
      · rename_i zs' hcast
        cases h
        obtain ⟨e2, hsl⟩ := hp
        obtain ⟨hzy, hnn⟩ := A.castL_ok u u' ys zs hcast
        have hzl : zs.length = ys.length := by simpa using congrArg List.length hzy
        obtain ⟨ax, cap, news, hvx, hpn, hcase⟩ := srcOf_ok hs hx hl hsrc hsl
        have hpn' : PDenL D w E.F (zs.flatMap (D.enc u)) news := by rw [flat_of_map hzy]; exact hpn
        have hnl : news.length = zs.length * size := by rw [hpn'.len, hsz]
        refine ⟨news, ⟨⟨_, e2 ▸ hu, fun k e => by cases e⟩, fun w' => ?_, fun w' hw' k hk => ?_, hnl, hpn'⟩⟩
        · rw [hvx, hzl]; rfl
        · subst hvx
          have hkl : (news.take (k * size)).length = k * size := by
            rw [List.length_take, hnl, Nat.min_eq_left (Nat.mul_le_mul_right _ hk)]
          rcases hcase with ⟨rfl, rfl⟩ | ⟨ad, rfl, hc⟩
          · simp [Builtin.firstCells]
          · refine run_firstCells_some w' size k ad _ cap _ hkl fun j u hu => (hw' _).trans (hc j u ?_)
            rw [List.getElem?_take] at hu
            split at hu
            · exact hu
            · cases hu
      · cases h
    · cases h

theorem append_ok (A : Aux C D) (hT : TabOK P D tab) (hR : Rel D B E σ H df a w) {m : Nat} (hm : H m = .fresh) {t t2 : TypeId} {os ox : Operand} (ho : o.op = .call { callee := .builtin .append, args := #[os, ox], argTypes := #[t, t2] }) {hs : List (Nat × HS C)}
    (hhs : ∀ c, (ev σ os).topId = some c → lk hs c = H c) (hhx : ∀ c, (ev σ ox).topId = some c → lk hs c = H c) :
    OutOK P D B σ H df a w o (doAppend A tab t t2 (ev σ os) (ev σ ox) hs m) := by
  have hds := ev_den hR os
  have hdx := ev_den hR ox
  generalize hss : ev σ os = ss at *
  generalize hsx : ev σ ox = sx at *
  unfold doAppend
  cases htab : tab t with
  | none => trivial
  | some i =>
    have ht := hT t i htab
    simp only
    split
    case h_2 => trivial
    rename_i e hk
    have hu := slice_of ht hk
    cases hte : tab e with
    | none => trivial
    | some j =>
      have hj := hT e j hte
      obtain ⟨ie, z, f1, f2, f3, f4, f5, f6⟩ := hj.info
      simp only
      have hex' : ∀ (v : Value) (w' : World), (Builtin.append_ #[t, t2] o.type #[a.eval os, a.eval ox]).run P w = .ok v w' → (execOp a.eval o).run P w = .ok (.value v) w' := fun v w' h => by
        simp [execOp, ho, resolve, invoke, builtin, h]
      -- the grown case, for whatever number
      have grown : ∀ {E2 : Env} {H2 : Nat → HS C} (hR2 : Rel D B E2 σ H2 df a w) (hm2 : H2 m = .fresh) (u : C.U) (xs zs : List (C.El u)) (olds news : List Value) (sCap : Nat), C.n u = j.size →
          PDenL D w E2.F (xs.flatMap (D.enc u)) olds → PDenL D w E2.F (zs.flatMap (D.enc u)) news → (∀ t', C.ty u = some t' → e = t') →
          (Builtin.append_ #[t, t2] o.type #[a.eval os, a.eval ox]).run P w =
            .ok (.slice (some ⟨w.heap.size, 0, none⟩) (xs.length + zs.length) (grownCap w (xs.length + zs.length) sCap e)) (w.drew.alloc (.cells (olds.toArray ++ news.toArray ++ Builtin.zeroCells z.cells (grownCap w (xs.length + zs.length) sCap e - (xs.length + zs.length))) e)) →
          ∃ u' w' E', ((execOp a.eval o).run P w = .ok (.value u') w' ∨ ((execOp a.eval o).run P w = .ok .skip w' ∧ u' = undef)) ∧
            Rel D B E' σ (upH H2 m (.rows u (xs ++ zs))) df a w' ∧ Den D w' E' (.slice m 0 (C.n u) 0 (xs ++ zs).length) u' := by
        intro E2 H2 hR2 hm2 u xs zs olds news sCap hn hol hne hce hrun
        have hR3 := hR2.drew
        have hge := grownCap_ge w (xs.length + zs.length) sCap e
        generalize hcap : grownCap w (xs.length + zs.length) sCap e = cap at *
        have hcells : (olds.toArray ++ news.toArray ++ Builtin.zeroCells z.cells (cap - (xs.length + zs.length))).size = cap * C.n u := by
          simp only [Array.size_append, List.size_toArray, size_zeroCells, f5, hol.len, hne.len, ← hn, ← Nat.add_mul]
          congr 1
          omega
        refine ⟨_, _, E2.up m (.loc w.drew.heap.size), .inl (hex' _ _ hrun), ?_, ?_⟩
        · refine hR3.alloc hm2 _ e ⟨_, e, ⟨Row.new (heap_alloc_new w.drew _), hce⟩, ?_, ?_⟩
          · rw [hcells, List.length_append]; exact Nat.mul_le_mul_right _ hge
          · have happ := (hol.append hne)
            rw [← List.flatMap_append] at happ
            have hlen : (olds ++ news).length = (xs ++ zs).length * C.n u := happ.len
            have hh : (olds.toArray ++ news.toArray ++ Builtin.zeroCells z.cells (cap - (xs.length + zs.length))).toList.take ((xs ++ zs).length * C.n u) = olds ++ news := by
              simp only [Array.toList_append]
              exact List.take_left' hlen
            rw [hh]
            exact happ.mono (later_alloc (fresh_β hR3.sat hm2) _ hR3.sat.F).F
        · simp only [Den, Env.up_same]
          refine .inr ⟨cap, _, e, by simp, by rw [List.length_append]; exact hge, Row.new (heap_alloc_new w.drew _), ?_⟩
          rw [hcells]; simp
      split
      · -- an owned slice
        rename_i c o' n off len
        split
        case h_2 => trivial
        rename_i u xs hlk
        have hHc : H c = .rows u xs := by rw [← hhs c rfl]; exact hlk
        cases hfit0 : tyFit (C.ty u) e with
        | false => trivial
        | true =>
        have hce : ∀ t', C.ty u = some t' → e = t' := fun t' h => by
          rw [h] at hfit0; exact Nat.eq_of_beq_eq_true hfit0
        simp only
        split
        case h_2 => trivial
        rename_i p zs hsrc
        rintro ⟨hp, hlx, hn, hju, hby, h63, hne, hcm⟩
        obtain ⟨news, hS⟩ := srcZ_ok A hT hR.sat hu hdx hhx hsrc hp (size := ie.size) (f2.trans hju)
        have hpn' := hS.den
        have hnews := hS.first
        have hnl : news.length = zs.length * ie.size := by rw [hpn'.len, f2, hju]
        have hlive : (H c).live = true := by rw [hHc]; rfl
        have hxt : (xs.take len).length = len := by simp; omega
        rcases slice_live hR.sat hlive hds with ⟨rfl, hnil⟩ | ⟨b, cap', cs, T, hb, es, hlc, hcs, hsz⟩
        · -- nothing yet
          have hos : ∃ base, a.eval os = .slice base 0 0 := by
            rcases hnil with ⟨ad, e, _⟩ | ⟨ad, _, e, _⟩
            · exact ⟨_, e⟩
            · exact ⟨_, e⟩
          obtain ⟨base, es⟩ := hos
          have holds : ∀ w' : World, (∀ a, w'.cell? a = w.cell? a) → (Builtin.firstCells ie.size 0 (.slice base 0 0)).run P w' = .ok ([] : List Value).toArray w' := fun w' _ => by
            cases base with
            | none => simp [Builtin.firstCells]
            | some ad => simp [Builtin.firstCells, loadCells, loadCellsFrom]
          rcases run_append_any (w := w) (ty := o.type) hu f1 f4 hS.typ hS.len hnews holds (by omega) (by rw [f3]; exact hby) with ⟨hg, hrun⟩ | ⟨hg, hrun⟩
          · rw [← es] at hrun
            have := grown (hR.kill c) (by simp [upH, Ne.symm hcm, hm]) u [] zs [] news 0 hju.symm ⟨rfl, fun j pv v hp _ => by simp at hp⟩ hpn' hce (by simpa using hrun)
            simpa [RunOK, upHs] using this
          · have hz0 : zs = [] := List.eq_nil_of_length_eq_zero (by omega)
            subst hz0
            have hnews0 : news = [] := List.eq_nil_of_length_eq_zero (by rw [hnl]; simp)
            have hr : (Builtin.append_ #[t, t2] o.type #[a.eval os, a.eval ox]).run P w = .ok (.slice base 0 0) w := by
              rw [es, hrun, hnews0]
              cases base <;> simp [storeCells]
            have hcut := hR.cut hHc 0
            have hm' : upH H c (.rows u (xs.take 0)) m = .fresh := by simp [upH, Ne.symm hcm, hm]
            have hren := hcut.rename (c := c) hm' (by simp [upH, HS.live])
            refine ⟨.slice base 0 0, w, (E.up c .dead).up m (E.β c), .inl (hex' _ _ hr), ?_, ?_⟩
            · show Rel D B _ σ (upH (upH H c .dead) m (.rows u (xs.take 0 ++ []))) df a w
              have e3 : upH (upH (upH H c (.rows u (xs.take 0))) c .dead) m ((upH H c (.rows u (xs.take 0))) c) = upH (upH H c .dead) m (.rows u (xs.take 0 ++ [])) := by
                funext q
                simp only [upH, if_true, List.append_nil]
                by_cases h1 : q = m
                · rw [if_pos h1, if_pos h1]
                · rw [if_neg h1, if_neg h1]
                  by_cases h2 : q = c
                  · rw [if_pos h2, if_pos h2]
                  · rw [if_neg h2, if_neg h2, if_neg h2]
              rw [← e3]
              exact hren
            · simp only [Den, Env.up_same, List.append_nil, List.take_zero, List.length_nil]
              rcases hnil with ⟨ad, e, hβ⟩ | ⟨ad, b, e, hβ⟩
              · rw [hβ]; exact ⟨_, rfl, by first | rfl | trivial⟩
              · rw [hβ]; exact .inl ⟨trivial, _, rfl⟩
        · -- a row
          subst hn
          have hat : (H c).at D w E b := by
            have := hR.sat.ok c
            rw [hb] at this; exact this
          rw [hHc] at hat
          obtain ⟨cs', T', ⟨hcs', hTy⟩, hz1, hz2⟩ := hat
          obtain ⟨rfl, rfl⟩ := hcs.inj hcs'
          simp only [Nat.zero_mul, Nat.zero_add] at es hsz
          have hcl : len * C.n u ≤ cs.size := by
            have := Nat.mul_le_mul_right (C.n u) hlx
            omega
          have holen : (cs.toList.take (len * C.n u)).length = len * ie.size := by
            rw [f2, hju]; simp; omega
          have holds : ∀ w' : World, (∀ a, w'.cell? a = w.cell? a) → (Builtin.firstCells ie.size len (.slice (some ⟨b, 0, none⟩) len cap')).run P w' = .ok (cs.toList.take (len * C.n u)).toArray w' := fun w' hw' =>
            run_firstCells_some w' ie.size len _ len cap' _ holen fun jj v hv => by
              rw [hw', Addr.add_lit, Nat.zero_add, cells_cell hcs]
              rw [List.getElem?_take] at hv
              split at hv
              · exact hv
              · cases hv
          have hold : PDenL D w E.F ((xs.take len).flatMap (D.enc u)) (cs.toList.take (len * C.n u)) := by
            have h4 := hz2.take (len * C.n u)
            rw [List.take_take, Nat.min_eq_left (Nat.mul_le_mul_right _ hlx), ← flatMap_take] at h4
            exact h4
          rcases run_append_any (w := w) (ty := o.type) hu f1 f4 hS.typ hS.len hnews holds (by omega) (by rw [f3]; exact hby) with ⟨hg, hrun⟩ | ⟨hg, hrun⟩
          · rw [← es] at hrun
            have := grown (hR.kill c) (by simp [upH, Ne.symm hcm, hm]) u (xs.take len) zs _ news cap' hju.symm hold hpn' hce (by rw [hxt]; exact hrun)
            simpa [RunOK, upHs] using this
          · have hfit : (len + zs.length) * C.n u ≤ cs.size := Nat.le_trans (Nat.mul_le_mul_right _ hg) hsz
            have hst := run_storeCells_row (P := P) (o := len * C.n u) news 0 cs w hcs (by rw [hpn'.len, Nat.add_zero, ← Nat.add_mul]; exact hfit) hpn'.oneCell
            simp only [Nat.add_zero] at hst
            generalize hcs2 : (cs.toList.take (len * C.n u) ++ news ++ cs.toList.drop (len * C.n u + news.length)).toArray = cs2 at *
            have hr : (Builtin.append_ #[t, t2] o.type #[a.eval os, a.eval ox]).run P w = .ok (.slice (some ⟨b, 0, none⟩) (len + zs.length) cap') (w.setRow b cs2) := by
              rw [es, hrun]
              simp only [Addr.add_lit, Nat.zero_add, f2, hju, Sem.run_bind, hst, Result.andThen_ok, Sem.run_pure]
            have hsz2 : cs2.size = cs.size := by
              rw [← hcs2]
              simp only [List.size_toArray, List.length_append, List.length_take, List.length_drop, Array.length_toList, hpn'.len]
              rw [Nat.add_mul] at hfit
              omega
            have happ := hold.append hpn'
            rw [← List.flatMap_append] at happ
            have hset := hR.setRow hb hcs hsz2 (hs := .rows u (xs.take len ++ zs)) fun hL => ⟨cs2, T, ⟨hcs.set hsz2, hTy⟩, by
                rw [List.length_append, hxt, hsz2]; exact hfit, by
                have : cs2.toList.take ((xs.take len ++ zs).length * C.n u) = cs.toList.take (len * C.n u) ++ news := by
                  rw [← hcs2]
                  exact List.take_left' happ.len
                rw [this]
                exact happ.mono hL.F⟩
            have hm' : upH H c (.rows u (xs.take len ++ zs)) m = .fresh := by simp [upH, Ne.symm hcm, hm]
            have hren := hset.rename (c := c) hm' (by simp [upH, HS.live])
            refine ⟨_, w.setRow b cs2, (E.up c .dead).up m (E.β c), .inl (hex' _ _ hr), ?_, ?_⟩
            · show Rel D B _ σ (upH (upH H c .dead) m (.rows u (xs.take len ++ zs))) df a (w.setRow b cs2)
              have e3 : upH (upH (upH H c (.rows u (xs.take len ++ zs))) c .dead) m ((upH H c (.rows u (xs.take len ++ zs))) c) = upH (upH H c .dead) m (.rows u (xs.take len ++ zs)) := by
                funext q
                simp only [upH, if_true]
                by_cases h1 : q = m
                · rw [if_pos h1, if_pos h1]
                · rw [if_neg h1, if_neg h1]
                  by_cases h2 : q = c
                  · rw [if_pos h2, if_pos h2]
                  · rw [if_neg h2, if_neg h2, if_neg h2]
              rw [← e3]
              exact hren
            · simp only [Den, Env.up_same, hb]
              refine .inr ⟨cap', cs2, T, by rw [List.length_append, hxt]; simp, by rw [List.length_append, hxt]; exact hg, hcs.set hsz2, ?_⟩
              rw [hsz2]; simpa using hsz
      · -- a slice without room
        rename_i u xs
        cases hfit0 : tyFit (C.ty u) e with
        | false => trivial
        | true =>
        have hce : ∀ t', C.ty u = some t' → e = t' := fun t' h => by
          rw [h] at hfit0; exact Nat.eq_of_beq_eq_true hfit0
        simp only
        split
        case h_2 => trivial
        rename_i p zs hsrc
        rintro ⟨hp, hju, hz0, hby, h63⟩
        obtain ⟨news, hS⟩ := srcZ_ok A hT hR.sat hu hdx hhx hsrc hp (size := ie.size) (f2.trans hju)
        have hpn' := hS.den
        have hnews := hS.first
        simp only [Den] at hds
        obtain ⟨ad, hev, hdd⟩ : ∃ ad, a.eval os = .slice ad xs.length xs.length ∧ PDen D w E.F (.dsl u xs) (.slice ad xs.length xs.length) := by
          generalize a.eval os = vs at hds
          cases hds with
          | fds _ _ ad h => exact ⟨ad, rfl, h⟩
        obtain ⟨ax, cap, olds, he, hold, hcells⟩ := srcOf_ok (l := []) (x := .p (.dsl u xs)) hR.sat (by simp only [Den]; exact hdd) (fun c h => by cases h) (u := u) (ys := xs) rfl trivial
        cases he
        have holen : olds.length = xs.length * ie.size := by rw [hold.len, f2, hju]
        have holds : ∀ w' : World, (∀ a, w'.cell? a = w.cell? a) → (Builtin.firstCells ie.size xs.length (.slice ad xs.length xs.length)).run P w' = .ok olds.toArray w' := fun w' hw' => by
          rcases hcells with ⟨rfl, rfl⟩ | ⟨ad', rfl, hc⟩
          · simp [Builtin.firstCells]
          · exact run_firstCells_some w' ie.size xs.length ad' xs.length _ olds holen fun j u hu => (hw' _).trans (hc j u hu)
        rcases run_append_any (w := w) (ty := o.type) hu f1 f4 hS.typ hS.len hnews holds h63 (by rw [f3]; exact hby) with ⟨hg, hrun⟩ | ⟨hg, hrun⟩
        · rw [← hev] at hrun
          have := grown hR hm u xs zs olds news xs.length hju.symm hold hpn' hce hrun
          simpa [RunOK, upHs] using this
        · omega
      · -- a nil slice, written out
        cases hcode : j.code with
        | none => trivial
        | some u =>
          simp only
          split
          case h_2 => trivial
          rename_i p zs hsrc
          have key : OutOK P D B σ H df a w o (appRes u m none (p ∧ j.size = C.n u ∧ zs.length * j.bytes ≤ 140737488355328 ∧ zs.length ≤ 9223372036854775807) zs) ∧
              (zs = [] → OutOK P D B σ H df a w o (.side (p ∧ j.size = C.n u ∧ zs.length * j.bytes ≤ 140737488355328 ∧ zs.length ≤ 9223372036854775807) (.p (.lit (.slice none 0 0))))) := ?_
          · unfold nilApp
            split
            · exact key.1
            · split
              · exact key.2 rfl
              · exact key.1
          refine ⟨?_, ?_⟩
          rotate_left
          · rintro rfl ⟨hp, hju, hby, h63⟩
            obtain ⟨news, hS⟩ := srcZ_ok A hT hR.sat hu hdx hhx hsrc hp (size := ie.size) (f2.trans hju)
            have hnews := hS.first
            have es := den_lit hds
            have hn0 : news = [] := List.eq_nil_of_length_eq_zero (by rw [hS.sz]; simp)
            have holds : ∀ w' : World, (∀ a, w'.cell? a = w.cell? a) → (Builtin.firstCells ie.size 0 (.slice none 0 0)).run P w' = .ok ([] : List Value).toArray w' := fun w' _ => by
              simp [Builtin.firstCells]
            rcases run_append_any (w := w) (ty := o.type) (base := none) (sLen := 0) (sCap := 0) hu f1 f4 hS.typ hS.len hnews holds (by simp) (by simp) with ⟨hg, _⟩ | ⟨_, hrun⟩
            · simp at hg
            · have hr : (Builtin.append_ #[t, t2] o.type #[a.eval os, a.eval ox]).run P w = .ok (.slice none 0 0) w := by
                rw [es, hrun]; simp
              exact runOK_of hR (hex' _ _ hr) (by simp only [Den]; exact .lit _ rfl)
          rintro ⟨hp, hju, hby, h63⟩
          obtain ⟨news, hS⟩ := srcZ_ok A hT hR.sat hu hdx hhx hsrc hp (size := ie.size) (f2.trans hju)
          have hpn' := hS.den
          have hnews := hS.first
          have hnl : news.length = zs.length * ie.size := by rw [hpn'.len, f2, hju]
          have hce : ∀ t', C.ty u = some t' → e = t' := fun t' h => (hj.ctype u t' hcode h).symm
          have es := den_lit hds
          have holds : ∀ w' : World, (∀ a, w'.cell? a = w.cell? a) → (Builtin.firstCells ie.size 0 (.slice none 0 0)).run P w' = .ok ([] : List Value).toArray w' := fun w' _ => by
            simp [Builtin.firstCells]
          rcases run_append_any (w := w) (ty := o.type) hu f1 f4 hS.typ hS.len hnews holds (by omega) (by rw [f3]; simpa using hby) with ⟨hg, hrun⟩ | ⟨hg, hrun⟩
          · rw [← es] at hrun
            have := grown hR hm u [] zs [] news 0 hju.symm ⟨rfl, fun j pv v hp _ => by simp at hp⟩ hpn' hce (by simpa using hrun)
            simpa [RunOK, upHs] using this
          · have hz0 : zs = [] := List.eq_nil_of_length_eq_zero (by omega)
            subst hz0
            have hr : (Builtin.append_ #[t, t2] o.type #[a.eval os, a.eval ox]).run P w = .ok (.slice none 0 0) w := by
              rw [es, hrun]; simp
            refine ⟨_, _, _, .inl (hex' _ _ hr), hR.virt hm u, ?_⟩
            simp only [Den, Env.up_same, List.length_nil]
            exact ⟨none, by first | rfl | trivial, by first | rfl | trivial⟩
      · trivial

end
end Go.SX
