/-
  SX, part I: stores; slices made and appended to.
-/
import Derived.Test.YtdaghncicimipaaGreatDoorSxH
set_option linter.unusedVariables false
set_option linter.unusedSimpArgs false
namespace Go.SX
open Go.RowKit
variable {C : Cod}
section
variable {P : Program} {D : Codec C} {tab : Tab C} {B : Base} {E : Env} {σ : Nat → SV C} {H : Nat → HS C} {df : List Deferred} {a : Act} {w : World} {o : Oper}

/-- a store into an owned block -/
theorem store_run (hR : Rel D B E σ H df a w) {t : TypeId} {i : TI C} (ht : TyOK P D t i) {oa ov : Operand} (ho : o.op = .store t oa ov) {c b o' : Nat} (hb : E.β c = .loc b)
    (ha : a.eval oa = .pointer (some ⟨b, o', none⟩)) {cs : Array Value} {T : TypeId} (hcs : Row w b cs T) (hsz : (a.eval ov).cells.size = i.size)
    (hfit : o' + i.size ≤ cs.size) (h1 : ∀ u ∈ (a.eval ov).cells.toList, u.oneCell' = true) {h' : HS C}
    (hok : ∀ w' cs', Later w E w' E → Row w' b cs' T → cs'.toList = cs.toList.take o' ++ (a.eval ov).cells.toList ++ cs.toList.drop (o' + i.size) → h'.at D w' E b) :
    RunOK P D B σ H df a w o .any [(c, h')] := by
  have hrun := run_storeVar ht hcs hsz hfit h1
  refine ⟨undef, w.setRow b (cs.toList.take o' ++ (a.eval ov).cells.toList ++ cs.toList.drop (o' + i.size)).toArray, E, .inr ⟨?_, rfl⟩, ?_, trivial⟩
  · simp only [execOp, ho, Instr.storeAt, ha, Instr.sureAddr, Sem.run_bind, Sem.run_pure, Result.andThen_ok, hrun]
  rw [upHs_one]
  have hsize : (cs.toList.take o' ++ (a.eval ov).cells.toList ++ cs.toList.drop (o' + i.size)).toArray.size = cs.size := by
    simp only [List.size_toArray, List.length_append, List.length_take, List.length_drop, Array.length_toList, hsz]
    omega
  exact hR.setRow hb hcs hsize fun hL => hok _ _ hL (hcs.set hsize) (by simp)

theorem setArr_some : ∀ (vs : List (SV C)) (o : Nat) (u : C.U) (N : Nat) (xs ys : List (C.El u)), hitW vs o = .elem u N xs 0 → ∃ vs', setArr vs o u ys = some vs' := by
  intro vs
  induction vs with
  | nil => intro o u N xs ys h; simp [hitW] at h
  | cons x r ih =>
    intro o u N xs ys h
    cases hx : x.isArr with
    | false =>
      cases o with
      | zero => rw [hitW_zero hx] at h; cases h
      | succ o =>
        rw [hitW_cons hx] at h
        obtain ⟨vs', h'⟩ := ih o u N xs ys h
        exact ⟨x :: vs', by rw [setArr_cons hx, h']⟩
    | true =>
      obtain ⟨u', N', xs', rfl⟩ := SV.arr_of hx
      simp only [hitW] at h
      simp only [setArr]
      cases hs : subO o (N' * C.n u') with
      | none =>
        rw [hs] at h
        simp only [Hit.elem.injEq] at h
        obtain ⟨rfl, rfl, _, rfl⟩ := h
        exact ⟨_, rfl⟩
      | some o' =>
        simp only [hs] at h
        obtain ⟨vs', h'⟩ := ih o' u N xs ys h
        exact ⟨.arr u' N' xs' :: vs', by simp [h']⟩

theorem store_ok (hT : TabOK P D tab) (hR : Rel D B E σ H df a w) {t : TypeId} {oa ov : Operand} (ho : o.op = .store t oa ov) {hs : List (Nat × HS C)} (hhs : ∀ c, (ev σ oa).topId = some c → lk hs c = H c) :
    OutOK P D B σ H df a w o (doStore D tab t (ev σ oa) (ev σ ov) hs) := by
  have ha := ev_den hR oa
  have hv := ev_den hR ov
  generalize ev σ oa = sa at *
  generalize ev σ ov = sv at *
  unfold doStore
  cases htab : tab t with
  | none => trivial
  | some i =>
    have ht := hT t i htab
    simp only
    cases sa with
    | ptr c o' =>
      simp only
      rw [hhs c rfl]
      cases hH : H c with
      | vart ty vs =>
        simp only
        obtain ⟨b, cs, T, hb, ⟨h1, hty⟩, h2⟩ := var_at hR.sat hH
        have e := ptr_den ha hb
        cases hc : cellsOf sv with
        | none => trivial
        | some l =>
          simp only
          have hcd := cellsOf_den hc hv
          cases htk : takeW l i.size with
          | none => trivial
          | some l' =>
            simp only
            split
            · rename_i hdr
              obtain ⟨h3, h4⟩ := exact_cells htk hdr hcd
              have hsz : (a.eval ov).cells.size = i.size := by simpa using h3
              have hone := DenC_one _ _ hcd
              have spl : ∀ vs', spliceW vs o' i.size l' = some vs' → RunOK P D B σ H df a w o .any [(c, .vart ty vs')] := fun vs' hsp => by
                obtain ⟨h5, h6⟩ := spliceW_spec hsp h2 h4
                refine store_run hR ht ho hb e h1 hsz (by simpa using h6) hone fun w' cs' hL hw' hcs' => ⟨cs', T, ⟨hw', hty⟩, ?_⟩
                rw [hcs']
                exact DenC.mono hL _ _ h5
              have hh := hitW_spec vs o' cs.toList h2
              split
              · rename_i u N xs k hhit
                rw [hhit] at hh
                obtain ⟨a1, a2, a3, a4, a5⟩ := hh
                split
                · split
                  · rename_i vs' hsp; exact spl vs' hsp
                  · trivial
                · split
                  · rename_i xs' hset
                    split
                    · rename_i vs' hsa
                      have hkd : k / C.n u < xs.length := by rw [a1]; exact (Nat.div_lt_iff_lt_mul (D.n_pos u)).2 a2
                      obtain ⟨b1, b2, b3, b4, b5⟩ := setElem_spec hset hkd hv a5
                      have e3 : k / C.n u * C.n u + k % C.n u = k := by
                        have := Nat.div_add_mod k (C.n u)
                        rw [Nat.mul_comm] at this
                        exact this
                      rw [e3] at b4
                      have hst := hitW_start vs o' u N xs k hhit
                      have hfin := setArr_spec vs (o' - k) u N xs xs' vs' cs.toList _ hst.2 hsa b1 h2 b4
                      have hlen : k + i.size ≤ N * C.n u := by
                        have hq : (k / C.n u + 1) * C.n u ≤ N * C.n u := Nat.mul_le_mul_right _ (a1 ▸ hkd)
                        rw [Nat.add_mul, Nat.one_mul] at hq
                        omega
                      refine store_run hR ht ho hb e h1 hsz (by have := a4; simp at this; omega) hone fun w' cs' hL hw' hcs' => ⟨cs', T, ⟨hw', hty⟩, ?_⟩
                      refine DenC.mono hL _ _ ?_
                      rw [hcs']
                      have hlv : ((List.drop (o' - k) cs.toList).take (N * C.n u)).length = N * C.n u := by
                        simp only [List.length_take, List.length_drop]; omega
                      have goal : cs.toList.take (o' - k) ++ (((cs.toList.drop (o' - k)).take (N * C.n u)).take k ++ (a.eval ov).cells.toList ++ ((cs.toList.drop (o' - k)).take (N * C.n u)).drop (k + i.size)) ++
                          cs.toList.drop (o' - k + (((cs.toList.drop (o' - k)).take (N * C.n u)).take k ++ (a.eval ov).cells.toList ++ ((cs.toList.drop (o' - k)).take (N * C.n u)).drop (k + i.size)).length) =
                          cs.toList.take o' ++ (a.eval ov).cells.toList ++ cs.toList.drop (o' + i.size) := by
                        have f1 : cs.toList.take (o' - k) ++ ((cs.toList.drop (o' - k)).take (N * C.n u)).take k = cs.toList.take o' := by
                          rw [List.take_take, Nat.min_eq_left (by omega), ← List.take_add]
                          congr 1
                          omega
                        have f2 : (((cs.toList.drop (o' - k)).take (N * C.n u)).take k ++ (a.eval ov).cells.toList ++ ((cs.toList.drop (o' - k)).take (N * C.n u)).drop (k + i.size)).length = N * C.n u := by
                          simp only [List.length_append, List.length_take, List.length_drop, Array.length_toList, hsz] at hlv ⊢
                          simp only [Array.length_toList] at a4
                          omega
                        have f3 : ((cs.toList.drop (o' - k)).take (N * C.n u)).drop (k + i.size) ++ cs.toList.drop (o' - k + N * C.n u) = cs.toList.drop (o' + i.size) := by
                          have f4 : cs.toList.drop (o' - k + N * C.n u) = ((cs.toList.drop (o' - k)).drop (k + i.size)).drop (N * C.n u - (k + i.size)) := by
                            rw [List.drop_drop, List.drop_drop]; congr 1; omega
                          rw [f4, List.drop_take, List.take_append_drop, List.drop_drop]
                          congr 1
                          omega
                        rw [f2, ← f1, ← f3]
                        simp only [List.append_assoc]
                      rw [← goal]
                      exact hfin
                    · trivial
                  · trivial
              · split
                · rename_i vs' hsp; exact spl vs' hsp
                · trivial
              · trivial
            · trivial
      | _ => trivial
    | eptr c o' n k f =>
      simp only
      rw [hhs c rfl]
      cases hsq : seqAt (H c) o' with
      | no => trivial
      | some u xs =>
        simp only
        cases hset : setElem D u xs k f i.size sv with
        | none => trivial
        | some xs' =>
          simp only
          rintro ⟨hk, hn⟩
          subst hn
          rcases live_at hR.sat (c := c) (by intro e; rw [e] at hsq; cases hsq) (by intro e; rw [e] at hsq; cases hsq) with ⟨_, u', h⟩ | ⟨b, hb, hat⟩
          · rw [h] at hsq
            cases o' <;> simp [seqAt] at hsq
            obtain ⟨rfl, h2⟩ := hsq
            cases h2
            simp at hk
          · have e := eptr_den ha hb
            have hq := seqAt_spec (o := o') hat
            rw [hsq] at hq
            obtain ⟨cs, T, h1, h2, h3⟩ := hq
            obtain ⟨b1, b2, b3, b4, b5⟩ := setElem_spec hset hk hv h3
            have hkn : k * C.n u + C.n u ≤ xs.length * C.n u := by
              have := Nat.mul_le_mul_right (C.n u) hk
              rwa [Nat.succ_mul] at this
            refine store_run hR ht ho hb e h1 b2 (by omega) b5 fun w' cs' hL hw' hcs' => ?_
            -- the cells of the sequence, and what lies around it
            have hlv : ((cs.toList.drop o').take (xs.length * C.n u)).length = xs.length * C.n u := by
              simp only [List.length_take, List.length_drop, Array.length_toList]; omega
            generalize hkf : k * C.n u + f = g at *
            have hg : g + i.size ≤ xs.length * C.n u := by omega
            have b4' := b4.mono (w' := w') hL.F
            generalize hV : (cs.toList.drop o').take (xs.length * C.n u) = V at *
            have hto : (cs.toList.take o').length = o' := by simp; omega
            have hfull : cs'.toList = cs.toList.take o' ++ (V.take g ++ (a.eval ov).cells.toList ++ V.drop (g + i.size)) ++ cs.toList.drop (o' + xs.length * C.n u) := by
              rw [hcs', show o' + k * C.n u + f = o' + g by omega]
              have f1 : cs.toList.take (o' + g) = cs.toList.take o' ++ V.take g := by
                rw [List.take_add, ← hV, List.take_take, Nat.min_eq_left (by omega)]
              have f2 : cs.toList.drop (o' + g + i.size) = V.drop (g + i.size) ++ cs.toList.drop (o' + xs.length * C.n u) := by
                rw [← hV, List.drop_take]
                have f4 : cs.toList.drop (o' + xs.length * C.n u) = ((cs.toList.drop o').drop (g + i.size)).drop (xs.length * C.n u - (g + i.size)) := by
                  rw [List.drop_drop, List.drop_drop]; congr 1; omega
                rw [f4, List.take_append_drop, List.drop_drop]
                congr 1
                omega
              rw [f1, f2]
              simp
            have hl2 : (V.take g ++ (a.eval ov).cells.toList ++ V.drop (g + i.size)).length = xs.length * C.n u := by
              simp only [List.length_append, List.length_take, List.length_drop, Array.length_toList, b2, hlv]; omega
            have hnew : (cs'.toList.drop o').take (xs.length * C.n u) = V.take g ++ (a.eval ov).cells.toList ++ V.drop (g + i.size) := by
              rw [hfull, List.append_assoc, List.drop_left' hto, List.take_left' hl2]
            cases hH : H c with
            | fresh => rw [hH] at hsq; cases hsq
            | dead => rw [hH] at hsq; cases hsq
            | obj ob => rw [hH] at hsq; cases hsq
            | rows u0 xs0 =>
              rw [hH] at hsq
              cases o' with
              | succ o' => simp [seqAt] at hsq
              | zero =>
                simp only [putSeq]
                rw [hH] at hat
                obtain ⟨cs2, T2, c1, _⟩ := hat
                obtain ⟨rfl, rfl⟩ := h1.inj c1.1
                have hu : u0 = u := by simp only [seqAt, Sq.some.injEq] at hsq; exact hsq.1
                subst hu
                refine ⟨cs', T, ⟨hw', c1.2⟩, ?_, ?_⟩
                · rw [b1, ← Array.length_toList, hcs']
                  simp only [List.length_append, List.length_take, List.length_drop, Array.length_toList, b2]
                  omega
                · rw [b1]
                  simp only [List.drop_zero] at hnew
                  rw [hnew]
                  exact b4'
            | vart ty vs =>
              rw [hH] at hsq
              simp only [seqAt] at hsq
              cases hhit : hitW vs o' with
              | miss => simp [hhit] at hsq
              | cell x => simp [hhit] at hsq
              | elem u1 N xs1 k1 =>
                cases k1 with
                | succ k1 => simp [hhit] at hsq
                | zero =>
                  simp [hhit] at hsq
                  obtain ⟨rfl, hx1⟩ := hsq
                  cases hx1
                  simp only [putSeq]
                  cases hsa : setArr vs o' u1 xs' with
                  | none => obtain ⟨_, h7⟩ := setArr_some vs o' u1 N xs1 xs' hhit; rw [h7] at hsa; cases hsa
                  | some vs' =>
                    simp only
                    rw [hH] at hat
                    obtain ⟨cs2, T2, c1, c2⟩ := hat
                    obtain ⟨rfl, rfl⟩ := h1.inj c1.1
                    have hfin := setArr_spec vs o' u1 N xs1 xs' vs' cs.toList _ hhit hsa b1 c2 b4
                    refine ⟨cs', T, ⟨hw', c1.2⟩, DenC.mono hL _ _ ?_⟩
                    rw [hl2] at hfin
                    rw [hfull]
                    exact hfin
    | _ => trivial

end
end Go.SX
