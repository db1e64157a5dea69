/-
  SX, part G: more operations that make or write no memory.
-/
import Derived.Test.YtdaghncicimipaaGreatDoorSxF
set_option linter.unusedVariables false
set_option linter.unusedSimpArgs false
namespace Go.SX
open Go.RowKit
variable {C : Cod}
section
variable {P : Program} {D : Codec C} {tab : Tab C} {B : Base} {E : Env} {σ : Nat → SV C} {H : Nat → HS C} {df : List Deferred} {a : Act} {w : World} {o : Oper}

theorem partW_spec {t : TypeId} {i : TI C} (ht : TyOK P D t i) {vs : List (SV C)} {off : Nat} {sv : SV C} {cs : Array Value} (h : partW i vs off = some sv) (hd : DenC D w E vs cs.toList) :
    ∃ v, (part t cs off).run P w = .ok v w ∧ Den D w E sv v := by
  unfold partW at h
  cases hg : i.kind.agg with
  | true =>
    simp only [hg] at h
    cases hdw : dropW vs off with
    | none => simp [hdw] at h
    | some r =>
      cases htw : takeW r i.size with
      | none => simp [hdw, htw] at h
      | some l =>
        simp [hdw, htw] at h; subst h
        obtain ⟨h1, h2⟩ := dropW_spec _ _ _ _ hdw hd
        obtain ⟨h3, h4⟩ := takeW_spec _ _ _ _ htw h1
        refine ⟨.agg (cs.extract off (off + i.size)), by simp [part, agg_isAgg ht, hg, run_sizeOf ht], ?_⟩
        simp only [Den]
        refine ⟨_, rfl, ?_⟩
        rw [Array.toList_extract]
        simpa [List.extract_eq_take_drop] using h3
  | false =>
    simp only [hg] at h
    have hh := hitW_spec vs off cs.toList hd
    cases hq : hitW vs off with
    | miss => simp [hq] at h
    | elem u N xs k => simp [hq] at h
    | cell x =>
      simp [hq] at h; subst h
      rw [hq] at hh
      obtain ⟨v, h1, h2, h3⟩ := hh
      have h1' : cs[off]? = some v := by simpa using h1
      exact ⟨v, by simp [part, agg_isAgg ht, hg, h1'], h3⟩

theorem field_ok (hT : TabOK P D tab) (hR : Rel D B E σ H df a w) {s : TypeId} {ox : Operand} {f : Nat} (ho : o.op = .field s ox f) :
    OutOK P D B σ H df a w o (doField tab s (ev σ ox) f) := by
  have hx := ev_den hR ox
  generalize ev σ ox = sx at *
  unfold doField
  cases htab : tab s with
  | none => trivial
  | some i =>
    simp only
    have ht := hT s i htab
    split
    · rename_i fs hk
      obtain ⟨F, hu, hF⟩ := struct_of ht hk
      cases hf : ixL fs f with
      | none => trivial
      | some p =>
        obtain ⟨off, ft⟩ := p
        obtain ⟨fd, h1, h2, h3⟩ := field_get hF hf
        simp only
        cases htf : tab ft with
        | none => trivial
        | some j =>
          have hj := hT ft j htf
          simp only
          split
          · rename_i vs
            simp only [Den] at hx
            obtain ⟨cs, e, hd⟩ := hx
            unfold optSV
            split
            · rename_i sv hsv
              obtain ⟨v, h4, h5⟩ := partW_spec (w := w) hj hsv hd
              exact runOK_of hR (by simp [execOp, ho, e, Instr.field, run_underlying hu, h1, asAgg, h2, h3, h4]) h5
            · trivial
          · trivial
    · trivial

theorem run_indexAt_array {t e : TypeId} {j : TI C} {len : Nat} (hu : P.underlying t = some (.array len e)) (hj : TyOK P D e j) {k : IntKind} {n : Int} {b o' : Nat} (h0 : 0 ≤ n) (h1 : n < len) :
    (Instr.indexAt t (.pointer (some ⟨b, o', none⟩)) (.int k n)).run P w = .ok (.pointer (some ⟨b, o' + n.toNat * j.size, none⟩)) w := by
  have : 0 ≤ n ∧ n < (len : Int) := ⟨h0, h1⟩
  simp [Instr.indexAt, asIntOf, run_underlying hu, Instr.sureAddr, this, run_sizeOf hj, Addr.add_lit]

theorem run_indexAt_slice {t e : TypeId} {j : TI C} (hu : P.underlying t = some (.slice e)) (hj : TyOK P D e j) {k : IntKind} {n : Int} {b o' len cap : Nat} (h0 : 0 ≤ n) (h1 : n < len) :
    (Instr.indexAt t (.slice (some ⟨b, o', none⟩) len cap) (.int k n)).run P w = .ok (.pointer (some ⟨b, o' + n.toNat * j.size, none⟩)) w := by
  have : 0 ≤ n ∧ n < (len : Int) := ⟨h0, h1⟩
  simp [Instr.indexAt, asIntOf, run_underlying hu, this, run_sizeOf hj, Addr.add_lit]

theorem intAt_get {q : IntKind} : ∀ {l : List (PV C)}, allInt q l = true → ∀ {i : Nat}, i < l.length → l[i]? = some (.int q (intAt l i))
  | [], _, i, hi => by simp at hi
  | x :: l, h, i, hi => by
    cases x with
    | int k n =>
      simp only [allInt] at h
      split at h
      · rename_i e _
        subst e
        cases i with
        | zero => rfl
        | succ i => simpa [intAt] using intAt_get h (by simpa using hi)
      · cases h
    | _ => simp [allInt] at h
theorem indexAddr_ok (hT : TabOK P D tab) (hR : Rel D B E σ H df a w) {t : TypeId} {ox oi : Operand} (ho : o.op = .indexAddr t ox oi) {hs : List (Nat × HS C)} (hhs : ∀ c, (ev σ ox).topId = some c → lk hs c = H c) :
    OutOK P D B σ H df a w o (doIndexAddr D tab t (ev σ ox) (ev σ oi) hs) := by
  have hx := ev_den hR ox
  have hi := ev_den hR oi
  generalize ev σ ox = sx at *
  generalize ev σ oi = si at *
  unfold doIndexAddr
  split
  · rename_i i ik n htab
    have ht := hT t i htab
    have ei := den_int hi
    split
    · rename_i len e hk
      have hu := arr_of ht hk
      cases hte : tab e with
      | none => trivial
      | some j =>
        have hj := hT e j hte
        simp only
        have key : ∀ b o', a.eval ox = .pointer (some ⟨b, o', none⟩) → 0 ≤ n → n < len → (execOp a.eval o).run P w = .ok (.value (.pointer (some ⟨b, o' + n.toNat * j.size, none⟩))) w := fun b o' e h0 h1 => by
          simp [execOp, ho, e, ei, run_indexAt_array (w := w) hu hj h0 h1]
        split
        · rename_i c o'
          split
          · rename_i u xs hsq
            rintro ⟨h0, h1, h2, h3⟩
            rw [hhs c rfl] at hsq
            have hl : (H c).live = true := by cases hH : H c <;> rw [hH] at hsq <;> first | rfl | (simp [seqAt] at hsq)
            obtain ⟨b, hb⟩ := ptr_live hR.sat hl hx
            refine runOK_of hR (key b o' (ptr_den hx hb) h0 h1) ?_
            simp only [Den, hb, h2, Nat.add_zero]
          · refine ifLive_ok fun hl => ?_
            rw [hhs c rfl] at hl
            rintro ⟨h0, h1⟩
            obtain ⟨b, hb⟩ := ptr_live hR.sat hl hx
            refine runOK_of hR (key b o' (ptr_den hx hb) h0 h1) ?_
            simp only [Den, hb]
        · rename_i c o' m l f
          refine ifLive_ok fun hl => ?_
          rw [hhs c rfl] at hl
          rintro ⟨h0, h1⟩
          obtain ⟨b, hb⟩ := eptr_live hR.sat hl hx
          refine runOK_of hR (key b _ (eptr_den hx hb) h0 h1) ?_
          simp only [Den, hb, Nat.add_assoc]
        · rename_i cells f
          split
          · rintro ⟨h0, h1⟩
            simp only [Den] at hx
            obtain ⟨b, o', e, hc⟩ := hx
            refine runOK_of hR (key b _ e h0 h1) ?_
            simp only [Den]
            exact ⟨b, o', by rw [Nat.add_assoc], hc⟩
          · split
            · split
              · rename_i q hq hall
                rintro ⟨h0, h1, h2, h3⟩
                simp only [Den] at hx
                obtain ⟨b, o', e, hc⟩ := hx
                refine runOK_of hR (key b _ e h0 h1) ?_
                simp only [Den]
                refine ⟨b, o' + (f + n.toNat), by rw [h2]; simp [Nat.add_assoc], fun jj pv hp => ?_⟩
                have hjj : jj = 0 := by
                  cases jj with
                  | zero => rfl
                  | succ jj => simp at hp
                subst hjj
                simp at hp
                subst hp
                have := hc (f + n.toNat) _ (intAt_get hall (by omega))
                simpa [Nat.add_assoc] using this
              · trivial
            · trivial
        · trivial
    · rename_i e hk
      have hu := slice_of ht hk
      cases hte : tab e with
      | none => trivial
      | some j =>
        have hj := hT e j hte
        simp only
        split
        · rename_i u xs
          rintro ⟨h0, h1, h2⟩
          simp only [Den] at hx
          have hlt : n.toNat < xs.length := by omega
          generalize hxx : a.eval ox = vx at hx
          cases hx with
          | dslNil => simp at hlt
          | dsl _ _ b o' cap cv hF hc hcell hden =>
            refine runOK_of hR (u := .pointer (some ⟨b, o' + n.toNat * j.size, none⟩)) ?_ ?_
            · simp [execOp, ho, hxx, ei, run_indexAt_slice (w := w) hu hj h0 h1]
            · simp only [Den]
              refine ⟨b, o' + n.toNat * j.size, by simp, fun jj pv hp => ?_⟩
              have hxs : xs[n.toNat]? = some (xs.getD n.toNat (C.dflt u)) := by simp [List.getD_eq_getElem?_getD, List.getElem?_eq_getElem hlt]
              refine ⟨hF (fun e => by rw [e] at hlt; simp at hlt), _, ?_, hden _ _ hxs _ _ hp⟩
              rw [h2]
              exact hcell _ _ hxs _ _ hp
        · rename_i c o' m off len
          split
          · refine ifLive_ok fun hl => ?_
            rw [hhs c rfl] at hl
            rintro ⟨h0, h1, h2⟩
            rcases slice_live hR.sat hl hx with ⟨h3, _⟩ | ⟨b, cap, cs, T, hb, e, _⟩
            · subst h3; omega
            · refine runOK_of hR (u := .pointer (some ⟨b, o' + off * m + n.toNat * j.size, none⟩)) ?_ ?_
              · simp [execOp, ho, e, ei, run_indexAt_slice (w := w) hu hj h0 h1]
              · simp only [Den, hb, h2, Nat.add_mul, Nat.add_assoc]
          · refine ifLive_ok fun hl => ?_
            rw [hhs c rfl] at hl
            rintro ⟨h0, h1, h2⟩
            rcases slice_live hR.sat hl hx with ⟨h3, _⟩ | ⟨b, cap, cs, T, hb, e, _⟩
            · subst h3; omega
            · refine runOK_of hR (u := .pointer (some ⟨b, o' + off * m + n.toNat * j.size, none⟩)) ?_ ?_
              · simp [execOp, ho, e, ei, run_indexAt_slice (w := w) hu hj h0 h1]
              · simp only [Den, hb, h2, Nat.add_mul, Nat.add_zero, Nat.add_assoc]
        · trivial
    · trivial
  · trivial

theorem index_ok (hT : TabOK P D tab) (hR : Rel D B E σ H df a w) {t : TypeId} {ox oi : Operand} (ho : o.op = .index t ox oi) :
    OutOK P D B σ H df a w o (doIndex D tab t (ev σ ox) (ev σ oi)) := by
  have hx := ev_den hR ox
  have hi := ev_den hR oi
  generalize ev σ ox = sx at *
  generalize ev σ oi = si at *
  unfold doIndex
  split
  · rename_i l k n
    have ex := den_str hx
    have ei := den_int hi
    cases htab : tab t with
    | none => trivial
    | some i =>
      have ht := hT t i htab
      simp only
      split
      · rename_i hk
        have hu := str_of ht hk
        rintro ⟨h0, h1⟩
        have hlt : n.toNat < l.length := by omega
        refine runOK_of hR (u := .int .u8 (l.getD n.toNat 0).toNat) ?_ (mk_int _ _)
        have hg : (⟨⟨l⟩⟩ : ByteArray)[n.toNat]? = some (l.getD n.toNat 0) := by
          have : n.toNat < (⟨⟨l⟩⟩ : ByteArray).size := hlt
          rw [getElem?_pos (⟨⟨l⟩⟩ : ByteArray) n.toNat this]
          simp [List.getD_eq_getElem?_getD, List.getElem?_eq_getElem hlt]
          rfl
        simp [execOp, ho, ex, ei, Instr.index, asIntOf, run_underlying hu, h0, hg]
      · trivial
  · rename_i u N xs k n
    simp only [Den] at hx
    obtain ⟨cs, ex, hd⟩ := hx
    have ei := den_int hi
    cases htab : tab t with
    | none => trivial
    | some i =>
      have ht := hT t i htab
      simp only
      split
      · rename_i len e hk
        have hu := arr_of ht hk
        cases hte : tab e with
        | none => trivial
        | some j =>
          have hj := hT e j hte
          simp only
          unfold condSide
          split
          · rename_i sv hlc
            rintro ⟨h0, h1, h2, h3⟩
            simp only [DenC] at hd
            obtain ⟨hN, v1, v2, e1, hp, e2⟩ := hd
            subst e2
            simp only [List.append_nil] at e1
            -- put the cells into a world of their own: part reads the array, not memory
            have hlt : n.toNat < xs.length := by omega
            have hxs : xs[n.toNat]? = some (xs.getD n.toNat (C.dflt u)) := by simp [List.getD_eq_getElem?_getD, List.getElem?_eq_getElem hlt]
            have hcell : ∀ jj pv, (D.enc u (xs.getD n.toNat (C.dflt u)))[jj]? = some pv → ∃ v, cs.toList[n.toNat * C.n u + jj]? = some v ∧ PDen D w E.F pv v := by
              intro jj pv hpv
              have hjl : jj < C.n u := by
                have := (List.getElem?_eq_some_iff.1 hpv).1
                rwa [D.enc_len] at this
              have hf := flatMap_get (D := D) u xs n.toNat jj _ hxs hjl
              rw [hpv] at hf
              have hlen : n.toNat * C.n u + jj < v1.length := by
                rw [← hp.1]; exact (List.getElem?_eq_some_iff.1 hf).1
              rw [e1]
              exact ⟨v1[n.toNat * C.n u + jj], List.getElem?_eq_getElem hlen, hp.2 _ _ _ hf (List.getElem?_eq_getElem hlen)⟩
            have h01 : 0 ≤ n ∧ n < (len : Int) := ⟨h0, h1⟩
            unfold loadCellsAt at hlc
            cases hg : j.kind.agg with
            | true =>
              simp only [hg] at hlc
              have hd0 : dropP (D.enc u (xs.getD n.toNat (C.dflt u))) 0 = some (D.enc u (xs.getD n.toNat (C.dflt u))) := by
                cases D.enc u (xs.getD n.toNat (C.dflt u)) <;> rfl
              rw [hd0] at hlc
              replace hlc : (match takeP (D.enc u (xs.getD n.toNat (C.dflt u))) j.size with | some l => some (SV.agg (pcells l)) | none => none) = some sv := hlc
              cases htk : takeP (D.enc u (xs.getD n.toNat (C.dflt u))) j.size with
              | none => rw [htk] at hlc; cases hlc
              | some l =>
                rw [htk] at hlc
                cases hlc
                obtain ⟨h4, h5⟩ := takeP_some _ _ _ htk
                have hl : l = D.enc u (xs.getD n.toNat (C.dflt u)) := by
                  rw [h4, h2]
                  exact List.take_of_length_le (by rw [D.enc_len]; exact Nat.le_refl _)
                refine runOK_of hR (u := .agg (cs.extract (n.toNat * j.size) (n.toNat * j.size + j.size))) ?_ ?_
                · simp [execOp, ho, ex, ei, Instr.index, asIntOf, run_underlying hu, h01, run_sizeOf hj, part, agg_isAgg hj, hg]
                · simp only [Den]
                  refine ⟨_, rfl, ?_⟩
                  have hcl : n.toNat * C.n u + C.n u ≤ cs.toList.length := by
                    rw [e1, ← hp.1, flatMap_length]
                    have := Nat.mul_le_mul_right (C.n u) hlt
                    rw [Nat.succ_mul] at this
                    exact this
                  refine pcells_den ?_ fun jj pv v hp' hv => ?_
                  · rw [hl, D.enc_len, Array.toList_extract]
                    simp [List.extract_eq_take_drop, h2] at hcl ⊢
                    omega
                  · rw [hl] at hp'
                    obtain ⟨v', h6, h7⟩ := hcell jj pv hp'
                    rw [Array.toList_extract, List.extract_eq_take_drop, List.getElem?_take] at hv
                    split at hv
                    · rw [List.getElem?_drop, h2, h6] at hv
                      cases hv; exact h7
                    · cases hv
            | false =>
              simp only [hg] at hlc
              rw [ixL_eq] at hlc
              cases hx0 : (D.enc u (xs.getD n.toNat (C.dflt u)))[0]? with
              | none => rw [hx0] at hlc; simp at hlc
              | some pv =>
                rw [hx0] at hlc; simp at hlc; subst hlc
                obtain ⟨v, h4, h5⟩ := hcell 0 pv hx0
                refine runOK_of hR (u := v) ?_ (by simp only [Den]; exact h5)
                have h4' : cs[n.toNat * j.size]? = some v := by rw [h2]; simpa using h4
                simp [execOp, ho, ex, ei, Instr.index, asIntOf, run_underlying hu, h01, run_sizeOf hj, part, agg_isAgg hj, hg, h4']
          · trivial
      · trivial
  · trivial

theorem denA_get : ∀ (l : List (SV C)) (vs : List Value), DenA D w E l vs → ∀ (i : Nat) (x : SV C), l[i]? = some x → ∃ v, vs[i]? = some v ∧ Den D w E x v
  | [], vs, _, i, x, h => by simp at h
  | y :: l, vs, hd, i, x, h => by
    simp only [DenA] at hd
    obtain ⟨v, v2, rfl, h1, h2⟩ := hd
    cases i with
    | zero => simp at h; subst h; exact ⟨v, by simp, h1⟩
    | succ i => exact denA_get l v2 h2 i x (by simpa using h)

theorem extract_ok (hR : Rel D B E σ H df a w) {ox : Operand} {i : Nat} (ho : o.op = .extract ox i) : OutOK P D B σ H df a w o (doExtract (ev σ ox) i) := by
  have hx := ev_den hR ox
  generalize ev σ ox = sx at *
  unfold doExtract
  split
  · rename_i vs
    simp only [Den] at hx
    obtain ⟨xs, e, hd⟩ := hx
    split
    · rename_i v hv
      rw [ixL_eq] at hv
      obtain ⟨u, h1, h2⟩ := denA_get _ _ hd _ _ hv
      have h1' : xs[i]? = some u := by simpa using h1
      exact runOK_of hR (by simp [execOp, ho, e, Instr.extract, h1']) h2
    · trivial
  · trivial

theorem move_ok (hR : Rel D B E σ H df a w) {ox : Operand} (ho : o.op = .move ox ∨ o.op = .assign ox) : OutOK P D B σ H df a w o (.val (ev σ ox)) := by
  rcases ho with ho | ho <;> exact runOK_of hR (by simp [execOp, ho]) (ev_den hR ox)

theorem pick_ok (hR : Rel D B E σ H df a w) {oc ox oy : Operand} (ho : o.op = .pick oc ox oy) {c : Bool} (hc : ev σ oc = .p (.bool c)) :
    OutOK P D B σ H df a w o (.val (match c with | true => ev σ ox | false => ev σ oy)) := by
  have h := ev_den hR oc
  rw [hc] at h
  have e := den_bool h
  cases c with
  | true => exact runOK_of hR (by simp [execOp, ho, e, asBool]) (ev_den hR ox)
  | false => exact runOK_of hR (by simp [execOp, ho, e, asBool]) (ev_den hR oy)

theorem denA_map (hR : Rel D B E σ H df a w) : ∀ (l : List Operand), DenA D w E (l.map (ev σ)) (l.map a.eval)
  | [] => by simp [DenA]
  | x :: l => by simp only [List.map_cons, DenA]; exact ⟨_, _, rfl, ev_den hR x, denA_map hR l⟩

theorem nilCheck_ok (hR : Rel D B E σ H df a w) {ox : Operand} (ho : o.op = .nilCheck ox) {hs : List (Nat × HS C)} (hhs : ∀ c, (ev σ ox).topId = some c → lk hs c = H c) :
    OutOK P D B σ H df a w o (match [ev σ ox] with
      | [.ptr c o] => ifLive (lk hs c) (.val (.ptr c o))
      | [.eptr c o n i f] => ifLive (lk hs c) (.val (.eptr c o n i f))
      | [.dptr cells f] => .val (.dptr cells f)
      | [.fn (.func f) a b] => .val (.fn (.func f) a b)
      | _ => .stuck) := by
  have hx := ev_den hR ox
  generalize ev σ ox = sx at *
  split
  · rename_i c o' heq
    cases heq
    refine ifLive_ok fun hl => ?_
    rw [hhs c rfl] at hl
    obtain ⟨b, hb⟩ := ptr_live hR.sat hl hx
    have e := ptr_den hx hb
    exact runOK_of hR (u := a.eval ox) (by simp [execOp, ho, e]) hx
  · rename_i c o' n i f heq
    cases heq
    refine ifLive_ok fun hl => ?_
    rw [hhs c rfl] at hl
    obtain ⟨b, hb⟩ := eptr_live hR.sat hl hx
    have e := eptr_den hx hb
    exact runOK_of hR (u := a.eval ox) (by simp [execOp, ho, e]) hx
  · rename_i cells f heq
    cases heq
    have hx' := hx
    simp only [Den] at hx
    obtain ⟨b, o', e, _⟩ := hx
    exact runOK_of hR (u := a.eval ox) (by simp [execOp, ho, e]) hx'
  · rename_i f x y heq
    cases heq
    have hx' := hx
    simp only [Den] at hx
    obtain ⟨xs, ys, e, _⟩ := hx
    exact runOK_of hR (u := a.eval ox) (by simp [execOp, ho, e]) hx'
  · trivial

theorem makeFunc_ok (hR : Rel D B E σ H df a w) {f : Fn} {first captured : Array Operand} (ho : o.op = .makeFunc f first captured) :
    OutOK P D B σ H df a w o (.val (.fn f (first.toList.map (ev σ)) (captured.toList.map (ev σ)))) := by
  refine runOK_of hR (u := .func f (first.map a.eval) (captured.map a.eval)) ?_ ?_
  · simp [execOp, ho, Instr.makeFunc]
  · simp only [Den]
    refine ⟨_, _, rfl, ?_, ?_⟩
    · simpa using denA_map hR first.toList
    · simpa using denA_map hR captured.toList

end
end Go.SX
