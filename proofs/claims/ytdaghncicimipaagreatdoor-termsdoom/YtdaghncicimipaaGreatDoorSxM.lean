/-
  SX, part M: every operation's reckoning is right.
-/
import Derived.Test.YtdaghncicimipaaGreatDoorSxMp
set_option linter.unusedVariables false
set_option linter.unusedSimpArgs false
namespace Go.SX
open Go.RowKit
variable {C : Cod}
section
variable {P : Program} {D : Codec C} {tab : Tab C} {B : Base} {E : Env} {σ : Nat → SV C} {H : Nat → HS C} {df : List Deferred} {a : Act} {w : World} {o : Oper}

theorem denA_append : ∀ (l m : List (SV C)) (vs ws : List Value), DenA D w E l vs → DenA D w E m ws → DenA D w E (l ++ m) (vs ++ ws)
  | [], m, vs, ws, h, k => by simp only [DenA] at h; subst h; simpa using k
  | x :: l, m, vs, ws, h, k => by
    simp only [DenA] at h
    obtain ⟨v, v2, rfl, h1, h2⟩ := h
    simp only [List.cons_append, DenA]
    exact ⟨v, v2 ++ ws, rfl, h1, denA_append l m _ _ h2 k⟩

def Out.plain : Out C → Bool
  | .mem _ _ => false
  | .smem _ _ _ => false
  | .call _ _ => false
  | .yieldc _ _ => false
  | .ask _ _ => false
  | .may _ _ => false
  | _ => true
theorem doLoad_plain (t : TypeId) (x : SV C) (hs : List (Nat × HS C)) : (doLoad D tab t x hs).plain = true := by
  unfold doLoad
  split
  · rfl
  · split
    · split
      · unfold loadVarAt
        split
        · split
          · split <;> rfl
          · rfl
        · split
          · rfl
          · split <;> rfl
          · rfl
      · rfl
    · split
      · unfold condSide; split <;> rfl
      · rfl
    · unfold loadSeqAt; (repeat' split) <;> rfl
    · rfl

theorem exec_ok (A : Aux C D) (hT : TabOK P D tab) (hR : Rel D B E σ H df a w) {m : Nat} (hm : H m = .fresh) {vals : List (SV C)} (hv : vals = (opnds o.op).map (ev σ)) {hs : List (Nat × HS C)}
    (hhs : ∀ x ∈ vals, ∀ c, x.topId = some c → lk hs c = H c) : OutOK P D B σ H df a w o (exec A tab o.op vals hs m) := by
  subst hv
  cases ho : o.op with
  | move x => simp only [exec, opnds, List.map_cons, List.map_nil]; exact move_ok hR (.inl ho)
  | assign x => simp only [exec, opnds, List.map_cons, List.map_nil]; exact move_ok hR (.inr ho)
  | pick c x y =>
    simp only [exec, opnds, List.map_cons, List.map_nil]
    cases hc : ev σ c with
    | p pv =>
      cases pv with
      | bool b =>
        simp only
        cases b with
        | true => exact pick_ok hR ho hc
        | false => exact pick_ok hR ho hc
      | _ => trivial
    | _ => trivial
  | alloc t => simp only [exec]; exact alloc_ok hT hR hm ho
  | box t x => simp only [exec, opnds, List.map_cons, List.map_nil]; exact box_ok hR hm ho
  | build t ps => simp only [exec, opnds]; exact build_ok hT hR ho
  | buildSlice t len ps => simp only [exec, opnds]; exact buildSlice_ok hT hR hm ho
  | load t x =>
    simp only [exec, opnds, List.map_cons, List.map_nil]
    have h := load_ok hT hR ho (hs := hs) (hhs (ev σ x) (by simp [ho, opnds]))
    generalize hout : doLoad D tab t (ev σ x) hs = out at h
    cases out with
    | stuck => trivial
    | val v => exact h
    | side p v => exact h
    | mem v ws => have := doLoad_plain (D := D) (tab := tab) t (ev σ x) hs; rw [hout] at this; cases this
    | smem p v ws => have := doLoad_plain (D := D) (tab := tab) t (ev σ x) hs; rw [hout] at this; cases this
    | call f args => have := doLoad_plain (D := D) (tab := tab) t (ev σ x) hs; rw [hout] at this; cases this
    | yieldc f args => have := doLoad_plain (D := D) (tab := tab) t (ev σ x) hs; rw [hout] at this; cases this
    | may q K => have := doLoad_plain (D := D) (tab := tab) t (ev σ x) hs; rw [hout] at this; cases this
    | ask q K => have := doLoad_plain (D := D) (tab := tab) t (ev σ x) hs; rw [hout] at this; cases this
  | store t x y => simp only [exec, opnds, List.map_cons, List.map_nil]; exact store_ok hT hR ho (hhs (ev σ x) (by simp [ho, opnds]))
  | nilCheck x => simp only [exec, opnds, List.map_cons, List.map_nil]; exact nilCheck_ok hR ho (hhs (ev σ x) (by simp [ho, opnds]))
  | binOp op t x y yt =>
    simp only [exec, opnds, List.map_cons, List.map_nil]
    split
    · exact binP_ok { A with wr := true } hT hR ho (hhs (ev σ x) (by simp [ho, opnds]))
    · exact binP_ok A hT hR ho (hhs (ev σ x) (by simp [ho, opnds]))
  | unOp op t x => simp only [exec, opnds, List.map_cons, List.map_nil]; exact un_ok hR ho
  | convert src dst x => simp only [exec, opnds, List.map_cons, List.map_nil]; exact conv_ok A hT hR hm ho (hhs (ev σ x) (by simp [ho, opnds]))
  | makeFunc f first captured =>
    simp only [exec, opnds, List.map_append]
    have h1 : ((first.toList.map (ev σ) ++ captured.toList.map (ev σ)).take first.size) = first.toList.map (ev σ) := List.take_left' (by simp)
    have h2 : ((first.toList.map (ev σ) ++ captured.toList.map (ev σ)).drop first.size) = captured.toList.map (ev σ) := List.drop_left' (by simp)
    rw [h1, h2]
    exact makeFunc_ok hR ho
  | makeSlice t l c => simp only [exec, opnds, List.map_cons, List.map_nil]; exact makeSlice_ok hT hR hm ho
  | slice t x lo hi mx =>
    cases mx with
    | some q =>
      cases lo with
      | none =>
        cases hi with
        | none => trivial
        | some h =>
          have := full_ok hT hR ho (hs := hs) (hhs (ev σ x) (by simp [ho, opnds]))
          simp only [exec, opnds, List.map_cons, List.map_nil, List.append_nil, List.nil_append, List.cons_append]
          exact this
      | some l =>
        cases hi with
        | none => trivial
        | some h =>
          have := slice3_ok (m := m) hT hR ho (hs := hs) (hhs (ev σ x) (by simp [ho, opnds]))
          simp only [exec, opnds, List.map_cons, List.map_nil, List.append_nil, List.nil_append, List.cons_append]
          exact this hm
    | none =>
      have h := slice_ok hT hR ho (hs := hs) (hhs (ev σ x) (by simp [ho, opnds]))
      cases lo <;> cases hi <;> simp only [exec, opnds, List.map_cons, List.map_nil, List.append_nil, List.nil_append, List.cons_append] <;> exact h
  | fieldAddr s x f => simp only [exec, opnds, List.map_cons, List.map_nil]; exact fieldAddr_ok hT hR ho (hhs (ev σ x) (by simp [ho, opnds]))
  | field t x f => simp only [exec, opnds, List.map_cons, List.map_nil]; exact field_ok hT hR ho
  | indexAddr t x i => simp only [exec, opnds, List.map_cons, List.map_nil]; exact indexAddr_ok hT hR ho (hhs (ev σ x) (by simp [ho, opnds]))
  | index t x i => simp only [exec, opnds, List.map_cons, List.map_nil]; exact index_ok hT hR ho
  | sliceToArrayPointer t x => simp only [exec, opnds, List.map_cons, List.map_nil]; exact arrPtr_ok hT hR ho
  | makeMap t r =>
    cases r with
    | none => simp only [exec]; exact makeMap_ok hR hm ho
    | some r => trivial
  | lookup t x k ok => simp only [exec, opnds, List.map_cons, List.map_nil]; exact lookup_ok hT hR ho (hhs (ev σ x) (by simp [ho, opnds]))
  | mapUpdate t x k v => simp only [exec, opnds, List.map_cons, List.map_nil]; exact put_ok hT hR (.inl ho) (hhs (ev σ x) (by simp [ho, opnds]))
  | insert t x k v => simp only [exec, opnds, List.map_cons, List.map_nil]; exact put_ok hT hR (.inr ho) (hhs (ev σ x) (by simp [ho, opnds]))
  | extract x i => simp only [exec, opnds, List.map_cons, List.map_nil]; exact extract_ok hR ho
  | call c =>
    obtain ⟨callee, args, argTypes⟩ := c
    cases callee with
    | invoke r n => simp only [exec]; trivial
    | value f =>
      simp only [exec, opnds, List.map_cons]
      unfold doCall
      split
      · rename_i k first captured rest heq
        simp only [List.cons.injEq] at heq
        obtain ⟨hf, rfl⟩ := heq
        intro E' hR'
        have hd := ev_den hR' f
        rw [hf] at hd
        simp only [Den] at hd
        obtain ⟨xs, ys, e, h1, h2⟩ := hd
        refine ⟨xs.toList ++ (args.toList.map a.eval ++ ys.toList), denA_append _ _ _ _ h1 (denA_append _ _ _ _ (denA_map hR' _) h2), ?_⟩
        simp only [execOp, ho, resolve, e, Deferred.ofValue, invoke, Sem.run_bind, Sem.run_pure, Result.andThen_ok]
        congr 2
        apply Array.ext'
        simp
      · rename_i c rest heq
        simp only [List.cons.injEq] at heq
        obtain ⟨hf, rfl⟩ := heq
        intro E' hR' b hb
        have hd := ev_den hR' f
        rw [hf] at hd
        simp only [Den, hb] at hd
        refine ⟨args.toList.map a.eval, denA_map hR' _, ?_⟩
        simp only [execOp, ho, resolve, hd, Deferred.ofValue, invoke, Sem.run_bind, Sem.run_pure, Result.andThen_ok]
        congr 2
        apply Array.ext'
        simp
      · trivial
    | builtin b =>
      have hat : argTypes = argTypes.toList.toArray := by simp
      cases b with
      | len =>
        simp only [exec, opnds]
        split
        · rename_i x hx
          split
          · rename_i t ht
            have hargs : ∃ y, args = #[y] ∧ ev σ y = x := by
              cases hl : args.toList with
              | nil => rw [hl] at hx; simp at hx
              | cons y l =>
                rw [hl] at hx
                simp at hx
                obtain ⟨h1, h2⟩ := hx
                subst h2
                exact ⟨y, by rw [← Array.toArray_toList (xs := args), hl], h1⟩
            obtain ⟨y, rfl, rfl⟩ := hargs
            have htt : argTypes = #[t] := by rw [hat, ht]
            subst htt
            have := len_ok hT hR ho (hs := hs) (hhs (ev σ y) (by simp [ho, opnds])) (by simp)
            exact this
          · trivial
        · trivial
      | append =>
        simp only [exec, opnds]
        split
        · rename_i x y hxy
          split
          · rename_i t t2 ht
            have hargs : ∃ p q, args = #[p, q] ∧ ev σ p = x ∧ ev σ q = y := by
              cases hl : args.toList with
              | nil => rw [hl] at hxy; simp at hxy
              | cons p l =>
                rw [hl] at hxy
                cases l with
                | nil => simp at hxy
                | cons q l =>
                  simp at hxy
                  obtain ⟨h1, h2, h3⟩ := hxy
                  subst h3
                  exact ⟨p, q, by rw [← Array.toArray_toList (xs := args), hl], h1, h2⟩
            obtain ⟨p, q, rfl, rfl, rfl⟩ := hargs
            have htt : argTypes = #[t, t2] := by rw [hat, ht]
            subst htt
            exact append_ok A hT hR hm ho (hhs (ev σ p) (by simp [ho, opnds])) (hhs (ev σ q) (by simp [ho, opnds]))
          · trivial
        · trivial
      | copy =>
        simp only [exec, opnds]
        split
        · rename_i x y hxy
          split
          · rename_i t t2 ht
            have hargs : ∃ p q, args = #[p, q] ∧ ev σ p = x ∧ ev σ q = y := by
              cases hl : args.toList with
              | nil => rw [hl] at hxy; simp at hxy
              | cons p l =>
                rw [hl] at hxy
                cases l with
                | nil => simp at hxy
                | cons q l =>
                  simp at hxy
                  obtain ⟨h1, h2, h3⟩ := hxy
                  subst h3
                  exact ⟨p, q, by rw [← Array.toArray_toList (xs := args), hl], h1, h2⟩
            obtain ⟨p, q, rfl, rfl, rfl⟩ := hargs
            have htt : argTypes = #[t, t2] := by rw [hat, ht]
            subst htt
            exact copy_ok A hT hR ho (hhs (ev σ p) (by simp [ho, opnds])) (hhs (ev σ q) (by simp [ho, opnds]))
          · trivial
        · trivial
      | unsafeString =>
        simp only [exec, opnds]
        split
        · rename_i x y hxy
          split
          · rename_i t t2 ht
            have hargs : ∃ p q, args = #[p, q] ∧ ev σ p = x ∧ ev σ q = y := by
              cases hl : args.toList with
              | nil => rw [hl] at hxy; simp at hxy
              | cons p l =>
                rw [hl] at hxy
                cases l with
                | nil => simp at hxy
                | cons q l =>
                  simp at hxy
                  obtain ⟨h1, h2, h3⟩ := hxy
                  subst h3
                  exact ⟨p, q, by rw [← Array.toArray_toList (xs := args), hl], h1, h2⟩
            obtain ⟨p, q, rfl, rfl, rfl⟩ := hargs
            have htt : argTypes = #[t, t2] := by rw [hat, ht]
            subst htt
            exact unsafeString_ok A hT hR ho (hhs (ev σ p) (by simp [ho, opnds]))
          · trivial
        · trivial
      | clear =>
        simp only [exec, opnds]
        split
        · rename_i x hx
          split
          · rename_i t ht
            have hargs : ∃ y, args = #[y] ∧ ev σ y = x := by
              cases hl : args.toList with
              | nil => rw [hl] at hx; simp at hx
              | cons y l =>
                rw [hl] at hx
                simp at hx
                obtain ⟨h1, h2⟩ := hx
                subst h2
                exact ⟨y, by rw [← Array.toArray_toList (xs := args), hl], h1⟩
            obtain ⟨y, rfl, rfl⟩ := hargs
            have htt : argTypes = #[t] := by rw [← Array.toArray_toList (xs := argTypes), ht]
            subst htt
            exact clear_ok hT hR ho (hhs (ev σ y) (by simp [ho, opnds]))
          · trivial
        · trivial
      | unsafeSliceData =>
        simp only [exec, opnds]
        split
        · rename_i x hx
          have hargs : ∃ y, args = #[y] ∧ ev σ y = x := by
            cases hl : args.toList with
            | nil => rw [hl] at hx; simp at hx
            | cons y l =>
              rw [hl] at hx
              simp at hx
              obtain ⟨h1, h2⟩ := hx
              subst h2
              exact ⟨y, by rw [← Array.toArray_toList (xs := args), hl], h1⟩
          obtain ⟨y, rfl, rfl⟩ := hargs
          exact sliceData_ok hR ho (hhs (ev σ y) (by simp [ho, opnds]))
        · trivial
      | cap =>
        simp only [exec, opnds]
        split
        · rename_i x hx
          split
          · rename_i t ht
            have hargs : ∃ y, args = #[y] ∧ ev σ y = x := by
              cases hl : args.toList with
              | nil => rw [hl] at hx; simp at hx
              | cons y l =>
                rw [hl] at hx
                simp at hx
                obtain ⟨h1, h2⟩ := hx
                subst h2
                exact ⟨y, by rw [← Array.toArray_toList (xs := args), hl], h1⟩
            obtain ⟨y, rfl, rfl⟩ := hargs
            have htt : argTypes = #[t] := by rw [hat, ht]
            subst htt
            exact cap_ok hT hR ho
          · trivial
        · trivial
      | min =>
        simp only [exec, opnds]
        split
        · rename_i x y hxy
          have hargs : ∃ p q, args = #[p, q] ∧ ev σ p = x ∧ ev σ q = y := by
            cases hl : args.toList with
            | nil => rw [hl] at hxy; simp at hxy
            | cons p l =>
              rw [hl] at hxy
              cases l with
              | nil => simp at hxy
              | cons q l =>
                simp at hxy
                obtain ⟨h1, h2, h3⟩ := hxy
                subst h3
                exact ⟨p, q, by rw [← Array.toArray_toList (xs := args), hl], h1, h2⟩
          obtain ⟨p, q, rfl, rfl, rfl⟩ := hargs
          exact minmax_ok hR false ho
        · trivial
      | max =>
        simp only [exec, opnds]
        split
        · rename_i x y hxy
          have hargs : ∃ p q, args = #[p, q] ∧ ev σ p = x ∧ ev σ q = y := by
            cases hl : args.toList with
            | nil => rw [hl] at hxy; simp at hxy
            | cons p l =>
              rw [hl] at hxy
              cases l with
              | nil => simp at hxy
              | cons q l =>
                simp at hxy
                obtain ⟨h1, h2, h3⟩ := hxy
                subst h3
                exact ⟨p, q, by rw [← Array.toArray_toList (xs := args), hl], h1, h2⟩
          obtain ⟨p, q, rfl, rfl, rfl⟩ := hargs
          exact minmax_ok hR true ho
        · trivial
      | _ => simp only [exec]; trivial
  | _ => simp only [exec]; trivial

end
end Go.SX
