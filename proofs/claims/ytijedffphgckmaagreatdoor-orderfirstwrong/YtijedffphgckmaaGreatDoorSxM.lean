/-
  SX, part M: every operation's reckoning is right.
-/
import Derived.Test.YtijedffphgckmaaGreatDoorSxL2
import Derived.OrdersIn
set_option linter.unusedVariables false
set_option linter.unusedSimpArgs false
namespace Go.SX
open Go.RowKit
variable {C : Cod}
section
variable {P : Program} {D : Codec C} {tab : Tab C} {B : Base} {E : Env} {σ : Nat → SV C} {H : Nat → HS C} {df : List Deferred} {a : Act} {w : World} {o : Oper}

theorem denA_append : ∀ (l m : List (SV C)) (vs ws : List Value), DenA D w E l vs → DenA D w E m ws → DenA D w E (l ++ m) (vs ++ ws)
 | [], m, vs, ws, h, k => by simp only [DenA] at h; subst h; simpa using k
 | x :: l, m, vs, ws, h, k => by
  simp only [DenA] at h
  obtain ⟨v, v2, rfl, h1, h2⟩ := h
  simp only [List.cons_append, DenA]
  exact ⟨v, v2 ++ ws, rfl, h1, denA_append l m _ _ h2 k⟩

def Out.plain : Out C → Bool
 | .mem _ _ => false
 | .smem _ _ _ => false
 | .call _ _ => false
 | .yieldc _ _ => false
 | .ask _ _ => false
 | .may _ _ => false
 | _ => true
theorem doLoad_plain (t : TypeId) (x : SV C) (hs : List (Nat × HS C)) : (doLoad D tab t x hs).plain = true := by
 unfold doLoad
 split
 ·rfl
 ·split
  ·split
   ·unfold loadVarAt
    split
    ·split
     ·split <;> rfl
     ·rfl
    ·split
     ·rfl
     ·split <;> rfl
     ·rfl
   ·rfl
  ·split
   ·unfold condSide; split <;> rfl
   ·rfl
  ·unfold loadSeqAt; (repeat' split) <;> rfl
  ·rfl

theorem exec_ok (A : Aux C D) (hT : TabOK P D tab) (hR : Rel D B E σ H df a w) {m : Nat} (hm : H m = .fresh) {vals : List (SV C)} (hv : vals = (opnds o.op).map (ev σ)) {hs : List (Nat × HS C)}
  (hhs : ∀ x ∈ vals, ∀ c, x.topId = some c → lk hs c = H c) : OutOK P D B σ H df a w o (exec A tab o.op vals hs m) := by
 subst hv
 cases ho : o.op with
 | move x => simp only [exec, opnds, List.map_cons, List.map_nil]; exact move_ok hR (.inl ho)
 | assign x => simp only [exec, opnds, List.map_cons, List.map_nil]; exact move_ok hR (.inr ho)
 | pick c x y =>
  simp only [exec, opnds, List.map_cons, List.map_nil]
  cases hc : ev σ c with
  | p pv =>
   cases pv with
   | bool b =>
    simp only
    cases b with
    | true => exact pick_ok hR ho hc
    | false => exact pick_ok hR ho hc
   | _ => trivial
  | _ => trivial
 | alloc t => simp only [exec]; exact alloc_ok hT hR hm ho
 | box t x => simp only [exec, opnds, List.map_cons, List.map_nil]; exact box_ok hR hm ho
 | build t ps => simp only [exec, opnds]; exact build_ok hT hR ho
 | buildSlice t len ps => simp only [exec, opnds]; exact buildSlice_ok hT hR hm ho
 | load t x =>
  simp only [exec, opnds, List.map_cons, List.map_nil]
  have h := load_ok hT hR ho (hs := hs) (hhs (ev σ x) (by simp [ho, opnds]))
  generalize hout : doLoad D tab t (ev σ x) hs = out at h
  cases out with
  | stuck => trivial
  | val v => exact h
  | side p v => exact h
  | mem v ws => have := doLoad_plain (D := D) (tab := tab) t (ev σ x) hs; rw [hout] at this; cases this
  | smem p v ws => have := doLoad_plain (D := D) (tab := tab) t (ev σ x) hs; rw [hout] at this; cases this
  | call f args => have := doLoad_plain (D := D) (tab := tab) t (ev σ x) hs; rw [hout] at this; cases this
  | yieldc f args => have := doLoad_plain (D := D) (tab := tab) t (ev σ x) hs; rw [hout] at this; cases this
  | may q K => have := doLoad_plain (D := D) (tab := tab) t (ev σ x) hs; rw [hout] at this; cases this
  | ask q K => have := doLoad_plain (D := D) (tab := tab) t (ev σ x) hs; rw [hout] at this; cases this
 | store t x y => simp only [exec, opnds, List.map_cons, List.map_nil]; exact store_ok hT hR ho (hhs (ev σ x) (by simp [ho, opnds]))
 | nilCheck x => simp only [exec, opnds, List.map_cons, List.map_nil]; exact nilCheck_ok hR ho (hhs (ev σ x) (by simp [ho, opnds]))
 | binOp op t x y yt =>
  simp only [exec, opnds, List.map_cons, List.map_nil]
  split
  ·exact nilBoth_ok hT hR ho (by assumption)
  split
  ·exact binP_ok { A with wr := true } hT hR ho (hhs (ev σ x) (by simp [ho, opnds]))
  ·exact binP_ok A hT hR ho (hhs (ev σ x) (by simp [ho, opnds]))
 | unOp op t x => simp only [exec, opnds, List.map_cons, List.map_nil]; exact un_ok hR ho
 | convert src dst x => simp only [exec, opnds, List.map_cons, List.map_nil]; exact conv_ok A hT hR hm ho (hhs (ev σ x) (by simp [ho, opnds]))
 | makeFunc f first captured =>
  simp only [exec, opnds, List.map_append]
  have h1 : ((first.toList.map (ev σ) ++ captured.toList.map (ev σ)).take first.size) = first.toList.map (ev σ) := List.take_left' (by simp)
  have h2 : ((first.toList.map (ev σ) ++ captured.toList.map (ev σ)).drop first.size) = captured.toList.map (ev σ) := List.drop_left' (by simp)
  rw [h1, h2]
  exact makeFunc_ok hR ho
 | makeSlice t l c => simp only [exec, opnds, List.map_cons, List.map_nil]; exact makeSlice_ok hT hR hm ho
 | slice t x lo hi mx =>
  cases mx with
  | some q =>
   cases lo with
   | none =>
    cases hi with
    | none => trivial
    | some h =>
     have := full_ok hT hR ho (hs := hs) (hhs (ev σ x) (by simp [ho, opnds]))
     simp only [exec, opnds, List.map_cons, List.map_nil, List.append_nil, List.nil_append, List.cons_append]
     exact this
   | some l =>
    cases hi with
    | none => trivial
    | some h =>
     have := slice3_ok (m := m) hT hR ho (hs := hs) (hhs (ev σ x) (by simp [ho, opnds]))
     simp only [exec, opnds, List.map_cons, List.map_nil, List.append_nil, List.nil_append, List.cons_append]
     exact this hm
  | none =>
   have h := slice_ok hT hR ho (hs := hs) (hhs (ev σ x) (by simp [ho, opnds]))
   cases lo <;> cases hi <;> simp only [exec, opnds, List.map_cons, List.map_nil, List.append_nil, List.nil_append, List.cons_append] <;> exact h
 | fieldAddr s x f => simp only [exec, opnds, List.map_cons, List.map_nil]; exact fieldAddr_ok hT hR ho (hhs (ev σ x) (by simp [ho, opnds]))
 | field t x f => simp only [exec, opnds, List.map_cons, List.map_nil]; exact field_ok hT hR ho
 | indexAddr t x i => simp only [exec, opnds, List.map_cons, List.map_nil]; exact indexAddr_ok hT hR ho (hhs (ev σ x) (by simp [ho, opnds]))
 | index t x i => simp only [exec, opnds, List.map_cons, List.map_nil]; exact index_ok hT hR ho
 | sliceToArrayPointer t x => simp only [exec, opnds, List.map_cons, List.map_nil]; exact arrPtr_ok hT hR ho
 | makeMap t r =>
  cases r with
  | none => simp only [exec]; exact makeMap_ok hR hm ho
  | some r => trivial
 | makeInterface t x => simp only [exec, opnds, List.map_cons, List.map_nil]; exact iface_ok hT hR ho
 | typeAssert x s t ok => simp only [exec, opnds, List.map_cons, List.map_nil]; exact assert_ok hT hR ho
 | lookup t x k ok => simp only [exec, opnds, List.map_cons, List.map_nil]; exact lookup_ok hT hR ho (hhs (ev σ x) (by simp [ho, opnds]))
 | mapUpdate t x k v => simp only [exec, opnds, List.map_cons, List.map_nil]; exact put_ok hT hR (.inl ho) (hhs (ev σ x) (by simp [ho, opnds]))
 | insert t x k v => simp only [exec, opnds, List.map_cons, List.map_nil]; exact put_ok hT hR (.inr ho) (hhs (ev σ x) (by simp [ho, opnds]))
 | extract x i => simp only [exec, opnds, List.map_cons, List.map_nil]; exact extract_ok hR ho
 | call c =>
  obtain ⟨callee, args, argTypes⟩ := c
  cases callee with
  | invoke r n => simp only [exec]; trivial
  | value f =>
   simp only [exec, opnds, List.map_cons]
   unfold doCall
   split
   ·rename_i k first captured rest heq
    simp only [List.cons.injEq] at heq
    obtain ⟨hf, rfl⟩ := heq
    intro E' hR'
    have hd := ev_den hR' f
    rw [hf] at hd
    simp only [Den] at hd
    obtain ⟨xs, ys, e, h1, h2⟩ := hd
    refine ⟨xs.toList ++ (args.toList.map a.eval ++ ys.toList), denA_append _ _ _ _ h1 (denA_append _ _ _ _ (denA_map hR' _) h2), ?_⟩
    simp only [execOp, ho, resolve, e, Deferred.ofValue, invoke, Sem.run_bind, Sem.run_pure, Result.andThen_ok]
    congr 2
    apply Array.ext'
    simp
   ·rename_i c rest heq
    simp only [List.cons.injEq] at heq
    obtain ⟨hf, rfl⟩ := heq
    intro E' hR' b hb
    have hd := ev_den hR' f
    rw [hf] at hd
    simp only [Den, hb] at hd
    refine ⟨args.toList.map a.eval, denA_map hR' _, ?_⟩
    simp only [execOp, ho, resolve, hd, Deferred.ofValue, invoke, Sem.run_bind, Sem.run_pure, Result.andThen_ok]
    congr 2
    apply Array.ext'
    simp
   ·trivial
  | builtin b =>
   have hat : argTypes = argTypes.toList.toArray := by simp
   cases b with
   | len =>
    simp only [exec, opnds]
    split
    ·rename_i x hx
     split
     ·rename_i t ht
      have hargs : ∃ y, args = #[y] ∧ ev σ y = x := by
       cases hl : args.toList with
       | nil => rw [hl] at hx; simp at hx
       | cons y l =>
        rw [hl] at hx
        simp at hx
        obtain ⟨h1, h2⟩ := hx
        subst h2
        exact ⟨y, by rw [← Array.toArray_toList (xs := args), hl], h1⟩
      obtain ⟨y, rfl, rfl⟩ := hargs
      have htt : argTypes = #[t] := by rw [hat, ht]
      subst htt
      have := len_ok hT hR ho (hs := hs) (hhs (ev σ y) (by simp [ho, opnds])) (by simp)
      exact this
     ·trivial
    ·trivial
   | append =>
    simp only [exec, opnds]
    split
    ·rename_i x y hxy
     split
     ·rename_i t t2 ht
      have hargs : ∃ p q, args = #[p, q] ∧ ev σ p = x ∧ ev σ q = y := by
       cases hl : args.toList with
       | nil => rw [hl] at hxy; simp at hxy
       | cons p l =>
        rw [hl] at hxy
        cases l with
        | nil => simp at hxy
        | cons q l =>
         simp at hxy
         obtain ⟨h1, h2, h3⟩ := hxy
         subst h3
         exact ⟨p, q, by rw [← Array.toArray_toList (xs := args), hl], h1, h2⟩
      obtain ⟨p, q, rfl, rfl, rfl⟩ := hargs
      have htt : argTypes = #[t, t2] := by rw [hat, ht]
      subst htt
      exact append_ok A hT hR hm ho (hhs (ev σ p) (by simp [ho, opnds])) (hhs (ev σ q) (by simp [ho, opnds]))
     ·trivial
    ·trivial
   | copy =>
    simp only [exec, opnds]
    split
    ·rename_i x y hxy
     split
     ·rename_i t t2 ht
      have hargs : ∃ p q, args = #[p, q] ∧ ev σ p = x ∧ ev σ q = y := by
       cases hl : args.toList with
       | nil => rw [hl] at hxy; simp at hxy
       | cons p l =>
        rw [hl] at hxy
        cases l with
        | nil => simp at hxy
        | cons q l =>
         simp at hxy
         obtain ⟨h1, h2, h3⟩ := hxy
         subst h3
         exact ⟨p, q, by rw [← Array.toArray_toList (xs := args), hl], h1, h2⟩
      obtain ⟨p, q, rfl, rfl, rfl⟩ := hargs
      have htt : argTypes = #[t, t2] := by rw [hat, ht]
      subst htt
      exact copy_ok A hT hR ho (hhs (ev σ p) (by simp [ho, opnds])) (hhs (ev σ q) (by simp [ho, opnds]))
     ·trivial
    ·trivial
   | unsafeString =>
    simp only [exec, opnds]
    split
    ·rename_i x y hxy
     split
     ·rename_i t t2 ht
      have hargs : ∃ p q, args = #[p, q] ∧ ev σ p = x ∧ ev σ q = y := by
       cases hl : args.toList with
       | nil => rw [hl] at hxy; simp at hxy
       | cons p l =>
        rw [hl] at hxy
        cases l with
        | nil => simp at hxy
        | cons q l =>
         simp at hxy
         obtain ⟨h1, h2, h3⟩ := hxy
         subst h3
         exact ⟨p, q, by rw [← Array.toArray_toList (xs := args), hl], h1, h2⟩
      obtain ⟨p, q, rfl, rfl, rfl⟩ := hargs
      have htt : argTypes = #[t, t2] := by rw [hat, ht]
      subst htt
      exact unsafeString_ok A hT hR ho (hhs (ev σ p) (by simp [ho, opnds]))
     ·trivial
    ·trivial
   | clear =>
    simp only [exec, opnds]
    split
    ·rename_i x hx
     split
     ·rename_i t ht
      have hargs : ∃ y, args = #[y] ∧ ev σ y = x := by
       cases hl : args.toList with
       | nil => rw [hl] at hx; simp at hx
       | cons y l =>
        rw [hl] at hx
        simp at hx
        obtain ⟨h1, h2⟩ := hx
        subst h2
        exact ⟨y, by rw [← Array.toArray_toList (xs := args), hl], h1⟩
      obtain ⟨y, rfl, rfl⟩ := hargs
      have htt : argTypes = #[t] := by rw [← Array.toArray_toList (xs := argTypes), ht]
      subst htt
      exact clear_ok hT hR ho (hhs (ev σ y) (by simp [ho, opnds]))
     ·trivial
    ·trivial
   | unsafeSliceData =>
    simp only [exec, opnds]
    split
    ·rename_i x hx
     have hargs : ∃ y, args = #[y] ∧ ev σ y = x := by
      cases hl : args.toList with
      | nil => rw [hl] at hx; simp at hx
      | cons y l =>
       rw [hl] at hx
       simp at hx
       obtain ⟨h1, h2⟩ := hx
       subst h2
       exact ⟨y, by rw [← Array.toArray_toList (xs := args), hl], h1⟩
     obtain ⟨y, rfl, rfl⟩ := hargs
     exact sliceData_ok hR ho (hhs (ev σ y) (by simp [ho, opnds]))
    ·trivial
   | cap =>
    simp only [exec, opnds]
    split
    ·rename_i x hx
     split
     ·rename_i t ht
      have hargs : ∃ y, args = #[y] ∧ ev σ y = x := by
       cases hl : args.toList with
       | nil => rw [hl] at hx; simp at hx
       | cons y l =>
        rw [hl] at hx
        simp at hx
        obtain ⟨h1, h2⟩ := hx
        subst h2
        exact ⟨y, by rw [← Array.toArray_toList (xs := args), hl], h1⟩
      obtain ⟨y, rfl, rfl⟩ := hargs
      have htt : argTypes = #[t] := by rw [hat, ht]
      subst htt
      exact cap_ok hT hR ho
     ·trivial
    ·trivial
   | min =>
    simp only [exec, opnds]
    split
    ·rename_i x y hxy
     have hargs : ∃ p q, args = #[p, q] ∧ ev σ p = x ∧ ev σ q = y := by
      cases hl : args.toList with
      | nil => rw [hl] at hxy; simp at hxy
      | cons p l =>
       rw [hl] at hxy
       cases l with
       | nil => simp at hxy
       | cons q l =>
        simp at hxy
        obtain ⟨h1, h2, h3⟩ := hxy
        subst h3
        exact ⟨p, q, by rw [← Array.toArray_toList (xs := args), hl], h1, h2⟩
     obtain ⟨p, q, rfl, rfl, rfl⟩ := hargs
     exact minmax_ok hR false ho
    ·trivial
   | max =>
    simp only [exec, opnds]
    split
    ·rename_i x y hxy
     have hargs : ∃ p q, args = #[p, q] ∧ ev σ p = x ∧ ev σ q = y := by
      cases hl : args.toList with
      | nil => rw [hl] at hxy; simp at hxy
      | cons p l =>
       rw [hl] at hxy
       cases l with
       | nil => simp at hxy
       | cons q l =>
        simp at hxy
        obtain ⟨h1, h2, h3⟩ := hxy
        subst h3
        exact ⟨p, q, by rw [← Array.toArray_toList (xs := args), hl], h1, h2⟩
     obtain ⟨p, q, rfl, rfl, rfl⟩ := hargs
     exact minmax_ok hR true ho
    ·trivial
   | _ => simp only [exec]; trivial
 | _ => simp only [exec]; trivial

end
end Go.SX

/-
 SX, part M2: a region that draws its order, reckoned in the order of the text.
-/
namespace Go.SX
set_option linter.unusedSectionVars false
variable {C : Cod}

/-- what a step looks at and writes: slots and chunks -/
structure Ent where
 d : Option Nat
 fs : List Nat
 fc : List Nat
 wc : List Nat

def memN (x : Nat) : List Nat → Bool
 | [] => false
 | y :: l => if Nat.beq x y then true else memN x l
def meetN : List Nat → List Nat → Bool
 | [], _ => false
 | x :: l, m => if memN x m then true else meetN l m
def optIn (d : Option Nat) (l : List Nat) : Bool := match d with
 | none => false
 | some d => memN d l
def optEq (d e : Option Nat) : Bool := match d, e with
 | some d, some e => Nat.beq d e
 | _, _ => false
def clash (a b : Ent) : Bool := optIn a.d b.fs || optIn b.d a.fs || optEq a.d b.d || meetN a.wc b.fc || meetN b.wc a.fc || meetN a.wc b.wc

theorem memN_iff {x : Nat} : ∀ {l : List Nat}, memN x l = true ↔ x ∈ l
 | [] => by simp [memN]
 | y :: l => by
  simp only [memN, List.mem_cons]
  by_cases h : x = y
  ·subst h; simp
  ·have : Nat.beq x y = false := by
    cases hb : Nat.beq x y with
    | false => rfl
    | true => exact absurd (Nat.eq_of_beq_eq_true hb) h
   rw [this]; simp [h, memN_iff (l := l)]
theorem meetN_iff : ∀ {l m : List Nat}, meetN l m = true ↔ ∃ x, x ∈ l ∧ x ∈ m
 | [], m => by simp [meetN]
 | x :: l, m => by
  simp only [meetN]
  cases h : memN x m with
  | true => simp only [if_true, true_iff]; exact ⟨x, by simp, memN_iff.1 h⟩
  | false =>
   have hx : x ∉ m := fun hx => by rw [memN_iff.2 hx] at h; cases h
   simp only [Bool.false_eq_true, if_false, meetN_iff (l := l), List.mem_cons]
   constructor
   ·rintro ⟨y, h1, h2⟩; exact ⟨y, .inr h1, h2⟩
   ·rintro ⟨y, rfl | h1, h2⟩
    ·exact absurd h2 hx
    ·exact ⟨y, h1, h2⟩

theorem clash_of_fs {a b : Ent} {t : Nat} (h : a.d = some t) (ht : t ∈ b.fs) : clash a b = true := by
 simp [clash, optIn, h, memN_iff.2 ht]
theorem clash_of_fs' {a b : Ent} {t : Nat} (h : b.d = some t) (ht : t ∈ a.fs) : clash a b = true := by
 simp [clash, optIn, h, memN_iff.2 ht]
theorem clash_of_d {a b : Ent} {t : Nat} (h : a.d = some t) (ht : b.d = some t) : clash a b = true := by
 simp [clash, optEq, h, ht]
theorem clash_of_fc {a b : Ent} {c : Nat} (h : c ∈ a.wc) (hc : c ∈ b.fc) : clash a b = true := by
 have : meetN a.wc b.fc = true := meetN_iff.2 ⟨c, h, hc⟩
 simp [clash, this]
theorem clash_of_fc' {a b : Ent} {c : Nat} (h : c ∈ b.wc) (hc : c ∈ a.fc) : clash a b = true := by
 have : meetN b.wc a.fc = true := meetN_iff.2 ⟨c, h, hc⟩
 simp [clash, this]
theorem clash_of_wc {a b : Ent} {c : Nat} (h : c ∈ a.wc) (hc : c ∈ b.wc) : clash a b = true := by
 have : meetN a.wc b.wc = true := meetN_iff.2 ⟨c, h, hc⟩
 simp [clash, this]

structure Stp (C : Cod) where
 e : Ent
 v : SV C
 ws : List (Nat × HS C)
 hw : ws.map (·.1) = e.wc

abbrev ST (C : Cod) := (Nat → SV C) × (Nat → HS C)
def Stp.app (N : Nat) (s : Stp C) (x : ST C) : ST C := (upT N x.1 s.e.d s.v, upHs x.2 s.ws)
def stA (N : Nat) (x0 : ST C) (S : Nat → Stp C) (L : Nat → Bool) : Nat → ST C
 | 0 => x0
 | k + 1 => match L k with
  | true => (S k).app N (stA N x0 S L k)
  | false => stA N x0 S L k

theorem upT_ne {N : Nat} {σ : Nat → SV C} {d : Option Nat} {v : SV C} {t : Nat} (h : d ≠ some t) : upT N σ d v t = σ t := by
 cases d with
 | none => rfl
 | some d => simp only [upT]; rw [if_neg]; rintro ⟨rfl, _⟩; exact h rfl
theorem upHs_ne : ∀ (ws : List (Nat × HS C)) (H : Nat → HS C) (c : Nat), c ∉ ws.map (·.1) → upHs H ws c = H c
 | [], H, c, _ => rfl
 | (c', h) :: l, H, c, hc => by
  simp only [List.map_cons, List.mem_cons, not_or] at hc
  simp only [upHs]
  rw [upHs_ne l _ c hc.2, upH, if_neg hc.1]
theorem upHs_congr : ∀ (ws : List (Nat × HS C)) (H H' : Nat → HS C) (c : Nat), (c ∉ ws.map (·.1) → H c = H' c) → upHs H ws c = upHs H' ws c
 | [], H, H', c, h => h (by simp)
 | (c', h') :: l, H, H', c, h => by
  simp only [upHs]
  refine upHs_congr l _ _ c fun hc => ?_
  simp only [upH]
  split
  ·rfl
  ·rename_i hne; exact h (by simp [hne]; simpa using hc)
theorem upHs_comm (ws ws' : List (Nat × HS C)) (hd : ∀ c, c ∈ ws.map (·.1) → c ∉ ws'.map (·.1)) (H : Nat → HS C) : upHs (upHs H ws) ws' = upHs (upHs H ws') ws := by
 funext c
 by_cases h : c ∈ ws.map (·.1)
 ·rw [upHs_ne ws' _ c (hd c h)]
  exact upHs_congr ws _ _ c fun h' => absurd h h'
 ·rw [upHs_ne ws _ c h]
  exact upHs_congr ws' _ _ c fun _ => upHs_ne ws _ c h
theorem upT_comm {N : Nat} {d e : Option Nat} (h : ∀ t, d = some t → e ≠ some t) (σ : Nat → SV C) (v u : SV C) : upT N (upT N σ d v) e u = upT N (upT N σ e u) d v := by
 funext t
 by_cases hd : d = some t
 ·have he := h t hd
  rw [upT_ne he]
  subst hd
  simp only [upT, true_and]
  split
  ·rfl
  ·exact (upT_ne (d := e) he).symm
 ·rw [upT_ne hd]
  cases e with
  | none => exact upT_ne hd
  | some e =>
   show (if t = e ∧ e < N then u else upT N σ d v t) = (if t = e ∧ e < N then u else σ t)
   rw [upT_ne hd]

/-- operation k waits, maybe by others, for operation j -/
inductive Anc (ops : Array Oper) : Nat → Nat → Prop
 | dir {k : Nat} {o : Oper} {e : Edge} (ho : ops[k]? = some o) (he : e ∈ o.after) (hb : Region.binds .any e = true) : Anc ops k e.on
 | trans {k j i : Nat} (h : Anc ops k j) (h' : Anc ops j i) : Anc ops k i

section
variable {N n : Nat} {x0 : ST C} {S : Nat → Stp C} {ops : Array Oper} {L : Nat → Bool}

def full : Nat → Bool := fun _ => true

structure Cut (ops : Array Oper) (L : Nat → Bool) : Prop where
 down : ∀ k, L k = true → ∀ o, ops[k]? = some o → ∀ e ∈ o.after, Region.binds .any e = true → L e.on = true
theorem Cut.anc (h : Cut ops L) {k j : Nat} (ha : Anc ops k j) : L k = true → L j = true := by
 induction ha with
 | dir ho he hb => intro hk; exact h.down _ hk _ ho _ he hb
 | trans _ _ ih1 ih2 => intro hk; exact ih2 (ih1 hk)
theorem ready_anc (h : Cut ops L) {i j : Nat} (hi : ∀ o, ops[i]? = some o → ∀ e ∈ o.after, Region.binds .any e = true → L e.on = true) (ha : Anc ops i j) : L j = true := by
 induction ha with
 | dir ho he hb => exact hi _ ho _ he hb
 | trans h1 h2 ih1 _ => exact h.anc h2 (ih1 hi)

variable (hcl : ∀ i j, i < j → j < n → clash (S i).e (S j).e = true → Anc ops j i) (hL : Cut ops L) {i : Nat} (hin : i < n) (hLi : L i = false)
 (hi : ∀ j, Anc ops i j → L j = true)
include hcl hL hin hLi hi

theorem agree_le : ∀ k, k ≤ i → (∀ t ∈ (S i).e.fs, (stA N x0 S L k).1 t = (stA N x0 S full k).1 t) ∧ (∀ c ∈ (S i).e.fc, (stA N x0 S L k).2 c = (stA N x0 S full k).2 c)
 | 0, _ => ⟨fun _ _ => rfl, fun _ _ => rfl⟩
 | k + 1, hk => by
  obtain ⟨ih1, ih2⟩ := agree_le k (by omega)
  refine ⟨fun t ht => ?_, fun c hc => ?_⟩
  ·by_cases hd : (S k).e.d = some t
   ·have := hi k (hcl k i (by omega) hin (clash_of_fs hd ht))
    simp only [stA, this, full, Stp.app, hd, upT]
    split
    ·rfl
    ·exact ih1 t ht
   ·simp only [stA, full, Stp.app]
    rw [upT_ne hd]
    cases L k with
    | true => simp only; rw [upT_ne hd]; exact ih1 t ht
    | false => exact ih1 t ht
  ·by_cases hw : c ∈ (S k).e.wc
   ·have := hi k (hcl k i (by omega) hin (clash_of_fc hw hc))
    simp only [stA, this, full, Stp.app]
    exact upHs_congr _ _ _ c fun _ => ih2 c hc
   ·rw [← (S k).hw] at hw
    simp only [stA, full, Stp.app]
    rw [upHs_ne _ _ c hw]
    cases L k with
    | true => simp only; rw [upHs_ne _ _ c hw]; exact ih2 c hc
    | false => exact ih2 c hc

theorem agree_ge : ∀ k, i + k ≤ n → (∀ t ∈ (S i).e.fs, (stA N x0 S L (i + k)).1 t = (stA N x0 S L i).1 t) ∧ (∀ c ∈ (S i).e.fc, (stA N x0 S L (i + k)).2 c = (stA N x0 S L i).2 c)
 | 0, _ => ⟨fun _ _ => rfl, fun _ _ => rfl⟩
 | k + 1, hk => by
  obtain ⟨ih1, ih2⟩ := agree_ge k (by omega)
  rw [← Nat.add_assoc]
  cases hLk : L (i + k) with
  | false => simp only [stA, hLk]; exact ⟨ih1, ih2⟩
  | true =>
   have hne : i ≠ i + k := fun e => by rw [← e, hLi] at hLk; cases hLk
   have hno : clash (S i).e (S (i + k)).e = true → False := fun hc => by
    have := hL.anc (hcl i (i + k) (by omega) (by omega) hc) hLk
    rw [hLi] at this; cases this
   simp only [stA, hLk, Stp.app]
   refine ⟨fun t ht => ?_, fun c hc => ?_⟩
   ·rw [upT_ne fun hd => hno (clash_of_fs' hd ht)]; exact ih1 t ht
   ·rw [upHs_ne _ _ c fun hw => hno (clash_of_fc' ((S (i + k)).hw ▸ hw) hc)]; exact ih2 c hc

omit hi in
theorem ext_gt (L' : Nat → Bool) (hL' : ∀ k, L' k = if k = i then true else L k) : (∀ k, k ≤ i → stA N x0 S L' k = stA N x0 S L k) ∧ ∀ k, i + 1 + k ≤ n → stA N x0 S L' (i + 1 + k) = (S i).app N (stA N x0 S L (i + 1 + k)) := by
 have h1 : ∀ k, k ≤ i → stA N x0 S L' k = stA N x0 S L k := by
  intro k
  induction k with
  | zero => intro _; rfl
  | succ k ih =>
   intro hk
   have : L' k = L k := by rw [hL', if_neg (by omega)]
   simp only [stA, this, ih (by omega)]
 refine ⟨h1, fun k => ?_⟩
 induction k with
 | zero =>
  intro _
  have : L' i = true := by rw [hL', if_pos rfl]
  simp only [stA, Nat.add_zero, this, hLi, h1 i (Nat.le_refl _)]
 | succ k ih =>
  intro hk
  rw [← Nat.add_assoc]
  have hLk : L' (i + 1 + k) = L (i + 1 + k) := by rw [hL', if_neg (by omega)]
  simp only [stA, hLk, ih (by omega)]
  cases hk2 : L (i + 1 + k) with
  | false => rfl
  | true =>
   have hno : clash (S i).e (S (i + 1 + k)).e = true → False := fun hc => by
    have := hL.anc (hcl i (i + 1 + k) (by omega) (by omega) hc) hk2
    rw [hLi] at this; cases this
   simp only [Stp.app]
   refine Prod.ext ?_ ?_
   ·exact upT_comm (fun t h1 h2 => hno (clash_of_d h1 h2)) _ _ _
   ·exact upHs_comm _ _ (fun c h1 h2 => hno (clash_of_wc ((S i).hw ▸ h1) ((S (i + 1 + k)).hw ▸ h2))) _
end

def cnt (L : Nat → Bool) : Nat → Nat
 | 0 => 0
 | k + 1 => cnt L k + (match L k with | true => 0 | false => 1)
theorem cnt_zero {L : Nat → Bool} : ∀ {n : Nat}, cnt L n = 0 → ∀ k, k < n → L k = true
 | 0, _, k, hk => by omega
 | n + 1, h, k, hk => by
  simp only [cnt] at h
  by_cases hkn : k = n
  ·subst hkn
   cases hL : L k with
   | true => rfl
   | false => rw [hL] at h; simp at h
  ·exact cnt_zero (n := n) (by omega) k (by omega)
theorem cnt_set {L L' : Nat → Bool} {i : Nat} (hLi : L i = false) (hL' : ∀ k, L' k = if k = i then true else L k) : ∀ n, (n ≤ i → cnt L' n = cnt L n) ∧ (i < n → cnt L' n + 1 = cnt L n)
 | 0 => ⟨fun _ => rfl, fun h => by omega⟩
 | n + 1 => by
  obtain ⟨h1, h2⟩ := cnt_set hLi hL' n
  simp only [cnt]
  refine ⟨fun h => ?_, fun h => ?_⟩
  ·rw [h1 (by omega), hL' n, if_neg (by omega)]
  ·by_cases hn : i = n
   ·subst hn
    rw [h1 (Nat.le_refl _), hL' i, if_pos rfl, hLi]
    rfl
   ·have := h2 (by omega)
    rw [hL' n, if_neg (fun e => hn e.symm)]
    omega

section
variable {N n r : Nat} {P : Program} {x0 : ST C} {S : Nat → Stp C} {ops : Array Oper} {F : Fence} {Q : Exit → Act → World → Prop} {Ok : ST C → Act → World → Prop}

theorem any_of_steps (hn : ops.size = n) (hback : ∀ k o, ops[k]? = some o → ∀ e ∈ o.after, Region.binds .any e = true → e.on < k)
  (hcl : ∀ i j, i < j → j < n → clash (S i).e (S j).e = true → Anc ops j i)
  (step : ∀ i, i < n → ∀ x : ST C, (∀ t ∈ (S i).e.fs, x.1 t = (stA N x0 S full i).1 t) → (∀ c ∈ (S i).e.fc, x.2 c = (stA N x0 S full i).2 c) → ∀ a w (K : Act → World → Prop), Ok x a w →
   (∀ a' w', Ok ((S i).app N x) a' w' → K a' w') → wpOpIn F r P ops Q i K a w)
  (hQ : ∀ a w, Ok (stA N x0 S full n) a w → Q .normal a w) : ∀ (fuel : Nat) (listed : Array Bool) (a : Act) (w : World), listed.size = n → Cut ops (fun k => listed.getD k true) →
   cnt (fun k => listed.getD k true) n ≤ fuel → Ok (stA N x0 S (fun k => listed.getD k true) n) a w → wpAnyIn F r P .any ops Q fuel listed a w := by
 have hdf : ∀ (listed : Array Bool), listed.size = n → ∀ k, k < n → listed.getD k false = listed.getD k true := by
  intro listed hs k hk
  have : k < listed.size := by omega
  simp [this]
 have hall : ∀ (listed : Array Bool) (a : Act) (w : World), (∀ k, k < n → listed.getD k true = true) → Ok (stA N x0 S (fun k => listed.getD k true) n) a w → Q .normal a w := by
  intro listed a w h hok
  have : ∀ k, k ≤ n → stA N x0 S (fun k => listed.getD k true) k = stA N x0 S full k := by
   intro k
   induction k with
   | zero => intro _; rfl
   | succ k ih => intro hk; have h1 := h k (by omega); simp only [stA, h1, full, ih (by omega)]
  rw [this n (Nat.le_refl _)] at hok
  exact hQ a w hok
 have hready : ∀ (listed : Array Bool), listed.size = n → Region.ready .any ops listed = [] → ∀ k, k < n → listed.getD k true = true := by
  intro listed hs hr k
  induction k using Nat.strongRecOn with
  | ind k ih =>
   intro hk
   cases hLk : listed.getD k true with
   | true => rfl
   | false =>
    have hko : ops[k]? = some ops[k] := Array.getElem?_eq_getElem (by omega)
    have : k ∈ Region.ready .any ops listed := mem_ready.2 ⟨hLk, _, hko, fun e he hb => by
     have := hback k _ hko e he hb
     rw [hdf listed hs _ (by omega)]
     exact ih _ this (by omega)⟩
    rw [hr] at this; cases this
 intro fuel
 induction fuel with
 | zero =>
  intro listed a w hs hc hf hok
  have hl := cnt_zero (Nat.le_zero.1 hf)
  refine ⟨?_, hall listed a w hl hok⟩
  cases hr : Region.ready .any ops listed with
  | nil => rfl
  | cons k l =>
   have hk : k ∈ Region.ready .any ops listed := by rw [hr]; simp
   obtain ⟨h0, o, ho, _⟩ := mem_ready.1 hk
   have hkn : k < n := by rw [← hn]; exact (Array.getElem?_eq_some_iff.1 ho).1
   have := hl k hkn
   simp only [h0] at this; cases this
 | succ fuel ih =>
  intro listed a w hs hc hf hok
  refine ⟨fun hr => hall listed a w (hready listed hs hr) hok, fun i hi => ?_⟩
  obtain ⟨h0, o, ho, hdep⟩ := mem_ready.1 hi
  have hin : i < n := by rw [← hn]; exact (Array.getElem?_eq_some_iff.1 ho).1
  have hdep' : ∀ o, ops[i]? = some o → ∀ e ∈ o.after, Region.binds .any e = true → listed.getD e.on true = true := by
   intro o' ho' e he hb
   rw [ho] at ho'; cases ho'
   have := hback i o ho e he hb
   rw [← hdf listed hs _ (by omega)]
   exact hdep e he hb
  have hanc : ∀ j, Anc ops i j → listed.getD j true = true := fun j hj => ready_anc hc hdep' hj
  have hag := agree_le (N := N) (x0 := x0) hcl hc hin h0 hanc i (Nat.le_refl _)
  have hag2 := agree_ge (N := N) (x0 := x0) hcl hc hin h0 hanc (n - i) (by omega)
  rw [show i + (n - i) = n by omega] at hag2
  refine step i hin _ (fun t ht => (hag2.1 t ht).trans (hag.1 t ht)) (fun c hc => (hag2.2 c hc).trans (hag.2 c hc)) a w _ hok fun a' w' hok' => ?_
  have hL' : ∀ k, (listed.setIfInBounds i true).getD k true = if k = i then true else listed.getD k true := by
   intro k
   by_cases hki : k = i
   ·subst hki; rw [if_pos rfl]; simp [show k < listed.size by omega]
   ·rw [if_neg hki, getD_set_ne true (fun e => hki e.symm)]
  refine ih _ a' w' (by simp [hs]) ⟨fun k hk o' ho' e he hb => ?_⟩ ?_ ?_
  ·show (listed.setIfInBounds i true).getD e.on true = true
   rw [hL']
   split
   ·rfl
   ·by_cases hki : k = i
    ·subst hki; exact hdep' o' ho' e he hb
    ·have hk' : (listed.setIfInBounds i true).getD k true = true := hk
     rw [hL', if_neg hki] at hk'
     exact hc.down k hk' o' ho' e he hb
  ·have := (cnt_set (L := fun k => listed.getD k true) (L' := fun k => (listed.setIfInBounds i true).getD k true) h0 hL' n).2 hin
   omega
  ·have := (ext_gt (N := N) (x0 := x0) hcl hc hin h0 (fun k => (listed.setIfInBounds i true).getD k true) hL').2 (n - i - 1) (by omega)
   rw [show i + 1 + (n - i - 1) = n by omega] at this
   rw [this]
   exact hok'
end

/-- the masks of those before -/
def ancM (acc : List Nat) : List Edge → Nat
 | [] => 0
 | e :: l => if Region.binds .any e then 2 ^ e.on ||| (acc.getD e.on 0 ||| ancM acc l) else ancM acc l
def ancL : List Oper → List Nat → List Nat
 | [], acc => acc
 | o :: l, acc => ancL l (acc ++ [ancM acc o.after.toList])
def backB : Nat → List Oper → Bool
 | _, [] => true
 | k, o :: l => (o.after.toList.all fun e => !Region.binds .any e || Nat.blt e.on k) && backB (k + 1) l
/-- each pair that clashes is in order -/
def orderB (masks : List Nat) (e : Ent) (j : Nat) : Nat → List Ent → Bool
 | _, [] => true
 | i, a :: l => (!clash a e || (masks.getD j 0).testBit i) && orderB masks e j (i + 1) l
def ordersB (masks : List Nat) (tr : List Ent) : Nat → List Ent → Bool
 | _, [] => true
 | j, e :: l => orderB masks e j 0 (tr.take j) && ordersB masks tr (j + 1) l
def traceB (all : List Oper) (tr : List Ent) : Bool := backB 0 all && ordersB (ancL all []) tr 0 tr

theorem ancM_spec {ops : Array Oper} {acc : List Nat} (hacc : ∀ k j, (acc.getD k 0).testBit j = true → Anc ops k j) {k : Nat} {o : Oper} (ho : ops[k]? = some o) : ∀ (l : List Edge), (∀ e ∈ l, e ∈ o.after) →
  ∀ j, (ancM acc l).testBit j = true → Anc ops k j
 | [], _, j, h => by simp [ancM] at h
 | e :: l, hl, j, h => by
  simp only [ancM] at h
  split at h
  ·rename_i hb
   rw [Nat.testBit_or, Nat.testBit_or, Bool.or_eq_true, Bool.or_eq_true] at h
   have hd : Anc ops k e.on := .dir ho (hl e (by simp)) hb
   rcases h with h | h | h
   ·rw [Nat.testBit_two_pow] at h
    have : e.on = j := by simpa using h
    rw [← this]; exact hd
   ·exact .trans hd (hacc _ _ h)
   ·exact ancM_spec hacc ho l (fun e he => hl e (by simp [he])) j h
  ·exact ancM_spec hacc ho l (fun e he => hl e (by simp [he])) j h
theorem ancL_spec {ops : Array Oper} : ∀ (l : List Oper) (acc : List Nat), (∀ i, l[i]? = ops[acc.length + i]?) → (∀ k j, (acc.getD k 0).testBit j = true → Anc ops k j) →
  ∀ k j, ((ancL l acc).getD k 0).testBit j = true → Anc ops k j
 | [], acc, _, h => h
 | o :: l, acc, hl, h => by
  refine ancL_spec l _ (fun i => ?_) fun k j hk => ?_
  ·have := hl (i + 1)
   simp only [List.getElem?_cons_succ] at this
   rw [this]; simp; congr 1; omega
  ·rw [List.getD_eq_getElem?_getD, List.getElem?_append] at hk
   split at hk
   ·exact h k j (by rw [List.getD_eq_getElem?_getD]; exact hk)
   ·rename_i hlt
    by_cases hke : k = acc.length
    ·subst hke
     have ho := hl 0
     simp at ho
     simp at hk
     exact ancM_spec h ho.symm _ (fun e he => by simpa using he) j hk
    ·rw [List.getElem?_eq_none (by simp; omega)] at hk
     simp at hk
theorem backB_spec {ops : Array Oper} : ∀ (l : List Oper) (k : Nat), (∀ i, l[i]? = ops[k + i]?) → backB k l = true → ∀ i o, l[i]? = some o → ∀ e ∈ o.after, Region.binds .any e = true → e.on < k + i
 | [], k, _, _, i, o, ho => by simp at ho
 | x :: l, k, hl, h, i, o, ho => by
  simp only [backB, Bool.and_eq_true, List.all_eq_true] at h
  cases i with
  | zero =>
   simp at ho; subst ho
   intro e he hb
   have := h.1 e (by simpa using he)
   simp [hb] at this
   exact this
  | succ i =>
   intro e he hb
   have := backB_spec l (k + 1) (fun j => by have := hl (j + 1); simp only [List.getElem?_cons_succ] at this; rw [this]; congr 1; omega) h.2 i o (by simpa using ho) e he hb
   omega
theorem orderB_spec {masks : List Nat} {e : Ent} {j : Nat} : ∀ (l : List Ent) (k : Nat), orderB masks e j k l = true → ∀ (i : Nat) (a : Ent), l[i]? = some a → clash a e = true → (masks.getD j 0).testBit (k + i) = true
 | [], k, _, i, a, hi => by simp at hi
 | x :: l, k, h, i, a, hi => by
  simp only [orderB, Bool.and_eq_true, Bool.or_eq_true] at h
  cases i with
  | zero => intro hc; simp at hi; subst hi; simpa [hc] using h.1
  | succ i => intro hc; have := orderB_spec l (k + 1) h.2 i a (by simpa using hi) hc; rwa [show k + (i + 1) = k + 1 + i by omega]
theorem ordersB_spec {masks : List Nat} {tr : List Ent} : ∀ (l : List Ent) (j : Nat), (∀ i, l[i]? = tr[j + i]?) → ordersB masks tr j l = true → ∀ (i k : Nat) (a e : Ent), k < j + i → tr[k]? = some a → tr[j + i]? = some e → l[i]? = some e → clash a e = true → (masks.getD (j + i) 0).testBit k = true
 | [], j, _, _, i, k, a, e, _, _, _, hl => by simp at hl
 | x :: l, j, hl, h, i, k, a, e, hk, ha, he, hle => by
  simp only [ordersB, Bool.and_eq_true] at h
  intro hc
  cases i with
  | zero =>
   simp at hle; subst hle
   have := orderB_spec _ 0 h.1 k a (by rw [List.getElem?_take]; rw [if_pos (by omega)]; exact ha) hc
   simpa using this
  | succ i =>
   have := ordersB_spec l (j + 1) (fun q => by have := hl (q + 1); simp only [List.getElem?_cons_succ] at this; rw [this]; congr 1; omega) h.2 i k a e (by omega) ha (by rw [← he]; congr 1; omega) (by simpa using hle) hc
   rw [show j + (i + 1) = j + 1 + i by omega]; exact this
end Go.SX
