/-
  SX, part M: every operation's reckoning is right.
-/
import Derived.Test.YtfbicphocelpeaaGreatDoorSxL2
import Derived.OrdersIn
import Derived.TacticsIn
import Derived.Deep.LoopGhost
import Derived.Scope
set_option linter.unusedVariables false
set_option linter.unusedSimpArgs false
namespace Go.SX
open Go.RowKit
variable {C : Cod}
section
variable {P : Program} {D : aJ C} {tab : Tab C} {B : dP} {E : Env} {σ : Nat → SV C} {H : Nat → HS C} {df : List Deferred} {a : Act} {w : World} {o : Oper}
theorem nM : ∀ (l m : List (SV C)) (vs ws : List Value), DenA D w E l vs → DenA D w E m ws → DenA D w E (l ++ m) (vs ++ ws)
 | [], m, vs, ws, h, k => by simp only [DenA] at h; subst h; simpa using k
 | x :: l, m, vs, ws, h, k => by
  simp only [DenA] at h;obtain ⟨v, v2, rfl, h1, h2⟩ := h;simp only [List.cons_append, DenA];exact ⟨v, v2 ++ ws, rfl, h1, nM l m _ _ h2 k⟩
def Out.plain : Out C → Bool
 | .mem _ _ => false
 | .smem _ _ _ => false
 | .call _ _ => false
 | .yieldc _ _ => false
 | .ask _ _ => false
 | .may _ _ => false
 | _ => true
theorem gG (t : TypeId) (x : SV C) (hs : List (Nat × HS C)) : (sC D tab t x hs).plain = true := by
 unfold sC;split
 ·rfl
 ·split
  ·split
   ·unfold oY;split
    ·split
     ·split <;> rfl
     ·rfl
    ·split
     ·rfl
     ·split <;> rfl
     ·rfl
   ·rfl
  ·split
   ·unfold vC; split <;> rfl
   ·rfl
  ·unfold B8; (repeat' split) <;> rfl
  ·rfl
theorem V7 (A : Aux C D) (hT : bZ P D tab) (hR : Rel D B E σ H df a w) {m : Nat} (hm : H m = .fresh) {vals : List (SV C)} (hv : vals = (aN o.op).map (ev σ)) {hs : List (Nat × HS C)}
  (hhs : ∀ x ∈ vals, ∀ c, x.topId = some c → lk hs c = H c) : cB P D B σ H df a w o (exec A tab o.op vals hs m) := by
 subst hv;cases ho : o.op with
 | move x => simp only [exec, aN, List.map_cons, List.map_nil]; exact Sy hR (.inl ho)
 | assign x => simp only [exec, aN, List.map_cons, List.map_nil]; exact Sy hR (.inr ho)
 | pick c x y =>
  simp only [exec, aN, List.map_cons, List.map_nil];cases hc : ev σ c with
  | p pv =>
   cases pv with
   | bool b =>
    simp only;cases b with
    | true => exact Tx hR ho hc
    | false => exact Tx hR ho hc
   | _ => trivial
  | _ => trivial
 | alloc t => simp only [exec]; exact q08 hT hR hm ho
 | box t x => simp only [exec, aN, List.map_cons, List.map_nil]; exact q7n hR hm ho
 | build t ps => simp only [exec, aN]; exact q0r hT hR ho
 | buildSlice t len ps => simp only [exec, aN]; exact U4 hT hR hm ho
 | load t x =>
  simp only [exec, aN, List.map_cons, List.map_nil];have h := q2w hT hR ho (hs := hs) (hhs (ev σ x) (by simp [ho, aN]));generalize hout : sC D tab t (ev σ x) hs = out at h;cases out with
  | stuck => trivial
  | val v => exact h
  | side p v => exact h
  | mem v ws => have := gG (D := D) (tab := tab) t (ev σ x) hs; rw [hout] at this; cases this
  | smem p v ws => have := gG (D := D) (tab := tab) t (ev σ x) hs; rw [hout] at this; cases this
  | call f args => have := gG (D := D) (tab := tab) t (ev σ x) hs; rw [hout] at this; cases this
  | yieldc f args => have := gG (D := D) (tab := tab) t (ev σ x) hs; rw [hout] at this; cases this
  | may q K => have := gG (D := D) (tab := tab) t (ev σ x) hs; rw [hout] at this; cases this
  | ask q K => have := gG (D := D) (tab := tab) t (ev σ x) hs; rw [hout] at this; cases this
 | store t x y => simp only [exec, aN, List.map_cons, List.map_nil]; exact Yd hT hR ho (hhs (ev σ x) (by simp [ho, aN]))
 | nilCheck x => simp only [exec, aN, List.map_cons, List.map_nil]; exact Gm hR ho (hhs (ev σ x) (by simp [ho, aN]))
 | binOp op t x y yt =>
  simp only [exec, aN, List.map_cons, List.map_nil];split
  ·exact Mq hT hR ho (by assumption)
  split
  ·exact Rv { A with wr := true } hT hR ho (hhs (ev σ x) (by simp [ho, aN]))
  ·exact Rv A hT hR ho (hhs (ev σ x) (by simp [ho, aN]))
 | unOp op t x => simp only [exec, aN, List.map_cons, List.map_nil]; exact qa6 hR ho
 | convert src dst x => simp only [exec, aN, List.map_cons, List.map_nil]; exact q4c A hT hR hm ho (hhs (ev σ x) (by simp [ho, aN]))
 | makeFunc f first captured =>
  simp only [exec, aN, List.map_append];have h1 : ((first.toList.map (ev σ) ++ captured.toList.map (ev σ)).take first.size) = first.toList.map (ev σ) := List.take_left' (by simp)
  have h2 : ((first.toList.map (ev σ) ++ captured.toList.map (ev σ)).drop first.size) = captured.toList.map (ev σ) := List.drop_left' (by simp);rw [h1, h2];exact Ho hR ho
 | makeSlice t l c => simp only [exec, aN, List.map_cons, List.map_nil]; exact Cf hT hR hm ho
 | slice t x lo hi mx =>
  cases mx with
  | some q =>
   cases lo with
   | none =>
    cases hi with
    | none => trivial
    | some h =>
     have := q5f hT hR ho (hs := hs) (hhs (ev σ x) (by simp [ho, aN]));simp only [exec, aN, List.map_cons, List.map_nil, List.append_nil, List.nil_append, List.cons_append];exact this
   | some l =>
    cases hi with
    | none => trivial
    | some h =>
     have := Pw (m := m) hT hR ho (hs := hs) (hhs (ev σ x) (by simp [ho, aN]));simp only [exec, aN, List.map_cons, List.map_nil, List.append_nil, List.nil_append, List.cons_append];exact this hm
  | none =>
   have h := q0k hT hR ho (hs := hs) (hhs (ev σ x) (by simp [ho, aN]));cases lo <;> cases hi <;> simp only [exec, aN, List.map_cons, List.map_nil, List.append_nil, List.nil_append, List.cons_append] <;> exact h
 | fieldAddr s x f => simp only [exec, aN, List.map_cons, List.map_nil]; exact Fb hT hR ho (hhs (ev σ x) (by simp [ho, aN]))
 | field t x f => simp only [exec, aN, List.map_cons, List.map_nil]; exact Xf hT hR ho
 | indexAddr t x i => simp only [exec, aN, List.map_cons, List.map_nil]; exact As hT hR ho (hhs (ev σ x) (by simp [ho, aN]))
 | index t x i => simp only [exec, aN, List.map_cons, List.map_nil]; exact Yu hT hR ho
 | sliceToArrayPointer t x => simp only [exec, aN, List.map_cons, List.map_nil]; exact Tg hT hR ho
 | makeMap t r =>
  cases r with
  | none => simp only [exec]; exact Mh hR hm ho
  | some r => trivial
 | makeInterface t x => simp only [exec, aN, List.map_cons, List.map_nil]; exact Zh hT hR ho
 | typeAssert x s t ok => simp only [exec, aN, List.map_cons, List.map_nil]; exact Ts hT hR ho
 | lookup t x k ok => simp only [exec, aN, List.map_cons, List.map_nil]; exact Vu hT hR ho (hhs (ev σ x) (by simp [ho, aN]))
 | mapUpdate t x k v => simp only [exec, aN, List.map_cons, List.map_nil]; exact q20 hT hR (.inl ho) (hhs (ev σ x) (by simp [ho, aN]))
 | insert t x k v => simp only [exec, aN, List.map_cons, List.map_nil]; exact q20 hT hR (.inr ho) (hhs (ev σ x) (by simp [ho, aN]))
 | extract x i => simp only [exec, aN, List.map_cons, List.map_nil]; exact Mz hR ho
 | call c =>
  obtain ⟨callee, args, argTypes⟩ := c;cases callee with
  | invoke r n => simp only [exec]; trivial
  | value f =>
   simp only [exec, aN, List.map_cons];unfold q1r;split
   ·rename_i k first captured rest heq
    simp only [List.cons.injEq] at heq;obtain ⟨hf, rfl⟩ := heq;intro E' hR';have hd := aS hR' f;rw [hf] at hd;simp only [Den] at hd;obtain ⟨xs, ys, e, h1, h2⟩ := hd;refine ⟨xs.toList ++ (args.toList.map a.eval ++ ys.toList), nM _ _ _ _ h1 (nM _ _ _ _ (vB hR' _) h2), ?_⟩;simp only [execOp, ho, resolve, e, Deferred.ofValue, invoke, Sem.run_bind, Sem.run_pure, Result.andThen_ok];congr 2;apply Array.ext';simp
   ·rename_i c rest heq;simp only [List.cons.injEq] at heq;obtain ⟨hf, rfl⟩ := heq;intro E' hR' b hb;have hd := aS hR' f;rw [hf] at hd;simp only [Den, hb] at hd;refine ⟨args.toList.map a.eval, vB hR' _, ?_⟩;simp only [execOp, ho, resolve, hd, Deferred.ofValue, invoke, Sem.run_bind, Sem.run_pure, Result.andThen_ok];congr 2;apply Array.ext';simp
   ·trivial
  | builtin b =>
   have hat : argTypes = argTypes.toList.toArray := by simp
   cases b with
   | len =>
    simp only [exec, aN];split
    ·rename_i x hx;split
     ·rename_i t ht;have hargs : ∃ y, args = #[y] ∧ ev σ y = x := by
       cases hl : args.toList with
       | nil => rw [hl] at hx; simp at hx
       | cons y l =>
        rw [hl] at hx;simp at hx;obtain ⟨h1, h2⟩ := hx;subst h2;exact ⟨y, by rw [← Array.toArray_toList (xs := args), hl], h1⟩
      obtain ⟨y, rfl, rfl⟩ := hargs;have htt : argTypes = #[t] := by rw [hat, ht]
      subst htt;have := q72 hT hR ho (hs := hs) (hhs (ev σ y) (by simp [ho, aN])) (by simp);exact this
     ·trivial
    ·trivial
   | append =>
    simp only [exec, aN];split
    ·rename_i x y hxy;split
     ·rename_i t t2 ht;have hargs : ∃ p q, args = #[p, q] ∧ ev σ p = x ∧ ev σ q = y := by
       cases hl : args.toList with
       | nil => rw [hl] at hxy; simp at hxy
       | cons p l =>
        rw [hl] at hxy;cases l with
        | nil => simp at hxy
        | cons q l =>
         simp at hxy;obtain ⟨h1, h2, h3⟩ := hxy;subst h3;exact ⟨p, q, by rw [← Array.toArray_toList (xs := args), hl], h1, h2⟩
      obtain ⟨p, q, rfl, rfl, rfl⟩ := hargs;have htt : argTypes = #[t, t2] := by rw [hat, ht]
      subst htt;exact Sz A hT hR hm ho (hhs (ev σ p) (by simp [ho, aN])) (hhs (ev σ q) (by simp [ho, aN]))
     ·trivial
    ·trivial
   | copy =>
    simp only [exec, aN];split
    ·rename_i x y hxy;split
     ·rename_i t t2 ht;have hargs : ∃ p q, args = #[p, q] ∧ ev σ p = x ∧ ev σ q = y := by
       cases hl : args.toList with
       | nil => rw [hl] at hxy; simp at hxy
       | cons p l =>
        rw [hl] at hxy;cases l with
        | nil => simp at hxy
        | cons q l =>
         simp at hxy;obtain ⟨h1, h2, h3⟩ := hxy;subst h3;exact ⟨p, q, by rw [← Array.toArray_toList (xs := args), hl], h1, h2⟩
      obtain ⟨p, q, rfl, rfl, rfl⟩ := hargs;have htt : argTypes = #[t, t2] := by rw [hat, ht]
      subst htt;exact q2v A hT hR ho (hhs (ev σ p) (by simp [ho, aN])) (hhs (ev σ q) (by simp [ho, aN]))
     ·trivial
    ·trivial
   | unsafeString =>
    simp only [exec, aN];split
    ·rename_i x y hxy;split
     ·rename_i t t2 ht;have hargs : ∃ p q, args = #[p, q] ∧ ev σ p = x ∧ ev σ q = y := by
       cases hl : args.toList with
       | nil => rw [hl] at hxy; simp at hxy
       | cons p l =>
        rw [hl] at hxy;cases l with
        | nil => simp at hxy
        | cons q l =>
         simp at hxy;obtain ⟨h1, h2, h3⟩ := hxy;subst h3;exact ⟨p, q, by rw [← Array.toArray_toList (xs := args), hl], h1, h2⟩
      obtain ⟨p, q, rfl, rfl, rfl⟩ := hargs;have htt : argTypes = #[t, t2] := by rw [hat, ht]
      subst htt;exact E6 A hT hR ho (hhs (ev σ p) (by simp [ho, aN]))
     ·trivial
    ·trivial
   | clear =>
    simp only [exec, aN];split
    ·rename_i x hx;split
     ·rename_i t ht;have hargs : ∃ y, args = #[y] ∧ ev σ y = x := by
       cases hl : args.toList with
       | nil => rw [hl] at hx; simp at hx
       | cons y l =>
        rw [hl] at hx;simp at hx;obtain ⟨h1, h2⟩ := hx;subst h2;exact ⟨y, by rw [← Array.toArray_toList (xs := args), hl], h1⟩
      obtain ⟨y, rfl, rfl⟩ := hargs;have htt : argTypes = #[t] := by rw [← Array.toArray_toList (xs := argTypes), ht]
      subst htt;exact Yw hT hR ho (hhs (ev σ y) (by simp [ho, aN]))
     ·trivial
    ·trivial
   | unsafeSliceData =>
    simp only [exec, aN];split
    ·rename_i x hx;have hargs : ∃ y, args = #[y] ∧ ev σ y = x := by
      cases hl : args.toList with
      | nil => rw [hl] at hx; simp at hx
      | cons y l =>
       rw [hl] at hx;simp at hx;obtain ⟨h1, h2⟩ := hx;subst h2;exact ⟨y, by rw [← Array.toArray_toList (xs := args), hl], h1⟩
     obtain ⟨y, rfl, rfl⟩ := hargs;exact Bh hR ho (hhs (ev σ y) (by simp [ho, aN]))
    ·trivial
   | cap =>
    simp only [exec, aN];split
    ·rename_i x hx;split
     ·rename_i t ht;have hargs : ∃ y, args = #[y] ∧ ev σ y = x := by
       cases hl : args.toList with
       | nil => rw [hl] at hx; simp at hx
       | cons y l =>
        rw [hl] at hx;simp at hx;obtain ⟨h1, h2⟩ := hx;subst h2;exact ⟨y, by rw [← Array.toArray_toList (xs := args), hl], h1⟩
      obtain ⟨y, rfl, rfl⟩ := hargs;have htt : argTypes = #[t] := by rw [hat, ht]
      subst htt;exact q7v hT hR ho
     ·trivial
    ·trivial
   | min =>
    simp only [exec, aN];split
    ·rename_i x y hxy;have hargs : ∃ p q, args = #[p, q] ∧ ev σ p = x ∧ ev σ q = y := by
      cases hl : args.toList with
      | nil => rw [hl] at hxy; simp at hxy
      | cons p l =>
       rw [hl] at hxy;cases l with
       | nil => simp at hxy
       | cons q l =>
        simp at hxy;obtain ⟨h1, h2, h3⟩ := hxy;subst h3;exact ⟨p, q, by rw [← Array.toArray_toList (xs := args), hl], h1, h2⟩
     obtain ⟨p, q, rfl, rfl, rfl⟩ := hargs;exact Bp hR false ho
    ·trivial
   | max =>
    simp only [exec, aN];split
    ·rename_i x y hxy;have hargs : ∃ p q, args = #[p, q] ∧ ev σ p = x ∧ ev σ q = y := by
      cases hl : args.toList with
      | nil => rw [hl] at hxy; simp at hxy
      | cons p l =>
       rw [hl] at hxy;cases l with
       | nil => simp at hxy
       | cons q l =>
        simp at hxy;obtain ⟨h1, h2, h3⟩ := hxy;subst h3;exact ⟨p, q, by rw [← Array.toArray_toList (xs := args), hl], h1, h2⟩
     obtain ⟨p, q, rfl, rfl, rfl⟩ := hargs;exact Bp hR true ho
    ·trivial
   | _ => simp only [exec]; trivial
 | _ => simp only [exec]; trivial
end
end Go.SX
namespace Go.SX
set_option linter.unusedSectionVars false
variable {C : Cod}
structure Ent where
 d : Option Nat
 fs : List Nat
 fc : List Nat
 wc : List Nat
def q30 (x : Nat) : List Nat → Bool
 | [] => false
 | y :: l => if Nat.beq x y then true else q30 x l
def J4 : List Nat → List Nat → Bool
 | [], _ => false
 | x :: l, m => if q30 x m then true else J4 l m
def Zq (d : Option Nat) (l : List Nat) : Bool := match d with
 | none => false
 | some d => q30 d l
def q7x (d e : Option Nat) : Bool := match d, e with
 | some d, some e => Nat.beq d e
 | _, _ => false
def oJ (a b : Ent) : Bool := Zq a.d b.fs || Zq b.d a.fs || q7x a.d b.d || J4 a.wc b.fc || J4 b.wc a.fc || J4 a.wc b.wc
theorem uA {x : Nat} : ∀ {l : List Nat}, q30 x l = true ↔ x ∈ l
 | [] => by simp [q30]
 | y :: l => by
  simp only [q30, List.mem_cons]
  by_cases h : x = y
  ·subst h; simp
  ·have : Nat.beq x y = false := by
    cases hb : Nat.beq x y with
    | false => rfl
    | true => exact absurd (Nat.eq_of_beq_eq_true hb) h
   rw [this]; simp [h, uA (l := l)]
theorem tS : ∀ {l m : List Nat}, J4 l m = true ↔ ∃ x, x ∈ l ∧ x ∈ m
 | [], m => by simp [J4]
 | x :: l, m => by
  simp only [J4];cases h : q30 x m with
  | true => simp only [if_true, true_iff]; exact ⟨x, by simp, uA.1 h⟩
  | false =>
   have hx : x ∉ m := fun hx => by rw [uA.2 hx] at h; cases h
   simp only [Bool.false_eq_true, if_false, tS (l := l), List.mem_cons];constructor
   ·rintro ⟨y, h1, h2⟩; exact ⟨y, .inr h1, h2⟩
   ·rintro ⟨y, rfl | h1, h2⟩
    ·exact absurd h2 hx
    ·exact ⟨y, h1, h2⟩
theorem Ie {a b : Ent} {t : Nat} (h : a.d = some t) (ht : t ∈ b.fs) : oJ a b = true := by
 simp [oJ, Zq, h, uA.2 ht]
theorem Du {a b : Ent} {t : Nat} (h : b.d = some t) (ht : t ∈ a.fs) : oJ a b = true := by
 simp [oJ, Zq, h, uA.2 ht]
theorem Ms {a b : Ent} {t : Nat} (h : a.d = some t) (ht : b.d = some t) : oJ a b = true := by
 simp [oJ, q7x, h, ht]
theorem Il {a b : Ent} {c : Nat} (h : c ∈ a.wc) (hc : c ∈ b.fc) : oJ a b = true := by
 have : J4 a.wc b.fc = true := tS.2 ⟨c, h, hc⟩;simp [oJ, this]
theorem De {a b : Ent} {c : Nat} (h : c ∈ b.wc) (hc : c ∈ a.fc) : oJ a b = true := by
 have : J4 b.wc a.fc = true := tS.2 ⟨c, h, hc⟩;simp [oJ, this]
theorem Gn {a b : Ent} {c : Nat} (h : c ∈ a.wc) (hc : c ∈ b.wc) : oJ a b = true := by
 have : J4 a.wc b.wc = true := tS.2 ⟨c, h, hc⟩;simp [oJ, this]
structure Stp (C : Cod) where
 e : Ent
 v : SV C
 ws : List (Nat × HS C)
 hw : ws.map (·.1) = e.wc
abbrev ST (C : Cod) := (Nat → SV C) × (Nat → HS C)
def Stp.app (N : Nat) (s : Stp C) (x : ST C) : ST C := (upT N x.1 s.e.d s.v, rE x.2 s.ws)
def stA (N : Nat) (x0 : ST C) (S : Nat → Stp C) (L : Nat → Bool) : Nat → ST C
 | 0 => x0
 | k + 1 => match L k with
  | true => (S k).app N (stA N x0 S L k)
  | false => stA N x0 S L k
theorem xO {N : Nat} {σ : Nat → SV C} {d : Option Nat} {v : SV C} {t : Nat} (h : d ≠ some t) : upT N σ d v t = σ t := by
 cases d with
 | none => rfl
 | some d => simp only [upT]; rw [if_neg]; rintro ⟨rfl, _⟩; exact h rfl
theorem sF : ∀ (ws : List (Nat × HS C)) (H : Nat → HS C) (c : Nat), c ∉ ws.map (·.1) → rE H ws c = H c
 | [], H, c, _ => rfl
 | (c', h) :: l, H, c, hc => by
  simp only [List.map_cons, List.mem_cons, not_or] at hc;simp only [rE];rw [sF l _ c hc.2, upH, if_neg hc.1]
theorem qO : ∀ (ws : List (Nat × HS C)) (H H' : Nat → HS C) (c : Nat), (c ∉ ws.map (·.1) → H c = H' c) → rE H ws c = rE H' ws c
 | [], H, H', c, h => h (by simp)
 | (c', h') :: l, H, H', c, h => by
  simp only [rE];refine qO l _ _ c fun hc => ?_;simp only [upH];split
  ·rfl
  ·rename_i hne; exact h (by simp [hne]; simpa using hc)
theorem Sw (ws ws' : List (Nat × HS C)) (hd : ∀ c, c ∈ ws.map (·.1) → c ∉ ws'.map (·.1)) (H : Nat → HS C) : rE (rE H ws) ws' = rE (rE H ws') ws := by
 funext c
 by_cases h : c ∈ ws.map (·.1)
 ·rw [sF ws' _ c (hd c h)];exact qO ws _ _ c fun h' => absurd h h'
 ·rw [sF ws _ c h];exact qO ws' _ _ c fun _ => sF ws _ c h
theorem Zc {N : Nat} {d e : Option Nat} (h : ∀ t, d = some t → e ≠ some t) (σ : Nat → SV C) (v u : SV C) : upT N (upT N σ d v) e u = upT N (upT N σ e u) d v := by
 funext t
 by_cases hd : d = some t
 ·have he := h t hd;rw [xO he];subst hd;simp only [upT, true_and];split
  ·rfl
  ·exact (xO (d := e) he).symm
 ·rw [xO hd];cases e with
  | none => exact xO hd
  | some e =>
   show (if t = e ∧ e < N then u else upT N σ d v t) = (if t = e ∧ e < N then u else σ t);rw [xO hd]
inductive Anc (ops : Array Oper) : Nat → Nat → Prop
 | dir {k : Nat} {o : Oper} {e : Edge} (ho : ops[k]? = some o) (he : e ∈ o.after) (hb : Region.binds .any e = true) : Anc ops k e.on
 | trans {k j i : Nat} (h : Anc ops k j) (h' : Anc ops j i) : Anc ops k i
section
variable {N n : Nat} {x0 : ST C} {S : Nat → Stp C} {ops : Array Oper} {L : Nat → Bool}
def Mu : Nat → Bool := fun _ => true
structure Cut (ops : Array Oper) (L : Nat → Bool) : Prop where
 down : ∀ k, L k = true → ∀ o, ops[k]? = some o → ∀ e ∈ o.after, Region.binds .any e = true → L e.on = true
theorem Cut.anc (h : Cut ops L) {k j : Nat} (ha : Anc ops k j) : L k = true → L j = true := by
 induction ha with
 | dir ho he hb => intro hk; exact h.down _ hk _ ho _ he hb
 | trans _ _ ih1 ih2 => intro hk; exact ih2 (ih1 hk)
theorem Rl (h : Cut ops L) {i j : Nat} (hi : ∀ o, ops[i]? = some o → ∀ e ∈ o.after, Region.binds .any e = true → L e.on = true) (ha : Anc ops i j) : L j = true := by
 induction ha with
 | dir ho he hb => exact hi _ ho _ he hb
 | trans h1 h2 ih1 _ => exact h.anc h2 (ih1 hi)
variable (hcl : ∀ i j, i < j → j < n → oJ (S i).e (S j).e = true → Anc ops j i) (hL : Cut ops L) {i : Nat} (hin : i < n) (hLi : L i = false)
 (hi : ∀ j, Anc ops i j → L j = true)
include hcl hL hin hLi hi
theorem Jy : ∀ k, k ≤ i → (∀ t ∈ (S i).e.fs, (stA N x0 S L k).1 t = (stA N x0 S Mu k).1 t) ∧ (∀ c ∈ (S i).e.fc, (stA N x0 S L k).2 c = (stA N x0 S Mu k).2 c)
 | 0, _ => ⟨fun _ _ => rfl, fun _ _ => rfl⟩
 | k + 1, hk => by
  obtain ⟨ih1, ih2⟩ := Jy k (by omega);refine ⟨fun t ht => ?_, fun c hc => ?_⟩
  ·by_cases hd : (S k).e.d = some t
   ·have := hi k (hcl k i (by omega) hin (Ie hd ht));simp only [stA, this, Mu, Stp.app, hd, upT];split
    ·rfl
    ·exact ih1 t ht
   ·simp only [stA, Mu, Stp.app];rw [xO hd];cases L k with
    | true => simp only; rw [xO hd]; exact ih1 t ht
    | false => exact ih1 t ht
  ·by_cases hw : c ∈ (S k).e.wc
   ·have := hi k (hcl k i (by omega) hin (Il hw hc));simp only [stA, this, Mu, Stp.app];exact qO _ _ _ c fun _ => ih2 c hc
   ·rw [← (S k).hw] at hw;simp only [stA, Mu, Stp.app];rw [sF _ _ c hw];cases L k with
    | true => simp only; rw [sF _ _ c hw]; exact ih2 c hc
    | false => exact ih2 c hc
theorem Js : ∀ k, i + k ≤ n → (∀ t ∈ (S i).e.fs, (stA N x0 S L (i + k)).1 t = (stA N x0 S L i).1 t) ∧ (∀ c ∈ (S i).e.fc, (stA N x0 S L (i + k)).2 c = (stA N x0 S L i).2 c)
 | 0, _ => ⟨fun _ _ => rfl, fun _ _ => rfl⟩
 | k + 1, hk => by
  obtain ⟨ih1, ih2⟩ := Js k (by omega);rw [← Nat.add_assoc];cases hLk : L (i + k) with
  | false => simp only [stA, hLk]; exact ⟨ih1, ih2⟩
  | true =>
   have hne : i ≠ i + k := fun e => by rw [← e, hLi] at hLk; cases hLk
   have hno : oJ (S i).e (S (i + k)).e = true → False := fun hc => by
    have := hL.anc (hcl i (i + k) (by omega) (by omega) hc) hLk;rw [hLi] at this; cases this
   simp only [stA, hLk, Stp.app];refine ⟨fun t ht => ?_, fun c hc => ?_⟩
   ·rw [xO fun hd => hno (Du hd ht)]; exact ih1 t ht
   ·rw [sF _ _ c fun hw => hno (De ((S (i + k)).hw ▸ hw) hc)]; exact ih2 c hc
omit hi in
theorem q6d (L' : Nat → Bool) (hL' : ∀ k, L' k = if k = i then true else L k) : (∀ k, k ≤ i → stA N x0 S L' k = stA N x0 S L k) ∧ ∀ k, i + 1 + k ≤ n → stA N x0 S L' (i + 1 + k) = (S i).app N (stA N x0 S L (i + 1 + k)) := by
 have h1 : ∀ k, k ≤ i → stA N x0 S L' k = stA N x0 S L k := by
  intro k
  induction k with
  | zero => intro _; rfl
  | succ k ih =>
   intro hk;have : L' k = L k := by rw [hL', if_neg (by omega)]
   simp only [stA, this, ih (by omega)]
 refine ⟨h1, fun k => ?_⟩
 induction k with
 | zero =>
  intro _;have : L' i = true := by rw [hL', if_pos rfl]
  simp only [stA, Nat.add_zero, this, hLi, h1 i (Nat.le_refl _)]
 | succ k ih =>
  intro hk;rw [← Nat.add_assoc];have hLk : L' (i + 1 + k) = L (i + 1 + k) := by rw [hL', if_neg (by omega)]
  simp only [stA, hLk, ih (by omega)];cases hk2 : L (i + 1 + k) with
  | false => rfl
  | true =>
   have hno : oJ (S i).e (S (i + 1 + k)).e = true → False := fun hc => by
    have := hL.anc (hcl i (i + 1 + k) (by omega) (by omega) hc) hk2;rw [hLi] at this; cases this
   simp only [Stp.app];refine Prod.ext ?_ ?_
   ·exact Zc (fun t h1 h2 => hno (Ms h1 h2)) _ _ _
   ·exact Sw _ _ (fun c h1 h2 => hno (Gn ((S i).hw ▸ h1) ((S (i + 1 + k)).hw ▸ h2))) _
end
def cnt (L : Nat → Bool) : Nat → Nat
 | 0 => 0
 | k + 1 => cnt L k + (match L k with | true => 0 | false => 1)
theorem Lu {L : Nat → Bool} : ∀ {n : Nat}, cnt L n = 0 → ∀ k, k < n → L k = true
 | 0, _, k, hk => by omega
 | n + 1, h, k, hk => by
  simp only [cnt] at h
  by_cases hkn : k = n
  ·subst hkn;cases hL : L k with
   | true => rfl
   | false => rw [hL] at h; simp at h
  ·exact Lu (n := n) (by omega) k (by omega)
theorem Tz {L L' : Nat → Bool} {i : Nat} (hLi : L i = false) (hL' : ∀ k, L' k = if k = i then true else L k) : ∀ n, (n ≤ i → cnt L' n = cnt L n) ∧ (i < n → cnt L' n + 1 = cnt L n)
 | 0 => ⟨fun _ => rfl, fun h => by omega⟩
 | n + 1 => by
  obtain ⟨h1, h2⟩ := Tz hLi hL' n;simp only [cnt];refine ⟨fun h => ?_, fun h => ?_⟩
  ·rw [h1 (by omega), hL' n, if_neg (by omega)]
  ·by_cases hn : i = n
   ·subst hn;rw [h1 (Nat.le_refl _), hL' i, if_pos rfl, hLi];rfl
   ·have := h2 (by omega);rw [hL' n, if_neg (fun e => hn e.symm)];omega
section
variable {N n r : Nat} {P : Program} {x0 : ST C} {S : Nat → Stp C} {ops : Array Oper} {F : Fence} {Q : Exit → Act → World → Prop} {Ok : ST C → Act → World → Prop}
theorem xJ (hn : ops.size = n) (hback : ∀ k o, ops[k]? = some o → ∀ e ∈ o.after, Region.binds .any e = true → e.on < k)
  (hcl : ∀ i j, i < j → j < n → oJ (S i).e (S j).e = true → Anc ops j i)
  (step : ∀ i, i < n → ∀ x : ST C, (∀ t ∈ (S i).e.fs, x.1 t = (stA N x0 S Mu i).1 t) → (∀ c ∈ (S i).e.fc, x.2 c = (stA N x0 S Mu i).2 c) → ∀ a w (K : Act → World → Prop), Ok x a w →
   (∀ a' w', Ok ((S i).app N x) a' w' → K a' w') → wpOpIn F r P ops Q i K a w)
  (hQ : ∀ a w, Ok (stA N x0 S Mu n) a w → Q .normal a w) : ∀ (fuel : Nat) (listed : Array Bool) (a : Act) (w : World), listed.size = n → Cut ops (fun k => listed.getD k true) →
   cnt (fun k => listed.getD k true) n ≤ fuel → Ok (stA N x0 S (fun k => listed.getD k true) n) a w → wpAnyIn F r P .any ops Q fuel listed a w := by
 have hdf : ∀ (listed : Array Bool), listed.size = n → ∀ k, k < n → listed.getD k false = listed.getD k true := by
  intro listed hs k hk;have : k < listed.size := by omega
  simp [this]
 have hall : ∀ (listed : Array Bool) (a : Act) (w : World), (∀ k, k < n → listed.getD k true = true) → Ok (stA N x0 S (fun k => listed.getD k true) n) a w → Q .normal a w := by
  intro listed a w h hok;have : ∀ k, k ≤ n → stA N x0 S (fun k => listed.getD k true) k = stA N x0 S Mu k := by
   intro k
   induction k with
   | zero => intro _; rfl
   | succ k ih => intro hk; have h1 := h k (by omega); simp only [stA, h1, Mu, ih (by omega)]
  rw [this n (Nat.le_refl _)] at hok;exact hQ a w hok
 have hready : ∀ (listed : Array Bool), listed.size = n → Region.ready .any ops listed = [] → ∀ k, k < n → listed.getD k true = true := by
  intro listed hs hr k
  induction k using Nat.strongRecOn with
  | ind k ih =>
   intro hk;cases hLk : listed.getD k true with
   | true => rfl
   | false =>
    have hko : ops[k]? = some ops[k] := Array.getElem?_eq_getElem (by omega);have : k ∈ Region.ready .any ops listed := mem_ready.2 ⟨hLk, _, hko, fun e he hb => by
     have := hback k _ hko e he hb;rw [hdf listed hs _ (by omega)];exact ih _ this (by omega)⟩
    rw [hr] at this; cases this
 intro fuel
 induction fuel with
 | zero =>
  intro listed a w hs hc hf hok;have hl := Lu (Nat.le_zero.1 hf);refine ⟨?_, hall listed a w hl hok⟩;cases hr : Region.ready .any ops listed with
  | nil => rfl
  | cons k l =>
   have hk : k ∈ Region.ready .any ops listed := by rw [hr]; simp
   obtain ⟨h0, o, ho, _⟩ := mem_ready.1 hk;have hkn : k < n := by rw [← hn]; exact (Array.getElem?_eq_some_iff.1 ho).1
   have := hl k hkn;simp only [h0] at this; cases this
 | succ fuel ih =>
  intro listed a w hs hc hf hok;refine ⟨fun hr => hall listed a w (hready listed hs hr) hok, fun i hi => ?_⟩;obtain ⟨h0, o, ho, hdep⟩ := mem_ready.1 hi;have hin : i < n := by rw [← hn]; exact (Array.getElem?_eq_some_iff.1 ho).1
  have hdep' : ∀ o, ops[i]? = some o → ∀ e ∈ o.after, Region.binds .any e = true → listed.getD e.on true = true := by
   intro o' ho' e he hb;rw [ho] at ho'; cases ho';have := hback i o ho e he hb;rw [← hdf listed hs _ (by omega)];exact hdep e he hb
  have hanc : ∀ j, Anc ops i j → listed.getD j true = true := fun j hj => Rl hc hdep' hj;have hag := Jy (N := N) (x0 := x0) hcl hc hin h0 hanc i (Nat.le_refl _);have hag2 := Js (N := N) (x0 := x0) hcl hc hin h0 hanc (n - i) (by omega);rw [show i + (n - i) = n by omega] at hag2;refine step i hin _ (fun t ht => (hag2.1 t ht).trans (hag.1 t ht)) (fun c hc => (hag2.2 c hc).trans (hag.2 c hc)) a w _ hok fun a' w' hok' => ?_;have hL' : ∀ k, (listed.setIfInBounds i true).getD k true = if k = i then true else listed.getD k true := by
   intro k
   by_cases hki : k = i
   ·subst hki; rw [if_pos rfl]; simp [show k < listed.size by omega]
   ·rw [if_neg hki, getD_set_ne true (fun e => hki e.symm)]
  refine ih _ a' w' (by simp [hs]) ⟨fun k hk o' ho' e he hb => ?_⟩ ?_ ?_
  ·show (listed.setIfInBounds i true).getD e.on true = true;rw [hL'];split
   ·rfl
   ·by_cases hki : k = i
    ·subst hki; exact hdep' o' ho' e he hb
    ·have hk' : (listed.setIfInBounds i true).getD k true = true := hk;rw [hL', if_neg hki] at hk';exact hc.down k hk' o' ho' e he hb
  ·have := (Tz (L := fun k => listed.getD k true) (L' := fun k => (listed.setIfInBounds i true).getD k true) h0 hL' n).2 hin;omega
  ·have := (q6d (N := N) (x0 := x0) hcl hc hin h0 (fun k => (listed.setIfInBounds i true).getD k true) hL').2 (n - i - 1) (by omega);rw [show i + 1 + (n - i - 1) = n by omega] at this;rw [this];exact hok'
end
def q5i (acc : List Nat) : List Edge → Nat
 | [] => 0
 | e :: l => if Region.binds .any e then 2 ^ e.on ||| (acc.getD e.on 0 ||| q5i acc l) else q5i acc l
def q9x : List Oper → List Nat → List Nat
 | [], acc => acc
 | o :: l, acc => q9x l (acc ++ [q5i acc o.after.toList])
def Zt : Nat → List Oper → Bool
 | _, [] => true
 | k, o :: l => (o.after.toList.all fun e => !Region.binds .any e || Nat.blt e.on k) && Zt (k + 1) l
def Ld (masks : List Nat) (e : Ent) (j : Nat) : Nat → List Ent → Bool
 | _, [] => true
 | i, a :: l => (!oJ a e || (masks.getD j 0).testBit i) && Ld masks e j (i + 1) l
def Ai (masks : List Nat) (tr : List Ent) : Nat → List Ent → Bool
 | _, [] => true
 | j, e :: l => Ld masks e j 0 (tr.take j) && Ai masks tr (j + 1) l
def N4 (all : List Oper) (tr : List Ent) : Bool := Zt 0 all && Ai (q9x all []) tr 0 tr
theorem G1 {ops : Array Oper} {acc : List Nat} (hacc : ∀ k j, (acc.getD k 0).testBit j = true → Anc ops k j) {k : Nat} {o : Oper} (ho : ops[k]? = some o) : ∀ (l : List Edge), (∀ e ∈ l, e ∈ o.after) →
  ∀ j, (q5i acc l).testBit j = true → Anc ops k j
 | [], _, j, h => by simp [q5i] at h
 | e :: l, hl, j, h => by
  simp only [q5i] at h;split at h
  ·rename_i hb;rw [Nat.testBit_or, Nat.testBit_or, Bool.or_eq_true, Bool.or_eq_true] at h;have hd : Anc ops k e.on := .dir ho (hl e (by simp)) hb;rcases h with h | h | h
   ·rw [Nat.testBit_two_pow] at h;have : e.on = j := by simpa using h
    rw [← this]; exact hd
   ·exact .trans hd (hacc _ _ h)
   ·exact G1 hacc ho l (fun e he => hl e (by simp [he])) j h
  ·exact G1 hacc ho l (fun e he => hl e (by simp [he])) j h
theorem zN {ops : Array Oper} : ∀ (l : List Oper) (acc : List Nat), (∀ i, l[i]? = ops[acc.length + i]?) → (∀ k j, (acc.getD k 0).testBit j = true → Anc ops k j) →
  ∀ k j, ((q9x l acc).getD k 0).testBit j = true → Anc ops k j
 | [], acc, _, h => h
 | o :: l, acc, hl, h => by
  refine zN l _ (fun i => ?_) fun k j hk => ?_
  ·have := hl (i + 1);simp only [List.getElem?_cons_succ] at this;rw [this]; simp; congr 1; omega
  ·rw [List.getD_eq_getElem?_getD, List.getElem?_append] at hk;split at hk
   ·exact h k j (by rw [List.getD_eq_getElem?_getD]; exact hk)
   ·rename_i hlt
    by_cases hke : k = acc.length
    ·subst hke;have ho := hl 0;simp at ho;simp at hk;exact G1 h ho.symm _ (fun e he => by simpa using he) j hk
    ·rw [List.getElem?_eq_none (by simp; omega)] at hk;simp at hk
theorem wI {ops : Array Oper} : ∀ (l : List Oper) (k : Nat), (∀ i, l[i]? = ops[k + i]?) → Zt k l = true → ∀ i o, l[i]? = some o → ∀ e ∈ o.after, Region.binds .any e = true → e.on < k + i
 | [], k, _, _, i, o, ho => by simp at ho
 | x :: l, k, hl, h, i, o, ho => by
  simp only [Zt, Bool.and_eq_true, List.all_eq_true] at h;cases i with
  | zero =>
   simp at ho; subst ho;intro e he hb;have := h.1 e (by simpa using he);simp [hb] at this;exact this
  | succ i =>
   intro e he hb;have := wI l (k + 1) (fun j => by have := hl (j + 1); simp only [List.getElem?_cons_succ] at this; rw [this]; congr 1; omega) h.2 i o (by simpa using ho) e he hb;omega
theorem F8 {masks : List Nat} {e : Ent} {j : Nat} : ∀ (l : List Ent) (k : Nat), Ld masks e j k l = true → ∀ (i : Nat) (a : Ent), l[i]? = some a → oJ a e = true → (masks.getD j 0).testBit (k + i) = true
 | [], k, _, i, a, hi => by simp at hi
 | x :: l, k, h, i, a, hi => by
  simp only [Ld, Bool.and_eq_true, Bool.or_eq_true] at h;cases i with
  | zero => intro hc; simp at hi; subst hi; simpa [hc] using h.1
  | succ i => intro hc; have := F8 l (k + 1) h.2 i a (by simpa using hi) hc; rwa [show k + (i + 1) = k + 1 + i by omega]
theorem oZ {masks : List Nat} {tr : List Ent} : ∀ (l : List Ent) (j : Nat), (∀ i, l[i]? = tr[j + i]?) → Ai masks tr j l = true → ∀ (i k : Nat) (a e : Ent), k < j + i → tr[k]? = some a → tr[j + i]? = some e → l[i]? = some e → oJ a e = true → (masks.getD (j + i) 0).testBit k = true
 | [], j, _, _, i, k, a, e, _, _, _, hl => by simp at hl
 | x :: l, j, hl, h, i, k, a, e, hk, ha, he, hle => by
  simp only [Ai, Bool.and_eq_true] at h;intro hc;cases i with
  | zero =>
   simp at hle; subst hle;have := F8 _ 0 h.1 k a (by rw [List.getElem?_take]; rw [if_pos (by omega)]; exact ha) hc;simpa using this
  | succ i =>
   have := oZ l (j + 1) (fun q => by have := hl (q + 1); simp only [List.getElem?_cons_succ] at this; rw [this]; congr 1; omega) h.2 i k a e (by omega) ha (by rw [← he]; congr 1; omega) (by simpa using hle) hc;rw [show j + (i + 1) = j + 1 + i by omega]; exact this
end Go.SX
namespace Go.SX
open Go.RowKit
variable {C : Cod}
def Fc (r : Option Nat) : Fence := { fn := fun _ => True, depth := none, alive := false, round := r }
def bX : List (SV C) → Nat → SV C
 | [], _ => .any
 | x :: _, 0 => x
 | _ :: l, n + 1 => bX l n
def wK : List (SV C) → Nat → SV C → List (SV C)
 | [], _, _ => []
 | _ :: l, 0, v => v :: l
 | x :: l, n + 1, v => x :: wK l n v
def mD (T : List (SV C)) (d : Option Nat) (v : SV C) : List (SV C) :=
 match d with
 | none => T
 | some d => wK T d v
def aR : List (HS C) → Nat → HS C
 | [], _ => .fresh
 | x :: _, 0 => x
 | _ :: l, n + 1 => aR l n
def Am : List (HS C) → Nat → HS C → List (HS C)
 | [], 0, h => [h]
 | [], n + 1, h => .fresh :: Am [] n h
 | _ :: l, 0, h => h :: l
 | x :: l, n + 1, h => x :: Am l n h
def fS : List (HS C) → List (Nat × HS C) → List (HS C)
 | Hp, [] => Hp
 | Hp, (c, h) :: l => fS (Am Hp c h) l
def evT (T : List (SV C)) : Operand → SV C
 | .tmp t => bX T t
 | .const v => ofV v
 | .global g => Zo g (C.glob g)
 | .func f => .fn (.func f) [] []
def bD (T : List (SV C)) : List Operand → List (SV C)
 | [] => []
 | x :: l => evT T x :: bD T l
def rC (Hp : List (HS C)) : List (SV C) → List (Nat × HS C)
 | [] => []
 | x :: l => match x.topId with
  | some c => (c, aR Hp c) :: rC Hp l
  | none => rC Hp l
def hlen : List (HS C) → Nat
 | [] => 0
 | _ :: l => hlen l + 1
def q5b {D : aJ C} (A : Aux C D) (tab : Tab C) (o : Op) (vals : List (SV C)) (Hp : List (HS C)) : Out C :=
 exec A tab o vals (rC Hp vals) (hlen Hp)
inductive It (C : Cod) where
 | code (c : Code)
 | ops (all rest : List Oper)
 | op1 (all : List Oper) (o : Oper) (rest : List Oper)
 | blk (id : Nat)
 | endLoop (J : List (SV C) → List (HS C) → Prop)
 | beginR
 | scp
 | die (ch : List PanicEntry)
def M7 (id : Nat) : List (It C) → Option (List (It C))
 | [] => none
 | .blk i :: k => if i = id then some k else M7 id k
 | _ :: k => M7 id k
def K6 (all : List Oper) (j : Nat) : Option Nat :=
 match ixL all j with
 | some o => o.dst
 | none => none
def q1y (b : Bool) (X Y : Prop) : Prop := match b with
 | true => X
 | false => Y
abbrev J9 (C : Cod) := Exit → List (SV C) → List (HS C) → Prop
def An (D : aJ C) (B : dP) (df : List Deferred) (T : List (SV C)) (Hp : List (HS C)) (a : Act) (w : World) : Prop :=
 ∃ E, Rel D B E (bX T) (aR Hp) df a w ∧ a.tmps.size = T.length
def q5k (D : aJ C) (m0 : Nat) (T : List (SV C)) (Hp : List (HS C)) (T' : List (SV C)) (Hp' : List (HS C)) : Prop :=
 ∀ B df a w, B.m0 = m0 → An D B df T Hp a w → An D B df T' Hp' a w
structure O2 (P : Program) (D : aJ C) (f : FuncId) (args : List (SV C)) (H : Nat → HS C) (ret : SV C) (ws : List (Nat × HS C)) : Prop where
 run : ((∀ args w, (callFunc f args).run P w = .ok (.enter f args) w) ∧ ∀ B σ df a w E, Rel D B E σ H df a w → ∀ vs, DenA D w E args vs →
  CallsIn (Fc none) 0 P f vs.toArray w fun e w' => ∃ v E', e = .returned v ∧ Den D w' E' ret v ∧ Rel D B E' σ (rE H ws) df a w') ∨
  ∀ B σ df a w E, Rel D B E σ H df a w → ∀ vs, DenA D w E args vs → ∃ v w' E', (callFunc f vs.toArray).run P w = .ok (.value v) w' ∧ Den D w' E' ret v ∧ Rel D B E' σ (rE H ws) df a w'
abbrev kU (C : Cod) := List (It C) → List (SV C) → List (HS C) → Prop
def q7h (D : aJ C) (m0 : Nat) (R : kU C) (body : Code) (k : List (It C)) (T : List (SV C)) (Hp : List (HS C)) : Prop :=
 ∃ (γ : Type) (I : γ → List (SV C) × List (HS C)) (good : γ → Prop) (μ : γ → Nat) (g0 : γ), good g0 ∧ q5k D m0 T Hp (I g0).1 (I g0).2 ∧
  ∀ g, good g → ∀ J : List (SV C) → List (HS C) → Prop, (∀ T' Hp' g', good g' → μ g' < μ g → q5k D m0 T' Hp' (I g').1 (I g').2 → J T' Hp') →
   R (.code body :: .endLoop J :: k) (I g).1 (I g).2
def q1f (Φ : J9 C) (R : kU C) (id : Nat) (T : List (SV C)) (Hp : List (HS C)) : Option (List (It C)) → Prop
 | some k => R k T Hp
 | none => Φ (.exit id) T Hp
structure q48 (P : Program) (D : aJ C) (f : FuncId) (args : List (SV C)) (H0 : Nat → HS C) (fc : List Nat) (ret : SV C) (ws : List (Nat × HS C)) : Prop where
 at_ : ∀ H, (∀ c ∈ fc, H c = H0 c) → O2 P D f args H ret ws
def gN : List Operand → List Nat
 | [] => []
 | .tmp t :: l => t :: gN l
 | _ :: l => gN l
def rV : List (SV C) → List Nat
 | [] => []
 | x :: l => match x.topId with
  | some c => c :: rV l
  | none => rV l
def q7w : Op → List (SV C) → List Nat
 | .move _, _ => []
 | .assign _, _ => []
 | .store _ _ _, vals => match vals with
  | a :: _ => rV [a]
  | [] => []
 | _, vals => rV vals
def vY : List (Nat × HS C) → List Nat
 | [] => []
 | (c, _) :: l => c :: vY l
def q9o : Op → Bool
 | .alloc _ => true
 | .box _ _ => true
 | .buildSlice _ _ _ => true
 | .makeSlice _ _ _ => true
 | .makeMap _ _ => true
 | .slice _ _ (some _) _ (some _) => true
 | .call c => match c.callee with
  | .builtin .append => true
  | _ => false
 | _ => false
abbrev DK (C : Cod) := List Ent → List (SV C) → List (HS C) → Prop
def q6e (next : DK C) (tr : List Ent) (T : List (SV C)) (Hp : List (HS C)) : Prop := next tr T Hp
def Y4 (P : Program) (D : aJ C) (next : DK C) (f : FuncId) (args : List (SV C)) (dst : Option Nat) (fs fc0 : List Nat) (tr : List Ent) (T : List (SV C)) (Hp : List (HS C)) : Prop :=
 ∃ ret ws fc, q48 P D f args (aR Hp) fc ret ws ∧ next (⟨dst, fs, fc0 ++ fc, vY ws⟩ :: tr) (mD T dst ret) (fS Hp ws)
def q4m (P : Program) (D : aJ C) (next : DK C) (dst : Option Nat) (fs fc : List Nat) (tr : List Ent) (T : List (SV C)) (Hp : List (HS C)) : Out C → Prop
 | .stuck => False
 | .val v => next (⟨dst, fs, fc, []⟩ :: tr) (mD T dst v) Hp
 | .side p v => p ∧ next (⟨dst, fs, fc, []⟩ :: tr) (mD T dst v) Hp
 | .mem v ws => next (⟨dst, fs, fc, vY ws⟩ :: tr) (mD T dst v) (fS Hp ws)
 | .smem p v ws => p ∧ next (⟨dst, fs, fc, vY ws⟩ :: tr) (mD T dst v) (fS Hp ws)
 | .call f args => Y4 P D next f args dst fs fc tr T Hp
 | .yieldc _ _ => False
 | .may _ _ => False
 | .ask q K => ∃ r, q = some r ∧ next (⟨dst, fs, fc, []⟩ :: tr) (mD T dst (K r)) Hp
def Hc (Hp : List (HS C)) (m : Nat) (X : Prop) : Prop := match aR Hp m with
 | .fresh => X
 | _ => False
def Ro (o : Op) (big : Nat) (Hp : List (HS C)) : Nat := match q9o o with
 | true => hlen Hp
 | false => big
def W0 (P : Program) {D : aJ C} (A : Aux C D) (tab : Tab C) (next : DK C) (dst : Option Nat) (op : Op) (fs : List Nat) (tr : List Ent) (T : List (SV C)) (Hp : List (HS C)) (vals : List (SV C)) (m : Nat) : Prop :=
 Hc Hp m (q4m P D next dst fs (m :: q7w op vals) tr T Hp (exec A tab op vals (rC Hp vals) m))
def xG (P : Program) {D : aJ C} (A : Aux C D) (tab : Tab C) (big : Nat) (next : DK C) (dst : Option Nat) (op : Op) (gs : List Nat) (tr : List Ent) (T : List (SV C)) (Hp : List (HS C)) : Prop :=
 W0 P A tab next dst op (gs ++ gN (aN op)) tr T Hp (bD T (aN op)) (Ro op big Hp)
def q2b (P : Program) {D : aJ C} (A : Aux C D) (tab : Tab C) (big : Nat) (next : DK C) (dst : Option Nat) (op : Op) (gs : List Nat) (tr : List Ent) (T : List (SV C)) (Hp : List (HS C)) : Prop :=
 xG P A tab big next dst op gs tr T Hp
def Qm (P : Program) {D : aJ C} (A : Aux C D) (tab : Tab C) (big : Nat) (next : DK C) (dst : Option Nat) (op : Op) (d : Nat) (want : Bool) (tr : List Ent) (T : List (SV C)) (Hp : List (HS C)) : SV C → Prop
 | .p (.bool b) => match want with
  | true => q1y b (q2b P A tab big next dst op [d] tr T Hp) (q6e next (⟨dst, [d], [], []⟩ :: tr) (mD T dst (.tuple [])) Hp)
  | false => q1y b (q6e next (⟨dst, [d], [], []⟩ :: tr) (mD T dst (.tuple [])) Hp) (q2b P A tab big next dst op [d] tr T Hp)
 | .tuple [] => next (⟨dst, [d], [], []⟩ :: tr) (mD T dst (.tuple [])) Hp
 | _ => False
def Gt (P : Program) {D : aJ C} (A : Aux C D) (tab : Tab C) (big : Nat) (next : DK C) (dst : Option Nat) (op : Op) (want : Bool) (tr : List Ent) (T : List (SV C)) (Hp : List (HS C)) : Option Nat → Prop
 | none => False
 | some d => Qm P A tab big next dst op d want tr T Hp (bX T d)
def oN (P : Program) {D : aJ C} (A : Aux C D) (tab : Tab C) (K : DK C) (all : List Oper) (big : Nat) : List Oper → DK C
 | [] => K
 | ⟨dst, op, _, _, _, none⟩ :: rest => fun tr T Hp => xG P A tab big (oN P A tab K all big rest) dst op [] tr T Hp
 | ⟨dst, op, _, _, _, some (j, want)⟩ :: rest => fun tr T Hp => Gt P A tab big (oN P A tab K all big rest) dst op want tr T Hp (K6 all j)
def q86 (R : kU C) (all : List Oper) (k : List (It C)) : DK C := fun tr T Hp => N4 all tr.reverse = true ∧ R k T Hp
def q1a (P : Program) {D : aJ C} (A : Aux C D) (tab : Tab C) (R : kU C) (ops : List Oper) (k : List (It C)) (T : List (SV C)) (Hp : List (HS C)) : Prop :=
 P.follows .mixedOrders = true ∧ oN P A tab (q86 R ops k) ops (hlen Hp + 1000) ops [] T Hp
section
variable {P : Program} {D : aJ C} {tab : Tab C} {B : dP} {E : Env} {σ : Nat → SV C} {H : Nat → HS C} {df : List Deferred} {a : Act} {w : World} {o : Oper} {r : Option Nat}
theorem vE : ∀ (T : List (SV C)) (d : Nat) (v : SV C) (i : Nat), bX (wK T d v) i = if i = d ∧ d < T.length then v else bX T i
 | [], d, v, i => by simp [wK, bX]
 | x :: l, 0, v, i => by cases i <;> simp [wK, bX]
 | x :: l, d + 1, v, i => by
  cases i with
  | zero => simp [wK, bX]
  | succ i => simp only [wK, bX, vE l d v i, List.length_cons, Nat.add_right_cancel_iff, Nat.add_lt_add_iff_right]
theorem iO : ∀ (T : List (SV C)) (d : Nat) (v : SV C), (wK T d v).length = T.length
 | [], d, v => rfl
 | x :: l, 0, v => rfl
 | x :: l, d + 1, v => by simp [wK, iO l d v]
theorem gA (T : List (SV C)) (d : Option Nat) (v : SV C) : (mD T d v).length = T.length := by
 cases d <;> simp [mD, iO]
theorem gT (T : List (SV C)) (d : Option Nat) (v : SV C) : bX (mD T d v) = upT T.length (bX T) d v := by
 cases d with
 | none => rfl
 | some d => funext i; simp only [mD, upT, vE]
theorem F9 : ∀ (Hp : List (HS C)) (c : Nat) (h : HS C) (i : Nat), aR (Am Hp c h) i = if i = c then h else aR Hp i
 | [], 0, h, i => by cases i <;> simp [Am, aR]
 | [], c + 1, h, i => by
  cases i with
  | zero => simp [Am, aR]
  | succ i => simp only [Am, aR, F9 [] c h i, Nat.add_right_cancel_iff]
 | x :: l, 0, h, i => by cases i <;> simp [Am, aR]
 | x :: l, c + 1, h, i => by
  cases i with
  | zero => simp [Am, aR]
  | succ i => simp only [Am, aR, F9 l c h i, Nat.add_right_cancel_iff]
theorem qK (Hp : List (HS C)) (c : Nat) (h : HS C) : aR (Am Hp c h) = upH (aR Hp) c h := by
 funext i; simp only [upH, F9]
theorem eO : ∀ (ws : List (Nat × HS C)) (Hp : List (HS C)), aR (fS Hp ws) = rE (aR Hp) ws
 | [], Hp => rfl
 | (c, h) :: l, Hp => by simp only [fS, rE, eO l, qK]
theorem H3 (T : List (SV C)) (x : Operand) : evT T x = ev (bX T) x := by cases x <;> rfl
theorem pE (T : List (SV C)) : ∀ l : List Operand, bD T l = l.map (ev (bX T))
 | [] => rfl
 | x :: l => by simp only [bD, List.map_cons, H3, pE T l]
theorem vX (Hp : List (HS C)) : ∀ (vals : List (SV C)) (x : SV C), x ∈ vals → ∀ c, x.topId = some c → lk (rC Hp vals) c = aR Hp c
 | [], x, hx, c, _ => by simp at hx
 | y :: l, x, hx, c, hc => by
  simp only [rC];have ih := vX Hp l;rcases List.mem_cons.1 hx with rfl | hx
  ·rw [hc]; simp [lk]
  ·cases hy : y.topId with
   | none => exact ih x hx c hc
   | some d =>
    simp only [lk]
    by_cases hdc : d = c
    ·rw [if_pos hdc, hdc]
    ·rw [if_neg hdc]; exact ih x hx c hc
theorem nR : ∀ Hp : List (HS C), hlen Hp = Hp.length
 | [] => rfl
 | _ :: l => by simp [hlen, nR l]
theorem tL : ∀ Hp : List (HS C), aR Hp (hlen Hp) = .fresh
 | [] => rfl
 | _ :: l => by simp only [hlen, aR]; exact tL l
theorem Xz (A : Aux C D) (hT : bZ P D tab) {T : List (SV C)} {Hp : List (HS C)} (hR : Rel D B E (bX T) (aR Hp) df a w) :
  cB P D B (bX T) (aR Hp) df a w o (q5b A tab o.op (bD T (aN o.op)) Hp) :=
 V7 A hT hR (tL Hp) (pE T _) fun x hx c hc => vX Hp _ x hx c hc
theorem H5 (A : Aux C D) {vals : List (SV C)} {hs : List (Nat × HS C)} {m : Nat} (h : exec A tab o.op vals hs m ≠ .stuck) : ∀ c, o.op ≠ .defer c := by
 intro c hc;rw [hc] at h;exact h rfl
theorem fG {next : Act → World → Prop} {Q : Exit → Act → World → Prop} (hnd : ∀ c, o.op ≠ .defer c) {v : SV C} {ws : List (Nat × HS C)} {T : List (SV C)} {Hp : List (HS C)}
  (hR : An D B df T Hp a w) (h : kW P D B (bX T) (aR Hp) df a w o v ws)
  (hn : ∀ a' w', An D B df (mD T o.dst v) (fS Hp ws) a' w' → next a' w') : o.wpIn (Fc r) 0 P a w next Q := by
 refine ⟨fun _ _ => trivial, ?_⟩;obtain ⟨u, w', E', hrun, hR', hd⟩ := h;obtain ⟨E0, _, hsz⟩ := hR;have hput := hR'.put hsz o.dst (.inr hd);have hrel : An D B df (mD T o.dst v) (fS Hp ws) (a.put o.dst u) w' := by
  refine ⟨E', ?_, by rw [iW, hsz, gA]⟩;rw [gT, eO];exact hput
 rw [show (Fc r).round = r from rfl, Oper.semAt_eq r _ _ hnd];rcases hrun with hrun | ⟨hrun, rfl⟩
 ·rw [hrun]; exact hn _ _ hrel
 ·rw [hrun]; exact hn _ _ hrel
variable {Q : Exit → Act → World → Prop}
theorem zF {c : Code} (I : Nat → Act → World → Prop) (n₀ : Nat) (h₀ : I n₀ a w)
  (round : ∀ n a w, I n a w → c.wpIn (Fc r) 0 P (Exit.then (fun a' w' => ∃ n', n' < n ∧ I n' a' w') Q) a w) : (Code.loop c).wpIn (Fc r) 0 P Q a w := by
 refine wpIn_loop (fun a w => ∃ n, I n a w) (fun a w => leastOf (fun n => I n a w)) ⟨n₀, h₀⟩ ?_;intro a w hI;refine wpIn_mono (round _ a w (leastOf_spec hI).1) ?_;intro e a' w' hq;cases e with
 | normal =>
  obtain ⟨n', hlt, hI'⟩ := hq;exact show (∃ n, I n a' w') ∧ leastOf (fun n => I n a' w') < leastOf (fun n => I n a w) from ⟨⟨n', hI'⟩, Nat.lt_of_le_of_lt ((leastOf_spec ⟨n', hI'⟩).2 n' hI') hlt⟩
 | exit id => exact hq
 | goto l => exact hq
 | ret => exact hq
 | panic c => exact hq
 | outgrown => exact hq
theorem xN {all : List Oper} {j d : Nat} (h : K6 all j = some d) (b : Bool) (hb : a.tmps.getD d undef = .bool b) : yielded all.toArray a.tmps j = some b := by
 unfold K6 at h;rw [tW] at h;unfold yielded;cases hq : all[j]? with
 | none => simp [hq] at h
 | some o =>
  simp [hq] at h;have hbt : a.tmps[d]? = some (.bool b) := by
   rw [Array.getD_eq_getD_getElem?] at hb;cases ht : a.tmps[d]? with
   | none => rw [ht] at hb; simp [undef] at hb
   | some v => rw [ht] at hb; simp at hb; rw [hb]
  simp [hq, h, hbt]
theorem uN {all : List Oper} {j d : Nat} (h : K6 all j = some d) (hb : a.tmps.getD d undef = .tuple #[]) : yielded all.toArray a.tmps j = none := by
 unfold K6 at h;rw [tW] at h;unfold yielded;cases hq : all[j]? with
 | none => simp [hq] at h
 | some o =>
  simp [hq] at h;cases ht : a.tmps[d]? with
  | none => simp [hq, h, ht]
  | some v =>
   rw [Array.getD_eq_getD_getElem?, ht] at hb;simp at hb;simp [hq, h, ht, hb]
theorem Fg {T : List (SV C)} {Hp : List (HS C)} {d : Nat} {b : Bool} (h : An D B df T Hp a w) (hd : bX T d = .p (.bool b)) : a.tmps.getD d undef = .bool b ∧ An D B df (wK T d (.p (.bool b))) Hp a w := by
 obtain ⟨E, hR, hsz⟩ := h;have hden := hR.den d;rw [hd] at hden;refine ⟨jR hden, E, ⟨fun i => ?_, hR.sat, hR.fr, hR.defers, hR.marks⟩, by rw [iO, hsz]⟩;rw [vE];split
 ·rename_i hi; rw [hi.1]; exact hden
 ·exact hR.den i
theorem Tf {T : List (SV C)} {Hp : List (HS C)} (h : An D B df T Hp a w) (d : Option Nat) : An D B df (mD T d (.tuple [])) Hp (a.put d undef) w := by
 obtain ⟨E, hR, hsz⟩ := h;refine ⟨E, ?_, by rw [iW, hsz, gA]⟩;rw [gT];exact hR.put hsz d (.inr (by simp only [Den, DenA]; exact ⟨#[], rfl, rfl⟩))
def OkS (D : aJ C) (B : dP) (df : List Deferred) (N : Nat) (x : ST C) (a : Act) (w : World) : Prop := ∃ E, Rel D B E x.1 x.2 df a w ∧ a.tmps.size = N
theorem jC {next : Act → World → Prop} {Q : Exit → Act → World → Prop} (hnd : ∀ c, o.op ≠ .defer c) {v : SV C} {ws : List (Nat × HS C)} {N : Nat} (hsz : a.tmps.size = N)
  (h : kW P D B σ H df a w o v ws) (hn : ∀ a' w', OkS D B df N (upT N σ o.dst v, rE H ws) a' w' → next a' w') : o.wpIn (Fc r) 0 P a w next Q := by
 refine ⟨fun _ _ => trivial, ?_⟩;obtain ⟨u, w', E', hrun, hR', hd⟩ := h;have hput := hR'.put hsz o.dst (.inr hd);have hrel : OkS D B df N (upT N σ o.dst v, rE H ws) (a.put o.dst u) w' := ⟨E', hput, by rw [iW, hsz]⟩;rw [show (Fc r).round = r from rfl, Oper.semAt_eq r _ _ hnd];rcases hrun with hrun | ⟨hrun, rfl⟩
 ·rw [hrun]; exact hn _ _ hrel
 ·rw [hrun]; exact hn _ _ hrel
theorem V6 {next : Act → World → Prop} {Q : Exit → Act → World → Prop} (hnd : ∀ c, o.op ≠ .defer c) {f : FuncId} {args : List (SV C)} {ret : SV C} {ws : List (Nat × HS C)} {N : Nat} (hsz : a.tmps.size = N)
  (hR : Rel D B E σ H df a w) (h : cB P D B σ H df a w o (.call f args)) (hc : O2 P D f args H ret ws)
  (hn : ∀ a' w', OkS D B df N (upT N σ o.dst ret, rE H ws) a' w' → next a' w') : o.wpIn (Fc r) 0 P a w next Q := by
 refine ⟨fun _ _ => trivial, ?_⟩;obtain ⟨vs, hd, hrun⟩ := h E hR;rcases hc.run with ⟨hc1, hc2⟩ | hx
 rotate_left
 ·obtain ⟨v, w', E', h1, hv, hR'⟩ := hx B _ df a w E hR vs hd;rw [show (Fc r).round = r from rfl, Oper.semAt_eq r _ _ hnd, hrun, h1];have hput := hR'.put hsz o.dst (.inr hv);exact hn _ _ ⟨E', hput, by rw [iW, hsz]⟩
 rw [show (Fc r).round = r from rfl, Oper.semAt_eq r _ _ hnd, hrun, hc1];refine ⟨fun h => by simp [Fc] at h, ?_⟩;have hcalls := hc2 B _ df a w E hR vs hd;have hcalls' : CallsIn (Fc r) (0 - 1) P f vs.toArray w fun e w' => ∃ v E', e = .returned v ∧ Den D w' E' ret v ∧ Rel D B E' σ (rE H ws) df a w' := hcalls;refine hcalls'.mono ?_;rintro e w' ⟨v, E', rfl, hv, hR'⟩;have hput := hR'.put hsz o.dst (.inr hv);exact hn _ _ ⟨E', hput, by rw [iW, hsz]⟩
variable (r) in
def jO (P : Program) (D : aJ C) (B : dP) (df : List Deferred) (Q : Exit → Act → World → Prop) (N : Nat) (all : List Oper) (i : Nat) (s : Stp C) (x : ST C) : Prop :=
 ∀ x' : ST C, (∀ t ∈ s.e.fs, x'.1 t = x.1 t) → (∀ c ∈ s.e.fc, x'.2 c = x.2 c) → ∀ a w (K : Act → World → Prop), OkS D B df N x' a w →
  (∀ a' w', OkS D B df N (s.app N x') a' w' → K a' w') → wpOpIn (Fc r) 0 P all.toArray Q i K a w
theorem gK : ∀ (l : List (SV C)) (x : SV C) (c : Nat), x ∈ l → x.topId = some c → c ∈ rV l
 | [], x, c, h, _ => by simp at h
 | y :: l, x, c, h, hc => by
  simp only [rV];rcases List.mem_cons.1 h with rfl | h
  ·rw [hc]; simp
  ·cases y.topId with
   | none => exact gK l x c h hc
   | some d => exact List.mem_cons_of_mem _ (gK l x c h hc)
theorem Y9 : ∀ ws : List (Nat × HS C), vY ws = ws.map (·.1)
 | [] => rfl
 | (c, h) :: l => by simp [vY, Y9 l]
theorem nK {σ σ' : Nat → SV C} : ∀ (l : List Operand), (∀ t ∈ gN l, σ' t = σ t) → l.map (ev σ') = l.map (ev σ)
 | [], _ => rfl
 | x :: l, h => by
  simp only [List.map_cons];cases x with
  | tmp t => rw [nK l fun u hu => h u (by simp [gN, hu])]; simp only [ev]; rw [h t (by simp [gN])]
  | const v => rw [nK l fun u hu => h u (by simpa [gN] using hu)]; rfl
  | global v => rw [nK l fun u hu => h u (by simpa [gN] using hu)]; rfl
  | func v => rw [nK l fun u hu => h u (by simpa [gN] using hu)]; rfl
theorem Ee (H : Nat → HS C) : ∀ (l : List Nat) (c : Nat), c ∈ l → lk (l.map fun c => (c, H c)) c = H c
 | [], c, h => by simp at h
 | d :: l, c, h => by
  simp only [List.map_cons, lk]
  by_cases e : d = c
  ·rw [if_pos e, e]
  ·rw [if_neg e];exact Ee H l c (by rcases List.mem_cons.1 h with h | h; exact absurd h.symm e; exact h)
theorem U3 {t : TypeId} {a v : SV C} {hs hs' : List (Nat × HS C)} (h : ∀ c, a.topId = some c → lk hs c = lk hs' c) : vR D tab t a v hs = vR D tab t a v hs' := by
 unfold vR;cases tab t with
 | none => rfl
 | some i => cases a <;> first | rfl | simp only [h _ rfl]
theorem q0x (A : Aux C D) {m : Nat} (op : Op) (vals : List (SV C)) (Hp : List (HS C)) (H : Nat → HS C) (h : ∀ c ∈ q7w op vals, H c = aR Hp c) :
  ∃ hs', (∀ x ∈ vals, ∀ c, x.topId = some c → lk hs' c = H c) ∧ exec A tab op vals hs' m = exec A tab op vals (rC Hp vals) m := by
 cases op
 case move x => exact ⟨_, fun x hx c hc => Ee H (rV vals) c (gK _ x c hx hc), rfl⟩
 case assign x => exact ⟨_, fun x hx c hc => Ee H (rV vals) c (gK _ x c hx hc), rfl⟩
 case store t x y =>
  refine ⟨_, fun x hx c hc => Ee H (rV vals) c (gK _ x c hx hc), ?_⟩
  match vals, h with
  | [], _ => rfl
  | [_], _ => rfl
  | _ :: _ :: _ :: _, _ => rfl
  | [a, v], h =>
   refine U3 fun c hc => ?_;rw [Ee H (rV [a, v]) c (gK _ a c (by simp) hc), vX Hp [a, v] a (by simp) c hc];exact h c (gK [a] a c (by simp) hc)
 all_goals exact ⟨_, fun x hx c hc => (vX Hp _ x hx c hc).trans (h c (gK _ x c hx hc)).symm, rfl⟩
theorem gB {tmps : Nat → Option Bool} (hg : o.guard = none) : Region.wanted o tmps = true := by simp [Region.wanted, hg]
theorem kG (A : Aux C D) (hT : bZ P D tab) {all : List Oper} {i : Nat} (hi : all[i]? = some o) {Q : Exit → Act → World → Prop} {N : Nat} {T : List (SV C)} {Hp : List (HS C)} {m : Nat} {gs : List Nat} (hm : aR Hp m = .fresh) {v : SV C} {ws : List (Nat × HS C)}
  (hwant : ∀ x' : ST C, (∀ t ∈ gs, x'.1 t = bX T t) → ∀ a w, OkS D B df N x' a w → Region.wanted o (yielded all.toArray a.tmps) = true)
  {fc : List Nat} (hf : fc = m :: q7w o.op (bD T (aN o.op)))
  (hout : exec A tab o.op (bD T (aN o.op)) (rC Hp (bD T (aN o.op))) m = .val v ∧ ws = [] ∨
   (∃ p : Prop, p ∧ exec A tab o.op (bD T (aN o.op)) (rC Hp (bD T (aN o.op))) m = .side p v ∧ ws = []) ∨
   exec A tab o.op (bD T (aN o.op)) (rC Hp (bD T (aN o.op))) m = .mem v ws ∨
   (∃ p : Prop, p ∧ exec A tab o.op (bD T (aN o.op)) (rC Hp (bD T (aN o.op))) m = .smem p v ws) ∨
   ∃ q K r, exec A tab o.op (bD T (aN o.op)) (rC Hp (bD T (aN o.op))) m = .ask q K ∧ q = some r ∧ v = K r ∧ ws = []) :
  jO r P D B df Q N all i ⟨⟨o.dst, gs ++ gN (aN o.op), fc, vY ws⟩, v, ws, (Y9 ws).symm⟩ (bX T, aR Hp) := by
 subst hf;intro x' hfs hfc a w K hok hK;have hw := hwant x' (fun t ht => hfs t (by simp [ht])) a w hok;obtain ⟨E, hR, hsz⟩ := hok;have hv : bD T (aN o.op) = (aN o.op).map (ev x'.1) := by
  rw [pE];exact (nK (σ := bX T) (σ' := x'.1) _ fun t ht => hfs t (by simp [ht])).symm
 have hm' : x'.2 m = .fresh := (hfc m (by simp)).trans hm;obtain ⟨hs', hl', he'⟩ := q0x (tab := tab) (m := m) A o.op (bD T (aN o.op)) Hp x'.2 fun c hc => hfc c (by simp [hc]);have hOK := V7 (o := o) A hT hR hm' hv (hs := hs') hl';rw [he'] at hOK;have hnd : ∀ c, o.op ≠ .defer c := H5 (m := m) (hs := rC Hp (bD T (aN o.op))) (vals := bD T (aN o.op)) A (by
  rcases hout with ⟨h, _⟩ | ⟨p, _, h, _⟩ | h | ⟨p, _, h⟩ | ⟨q, K, r, h, _⟩ <;> rw [h] <;> simp)
 unfold wpOpIn;simp only [List.getElem?_toArray, hi, hw, if_true];rcases hout with ⟨h, rfl⟩ | ⟨p, hp, h, rfl⟩ | h | ⟨p, hp, h⟩ | ⟨q, K, r', h, hq, rfl, rfl⟩ <;> rw [h] at hOK
 ·exact jC hnd hsz hOK fun a' w' hr => hK a' w' hr
 ·exact jC hnd hsz (hOK hp) fun a' w' hr => hK a' w' hr
 ·exact jC hnd hsz hOK fun a' w' hr => hK a' w' hr
 ·exact jC hnd hsz (hOK hp) fun a' w' hr => hK a' w' hr
 ·exact jC hnd hsz (hOK r' hq) fun a' w' hr => hK a' w' hr
theorem Er (A : Aux C D) (hT : bZ P D tab) {all : List Oper} {i : Nat} (hi : all[i]? = some o) {Q : Exit → Act → World → Prop} {N : Nat} {T : List (SV C)} {Hp : List (HS C)} {m : Nat} {gs : List Nat} (hm : aR Hp m = .fresh) {v : SV C} {ws : List (Nat × HS C)}
  (hwant : ∀ x' : ST C, (∀ t ∈ gs, x'.1 t = bX T t) → ∀ a w, OkS D B df N x' a w → Region.wanted o (yielded all.toArray a.tmps) = true) {f : FuncId} {args : List (SV C)} {fc : List Nat}
  (hout : exec A tab o.op (bD T (aN o.op)) (rC Hp (bD T (aN o.op))) m = .call f args) (hc : q48 P D f args (aR Hp) fc v ws) :
  jO r P D B df Q N all i ⟨⟨o.dst, gs ++ gN (aN o.op), m :: q7w o.op (bD T (aN o.op)) ++ fc, vY ws⟩, v, ws, (Y9 ws).symm⟩ (bX T, aR Hp) := by
 intro x' hfs hfc a w K hok hK;have hw := hwant x' (fun t ht => hfs t (by simp [ht])) a w hok;obtain ⟨E, hR, hsz⟩ := hok;have hv : bD T (aN o.op) = (aN o.op).map (ev x'.1) := by
  rw [pE];exact (nK (σ := bX T) (σ' := x'.1) _ fun t ht => hfs t (by simp [ht])).symm
 have hm' : x'.2 m = .fresh := (hfc m (by simp)).trans hm;obtain ⟨hs', hl', he'⟩ := q0x (tab := tab) (m := m) A o.op (bD T (aN o.op)) Hp x'.2 fun c hc => hfc c (by simp [hc]);have hOK := V7 (o := o) A hT hR hm' hv (hs := hs') hl';rw [he'] at hOK;have hnd : ∀ c, o.op ≠ .defer c := H5 (m := m) (hs := rC Hp (bD T (aN o.op))) (vals := bD T (aN o.op)) A (by rw [hout]; simp);unfold wpOpIn;simp only [List.getElem?_toArray, hi, hw, if_true];rw [hout] at hOK;exact V6 hnd hsz hR hOK (hc.at_ x'.2 fun c hcc => hfc c (by simp [hcc])) fun a' w' hr => hK a' w' hr
theorem wY {all : List Oper} {i : Nat} (hi : all[i]? = some o) {Q : Exit → Act → World → Prop} {N : Nat} {T : List (SV C)} {Hp : List (HS C)} {gs : List Nat}
  (hwant : ∀ x' : ST C, (∀ t ∈ gs, x'.1 t = bX T t) → ∀ a w, OkS D B df N x' a w → Region.wanted o (yielded all.toArray a.tmps) = false) :
  jO r P D B df Q N all i ⟨⟨o.dst, gs, [], []⟩, .tuple [], [], rfl⟩ (bX T, aR Hp) := by
 intro x' hfs hfc a w K hok hK;have hw := hwant x' (fun t ht => hfs t ht) a w hok;obtain ⟨E, hR, hsz⟩ := hok;unfold wpOpIn;simp only [List.getElem?_toArray, hi, hw, Bool.false_eq_true, if_false];refine ⟨fun _ _ => trivial, hK _ _ ⟨E, ?_, by rw [iW, hsz]⟩⟩;exact hR.put hsz o.dst (.inr (by simp only [Den, DenA]; exact ⟨#[], rfl, rfl⟩))
def jJ (N : Nat) : ST C → List (Stp C) → ST C
 | x, [] => x
 | x, s :: l => jJ N (s.app N x) l
theorem lT (N : Nat) : ∀ (l m : List (Stp C)) (x : ST C), jJ N x (l ++ m) = jJ N (jJ N x l) m
 | [], m, x => rfl
 | s :: l, m, x => lT N l m _
theorem pM {N : Nat} {x : ST C} {ss : List (Stp C)} {dflt : Stp C} : ∀ k, k ≤ ss.length → stA N x (fun k => ss.getD k dflt) Mu k = jJ N x (ss.take k)
 | 0, _ => by simp [stA, jJ]
 | k + 1, hk => by
  have hk' : k < ss.length := by omega
  rw [List.take_add_one, lT, ← pM (dflt := dflt) k (by omega)];simp [stA, Mu, hk', jJ]
theorem pO (A : Aux C D) (hT : bZ P D tab) {all : List Oper} {i : Nat} (hi : all[i]? = some o) {Q : Exit → Act → World → Prop} {N : Nat} {T : List (SV C)} {Hp : List (HS C)} {big : Nat} {gs : List Nat} {next : DK C} {tr : List Ent}
  (hwant : ∀ x' : ST C, (∀ t ∈ gs, x'.1 t = bX T t) → ∀ a w, OkS D B df N x' a w → Region.wanted o (yielded all.toArray a.tmps) = true)
  (h : xG P A tab big next o.dst o.op gs tr T Hp) : ∃ s : Stp C, jO r P D B df Q N all i s (bX T, aR Hp) ∧ s.e.d = o.dst ∧ next (s.e :: tr) (mD T o.dst s.v) (fS Hp s.ws) := by
 unfold xG W0 Hc at h;split at h
 ·rename_i hm;generalize hout : exec A tab o.op (bD T (aN o.op)) (rC Hp (bD T (aN o.op))) (Ro o.op big Hp) = out at h;cases out with
  | stuck => exact h.elim
  | val v => exact ⟨_, kG A hT hi hm (ws := []) hwant rfl (.inl ⟨hout, rfl⟩), rfl, h⟩
  | side p v => exact ⟨_, kG A hT hi hm (ws := []) hwant rfl (.inr (.inl ⟨p, h.1, hout, rfl⟩)), rfl, h.2⟩
  | mem v ws => exact ⟨_, kG A hT hi hm (ws := ws) hwant rfl (.inr (.inr (.inl hout))), rfl, h⟩
  | smem p v ws => exact ⟨_, kG A hT hi hm (ws := ws) hwant rfl (.inr (.inr (.inr (.inl ⟨p, h.1, hout⟩)))), rfl, h.2⟩
  | call f args =>
   obtain ⟨ret, ws, fc, hc, hn⟩ := h;exact ⟨_, Er A hT hi hm (ws := ws) hwant hout hc, rfl, hn⟩
  | yieldc c args => exact h.elim
  | may p v => exact h.elim
  | ask q K =>
   obtain ⟨r', hq, h2⟩ := h;exact ⟨_, kG A hT hi hm (ws := []) hwant rfl (.inr (.inr (.inr (.inr ⟨q, K, r', hout, hq, rfl, rfl⟩)))), rfl, h2⟩
 ·exact h.elim
theorem Ya {N : Nat} {x : ST C} {T : List (SV C)} {d : Nat} (hok : OkS D B df N x a w) (hx : x.1 d = bX T d) {b : Bool} (hb : bX T d = .p (.bool b)) : a.tmps.getD d undef = .bool b := by
 obtain ⟨E, hR, _⟩ := hok;have := hR.den d;rw [hx, hb] at this;exact jR this
theorem q0b {N : Nat} {x : ST C} {T : List (SV C)} {d : Nat} (hok : OkS D B df N x a w) (hx : x.1 d = bX T d) (hb : bX T d = .tuple []) : a.tmps.getD d undef = .tuple #[] := by
 obtain ⟨E, hR, _⟩ := hok;have hden := hR.den d;rw [hx, hb] at hden;simp only [Den, DenA] at hden;obtain ⟨xs, e, hx⟩ := hden;have : xs = #[] := by simpa using hx
 rw [e, this]
theorem xI (A : Aux C D) (hT : bZ P D tab) {all : List Oper} {Q : Exit → Act → World → Prop} {N : Nat} {big : Nat} {K : DK C} : ∀ (rest : List Oper) (i : Nat) (tr : List Ent) (T : List (SV C)) (Hp : List (HS C)),
  (∀ j, rest[j]? = all[i + j]?) → T.length = N → oN P A tab K all big rest tr T Hp →
  ∃ (ss : List (Stp C)) (T' : List (SV C)) (Hp' : List (HS C)), ss.length = rest.length ∧ T'.length = N ∧ K ((ss.map (·.e)).reverse ++ tr) T' Hp' ∧
   (∀ j s, ss[j]? = some s → jO r P D B df Q N all (i + j) s (jJ N (bX T, aR Hp) (ss.take j))) ∧ jJ N (bX T, aR Hp) ss = (bX T', aR Hp')
 | [], i, tr, T, Hp, _, hN, h => ⟨[], T, Hp, rfl, hN, h, fun j s hs => by simp at hs, rfl⟩
 | o :: rest, i, tr, T, Hp, hall, hN, h => by
  have hi : all[i]? = some o := by have := hall 0; simpa using this.symm
  have hrest : ∀ j, rest[j]? = all[i + 1 + j]? := fun j => by
   have := hall (j + 1);simp only [List.getElem?_cons_succ] at this;rw [this]; congr 1; omega
  have fin : (∃ s : Stp C, jO r P D B df Q N all i s (bX T, aR Hp) ∧ s.e.d = o.dst ∧ oN P A tab K all big rest (s.e :: tr) (mD T o.dst s.v) (fS Hp s.ws)) →
    ∃ (ss : List (Stp C)) (T' : List (SV C)) (Hp' : List (HS C)), ss.length = (o :: rest).length ∧ T'.length = N ∧ K ((ss.map (·.e)).reverse ++ tr) T' Hp' ∧
   (∀ j s, ss[j]? = some s → jO r P D B df Q N all (i + j) s (jJ N (bX T, aR Hp) (ss.take j))) ∧ jJ N (bX T, aR Hp) ss = (bX T', aR Hp') := by
   rintro ⟨s, h1, h2, h3⟩;obtain ⟨ss, T', Hp', g1, g2, g3, g4, g5⟩ := xI A hT rest (i + 1) _ _ _ hrest (by rw [gA, hN]) h3;have happ : s.app N (bX T, aR Hp) = (bX (mD T o.dst s.v), aR (fS Hp s.ws)) := by
    simp only [Stp.app, h2, gT, eO, hN]
   refine ⟨s :: ss, T', Hp', by simp [g1], g2, by simpa using g3, fun j u hu => ?_, by rw [jJ, happ]; exact g5⟩;cases j with
   | zero => simp at hu; subst hu; exact h1
   | succ j =>
    have := g4 j u (by simpa using hu);rw [show i + (j + 1) = i + 1 + j by omega, List.take_succ_cons, jJ, happ];exact this
  apply fin;obtain ⟨dst, op, ty, pos, after, guard⟩ := o;cases guard with
  | none => exact pO A hT hi (gs := []) (fun x' _ a w _ => gB rfl) h
  | some g =>
   obtain ⟨j, want⟩ := g;simp only [oN] at h;cases hg : K6 all j with
   | none => rw [hg] at h; exact h.elim
   | some d =>
    rw [hg] at h;simp only [Gt, Qm] at h;split at h
    ·rename_i b hb;have hw : ∀ (b' : Bool), (want == b) = b' → ∀ x' : ST C, (∀ t ∈ [d], x'.1 t = bX T t) → ∀ a w, OkS D B df N x' a w →
       Region.wanted ⟨dst, op, ty, pos, after, some (j, want)⟩ (yielded all.toArray a.tmps) = b' := by
      intro b' hbb x' hx a w hok;have hv := Ya hok (hx d (by simp)) hb;simp only [Region.wanted, xN hg b hv];rw [← hbb]; cases want <;> cases b <;> rfl
     have hskip : (want == b) = false → oN P A tab K all big rest (⟨dst, [d], [], []⟩ :: tr) (mD T dst (.tuple [])) Hp →
       ∃ s : Stp C, jO r P D B df Q N all i s (bX T, aR Hp) ∧ s.e.d = dst ∧ oN P A tab K all big rest (s.e :: tr) (mD T dst s.v) (fS Hp s.ws) :=
      fun hbb hn => ⟨_, wY hi (gs := [d]) (hw false hbb), rfl, hn⟩
     have hexec : (want == b) = true → xG P A tab big (oN P A tab K all big rest) dst op [d] tr T Hp →
       ∃ s : Stp C, jO r P D B df Q N all i s (bX T, aR Hp) ∧ s.e.d = dst ∧ oN P A tab K all big rest (s.e :: tr) (mD T dst s.v) (fS Hp s.ws) :=
      fun hbb hn => pO A hT hi (gs := [d]) (hw true hbb) hn
     cases want <;> cases b
     ·exact hexec rfl h
     ·exact hskip rfl h
     ·exact hskip rfl h
     ·exact hexec rfl h
    ·rename_i hb;refine ⟨_, wY hi (gs := [d]) fun x' hx a w hok => ?_, rfl, h⟩;have hv := q0b hok (hx d (by simp)) hb;simp only [Region.wanted, uN hg hv];rfl
    ·exact h.elim
theorem Bs (A : Aux C D) (hT : bZ P D tab) {R : kU C} {id : Nat} {ops : List Oper} {k : List (It C)} {T : List (SV C)} {Hp : List (HS C)} {Q : Exit → Act → World → Prop} (h : q1a P A tab R ops k T Hp)
  (hR : An D B df T Hp a w) (hQ : ∀ T' Hp' a' w', R k T' Hp' → An D B df T' Hp' a' w' → Q .normal a' w') : (Code.region id ops.toArray true).wpIn (Fc r) 0 P Q a w := by
 obtain ⟨hmix, hgo⟩ := h;obtain ⟨E, hR', hsz⟩ := hR;refine wpIn_region_any hmix ?_;obtain ⟨ss, T', Hp', g1, g2, g3, g4, g5⟩ := xI A hT (r := r) (Q := Q) (B := B) (df := df) (N := T.length) ops 0 [] T Hp (fun j => by simp) rfl hgo;simp only [List.append_nil, q86, List.reverse_reverse] at g3;obtain ⟨htr, hk⟩ := g3;simp only [N4, Bool.and_eq_true] at htr
 let dflt : Stp C := ⟨⟨none, [], [], []⟩, .any, [], rfl⟩
 have hS : ∀ i s, ss[i]? = some s → ss.getD i dflt = s := fun i s hs => by simp [hs]
 refine xJ (N := T.length) (x0 := (bX T, aR Hp)) (S := fun i => ss.getD i dflt) (Ok := OkS D B df T.length) (n := ops.length) (by simp) ?_ ?_ ?_ ?_ _ _ a _ (by simp) ⟨fun k hk o ho e he hb => ?_⟩ ?_ ?_
 ·intro k o ho e he hb;have := wI ops 0 (ops := ops.toArray) (fun i => by simp) htr.1 k o (by simpa using ho) e he hb;simpa using this
 ·intro i j hij hj hc;have hj' : j < ss.length := by omega
  have hi' : i < ss.length := by omega
  have e1 : (ss.map (·.e))[i]? = some (ss.getD i dflt).e := by simp [hi']
  have e2 : (ss.map (·.e))[j]? = some (ss.getD j dflt).e := by simp [hj']
  have := oZ (ss.map (·.e)) 0 (fun q => by simp) htr.2 j i _ _ (by omega) e1 (by simpa using e2) e2 hc;rw [Nat.zero_add] at this;exact zN ops [] (ops := ops.toArray) (fun q => by simp) (fun k j h => by simp at h) j i this
 ·intro i hi x' h1 h2 a w K hok hK;have hi' : i < ss.length := by omega
  have hsi : ss[i]? = some (ss.getD i dflt) := by simp [hi']
  have := g4 i _ hsi;rw [Nat.zero_add] at this;rw [pM (dflt := dflt) i (by omega)] at h1 h2;exact this x' h1 h2 a w K hok hK
 ·intro a w hok;rw [pM (dflt := dflt) _ (by omega), show ops.length = ss.length by omega, List.take_length, g5] at hok;obtain ⟨E, h1, h2⟩ := hok;exact hQ _ _ _ _ hk ⟨E, h1, by rw [h2, g2]⟩
 ·have ho' := ho;rw [Array.getElem?_eq_some_iff] at ho';obtain ⟨hlt, _⟩ := ho';simp at hlt;simp [hlt] at hk
 ·have : ∀ n, cnt (fun k => (Array.replicate ops.length false).getD k true) n ≤ n := by
   intro n
   induction n with
   | zero => exact Nat.le_refl _
   | succ n ih => simp only [cnt]; split <;> omega
  have := this ops.length;simpa using this
 ·have : ∀ n, n ≤ ops.length → stA T.length (bX T, aR Hp) (fun i => ss.getD i dflt) (fun k => (Array.replicate ops.toArray.size false).getD k true) n = (bX T, aR Hp) := by
   intro n
   induction n with
   | zero => intro _; rfl
   | succ n ih =>
    intro hn;have hf : (Array.replicate ops.toArray.size false).getD n true = false := by simp [show n < ops.length by omega]
    simp only [stA, hf, ih (by omega)]
  rw [this _ (Nat.le_refl _)];exact ⟨E, hR'.drew, hsz⟩
end
end Go.SX
namespace Go.SX
open Go.RowKit
variable {C : Cod}
def ixO : List (Option Nat) → Nat → Option Nat
 | [], _ => none
 | x :: _, 0 => x
 | _ :: l, i + 1 => ixO l i
mutual
def nJ (θ : List (Option Nat)) : SV C → Option (SV C)
 | .ptr c o => match ixO θ c with
  | some d => some (.ptr d o)
  | none => none
 | .eptr c o n i f => match ixO θ c with
  | some d => some (.eptr d o n i f)
  | none => none
 | .slice c o n off len => match ixO θ c with
  | some d => some (.slice d o n off len)
  | none => none
 | .agg vs => match renL θ vs with
  | some l => some (.agg l)
  | none => none
 | .fn f a b => match renL θ a with
  | some a' => match renL θ b with
   | some b' => some (.fn f a' b')
   | none => none
  | none => none
 | .iface t v => match nJ θ v with
  | some v' => some (.iface t v')
  | none => none
 | .tuple vs => match renL θ vs with
  | some l => some (.tuple l)
  | none => none
 | .p x => some (.p x)
 | .any => some .any
 | .dptr a f => some (.dptr a f)
 | .arr u N xs => some (.arr u N xs)
 | .mapp c => match ixO θ c with
  | some d => some (.mapp d)
  | none => none
 | .yieldv c => match ixO θ c with
  | some d => some (.yieldv d)
  | none => none
def renL (θ : List (Option Nat)) : List (SV C) → Option (List (SV C))
 | [] => some []
 | x :: l => match nJ θ x with
  | some y => match renL θ l with
   | some r => some (y :: r)
   | none => none
  | none => none
end
def Hl (θ : List (Option Nat)) : HS C → Option (HS C)
 | .fresh => some .fresh
 | .dead => some .dead
 | .rows u xs => some (.rows u xs)
 | .obj o => some (.obj o)
 | .vart t vs => match renL θ vs with
  | some l => some (.vart t l)
  | none => none
section
variable {D : aJ C} {w : World}
theorem Q2 {θ : List (Option Nat)} {x y : SV C} (h : nJ θ x = some y) : y.isArr = x.isArr := by
 cases x <;> simp only [nJ] at h <;> (repeat' split at h) <;> simp at h <;> (try subst h) <;> rfl
mutual
theorem pN {θ : List (Option Nat)} {E E' : Env} (hF : E'.F = E.F) (hβ : ∀ j d, ixO θ j = some d → E'.β j = E.β d) : ∀ (x y : SV C) (v : Value), nJ θ x = some y → (Den D w E y v ↔ Den D w E' x v)
 | .ptr c o, y, v, h => by
  simp only [nJ] at h;cases hc : ixO θ c with
  | none => simp [hc] at h
  | some d => simp [hc] at h; subst h; simp only [Den, hβ c d hc]
 | .eptr c o n i f, y, v, h => by
  simp only [nJ] at h;cases hc : ixO θ c with
  | none => simp [hc] at h
  | some d => simp [hc] at h; subst h; simp only [Den, hβ c d hc]
 | .slice c o n off len, y, v, h => by
  simp only [nJ] at h;cases hc : ixO θ c with
  | none => simp [hc] at h
  | some d => simp [hc] at h; subst h; simp only [Den, hβ c d hc]
 | .agg vs, y, v, h => by
  simp only [nJ] at h;cases hc : renL θ vs with
  | none => simp [hc] at h
  | some l =>
   simp [hc] at h; subst h; simp only [Den];constructor
   ·rintro ⟨cs, h1, h2⟩; exact ⟨cs, h1, (ren_denC hF hβ vs l _ hc).1 h2⟩
   ·rintro ⟨cs, h1, h2⟩; exact ⟨cs, h1, (ren_denC hF hβ vs l _ hc).2 h2⟩
 | .fn f a b, y, v, h => by
  simp only [nJ] at h;cases ha : renL θ a with
  | none => simp [ha] at h
  | some a' =>
   cases hb : renL θ b with
   | none => simp [ha, hb] at h
   | some b' =>
    simp [ha, hb] at h; subst h; simp only [Den];constructor
    ·rintro ⟨xs, ys, h1, h2, h3⟩; exact ⟨xs, ys, h1, (ren_denA hF hβ a a' _ ha).1 h2, (ren_denA hF hβ b b' _ hb).1 h3⟩
    ·rintro ⟨xs, ys, h1, h2, h3⟩; exact ⟨xs, ys, h1, (ren_denA hF hβ a a' _ ha).2 h2, (ren_denA hF hβ b b' _ hb).2 h3⟩
 | .iface t x, y, v, h => by
  simp only [nJ] at h;cases hc : nJ θ x with
  | none => simp [hc] at h
  | some l =>
   simp [hc] at h; subst h; simp only [Den];constructor
   ·rintro ⟨u, h1, h2⟩; exact ⟨u, h1, (pN hF hβ x l _ hc).1 h2⟩
   ·rintro ⟨u, h1, h2⟩; exact ⟨u, h1, (pN hF hβ x l _ hc).2 h2⟩
 | .tuple vs, y, v, h => by
  simp only [nJ] at h;cases hc : renL θ vs with
  | none => simp [hc] at h
  | some l =>
   simp [hc] at h; subst h; simp only [Den];constructor
   ·rintro ⟨cs, h1, h2⟩; exact ⟨cs, h1, (ren_denA hF hβ vs l _ hc).1 h2⟩
   ·rintro ⟨cs, h1, h2⟩; exact ⟨cs, h1, (ren_denA hF hβ vs l _ hc).2 h2⟩
 | .p x, y, v, h => by simp only [nJ, Option.some.injEq] at h; subst h; simp only [Den, hF]
 | .any, y, v, h => by simp only [nJ, Option.some.injEq] at h; subst h; simp only [Den]
 | .dptr a f, y, v, h => by simp only [nJ, Option.some.injEq] at h; subst h; simp only [Den, hF]
 | .arr u N xs, y, v, h => by simp only [nJ, Option.some.injEq] at h; subst h; simp only [Den]
 | .mapp c, y, v, h => by
  simp only [nJ] at h;cases hc : ixO θ c with
  | none => simp [hc] at h
  | some d => simp [hc] at h; subst h; simp only [Den, hβ c d hc]
 | .yieldv c, y, v, h => by
  simp only [nJ] at h;cases hc : ixO θ c with
  | none => simp [hc] at h
  | some d => simp [hc] at h; subst h; simp only [Den, hβ c d hc]
theorem ren_denC {θ : List (Option Nat)} {E E' : Env} (hF : E'.F = E.F) (hβ : ∀ j d, ixO θ j = some d → E'.β j = E.β d) : ∀ (l m : List (SV C)) (vs : List Value), renL θ l = some m → (DenC D w E m vs ↔ DenC D w E' l vs)
 | [], m, vs, h => by simp only [renL, Option.some.injEq] at h; subst h; simp only [DenC]
 | x :: l, m, vs, h => by
  simp only [renL] at h;cases hx : nJ θ x with
  | none => simp [hx] at h
  | some y =>
   cases hl : renL θ l with
   | none => simp [hx, hl] at h
   | some r =>
    simp [hx, hl] at h; subst h;have ih := ren_denC hF hβ l r;cases hxa : x.isArr with
    | true =>
     obtain ⟨u, N, xs, rfl⟩ := SV.arr_of hxa;simp only [nJ, Option.some.injEq] at hx;subst hx;simp only [DenC, hF];constructor
     ·rintro ⟨h1, v1, v2, h2, h3, h4⟩; exact ⟨h1, v1, v2, h2, h3, (ih v2 hl).1 h4⟩
     ·rintro ⟨h1, v1, v2, h2, h3, h4⟩; exact ⟨h1, v1, v2, h2, h3, (ih v2 hl).2 h4⟩
    | false =>
     have hya : y.isArr = false := by rw [Q2 hx]; exact hxa
     rw [bT hxa, bT hya];constructor
     ·rintro ⟨v, v2, h1, h2, h3, h4⟩; exact ⟨v, v2, h1, h2, (pN hF hβ x y v hx).1 h3, (ih v2 hl).1 h4⟩
     ·rintro ⟨v, v2, h1, h2, h3, h4⟩; exact ⟨v, v2, h1, h2, (pN hF hβ x y v hx).2 h3, (ih v2 hl).2 h4⟩
theorem ren_denA {θ : List (Option Nat)} {E E' : Env} (hF : E'.F = E.F) (hβ : ∀ j d, ixO θ j = some d → E'.β j = E.β d) : ∀ (l m : List (SV C)) (vs : List Value), renL θ l = some m → (DenA D w E m vs ↔ DenA D w E' l vs)
 | [], m, vs, h => by simp only [renL, Option.some.injEq] at h; subst h; simp only [DenA]
 | x :: l, m, vs, h => by
  simp only [renL] at h;cases hx : nJ θ x with
  | none => simp [hx] at h
  | some y =>
   cases hl : renL θ l with
   | none => simp [hx, hl] at h
   | some r =>
    simp [hx, hl] at h; subst h;have ih := ren_denA hF hβ l r;simp only [DenA];constructor
    ·rintro ⟨v, v2, h1, h2, h3⟩; exact ⟨v, v2, h1, (pN hF hβ x y v hx).1 h2, (ih v2 hl).1 h3⟩
    ·rintro ⟨v, v2, h1, h2, h3⟩; exact ⟨v, v2, h1, (pN hF hβ x y v hx).2 h2, (ih v2 hl).2 h3⟩
end
theorem q7i {θ : List (Option Nat)} {E E' : Env} (hF : E'.F = E.F) (hβ : ∀ j d, ixO θ j = some d → E'.β j = E.β d) {x y : HS C} (h : Hl θ x = some y) (b : Nat) : y.at D w E b ↔ x.at D w E' b := by
 cases x with
 | fresh => simp only [Hl, Option.some.injEq] at h; subst h; exact Iff.rfl
 | dead => simp only [Hl, Option.some.injEq] at h; subst h; exact Iff.rfl
 | rows u xs => simp only [Hl, Option.some.injEq] at h; subst h; simp only [HS.at, hF]
 | obj o => simp only [Hl, Option.some.injEq] at h; subst h; exact Iff.rfl
 | vart ty vs =>
  simp only [Hl] at h;cases hc : renL θ vs with
  | none => simp [hc] at h
  | some l =>
   simp [hc] at h; subst h;simp only [HS.at];constructor
   ·rintro ⟨cs, T, h1, h2⟩; exact ⟨cs, T, h1, (ren_denC hF hβ vs l _ hc).1 h2⟩
   ·rintro ⟨cs, T, h1, h2⟩; exact ⟨cs, T, h1, (ren_denC hF hβ vs l _ hc).2 h2⟩
theorem q1t {θ : List (Option Nat)} {E E' : Env} (hF : E'.F = E.F) (hβ : ∀ j d, ixO θ j = some d → E'.β j = E.β d) {x y : HS C} (h : Hl θ x = some y) (s : BS) : y.ok D w E s ↔ x.ok D w E' s := by
 have key : (y = .fresh ↔ x = .fresh) ∧ (y = .dead ↔ x = .dead) ∧ ((∃ u, y = .rows u []) ↔ ∃ u, x = .rows u []) := by
  cases x with
  | fresh => simp only [Hl, Option.some.injEq] at h; subst h; simp
  | dead => simp only [Hl, Option.some.injEq] at h; subst h; simp
  | rows u xs => simp only [Hl, Option.some.injEq] at h; subst h; simp
  | obj o => simp only [Hl, Option.some.injEq] at h; subst h; simp
  | vart ty vs =>
   simp only [Hl] at h;cases hc : renL θ vs with
   | none => simp [hc] at h
   | some l => simp [hc] at h; subst h; simp
 cases s with
 | fresh => exact key.1
 | dead => exact key.2.1
 | virt => exact key.2.2
 | loc b => exact q7i hF hβ h b
end
end Go.SX
