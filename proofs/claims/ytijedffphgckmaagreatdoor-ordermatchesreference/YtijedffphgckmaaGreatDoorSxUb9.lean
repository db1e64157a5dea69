/-
  Walks: Ub9, Df, Uc0, Uc1, Uc2, Tp8, Td4, Tp9, Tp4: what single functions of the program compute.
-/
import Derived.Test.YtijedffphgckmaaGreatDoorSxUb0
import Derived.Test.YtijedffphgckmaaGreatDoorSxUa5
import Derived.RecoverIn
import Derived.Test.YtijedffphgckmaaGreatDoorSxUa1
set_option linter.unusedVariables false
set_option linter.unusedSimpArgs false
namespace Go.SX
open Go.Proofs
set_option maxHeartbeats 400000000
set_option maxRecDepth 100000
theorem rmE {α : Type} {f : FuncId} {args : List (SV Cd)} {ws : List Wd} {a m : Int} {X : List (HS Cd)} {S S' : Rs α} {ret : α → SV Cd} {Pr : α → Prop} (h : RM f args ws a m X S ret Pr) (e : S' = S) : RM f args ws a m X S' ret Pr := e ▸ h
theorem y7e {ws : List Wd} (hn : q74 ws) : ∀ (n : Nat) (of_ dp : Int), 1 ≤ n → 1 ≤ dp → dp + n = 5 → qh1 ws of_ dp (q50 ws n of_ dp)
 | 0, of_, dp, h, _, _ => absurd h (by omega)
 | n + 1, of_, dp, _, h1, h5 => by
  intro a m hi
  have hd : 1 ≤ dp ∧ dp ≤ 4 := by omega
  have ih : ∀ k, ¬ dp = 4 → qh1 ws k (dp + 1) (q50 ws n k (dp + 1)) := fun k hk => y7e hn n k (dp + 1) (by omega) (by omega) (by omega)
  have hlt : ∀ w, w ≠ [32] → q0y ws a = w → a < ws.length := fun w hw e => q3l hi e hw
  have ha0 := hi.a0
  have hm0 := hi.m0
  have hm1 := hi.m1
  by_cases w1 : q0y ws a = q3e
  ·have := hlt _ (by decide) w1
   refine rmE (zm7 of_ dp hd hi hn w1 (zk0 ws (a + 1) (m - 0)) fun hc => ye2 dp ⟨by omega, by omega, by omega, by omega⟩ hn) ?_
   rw [q50, w1]; rfl
  by_cases w2 : q0y ws a = q28
  ·have := hlt _ (by decide) w2
   refine rmE (zd8 of_ dp hd hi hn w2 (qq5 ws (q50 ws n 2 (dp + 1)) (a + 1) (m - 1)) fun hc => y9o dp hd (ih 2 (by omega)) ⟨by omega, by omega, by omega, by omega⟩ hn) ?_
   rw [q50, w2]; rfl
  by_cases w3 : q0y ws a = q1k
  ·have := hlt _ (by decide) w3
   refine rmE (z8r of_ dp hd hi hn w3 (q92 ws (q50 ws n 3 (dp + 1)) (a + 1) (m - 1)) fun hc => y8j dp hd (ih 3 (by omega)) ⟨by omega, by omega, by omega, by omega⟩ hn) ?_
   rw [q50, w3]; rfl
  by_cases w4 : q0y ws a = q0q
  ·have := hlt _ (by decide) w4
   refine rmE (z3a of_ dp hd hi hn w4 (zk1 ws (q50 ws n 4 (dp + 1)) (a + 1) (m - 1)) fun hc => y1w dp hd (ih 4 (by omega)) ⟨by omega, by omega, by omega, by omega⟩ hn) ?_
   rw [q50, w4]; rfl
  by_cases w5 : q0y ws a = q46
  ·have := hlt _ (by decide) w5
   refine rmE (zu4 of_ dp hd hi hn w5 (q95 ws (q50 ws n 5 (dp + 1)) 5 (a + 1) (m - 2)) fun hc => yf4 dp hd (ih 5 (by omega)) ⟨by omega, by omega, by omega, by omega⟩ hn) ?_
   rw [q50, w5]; rfl
  by_cases w6 : q0y ws a = q2p
  ·have := hlt _ (by decide) w6
   refine rmE (zy9 of_ dp hd hi hn w6 (q95 ws (q50 ws n 6 (dp + 1)) 6 (a + 1) (m - 2)) fun hc => ye9 dp hd (ih 6 (by omega)) ⟨by omega, by omega, by omega, by omega⟩ hn) ?_
   rw [q50, w6]; rfl
  have hf : qp8 (q0y ws a) = none := by unfold qp8; rw [if_neg w1, if_neg w2, if_neg w3, if_neg w4, if_neg w5, if_neg w6]
  have e : q50 ws (n + 1) of_ dp a m = .no a m := by rw [q50, hf]
  rw [e]
  exact ⟨fun x a' m' h => (by cases h), fun a' m' h => by injection h with h1 h2; subst h1 h2; simpa using y14 of_ dp hd hi hn hf, hi.refl, fun x a' m' h => (by cases h)⟩
theorem zw6 {ws : List Wd} {a m : Int} (h : InW ws a m) : (q91 ws a m).Bd ws a m := by
 unfold q91
 split
 ·rename_i e
  have := q3l h e (by decide)
  have := h.a0
  exact ⟨by omega, by omega, h.m0, Int.le_refl _⟩
 ·exact q2u h
theorem zu2 {ws : List Wd} {a m : Int} (h : InW ws a m) : (q9h ws a m).Bd ws a m := by
 unfold q9h
 refine q0k h (q1n [q0w] h (by decide)) fun _ _ _ _ h => ?_
 refine q0k h (q2u h) fun _ _ _ _ h => ?_
 refine q0k h (q1n [q6s] h (by decide)) fun _ _ _ _ h => ?_
 refine q0k h (q2u h) fun _ _ _ _ h => ?_
 refine q0k h (q1n [q2n] h (by decide)) fun _ _ _ _ h => ?_
 refine q0k h (q2u h) fun _ _ _ _ h => ?_
 refine q0k h (q1n [q0x] h (by decide)) fun _ _ _ _ h => ?_
 refine q0k h (zw6 h) fun _ _ _ _ h => ?_
 refine q0k h (z2f h (by decide) (by decide)) fun _ _ _ _ h => ?_
 refine q0k h (q1n [q19] h (by decide)) fun _ _ _ _ h => ?_
 refine q0k h (q2u h) fun _ _ _ _ h => ?_
 refine q0k h (q1n [q2w] h (by decide)) fun _ _ _ _ h => ?_
 refine q0k h (q2u h) fun _ _ _ _ h => ?_
 refine q0k h (q1n [q1a] h (by decide)) fun _ _ _ _ h => ?_
 refine q0k h (qi9 4 5 1 h) fun _ _ _ _ h => ?_
 refine q0k h (q1n [q3z] h (by decide)) fun _ _ _ _ h => ?_
 split
 ·exact h.refl
 ·exact h.refl
theorem y76 {ws : List Wd} {a m : Int} (hi : InW ws a m) (hn : q74 ws) : RM 52 [.ptr 0 0] ws a m [] (q9h ws a m) (fun o => qb4 o) (fun _ => True) := by
 refine q6d Tryz.func52 (c := _) rfl Tryz.call52 2000 (zu2 hi) (fun _ _ _ _ => trivial) ?_
 obtain ⟨S, hS⟩ : ∃ S, S = q9h ws a m := ⟨_, rfl⟩
 rw [← hS]
 unfold q9h at hS
 have hg := y7e hn 4 5 1 (by omega) (by omega) (by omega)
 have hb2 := hn.n
 (repeat' ((conv => whnf); first | (refine rmX [some 0, some _] (q4j [q0w] (by decide) (by decide) (by assumption) hn) rfl rfl ⟨rfl, rfl, trivial⟩ (fun x a1 m1 e hi hp => ?_) (fun a1 m1 e hi => ?_) (by assumption) <;> simp only [e, Rs.bind] at hS) | (refine rmX [some 0, some _] (q4j [q6s] (by decide) (by decide) (by assumption) hn) rfl rfl ⟨rfl, rfl, trivial⟩ (fun x a1 m1 e hi hp => ?_) (fun a1 m1 e hi => ?_) (by assumption) <;> simp only [e, Rs.bind] at hS) | (refine rmX [some 0, some _] (q4j [q2n] (by decide) (by decide) (by assumption) hn) rfl rfl ⟨rfl, rfl, trivial⟩ (fun x a1 m1 e hi hp => ?_) (fun a1 m1 e hi => ?_) (by assumption) <;> simp only [e, Rs.bind] at hS) | (refine rmX [some 0, some _] (q4j [q0x] (by decide) (by decide) (by assumption) hn) rfl rfl ⟨rfl, rfl, trivial⟩ (fun x a1 m1 e hi hp => ?_) (fun a1 m1 e hi => ?_) (by assumption) <;> simp only [e, Rs.bind] at hS) | (refine rmX [some 0] (zk5 _ _ (by assumption) hn) rfl rfl ⟨rfl, trivial⟩ (fun x a1 m1 e hi hp => ?_) (fun a1 m1 e hi => ?_) (by assumption) <;> simp only [e, Rs.bind] at hS) | (refine rno hS (q0v [some 0] ?_); exact hsW) | refine saC ?_))
 by_cases hgr : q0y ws a1 = q36
 ·have hG : q91 ws a1 m1 = .ok (-1) (a1 + 1) m1 := by unfold q91; rw [if_pos hgr]
  rw [hG] at hS
  dsimp only at hS
  have q := y7d q36 hi hn hgr
  have hlt := q3l hi hgr (by decide)
  have hi : InW ws (a1 + 1) m1 := ⟨by have := hi.a0; omega, by omega, hi.m0, hi.m1⟩
  (repeat' ((conv => whnf); first | (refine q01 [some 0] q rfl rfl ⟨rfl, trivial⟩ ?_) | (refine rmX [some 0, some _] (q4j [q19] (by decide) (by decide) (by assumption) hn) rfl rfl ⟨rfl, rfl, trivial⟩ (fun x a1 m1 e hi hp => ?_) (fun a1 m1 e hi => ?_) (by assumption) <;> simp only [e, Rs.bind] at hS) | (refine rmX [some 0, some _] (q4j [q2w] (by decide) (by decide) (by assumption) hn) rfl rfl ⟨rfl, rfl, trivial⟩ (fun x a1 m1 e hi hp => ?_) (fun a1 m1 e hi => ?_) (by assumption) <;> simp only [e, Rs.bind] at hS) | (refine rmX [some 0, some _] (q4j [q1a] (by decide) (by decide) (by assumption) hn) rfl rfl ⟨rfl, rfl, trivial⟩ (fun x a1 m1 e hi hp => ?_) (fun a1 m1 e hi => ?_) (by assumption) <;> simp only [e, Rs.bind] at hS) | (refine rmX [some 0, some _] (q4j [q3z] (by decide) (by decide) (by assumption) hn) rfl rfl ⟨rfl, rfl, trivial⟩ (fun x a1 m1 e hi hp => ?_) (fun a1 m1 e hi => ?_) (by assumption) <;> simp only [e, Rs.bind] at hS) | (refine rmX [some 0] (zk5 _ _ (by assumption) hn) rfl rfl ⟨rfl, trivial⟩ (fun x a1 m1 e hi hp => ?_) (fun a1 m1 e hi => ?_) (by assumption) <;> simp only [e, Rs.bind] at hS) | (refine rmX [some 0] (hg _ _ (by assumption)) rfl rfl ⟨rfl, trivial⟩ (fun x a1 m1 e hi hp => ?_) (fun a1 m1 e hi => ?_) (by assumption) <;> simp only [e, Rs.bind] at hS) | (refine rmX [some 0] (y3m q1j q23 (by decide) (by decide) (by assumption) hn) rfl rfl ⟨rfl, trivial⟩ (fun x a1 m1 e hi hp => ?_) (fun a1 m1 e hi => ?_) (by assumption) <;> simp only [e, Rs.bind] at hS) | refine q3y q9l ?_ | refine q2y (q60 _) rfl ?_ | refine q31 _ _ _ rfl (q2z rfl) ?_ | (rw [if_pos (by assumption)] at hS; refine rno hS (q0v [some 0] ?_); exact hsW) | (refine rno hS (q0v [some 0] ?_); exact hsW) | (rw [if_neg (by assumption)] at hS; (refine rok hS (q08 [some 0] (.inr rfl) ?_ ?_ rfl rfl); (focus first | exact vwV | (refine ⟨?_⟩; (repeat' (first | exact trivial | exact rfl | refine And.intro ?_ ?_ | exact fzV | exact fzV rfl rfl rfl (by simp) (by simp [eta_goal]) rfl | exact fvV)); done)); exact hsW)) | refine spC (fun hb => ?_) fun hb => ?_ | refine taC ?_ | refine saC ?_ | refine q02 mixed ?_))
 ·have hG : q91 ws a1 m1 = q76 ws 0 15 a1 m1 := by unfold q91; rw [if_neg hgr]
  rw [hG] at hS
  have q := y72 q36 hi hn hgr
  (repeat' ((conv => whnf); first | (refine q01 [some 0] q rfl rfl ⟨rfl, trivial⟩ ?_) | (refine rmX [some 0, some _] (q4j [q19] (by decide) (by decide) (by assumption) hn) rfl rfl ⟨rfl, rfl, trivial⟩ (fun x a1 m1 e hi hp => ?_) (fun a1 m1 e hi => ?_) (by assumption) <;> simp only [e, Rs.bind] at hS) | (refine rmX [some 0, some _] (q4j [q2w] (by decide) (by decide) (by assumption) hn) rfl rfl ⟨rfl, rfl, trivial⟩ (fun x a1 m1 e hi hp => ?_) (fun a1 m1 e hi => ?_) (by assumption) <;> simp only [e, Rs.bind] at hS) | (refine rmX [some 0, some _] (q4j [q1a] (by decide) (by decide) (by assumption) hn) rfl rfl ⟨rfl, rfl, trivial⟩ (fun x a1 m1 e hi hp => ?_) (fun a1 m1 e hi => ?_) (by assumption) <;> simp only [e, Rs.bind] at hS) | (refine rmX [some 0, some _] (q4j [q3z] (by decide) (by decide) (by assumption) hn) rfl rfl ⟨rfl, rfl, trivial⟩ (fun x a1 m1 e hi hp => ?_) (fun a1 m1 e hi => ?_) (by assumption) <;> simp only [e, Rs.bind] at hS) | (refine rmX [some 0] (zk5 _ _ (by assumption) hn) rfl rfl ⟨rfl, trivial⟩ (fun x a1 m1 e hi hp => ?_) (fun a1 m1 e hi => ?_) (by assumption) <;> simp only [e, Rs.bind] at hS) | (refine rmX [some 0] (hg _ _ (by assumption)) rfl rfl ⟨rfl, trivial⟩ (fun x a1 m1 e hi hp => ?_) (fun a1 m1 e hi => ?_) (by assumption) <;> simp only [e, Rs.bind] at hS) | (refine rmX [some 0] (y3m q1j q23 (by decide) (by decide) (by assumption) hn) rfl rfl ⟨rfl, trivial⟩ (fun x a1 m1 e hi hp => ?_) (fun a1 m1 e hi => ?_) (by assumption) <;> simp only [e, Rs.bind] at hS) | refine q3y q9l ?_ | refine q2y (q60 _) rfl ?_ | refine q31 _ _ _ rfl (q2z rfl) ?_ | (rw [if_pos (by assumption)] at hS; refine rno hS (q0v [some 0] ?_); exact hsW) | (refine rno hS (q0v [some 0] ?_); exact hsW) | (rw [if_neg (by assumption)] at hS; (refine rok hS (q08 [some 0] (.inr rfl) ?_ ?_ rfl rfl); (focus first | exact vwV | (refine ⟨?_⟩; (repeat' (first | exact trivial | exact rfl | refine And.intro ?_ ?_ | exact fzV | exact fzV rfl rfl rfl (by simp) (by simp [eta_goal]) rfl | exact fvV)); done)); exact hsW)) | refine spC (fun hb => ?_) fun hb => ?_ | refine taC ?_ | refine saC ?_ | refine q02 mixed ?_))
end Go.SX
namespace Go.SX
open Go.RowKit
variable {C : Cod}
section
variable {P : Program} {D : q09 C} {tab : Tab C} {B : q3b} {E : Env} {σ : Nat → SV C} {H : Nat → HS C} {df : List Deferred} {a : Act} {w : World} {o : Oper} {r : Option Nat}
variable {T : List (SV C)} {Hp : List (HS C)}
structure qt5 (P : Program) (D : q09 C) (f : FuncId) (args : List (SV C)) (H0 : List (HS C)) (u u' : FrameMode) (H1 : List (HS C)) : Prop where
 calls : ∀ w E (hm : ∀ c, H0.length ≤ c → E.β c = .fresh) vs, Sat D w E (q0r H0) → DenA D w E args vs →
  CallsDIn (Fc none) 0 P f vs.toArray u w fun e u2 w' => u2 = u' ∧ ∃ E', (∃ v, e = .returned v) ∧ Sat D w' E' (q0r H1) ∧ Fr ⟨w, E, fun b => ∃ c, E.β c = .loc b, H0.length, hm, [], false⟩ E' w'
def y0r (m0 : Nat) (H1 : List (HS C)) : qx3 C := fun e T Hp => (e = .normal ∨ e = .ret) ∧ ∃ θ, qf9 Hp θ H1 m0
theorem Fr.other {ds : List Deferred} {nm : Bool} (h : Fr B E w) : Fr { B with ds := ds, nm := nm } E w := ⟨h.os, h.tape, h.output, h.size, h.same, h.late, h.newF, h.newO⟩
theorem Fr.back {ds : List Deferred} {nm : Bool} (h : Fr { B with ds := ds, nm := nm } E w) : Fr B E w := ⟨h.os, h.tape, h.output, h.size, h.same, h.late, h.newF, h.newO⟩
theorem za7 (h : z4a D B df T Hp a w) (d : Nat) {x : SV C} {v : Value} (hd : ∀ E, Den D w E x v) : z4a D B df (qf2 T d x) Hp (a.put (some d) v) w := by
 obtain ⟨E, hR, hsz⟩ := h
 have := hR.put hsz (some d) (.inr (hd E))
 exact ⟨E, by rw [← show q69 T (some d) x = qf2 T d x from rfl, q56]; exact this, by rw [q5s, hsz, q5o]⟩
theorem z1t {vs : List Value} {n : Nat} {args : List (SV C)} {m : Nat} {hm : ∀ c, m ≤ c → E.β c = .fresh} (hs : Sat D w E (q0r Hp)) (hd : DenA D w E args vs) :
  z4a D { q3b.here w E m hm with nm := true } [] (args ++ qq4 (n - args.length)) Hp { tmps := vs.toArray ++ Array.replicate (n - vs.toArray.size) undef, defers := [] } w := by
 have hlen := q8d _ _ hd
 refine ⟨E, ⟨fun i => ?_, hs, Fr.here.other, rfl, qk8.nil⟩, by simp [q8t, hlen]⟩
 rw [qf3]
 split
 ·rename_i hi
  have := qy7 _ _ hd i hi
  have e : (vs.toArray ++ Array.replicate (n - vs.toArray.size) undef).getD i undef = vs.getD i undef := by
   rw [Array.getD_eq_getD_getElem?, Array.getElem?_append_left (by simp; omega)]
   simp [List.getD_eq_getElem?_getD]
  rw [e]; exact this
 ·rw [q82]; trivial
theorem qo9 (A : Aux C D) (hT : q1z P D tab) {f : FuncId} {fn : Func} {id : Nat} {o1 o2 : Oper} {rest : Code} (hf : P.funcs[f]? = some fn) (hb : fn.body = some (.seq (.region id #[o1, o2] false) rest)) (hres : fn.results = #[])
  {t7 t4 : Nat} (g1 : o1.guard = none) (d1 : o1.dst = some t7) (g2 : o2.guard = none) (d2 : o2.dst = some t4) (h7 : t7 < fn.ntmps)
  (r1 : ∀ e w, (execOp e o1).run P w = .ok .recover w) (r2 : ∀ (e : Operand → Value) w, (execOp e o2).run P w = .ok (.value (e (.tmp t7))) w)
  {v : Value} {u u' : FrameMode} (hv : v.oneCell' = true)
  (hrec : ∀ (c0 : Frame) (cs : List Frame), c0.mode = u → recoverD (c0 :: cs) = some (v, { c0 with mode := u' } :: cs) ∨ (recoverD (c0 :: cs) = none ∧ v = .nilIface ∧ u' = u))
  {args : List (SV C)} {H0 H1 : List (HS C)} (n : Nat)
  (h : q3c (qf2 (qf2 (args ++ qq4 (fn.ntmps - args.length)) t7 (.p (.lit v))) t4 (.p (.lit v))) fun T0 => q2s H0 fun Hp0 => gx P A tab ⟨none, [], H0.length, true⟩ (y0r H0.length H1) n [.code rest] T0 Hp0) : qt5 P D f args H0 u u' H1 := by
 rw [q1f, q1g] at h
 refine ⟨fun w E hm vs hs hd => callsDIn_of_wpSIn hf hb trivial fun c0 cs hu => ?_⟩
 have hR0 := z1t (n := fn.ntmps) (m := H0.length) (hm := hm) hs hd
 have hsz : (vs.toArray ++ Array.replicate (fn.ntmps - vs.toArray.size) undef : Array Value).size = (args ++ qq4 (fn.ntmps - args.length)).length := by obtain ⟨_, _, h⟩ := hR0; exact h
 have hlt : t7 < (vs.toArray ++ Array.replicate (fn.ntmps - vs.toArray.size) undef : Array Value).size := by simp; omega
 have hR1 := za7 hR0 t7 (x := .p (.lit v)) (v := v) (fun _ => by simp only [Den]; exact .lit v hv)
 have hR2 := za7 hR1 t4 (x := .p (.lit v)) (v := v) (fun _ => by simp only [Den]; exact .lit v hv)
 refine wpSIn_seq (wpSIn_region ?_)
 obtain ⟨cs1, hcs1, hrun⟩ : ∃ cs1, cs1 = { c0 with mode := u' } :: cs ∧ ∀ next : Act → List Frame → Prop, next (({ tmps := vs.toArray ++ Array.replicate (fn.ntmps - vs.toArray.size) undef, defers := [] } : Act).put (some t7) v) cs1 →
   (match recoverD (c0 :: cs) with
    | some (v, cs') => next (({ tmps := vs.toArray ++ Array.replicate (fn.ntmps - vs.toArray.size) undef, defers := [] } : Act).put (some t7) v) cs'
    | none => next (({ tmps := vs.toArray ++ Array.replicate (fn.ntmps - vs.toArray.size) undef, defers := [] } : Act).put (some t7) .nilIface) (c0 :: cs)) := by
  rcases hrec c0 cs hu with hh | ⟨hh, rfl, rfl⟩
  ·exact ⟨_, rfl, fun next hn => by rw [hh]; exact hn⟩
  ·refine ⟨c0 :: cs, by rw [← hu], fun next hn => by rw [hh]; exact hn⟩
 have hw1 : Region.wanted o1 (yielded #[o1, o2] ({ tmps := vs.toArray ++ Array.replicate (fn.ntmps - vs.toArray.size) undef, defers := [] } : Act).tmps) = true := q4o g1
 have hev : (({ tmps := vs.toArray ++ Array.replicate (fn.ntmps - vs.toArray.size) undef, defers := [] } : Act).put (some t7) v).eval (.tmp t7) = v := by
  simp [Act.eval, Act.put, hlt]
  intro hx
  simp at hlt
  omega
 generalize hQQ : Exit.thenS (Code.wpSIn (Fc none) 0 P rest (bodyPostS P fn c0 cs _)) (bodyPostS P fn c0 cs _) = QQ
 show wpOpsSIn _ _ _ _ QQ [0, 1] _ _ _
 simp only [wpOpsSIn, List.getElem?_toArray, List.getElem?_cons_zero, List.getElem?_cons_succ, hw1, if_true, r1, d1]
 refine ⟨fun _ _ => trivial, hrun (fun a cs => wpOpsSIn (Fc none) 0 P #[o1, o2] QQ [1] a cs w) ?_⟩
 simp only [wpOpsSIn, List.getElem?_toArray, List.getElem?_cons_zero, List.getElem?_cons_succ, q4o g2, if_true, r2, d2, hev]
 refine ⟨fun _ _ => trivial, ?_⟩
 rw [← hQQ]
 show Code.wpSIn _ _ _ _ _ _ _ _
 refine wpSIn_of_wpIn rfl ?_
 have hX : qn2 D (⟨none, [], H0.length, true⟩ : Ctx C) { q3b.here w E H0.length hm with nm := true } none := ⟨rfl, fun c ri hc => by simp [lkR] at hc, trivial, rfl⟩
 refine q58 (r := none) (Q := fun e a' w' => bodyPostS P fn c0 cs (fun e u2 w' => u2 = u' ∧ ∃ E', (∃ v, e = .returned v) ∧ Sat D w' E' (q0r H1) ∧ Fr ⟨w, E, fun b => ∃ c, E.β c = .loc b, H0.length, hm, [], false⟩ E' w') e a' cs1 w') A hT hX (fun e a w' T Hp hΦ hRL => ?_) n _ _ _ h _ _ ⟨_, hR2⟩
 obtain ⟨he, θ, h3⟩ := hΦ
 obtain ⟨df, E1, hR1, _⟩ := hRL
 obtain ⟨g1, g2, g3⟩ := q59 hR1.sat hR1.fr h3
 have hdf : a.defers = [] := by
  obtain ⟨bs, e, _, _, hn⟩ := hR1.marks
  rw [hR1.defers, e, hn rfl]
  rfl
 have key : a.defers = [] ∧ ∃ u2, cs1 = { c0 with mode := u2 } :: cs ∧ ∃ v, (results fn a.tmps).run P w' = .ok v w' ∧ u2 = u' ∧ ∃ E', (∃ v', Ending.returned v = .returned v') ∧ Sat D w' E' (q0r H1) ∧ Fr ⟨w, E, fun b => ∃ c, E.β c = .loc b, H0.length, hm, [], false⟩ E' w' := by
  refine ⟨hdf, u', hcs1, .tuple #[], ?_, rfl, _, ⟨_, rfl⟩, g2, g3.back⟩
  unfold results
  simp [hres]
 rcases he with rfl | rfl
 ·exact key
 ·exact key
theorem qt5.at {f : FuncId} {args0 args : List (SV C)} {H0 H0' H1 H1' : List (HS C)} {u u' : FrameMode} (hM : qt5 P D f args0 H0 u u' H1) (ρ : List (Option Nat))
  (hargs : renL ρ args0 = some args) (hH0 : q53 ρ H0 = some H0') (hat : q3q (q0r Hp) ρ H0') (θ : List (Option Nat)) (hθ : θ = ρ ++ q4s (H1.length - H0.length) (hlen Hp)) (hnd : ndO θ = true) (hle : H0.length ≤ H1.length)
  (hH1 : q53 θ H1 = some H1') (hR : Rel D B E σ (q0r Hp) df a w) {vs : List Value} (hd : DenA D w E args vs) :
  CallsDIn (Fc none) 0 P f vs.toArray u w fun e u2 w' => u2 = u' ∧ ∃ E1, (∃ v, e = .returned v) ∧ Rel D B E1 σ (qb1 (q0r Hp) (z0s θ H1')) df a w' := by
 refine (z1b (XX := fun w vs R => CallsDIn (Fc none) 0 P f vs.toArray u w fun e u2 w' => u2 = u' ∧ R e w') (Ω := fun e _ _ => ∃ v, e = .returned v) (fun _ _ _ _ hm h => h.mono fun e u2 w' h => ⟨h.1, hm _ _ h.2⟩)
  (fun w E hm vs hs hd => (hM.calls w E hm vs hs hd).mono fun e u2 w' ⟨h1, E', h2, h3, h4⟩ => ⟨h1, E', h2, h3, h4⟩) ρ hargs hH0 hat θ hθ (fun k _ => q9f Hp _ (by rw [← q8c]; omega)) hnd hle hH1 B σ df a w E hR vs hd).mono ?_
 rintro e u2 w' ⟨h1, e1, E1, h2, _, _, h3⟩
 exact ⟨h1, E1, h2, h3⟩
end
end Go.SX
namespace Go.SX
open Go.Proofs
set_option maxHeartbeats 400000000
set_option maxRecDepth 100000
theorem y2f : ∃ i, Tryz.prog.info? 84 = some i ∧ i.zero = some (.agg #[]) ∧ i.size = 0 := by
 have : (Tryz.prog.info? 84).map (fun i => (i.zero, i.size)) = some (some (.agg #[]), 0) := by kernel_rfl
 cases h : Tryz.prog.info? 84 with
 | none => rw [h] at this; cases this
 | some i =>
  rw [h] at this
  simp only [Option.map_some, Option.some.injEq, Prod.mk.injEq] at this
  exact ⟨i, rfl, this.1, this.2⟩
theorem y1l (x : Operand) (e : Operand → Value) (o : Oper) (w : World) (ho : o.op = .typeAssert x 20 84 true) (hx : e x = .iface 84 (.agg #[])) : (execOp e o).run Tryz.prog w = .ok (.value (.tuple #[.agg #[], .bool true])) w := by
 simp only [execOp, ho, Instr.typeAssert, Sem.run_bind, run_underlying y41, Result.andThen_ok, hx]
 simp
theorem y3g (e : Operand → Value) (o : Oper) (w : World) (ho : o.op = .alloc 84) : (execOp e o).run Tryz.prog w = .ok (.value (.pointer (some ⟨w.heap.size, 0, none⟩))) (w.alloc (.cells #[] 84)) := by
 obtain ⟨i, h1, h2, _⟩ := y2f
 simp [execOp, ho, Instr.alloc, zeroValue, typeInfo, h1, h2, newVar, newRow, Value.cells]
theorem y3j (x y : Operand) (e : Operand → Value) (o : Oper) (w : World) (ad : Addr) (ho : o.op = .store 84 x y) (hx : e x = .pointer (some ad)) (hy : e y = .agg #[]) : (execOp e o).run Tryz.prog w = .ok .skip w := by
 obtain ⟨i, h1, h2, h3⟩ := y2f
 simp [execOp, ho, hx, hy, Instr.storeAt, Instr.sureAddr, storeVar, storeCells, sizeOf, typeInfo, h1, h3, Value.cells]
@[reducible] def y9k : List (SV Cd) := [.ptr 4 0, .ptr 0 0, .ptr 1 0, .ptr 2 0]
@[reducible] def z58 (o n e : List (SV Cd)) (ws : List Wd) (a m : Int) : List (HS Cd) := [.vart none o, .vart none n, .vart none e, .vart none [wsS ws, iS a, iS m], .vart none [.ptr 3 0]]
@[reducible] def y4m (o : q2c) : List (SV Cd) := [iS o.id, iS o.owner, iS o.goal.kind, lS o.goal.rows, iS o.goal.from_, iS o.goal.to_, iS o.goal.low, iS o.goal.high, bS o.goal.clear, iS o.goal.days, iS o.goal.times, iS o.goal.within, lS o.goal.cents, .p (.dsl U.goal o.goal.kids), iS o.price, iS o.group, bS o.urgent, iS o.known, iS o.due]
@[reducible] def zj8 : List (SV Cd) := [iS 0, iS 0, iS 0, zz2, iS 0, iS 0, iS 0, iS 0, bS false, iS 0, iS 0, iS 0, zz2, zz2, iS 0, iS 0, bS false, iS 0, iS 0]
def chR : List PanicEntry := [{ v := .iface 84 (.agg #[]), recovered := true }]
theorem ye3 (o : q2c) (n e : Int) (ws : List Wd) (a m : Int) : qt5 Tryz.prog Dc 51 y9k (z58 (y4m o) [iS n] [iS e] ws a m) .returning .returning (z58 (y4m o) [iS n] [iS e] ws a m) := by
 refine qo9 Ax q03 (o1 := _) (o2 := _) (rest := _) (id := _) Tryz.func51 rfl rfl (t7 := 7) (t4 := 4) rfl rfl rfl rfl (by decide) (fun _ _ => rfl) (fun _ _ => rfl) (v := .nilIface) rfl (fun c0 cs h => .inr ⟨by simp [recoverD, h], rfl, rfl⟩) 200 ?_
 (repeat' ((conv => whnf); first | exact ⟨[some 0, some 1, some 2, some 3, some 4], ⟨hsW, rfl, rfl⟩⟩ | refine saC ?_))
theorem ye4 (ws : List Wd) (a m : Int) : qt5 Tryz.prog Dc 51 y9k (z58 zj8 [iS 0] [iS 0] ws a m) (.panicking chS) (.panicking chR) (z58 zj8 [iS a] [iS 130] ws a m) := by
 refine qo9 Ax q03 (o1 := _) (o2 := _) (rest := _) (id := _) Tryz.func51 rfl rfl (t7 := 7) (t4 := 4) rfl rfl rfl rfl (by decide) (fun _ _ => rfl) (fun _ _ => rfl) (v := .iface 84 (.agg #[])) rfl (fun c0 cs h => .inl (by simp [recoverD, h, chR])) 200 ?_
 (repeat' ((conv => whnf); first | refine zh9 (y1l _) rfl ?_ | refine zl9 y3g ?_ | refine zw0 (y3j _ _) rfl rfl rfl ?_ | exact ⟨[some 0, some 1, some 2, some 3, some 4], ⟨hsW, rfl, rfl⟩⟩ | refine saC ?_))
end Go.SX
namespace Go.SX
open Go.Proofs
open Go.RowKit
set_option maxHeartbeats 400000000
set_option maxRecDepth 100000
theorem qa3 : ∀ (s : Wd) (w : Wd), w ∈ q1b s → w.length ≤ s.length
 | [], w, h => by simp [q1b] at h; simp [h]
 | c :: s, w, h => by
  unfold q1b at h
  split at h
  ·rcases List.mem_cons.1 h with rfl | h
   ·simp
   ·have := qa3 s w h; simp; omega
  ·split at h
   ·simp at h; subst h; simp
   ·rename_i t l e
    rcases List.mem_cons.1 h with rfl | h
    ·have := qa3 s t (by rw [e]; simp); simp; omega
    ·have := qa3 s w (by rw [e]; simp [h]); simp; omega
theorem z0z {s : Wd} (h : s.length ≤ 20000) : q74 (q0j s) := by
 unfold q0j
 split
 ·exact ⟨fun w h => by simp at h, by simp⟩
 ·exact ⟨fun w hw => by have := qa3 s w hw; omega, by have := ql9 s; omega⟩
def y9m : List Code → Code → Code
 | [], z => z
 | x :: l, z => .seq x (y9m l z)
theorem qe9 {P : Program} {D : q09 Cd} {B : q3b} {Q : Exit → Act → World → Prop} {z : Code} : ∀ (l : List Code) (e : Exit) (a : Act) (w : World), q3r none P D B (Exit.then (z.wpIn (Fc none) 0 P Q) Q) (l.map fun c => (It.code c : It Cd)) e a w → Exit.then ((y9m l z).wpIn (Fc none) 0 P Q) Q e a w
 | [], e, a, w, h => h
 | x :: l, e, a, w, h => by
  cases e with
  | normal =>
   refine wpIn_seq (wpIn_mono h ?_)
   exact qe9 l
  | exit i => exact qe9 l (.exit i) a w h
  | goto i => exact qe9 l (.goto i) a w h
  | ret => exact qe9 l .ret a w h
  | panic c => exact qe9 l (.panic c) a w h
  | outgrown => exact qe9 l .outgrown a w h
structure y9g (T : List (SV Cd)) : Prop where
 len : T.length = 22
 t2 : q1x T 2 = .ptr 0 0
 t3 : q1x T 3 = .ptr 1 0
 t4 : q1x T 4 = .ptr 2 0
def y4i (ok : Prop) (ws : List Wd) (ret : SV Cd) (rs : List ResultVar) : qx3 Cd := fun e T Hp =>
 (e = .normal ∧ ok ∧ y9g T ∧ q1x T 5 = .ptr 4 0 ∧ Hp = z58 zj8 [iS 0] [iS 0] ws 0 11) ∨ (e = .ret ∧ qn8 Dc tab rs 0 ret [] e T Hp)
def y6a (ws : List Wd) (S : Rs q2c) : qx3 Cd := fun e T Hp =>
 (∃ o n m, S = .ok o n m ∧ e = .ret ∧ y9g T ∧ Hp = z58 (y4m o) [iS n] [iS 0] ws n m) ∨ (∃ n m, S = .no n m ∧ e = .panic chS ∧ y9g T ∧ Hp = z58 zj8 [iS 0] [iS 0] ws n m)
def sq1 : Code → Code
 | .seq a _ => a
 | c => c
def sq2 : Code → Code
 | .seq _ b => b
 | c => c
def z4c (s : Wd) : SV Cd := .tuple [qb4 (q39 s).1, iS (q39 s).2.1, iS (q39 s).2.2]
theorem yd1 (s : Wd) (hs : s.length ≤ 20000) : q07 Tryz.prog Dc 28 [wS s] [] (wsS (q0j s)) [] := z47 s (by omega)
theorem ye8 (s : Wd) (hs : s.length ≤ 140737488355328) : q3c ([wS s] ++ qq4 (22 - 1)) fun T0 => q2s ([] : List (HS Cd)) fun Hp0 =>
  gx Tryz.prog Ax tab ⟨none, [], 0, true⟩ (y4i (¬ 20000 < s.length) (q0j s) (z4c s) Tryz.f25.results.toList) 300 [.code (sq1 (Tryz.f25.body.getD .skip)), .code (sq1 (sq2 (Tryz.f25.body.getD .skip))), .code (sq1 (sq2 (sq2 (Tryz.f25.body.getD .skip))))] T0 Hp0 := by
 by_cases h : 20000 < s.length
 ·have e : q39 s = (q70, 0, 130) := by unfold q39; rw [if_pos h]
  unfold z4c
  rw [e]
  (repeat' ((conv => whnf); first | (exfalso; omega) | exact .inr ⟨rfl, q08 [] (.inr rfl) (by exact vwV) (by exact hsW) rfl rfl⟩ | refine spC (fun hb => ?_) fun hb => ?_))
 ·have ht := yd1 s (by omega)
  clear hs
  generalize z4c s = rr
  obtain ⟨ok, hok⟩ : ∃ ok : Prop, ok = (¬ 20000 < s.length) := ⟨_, rfl⟩
  rw [← hok]
  have h2 : ok := hok ▸ h
  clear hok
  generalize q0j s = ws at *
  (repeat' ((conv => whnf); first | (exfalso; omega) | refine cpC (ht) ?_ | exact .inl ⟨rfl, h2, ⟨rfl, rfl, rfl, rfl⟩, rfl, rfl⟩ | refine spC (fun hb => ?_) fun hb => ?_))
theorem ye5 (ws : List Wd) (hn : q74 ws) : q3c ([.any, .any, .ptr 0 0, .ptr 1 0, .ptr 2 0, .ptr 4 0] ++ qq4 16) fun T0 => q2s (z58 zj8 [iS 0] [iS 0] ws 0 11) fun Hp0 =>
  gx Tryz.prog Ax tab ⟨none, [], 5, true⟩ (y6a ws (q9h ws 0 11)) 300 [.code (sq2 (sq2 (sq2 (sq2 (Tryz.f25.body.getD .skip)))))] T0 Hp0 := by
 have hi : InW ws 0 11 := ⟨by omega, by omega, by omega, by omega⟩
 have hR := y76 hi hn
 cases e : q9h ws 0 11 with
 | ok o n m =>
  have hb := hR.bd
  rw [e] at hb
  have hi2 := hi.step hb
  have h1 := hi2.a1
  have h2 := hn.n
  have q := hR.ok _ _ _ e
  (repeat' ((conv => whnf); first | (refine q01 [some 3] q rfl rfl ⟨rfl, trivial⟩ ?_) | exact .inl ⟨_, _, _, rfl, rfl, ⟨rfl, rfl, rfl, rfl⟩, rfl⟩ | refine taC ?_ | refine q02 mixed ?_))
 | no n m =>
  have q := hR.no _ _ e
  (repeat' ((conv => whnf); first | (refine ye0 [some 3] q rfl rfl ⟨rfl, trivial⟩ ?_) | exact .inr ⟨_, _, rfl, rfl, ⟨rfl, rfl, rfl, rfl⟩, rfl⟩))
open Go.RowKit
set_option maxHeartbeats 400000000
set_option maxRecDepth 100000
theorem z8p {fn : Func} {B : q3b} {E : Env} {T : List (SV Cd)} {Hp : List (HS Cd)} {df : List Deferred} {a : Act} {w : World} {ret : SV Cd} {e : Exit} {w0 : World} {E0 : Env} {hm : ∀ c, 0 ≤ c → E0.β c = .fresh} (hR : Rel Dc B E (q1x T) (q0r Hp) df a w)
  (hf : Fr (q3b.here w0 E0 0 hm) E w) (h : qn8 Dc tab fn.results.toList 0 ret [] e T Hp) :
  LeavesInM (Fc none) 0 Tryz.prog fn a.tmps (fun e w' => ∃ v E', e = .returned v ∧ Den Dc w' E' ret v ∧ Sat Dc w' E' (q0r []) ∧ Fr ⟨w0, E0, fun b => ∃ c, E0.β c = .loc b, 0, hm, [], false⟩ E' w') [] .returning w := by
 obtain ⟨_, θ, l, h1, h2, h3⟩ := h
 have hR2 : Rel Dc (q3b.here w0 E0 0 hm) E (q1x T) (q0r Hp) [] { a with defers := [] } w := ⟨hR.den, hR.sat, hf, rfl, qk8.nil⟩
 obtain ⟨v, h4, h5⟩ := q8o (P := Tryz.prog ) (fn := fn) q03 hR2 h1
 obtain ⟨g1, g2, g3⟩ := q59 hR2.sat hR2.fr h3
 exact ⟨v, h4, v, _, rfl, q7i hR2.sat g1 _ _ _ h2 h5, g2, g3⟩
theorem zb7 {B : q3b} {E : Env} {σ σ' : Nat → SV Cd} {H : Nat → HS Cd} {df : List Deferred} {a : Act} {w : World} (h : Rel Dc B E σ H df a w) (hs : ∀ i, σ' i = .any ∨ σ' i = σ i) : Rel Dc B E σ' H df a w :=
  ⟨fun i => by rcases hs i with e | e <;> rw [e]; · trivial
               · exact h.den i, h.sat, h.fr, h.defers, h.marks⟩
@[reducible] def T3 : List (SV Cd) := [.any, .any, .ptr 0 0, .ptr 1 0, .ptr 2 0] ++ qq4 17
theorem y8e {T : List (SV Cd)} (h : y9g T) : ∀ i, q1x T3 i = .any ∨ q1x T3 i = q1x T i
 | 0 => .inl rfl
 | 1 => .inl rfl
 | 2 => .inr h.t2.symm
 | 3 => .inr h.t3.symm
 | 4 => .inr h.t4.symm
 | i + 5 => .inl (q82 17 i)
theorem ya9 {w : World} {E : Env} {x1 x2 x3 x4 : SV Cd} {v1 v2 v3 v4 : Value} (h1 : Den Dc w E x1 v1) (h2 : Den Dc w E x2 v2) (h3 : Den Dc w E x3 v3) (h4 : Den Dc w E x4 v4) : DenA Dc w E [x1, x2, x3, x4] [v1, v2, v3, v4] := by
 simp only [DenA]
 exact ⟨_, _, rfl, h1, _, _, rfl, h2, _, _, rfl, h3, _, _, rfl, h4, rfl⟩
theorem z0a (s : Wd) (hs : s.length ≤ 140737488355328) : q07 Tryz.prog Dc 25 [wS s] [] (z4c s) [] := by
 refine ⟨Tryz.call25, fun w E hm vs hsat hd => ?_⟩
 refine callsIn_of_wp_marks Tryz.func25 (c := y9m [sq1 (Tryz.f25.body.getD .skip), sq1 (sq2 (Tryz.f25.body.getD .skip)), sq1 (sq2 (sq2 (Tryz.f25.body.getD .skip)))] (sq2 (sq2 (sq2 (Tryz.f25.body.getD .skip))))) rfl trivial ?_ rfl
 have hR0 := z1t (n := 22) (m := 0) (hm := hm) hsat hd
 have hX : qn2 Dc (⟨none, [], 0, true⟩ : Ctx Cd) { q3b.here w E 0 hm with nm := true } none := ⟨rfl, fun c ri hc => by simp [lkR] at hc, trivial, rfl⟩
 refine qe9 (D := Dc) (B := { q3b.here w E 0 hm with nm := true }) _ .normal _ _ ?_
 have hp1 := ye8 s hs
 rw [q1f, q1g] at hp1
 refine q58 (r := none) Ax q03 hX ?_ 300 _ _ _ hp1 _ _ ⟨_, hR0⟩
 intro e a w1 T Hp hΦ hRL
 obtain ⟨df, E1, hR1, hsz1⟩ := hRL
 have hdf : df = [] := by
  obtain ⟨bs, e, _, _, hn⟩ := hR1.marks
  rw [e, hn rfl]; rfl
 subst hdf
 rcases hΦ with ⟨rfl, hok, hpt, ht5, rfl⟩ | ⟨rfl, hend⟩
 rotate_left
 ·have := z8p (fn := Tryz.f25) hR1 hR1.fr.back hend
  show LeavesInM (Fc none) 0 Tryz.prog Tryz.f25 a.tmps _ a.defers .returning w1
  rw [hR1.defers]
  exact this
 show Code.wpIn _ _ _ _ _ _ _
 obtain ⟨id4, mf, dfo, hr4, gm, om, dm, gd, od, dd⟩ : ∃ id4 mf dfo, sq2 (sq2 (sq2 (Tryz.f25.body.getD .skip))) = .seq (.region id4 #[mf, dfo] false) (sq2 (sq2 (sq2 (sq2 (Tryz.f25.body.getD .skip))))) ∧
  mf.guard = none ∧ mf.op = .makeFunc (.func 51) #[] #[.tmp 5, .tmp 2, .tmp 3, .tmp 4] ∧ mf.dst = some 14 ∧ dfo.guard = none ∧ dfo.op = .defer { callee := .value (.tmp 14), args := #[], argTypes := #[] } ∧ dfo.dst = none := ⟨_, _, _, rfl, rfl, rfl, rfl, rfl, rfl, rfl⟩
 rw [hr4]
 refine wpIn_seq (wpIn_region_list ?_)
 obtain ⟨caps, hcaps⟩ : ∃ caps : List Value, caps = [a.tmps.getD 5 undef, a.tmps.getD 2 undef, a.tmps.getD 3 undef, a.tmps.getD 4 undef] := ⟨_, rfl⟩
 have hmf : (execOp a.eval mf).run Tryz.prog w1 = .ok (.value (.func (.func 51) #[] caps.toArray)) w1 := by
  rw [hcaps]; simp [execOp, om, Instr.makeFunc, Act.eval]
 have hd1 : DenA Dc w1 E1 y9k caps := by
  rw [hcaps]
  have h2 := hR1.den 2
  have h3 := hR1.den 3
  have h4 := hR1.den 4
  have h5 := hR1.den 5
  rw [hpt.t2] at h2
  rw [hpt.t3] at h3
  rw [hpt.t4] at h4
  rw [ht5] at h5
  exact ya9 h5 h2 h3 h4
 obtain ⟨d, hdd⟩ : ∃ d : Deferred, d = ⟨.fn (.func 51) caps.toArray, #[]⟩ := ⟨_, rfl⟩
 have hlt : 14 < a.tmps.size := by rw [hsz1, hpt.len]; omega
 have hdf : (execOp (a.put mf.dst (.func (.func 51) #[] caps.toArray)).eval dfo).run Tryz.prog w1 = .ok (.defer d) w1 := by
  have hev : (a.put mf.dst (.func (.func 51) #[] caps.toArray)).eval (.tmp 14) = .func (.func 51) #[] caps.toArray := by
   rw [dm]; simp [Act.eval, Act.put, hlt]
  simp only [execOp, od, resolve, hev, Deferred.ofValue, hdd]
  simp
 show wpListIn _ _ _ _ _ [mf, dfo] _ _
 rw [wpListIn, if_pos (q4o gm)]
 refine ⟨fun _ _ => trivial, ?_⟩
 rw [show (Fc none).round = none from rfl, Oper.semAt_none, hmf]
 show wpListIn _ _ _ _ _ [dfo] _ _
 rw [wpListIn, if_pos (q4o gd)]
 refine ⟨fun _ _ => trivial, ?_⟩
 rw [show (Fc none).round = none from rfl, Oper.semAt_none, hdf]
 show Code.wpIn _ _ _ _ _ _ _
 have hm1 : ∀ c, 5 ≤ c → E1.β c = .fresh := q7k hR1.sat
 have hX2 : qn2 Dc (⟨none, [], 5, true⟩ : Ctx Cd) { q3b.here w1 E1 5 hm1 with ds := [d], nm := true } none := ⟨rfl, fun c ri hc => by simp [lkR] at hc, trivial, rfl⟩
 have hR2 : z4a Dc { q3b.here w1 E1 5 hm1 with ds := [d], nm := true } [d] ([.any, .any, .ptr 0 0, .ptr 1 0, .ptr 2 0, .ptr 4 0] ++ qq4 16) (z58 zj8 [iS 0] [iS 0] (q0j s) 0 11) ({ a.put mf.dst (.func (.func 51) #[] caps.toArray) with defers := d :: (a.put mf.dst (.func (.func 51) #[] caps.toArray)).defers }.put dfo.dst undef) w1 := by
  rw [dm, dd]
  refine ⟨E1, ⟨fun i => ?_, hR1.sat, Fr.here.other, ?_, qk8.nil⟩, ?_⟩
  ·have hne : ∀ j, j ≠ 14 → (a.tmps.setIfInBounds 14 (.func (.func 51) #[] caps.toArray)).getD j undef = a.tmps.getD j undef := fun j hj => by rw [Array.getD_eq_getD_getElem?, Array.getD_eq_getD_getElem?, Array.getElem?_setIfInBounds_ne (Ne.symm hj)]
   match i with
   | 0 => trivial
   | 1 => trivial
   | 2 => have h := hR1.den 2; rw [hpt.t2] at h; show Den _ _ _ _ ((a.tmps.setIfInBounds 14 _).getD 2 undef); rw [hne 2 (by omega)]; exact h
   | 3 => have h := hR1.den 3; rw [hpt.t3] at h; show Den _ _ _ _ ((a.tmps.setIfInBounds 14 _).getD 3 undef); rw [hne 3 (by omega)]; exact h
   | 4 => have h := hR1.den 4; rw [hpt.t4] at h; show Den _ _ _ _ ((a.tmps.setIfInBounds 14 _).getD 4 undef); rw [hne 4 (by omega)]; exact h
   | 5 => have h := hR1.den 5; rw [ht5] at h; show Den _ _ _ _ ((a.tmps.setIfInBounds 14 _).getD 5 undef); rw [hne 5 (by omega)]; exact h
   | i + 6 => show Den _ _ _ (q1x (qq4 16) i) _; rw [q82]; trivial
  ·show d :: a.defers = [d]
   rw [hR1.defers]
  ·show (a.tmps.setIfInBounds 14 _).size = 22
   rw [Array.size_setIfInBounds, hsz1, hpt.len]
 have hp2 := ye5 (q0j s) (z0z (by omega))
 rw [q1f, q1g] at hp2
 refine q58 (r := none) Ax q03 hX2 ?_ 300 _ _ _ hp2 _ _ ⟨_, hR2⟩
 intro e2 a2 w2 T2 Hp2 hΦ2 hRL2
 obtain ⟨df2, E2, hRE, _⟩ := hRL2
 have hinv : ∀ w3, (invoke d.target d.args).run Tryz.prog w3 = .ok (.enter 51 caps.toArray) w3 := fun w3 => by
  rw [hdd]
  simp only [invoke]
  have : (#[] ++ caps.toArray : Array Value) = caps.toArray := by simp
  rw [this]
  exact Tryz.call51 _ _
 rcases hΦ2 with ⟨o, n, m, hS, rfl, hpt2, rfl⟩ | ⟨n, m, hS, rfl, hpt2, rfl⟩
 ·have e : q39 s = (o, n, 0) := by unfold q39; rw [if_neg hok, hS]
  unfold z4c
  rw [e]
  show LeavesInM (Fc none) 0 Tryz.prog Tryz.f25 a2.tmps _ a2.defers .returning w2
  refine q8k (by simp) hRE fun w3 E3 hR3 => ?_
  refine ⟨by simp, .inr ⟨fun h => by simp [Fc] at h, .func 51, caps.toArray, 51, caps.toArray, by rw [hdd], hinv w3, fun _ _ => trivial, ?_⟩⟩
  refine (qt5.at (ye3 o n 0 (q0j s) n m) [some 0, some 1, some 2, some 3, some 4] rfl rfl ⟨rfl, rfl, rfl, rfl, rfl, trivial⟩ [some 0, some 1, some 2, some 3, some 4] rfl rfl (Nat.le_refl _) rfl hR3 (DenA.mono hR3.fr.late _ _ hd1)).mono ?_
  rintro e4 u4 w4 ⟨rfl, E4, ⟨v4, rfl⟩, hR4⟩
  have hR5 := zb7 hR4 (y8e hpt2)
  rw [← q3t, show q47 (z58 (y4m o) [iS n] [iS 0] (q0j s) n m) (z0s [some 0, some 1, some 2, some 3, some 4] (z58 (y4m o) [iS n] [iS 0] (q0j s) n m)) = z58 (y4m o) [iS n] [iS 0] (q0j s) n m from rfl] at hR5
  exact z8p (a := { a2 with defers := [d] }) (T := T3) (Hp := z58 (y4m o) [iS n] [iS 0] (q0j s) n m) (fn := Tryz.f25) hR5 (Fr.trans hR1.fr.back hR5.fr.back) (e := .ret) (q08 [] (.inr rfl) (by exact vwV) (by exact hsW) rfl rfl)
 ·have e : q39 s = (q70, n, 130) := by unfold q39; rw [if_neg hok, hS]
  unfold z4c
  rw [e]
  show LeavesInM (Fc none) 0 Tryz.prog Tryz.f25 a2.tmps _ a2.defers (.panicking chS) w2
  refine q8k (by simp) hRE fun w3 E3 hR3 => ?_
  refine ⟨by simp, .inr ⟨fun h => by simp [Fc] at h, .func 51, caps.toArray, 51, caps.toArray, by rw [hdd], hinv w3, fun _ _ => trivial, ?_⟩⟩
  refine (qt5.at (ye4 (q0j s) n m) [some 0, some 1, some 2, some 3, some 4] rfl rfl ⟨rfl, rfl, rfl, rfl, rfl, trivial⟩ [some 0, some 1, some 2, some 3, some 4] rfl rfl (Nat.le_refl _) rfl hR3 (DenA.mono hR3.fr.late _ _ hd1)).mono ?_
  rintro e4 u4 w4 ⟨rfl, E4, ⟨v4, rfl⟩, hR4⟩
  have hR5 := zb7 hR4 (y8e hpt2)
  rw [← q3t, show q47 (z58 zj8 [iS 0] [iS 0] (q0j s) n m) (z0s [some 0, some 1, some 2, some 3, some 4] (z58 zj8 [iS n] [iS 130] (q0j s) n m)) = z58 zj8 [iS n] [iS 130] (q0j s) n m from rfl] at hR5
  exact z8p (a := { a2 with defers := [d] }) (T := T3) (Hp := z58 zj8 [iS n] [iS 130] (q0j s) n m) (fn := Tryz.f25) hR5 (Fr.trans hR1.fr.back hR5.fr.back) (e := .ret) (q08 [] (.inr rfl) (by exact vwV) (by exact hsW) rfl rfl)
end Go.SX
namespace Go.SX
def q0e (c n : Int) : Int := (if c < 0 then -(c + 1) else c) % n
theorem q0g {c n : Int} (h : 0 < n) : 0 ≤ q0e c n ∧ q0e c n < n := ⟨Int.emod_nonneg _ (by omega), Int.emod_lt_of_pos _ h⟩
def zl7 (rows : List Int) (y : Nat) (x : Int) : List Int := rows.set y (q1l .or .i64 (rows.getD y 0) (q4p .i64 1 x))
theorem qr3 (rows : List Int) (y : Nat) (x : Int) : (zl7 rows y x).length = rows.length := by unfold zl7; simp
def ze6 (x : A5) (y k : Nat) (rows : List Int) : List Int := zl7 rows (min 23 (q0e x.b 24 + y)).toNat ((q0e x.a 48 + k).tmod 48)
def qp7 (x : A5) (y k : Nat) (rows : List Int) : List Int := (List.range k).foldl (fun r k => ze6 x y k r) rows
def q80 (x : A5) (n y : Nat) : List Int := (List.range y).foldl (fun r y => qp7 x y n r) (List.replicate 24 0)
theorem qm5 (x : A5) (y k : Nat) (r : List Int) : qp7 x y (k + 1) r = ze6 x y k (qp7 x y k r) := by unfold qp7; rw [List.range_succ, List.foldl_append]; rfl
theorem ql4 (x : A5) (n y : Nat) : q80 x n (y + 1) = qp7 x y n (q80 x n y) := by unfold q80; rw [List.range_succ, List.foldl_append]; rfl
theorem z04 (x : A5) (y : Nat) : ∀ (k : Nat) (r : List Int), (qp7 x y k r).length = r.length
 | 0, r => rfl
 | k + 1, r => by rw [qm5]; unfold ze6; rw [qr3, z04 x y k r]
theorem z59 (x : A5) (n : Nat) : ∀ y : Nat, (q80 x n y).length = 24
 | 0 => by simp [q80]
 | y + 1 => by rw [ql4, z04, z59 x n y]
def qn4 (x : A5) : List Int :=
 if q0e x.c 3 = 0 then zl7 (q80 x (q0e (x.a.tdiv 48) 3 + 1).toNat (q0e (x.b.tdiv 24) 3 + 1).toNat) (q0e x.b 24).toNat (q0e x.c 48) else q80 x (q0e (x.a.tdiv 48) 3 + 1).toNat (q0e (x.b.tdiv 24) 3 + 1).toNat
def z0q (x : A5) : q06 := ⟨1, qn4 x, q0e x.c 3000, q0e x.c 3000 + 1 + q0e x.d 5000, q0e x.e 40, q0e x.e 40 + q0e (x.e.tdiv 40) 51, decide (q0e x.d 2 = 1), 0, 0, 0, [], []⟩
structure q8y (rows : List Int) : Prop where
 len : rows.length = 24
 ok : ∀ r ∈ rows, 0 ≤ r ∧ r ≤ 281474976710655
theorem ya7 {a : Int} {x : Int} (ha : 0 ≤ a ∧ a ≤ 281474976710655) (hx : 0 ≤ x ∧ x < 48) : (0 ≤ q1l .or .i64 a (q4p .i64 1 x) ∧ q1l .or .i64 a (q4p .i64 1 x) ≤ 281474976710655) ∧ q1l .or .i64 a (q4p .i64 1 x) ≠ 0 := by
 obtain ⟨n, rfl⟩ : ∃ n : Nat, a = n := ⟨a.toNat, by omega⟩
 obtain ⟨k, rfl⟩ : ∃ k : Nat, x = k := ⟨x.toNat, by omega⟩
 have hk : k < 48 := by omega
 have h1 : 2 ^ k < 2 ^ 48 := Nat.pow_lt_pow_right (by omega) hk
 have hn : n < 2 ^ 48 := by omega
 rw [zu3 hk, z9f hn h1]
 have h2 : n ||| 2 ^ k < 2 ^ 48 := Nat.or_lt_two_pow hn h1
 have h3 : n ||| 2 ^ k ≠ 0 := fun e => by
  have := congrArg (fun z => z.testBit k) e
  simp at this
 omega
theorem z81 {rows : List Int} (h : q8y rows) {y : Nat} (hy : y < 24) {x : Int} (hx : 0 ≤ x ∧ x < 48) : q8y (zl7 rows y x) ∧ (zl7 rows y x).any (fun r => decide (r ≠ 0)) = true := by
 have hg : rows.getD y 0 ∈ rows := by
  rw [List.getD_eq_getElem?_getD, List.getElem?_eq_getElem (by rw [h.len]; exact hy)]
  exact List.getElem_mem _
 obtain ⟨h1, h2⟩ := ya7 (h.ok _ hg) hx
 refine ⟨⟨by rw [qr3, h.len], fun r hr => ?_⟩, ?_⟩
 ·unfold zl7 at hr
  rcases List.mem_or_eq_of_mem_set hr with hr | rfl
  ·exact h.ok r hr
  ·exact h1
 ·rw [List.any_eq_true]
  refine ⟨q1l .or .i64 (rows.getD y 0) (q4p .i64 1 x), ?_, by simpa using h2⟩
  unfold zl7
  rw [List.mem_iff_getElem?]
  exact ⟨y, by rw [List.getElem?_set_self (by rw [h.len]; exact hy)]⟩
theorem y0i (x : A5) (y k : Nat) {rows : List Int} (h : q8y rows) : q8y (ze6 x y k rows) ∧ (ze6 x y k rows).any (fun r => decide (r ≠ 0)) = true := by
 have b1 := q0g (c := x.b) (n := 24) (by omega)
 have b2 := q0g (c := x.a) (n := 48) (by omega)
 unfold ze6
 refine z81 h (by omega) ?_
 rw [Int.tmod_eq_emod_of_nonneg (by omega)]
 omega
theorem z9o (x : A5) (y : Nat) : ∀ (k : Nat) (r : List Int), q8y r → q8y (qp7 x y k r) ∧ (0 < k → (qp7 x y k r).any (fun r => decide (r ≠ 0)) = true)
 | 0, r, h => ⟨h, fun e => by omega⟩
 | k + 1, r, h => by
  rw [qm5]
  have := y0i x y k (z9o x y k r h).1
  exact ⟨this.1, fun _ => this.2⟩
theorem z9p (x : A5) (n : Nat) (hn : 0 < n) : ∀ y : Nat, q8y (q80 x n y) ∧ (0 < y → (q80 x n y).any (fun r => decide (r ≠ 0)) = true)
 | 0 => ⟨⟨by simp [q80], fun r hr => by simp [q80] at hr; omega⟩, fun e => by omega⟩
 | y + 1 => by
  rw [ql4]
  have := z9o x y n _ (z9p x n hn y).1
  exact ⟨this.1, fun _ => this.2 hn⟩
theorem zj4 (x : A5) : q8y (qn4 x) ∧ (qn4 x).any (fun r => decide (r ≠ 0)) = true := by
 have b1 := q0g (c := x.b.tdiv 24) (n := 3) (by omega)
 have b2 := q0g (c := x.a.tdiv 48) (n := 3) (by omega)
 have b3 := q0g (c := x.b) (n := 24) (by omega)
 have b4 := q0g (c := x.c) (n := 48) (by omega)
 have h := z9p x (q0e (x.a.tdiv 48) 3 + 1).toNat (by omega) (q0e (x.b.tdiv 24) 3 + 1).toNat
 unfold qn4
 split
 ·exact z81 h.1 (by omega) (by omega)
 ·exact ⟨h.1, h.2 (by omega)⟩
theorem y5n (x : A5) : okB (z0q x) = true := by
 obtain ⟨h1, h2⟩ := zj4 x
 have b1 := q0g (c := x.c) (n := 3000) (by omega)
 have b2 := q0g (c := x.d) (n := 5000) (by omega)
 have b3 := q0g (c := x.e) (n := 40) (by omega)
 have b4 := q0g (c := x.e.tdiv 40) (n := 51) (by omega)
 have ha : q29 (qn4 x) = true := by
  unfold q29
  rw [h1.len, Bool.and_eq_true]
  refine ⟨rfl, List.all_eq_true.2 fun r hr => ?_⟩
  exact (q0f _ _ _).2 (h1.ok r hr)
 unfold okB q3s q77 qp5 q35 q6u q48 z0q
 simp only [ha, h2]
 simp [q0f]
 omega
theorem qv4 (x : A5) {d : Int} (hd : d ≤ 4) : q2j (z0q x) d = some 1 := by
 rw [q3g, y5n, decide_eq_false (by omega)]
 rfl
def zg0 : A5 := ⟨0, 0, 0, 0, 0⟩
def y5 (x : List A5) (i : Int) : A5 := if i < x.length then x.getD i.toNat zg0 else zg0
structure y7x where
 kids : List q06
 cents : List Int
 used : Int
 count : Int
def q1p (rec : Int → Int → q06 × Int × Int) (y : A5) (at_ most : Int) : Nat → y7x
 | 0 => ⟨[], [], 1, 1⟩
 | i + 1 =>
  let s := q1p rec y at_ most i
  let r := rec (at_ + s.used) (most - s.count - max 0 (1 - (i : Int)))
  ⟨s.kids ++ [r.1], s.cents ++ [q0e (IntKind.i64.wrap (y.c + IntKind.i64.wrap ((i : Int) * y.d))) 1000], s.used + r.2.1, s.count + r.2.2⟩
def goB (rec : Int → Int → q06 × Int × Int) (y : A5) (at_ most many : Int) (i : Nat) : Bool := decide ((i : Int) < many) && (decide ((i : Int) < 2) || decide ((q1p rec y at_ most i).count < most))
def z0f (rec : Int → Int → q06 × Int × Int) (y : A5) (at_ most many : Int) : Nat → Nat → Nat
 | 0, i => i
 | f + 1, i => if goB rec y at_ most many i then z0f rec y at_ most many f (i + 1) else i
def qq2 (j : Nat) (x : List A5) (at_ most : Int) : Int :=
 if j = 0 ∨ most < 2 ∨ (x.length : Int) ≤ at_ + 1 ∨ 5 ≤ 1 + q0e ((y5 x at_).a.tdiv 144) 6 ∧ most < 3 then 1 else 1 + q0e ((y5 x at_).a.tdiv 144) 6
def q38 : Nat → List A5 → Int → Int → q06 × Int × Int
 | 0, x, at_, most => (z0q (y5 x at_), 1, 1)
 | j + 1, x, at_, most =>
  let y := y5 x at_
  let next := y5 x (at_ + 1)
  let k := qq2 (j + 1) x at_ most
  if k = 2 then (⟨2, [], 0, 0, 1 + q0e y.b 8, 0, false, 0, 0, 1 + q0e y.c 3000, [], [z0q next]⟩, 2, 2)
  else if k = 3 then (⟨3, [], q0e y.e 3000, 0, 0, 0, false, 1 + q0e y.b 4, 1 + q0e y.c 4, q0e y.d (1440 * (1 + q0e y.b 4) + 1), [], [z0q next]⟩, 2, 2)
  else if k = 4 then (⟨4, [], 0, 0, 0, 0, false, 0, 0, q0e y.b 3000, [], [z0q next]⟩, 2, 2)
  else if k = 5 ∨ k = 6 then
   let s := q1p (q38 j x) y at_ most (z0f (q38 j x) y at_ most (2 + q0e y.b 3) 4 0)
   (⟨k, [], 0, 0, 0, 0, false, 0, 0, 0, if k = 6 then s.cents else [], s.kids⟩, s.used, s.count)
  else (z0q y, 1, 1)
def q9q (x : List A5) : q06 := (q38 3 x 0 9).1
end Go.SX
namespace Go.SX
open Go.Proofs
set_option maxHeartbeats 400000000
set_option maxRecDepth 100000
section
variable {C : Cod} {P : Program} {D : q09 C} {tab : Tab C} {Hp : List (HS C)} {ret : SV C}
theorem fzL {θ : List (Option Nat)} {c o n off len : Nat} {u : C.U} {ys xs : List (C.El u)} (h1 : q0r Hp c = .rows u xs := by rfl) (h2 : o = 0 := by rfl) (h3 : n = C.n u := by rfl) (h4 : off + len ≤ xs.length := by first | (simp; done) | (simp; omega) | omega)
  (h5 : ys = (xs.drop off).take len := by (simp only [List.drop_zero]; exact (List.take_of_length_le (by first | omega | (simp; omega))).symm)) (h6 : inO θ c = false := by rfl) : qg5 Hp θ c o n off len u ys := ⟨xs, h1, h2, h3, h4, h5, h6⟩
theorem vwL {θ : List (Option Nat)} {l : Option (List (SV C))} (h : yb1 Hp θ ret l := by first | ((repeat' (first | exact trivial | exact rfl | refine And.intro ?_ ?_ | exact fzV | exact fzL | exact fvV)); done) | fail) : y6i Hp θ ret l := ⟨h⟩
end
theorem q25 (c n : Int) (hc : -9223372036854775808 ≤ c ∧ c ≤ 9223372036854775807) (h : 0 < n) : q07 Tryz.prog Dc 36 [iS c, iS n] [] (iS (q0e c n)) [] := by
 have e : ∀ x : Int, 0 ≤ x → x.tmod n = x % n := fun x hx => Int.tmod_eq_emod_of_nonneg hx
 unfold q0e
 by_cases hc0 : c < 0
 ·rw [if_pos hc0, ← e _ (by omega)]
  refine q00 Ax q03 Tryz.func36 (c := _) rfl Tryz.call36 60 ?_
  (repeat' ((conv => whnf); first | refine x0C (eI ?_ rfl) | (exfalso; omega) | refine spC (fun hb => ?_) fun hb => ?_ | refine saC ?_))
  all_goals first | rfl | (rw [Int.zero_sub])
 ·rw [if_neg hc0, ← e _ (by omega)]
  refine q00 Ax q03 Tryz.func36 (c := _) rfl Tryz.call36 60 ?_
  (repeat' ((conv => whnf); first | refine x0C (eI ?_ rfl) | (exfalso; omega) | refine spC (fun hb => ?_) fun hb => ?_ | refine saC ?_))
  all_goals first | rfl | (rw [Int.zero_sub])
theorem y8l (c n : Int) (hc : -9223372036854775808 ≤ c ∧ c ≤ 9223372036854775807) (h : 0 < n) : q07 Tryz.prog Dc 13 [iS c, iS n] [] (iS (q0e c n)) [] := by
 have e : ∀ x : Int, 0 ≤ x → x.tmod n = x % n := fun x hx => Int.tmod_eq_emod_of_nonneg hx
 unfold q0e
 by_cases hc0 : c < 0
 ·rw [if_pos hc0, ← e _ (by omega)]
  refine q00 Ax q03 Tryz.func13 (c := _) rfl Tryz.call13 60 ?_
  (repeat' ((conv => whnf); first | refine x0C (eI ?_ rfl) | (exfalso; omega) | refine spC (fun hb => ?_) fun hb => ?_ | refine saC ?_))
  all_goals first | rfl | (rw [Int.zero_sub])
 ·rw [if_neg hc0, ← e _ (by omega)]
  refine q00 Ax q03 Tryz.func13 (c := _) rfl Tryz.call13 60 ?_
  (repeat' ((conv => whnf); first | refine x0C (eI ?_ rfl) | (exfalso; omega) | refine spC (fun hb => ?_) fun hb => ?_ | refine saC ?_))
  all_goals first | rfl | (rw [Int.zero_sub])
def I64 (c : Int) : Prop := -9223372036854775808 ≤ c ∧ c ≤ 9223372036854775807
@[reducible] def a5A (x : A5) : SV Cd := .agg [iS x.a, iS x.b, iS x.c, iS x.d, iS x.e]
structure z41 (x : A5) : Prop where
 a : I64 x.a
 b : I64 x.b
 c : I64 x.c
 d : I64 x.d
 e : I64 x.e
theorem q8j {c n : Int} (h : -9223372036854775808 ≤ c ∧ c ≤ 9223372036854775807) (hn : 1 < n) : -9223372036854775808 ≤ c.tdiv n ∧ c.tdiv n ≤ 9223372036854775807 := by
 rcases Int.le_total 0 c with h0 | h0
 ·rw [Int.tdiv_eq_ediv_of_nonneg h0]
  have := Int.ediv_nonneg h0 (show 0 ≤ n by omega)
  have := Int.ediv_le_self n h0
  omega
 ·have e : c.tdiv n = -((-c) / n) := by
   have := Int.tdiv_eq_ediv_of_nonneg (a := -c) (b := n) (by omega)
   rw [← this, Int.neg_tdiv, Int.neg_neg]
  rw [e]
  have h1 := Int.ediv_nonneg (show 0 ≤ -c by omega) (show 0 ≤ n by omega)
  have h2 := Int.ediv_le_self n (show 0 ≤ -c by omega)
  omega
theorem y9q (x : A5) (hx : z41 x) : q07 Tryz.prog Dc 85 [a5A x] [] (q0m (z0q x)) [] := by
 obtain ⟨ha, hb', hc, hd, he⟩ := hx
 unfold I64 at *
 have hda := q8j (n := 48) ha (by omega)
 have hdb := q8j (n := 24) hb' (by omega)
 have hde := q8j (n := 40) he (by omega)
 have p1 := q25 (x.b.tdiv 24) 3 hdb (by omega)
 have p2 := q25 (x.a.tdiv 48) 3 hda (by omega)
 have p3 := q25 x.a 48 ha (by omega)
 have p4 := q25 x.b 24 hb' (by omega)
 have p5 := q25 x.c 3 hc (by omega)
 have p6 := q25 x.c 48 hc (by omega)
 have p7 := q25 x.c 3000 hc (by omega)
 have p8 := q25 x.d 5000 hd (by omega)
 have p9 := q25 x.e 40 he (by omega)
 have p10 := q25 (x.e.tdiv 40) 51 hde (by omega)
 have p11 := q25 x.d 2 hd (by omega)
 have b1 := q0g (c := x.b.tdiv 24) (n := 3) (by omega)
 have b2 := q0g (c := x.a.tdiv 48) (n := 3) (by omega)
 have b3 := q0g (c := x.a) (n := 48) (by omega)
 have b4 := q0g (c := x.b) (n := 24) (by omega)
 have b6 := q0g (c := x.c) (n := 48) (by omega)
 have b7 := q0g (c := x.c) (n := 3000) (by omega)
 have b8 := q0g (c := x.d) (n := 5000) (by omega)
 have b9 := q0g (c := x.e) (n := 40) (by omega)
 have b10 := q0g (c := x.e.tdiv 40) (n := 51) (by omega)
 refine q00 Ax q03 Tryz.func85 (c := _) rfl Tryz.call85 400 ?_
 (repeat' ((conv => whnf); first | refine saC ?_))
 refine q0u (fun y : Nat => [(4, iS y)]) (fun y => [(2, .rows U.int (q80 x (q0e (x.a.tdiv 48) 3 + 1).toNat y))]) (fun y => (y : Int) ≤ q0e (x.b.tdiv 24) 3 + 1) (fun y => (q0e (x.b.tdiv 24) 3 + 1).toNat - y) 0 (by omega) (by exact bkI) ?_
 intro y hy K hK
 have hyl := z59 x (q0e (x.a.tdiv 48) 3 + 1).toNat y
 rcases Int.lt_or_le (q0e (x.b.tdiv 24) 3) y with hge | hlt
 ·have hye : (q0e (x.b.tdiv 24) 3 + 1).toNat = y := by omega
  unfold z0q qn4
  rw [hye]
  generalize q80 x (q0e (x.a.tdiv 48) 3 + 1).toNat y = R at *
  by_cases h5 : q0e x.c 3 = 0
  ·rw [if_pos h5]
   have hol := qr3 R (q0e x.b 24).toNat (q0e x.c 48)
   unfold zl7 at hol ⊢
   rw [← Nat.zero_add (q0e x.b 24).toNat] at hol ⊢
   (repeat' ((conv => whnf); first | (exfalso; omega) | refine cpC (p1) ?_ | refine dpC (p4) ?_ | refine cpC (p5) ?_ | refine dpC (p6) ?_ | refine cpC (p7) ?_ | refine dpC (p8) ?_ | refine cpC (p9) ?_ | refine dpC (p10) ?_ | refine cpC (p11) ?_ | refine x0C ?_ | refine spC (fun hb => ?_) fun hb => ?_ | refine taC ?_ | refine saC ?_ | refine q02 mixed ?_))
   all_goals exact vwL
  ·rw [if_neg h5]
   (repeat' ((conv => whnf); first | (exfalso; omega) | refine cpC (p1) ?_ | refine cpC (p5) ?_ | refine cpC (p7) ?_ | refine dpC (p8) ?_ | refine cpC (p9) ?_ | refine dpC (p10) ?_ | refine cpC (p11) ?_ | refine x0C ?_ | refine spC (fun hb => ?_) fun hb => ?_ | refine taC ?_ | refine saC ?_ | refine q02 mixed ?_))
   all_goals exact vwL
 ·(repeat' ((conv => whnf); first | (exfalso; omega) | refine cpC (p1) ?_ | refine spC (fun hb => ?_) fun hb => ?_ | refine saC ?_))
  refine q0u (fun k : Nat => [(5, iS k)]) (fun k => [(2, .rows U.int (qp7 x y k (q80 x (q0e (x.a.tdiv 48) 3 + 1).toNat y)))]) (fun k => (k : Int) ≤ q0e (x.a.tdiv 48) 3 + 1) (fun k => (q0e (x.a.tdiv 48) 3 + 1).toNat - k) 0 (by omega) (by exact bkI) ?_
  intro k hk K2 hK2
  have hkl := z04 x y k (q80 x (q0e (x.a.tdiv 48) 3 + 1).toNat y)
  rw [hyl] at hkl
  rcases Int.lt_or_le (q0e (x.a.tdiv 48) 3) k with hge2 | hlt2
  ·have hke : (q0e (x.a.tdiv 48) 3 + 1).toNat = k := by omega
   have hs := ql4 x (q0e (x.a.tdiv 48) 3 + 1).toNat y
   rw [show qp7 x y k (q80 x (q0e (x.a.tdiv 48) 3 + 1).toNat y) = q80 x (q0e (x.a.tdiv 48) 3 + 1).toNat (y + 1) by rw [hs]; rw [hke]]
   (repeat' ((conv => whnf); first | (exfalso; omega) | refine cpC (p2) ?_ | refine hK (y + 1) [some 0, some 1, some 2, some 3] _ _ ⟨by omega⟩ ⟨by omega⟩ (by exact bkI) | refine spC (fun hb => ?_) fun hb => ?_ | refine saC ?_))
  ·have ht : (q0e x.a 48 + (k : Int)).tmod 48 = (q0e x.a 48 + (k : Int)) % 48 := Int.tmod_eq_emod_of_nonneg (by omega)
   have ht2 : 0 ≤ (q0e x.a 48 + (k : Int)).tmod 48 ∧ (q0e x.a 48 + (k : Int)).tmod 48 < 48 := by rw [ht]; omega
   have hs := qm5 x y k (q80 x (q0e (x.a.tdiv 48) 3 + 1).toNat y)
   generalize qp7 x y k (q80 x (q0e (x.a.tdiv 48) 3 + 1).toNat y) = R at *
   have hm : 0 ≤ min 23 (q0e x.b 24 + (y : Int)) ∧ min 23 (q0e x.b 24 + (y : Int)) < 24 := by omega
   have e1 : R.set (0 + (min 23 (q0e x.b 24 + (y : Int))).toNat) (q1l .or .i64 (R.getD (0 + (min 23 (q0e x.b 24 + (y : Int))).toNat) (Cd.dflt U.int)) (q4p .i64 1 ((q0e x.a 48 + (k : Int)).tmod 48))) = qp7 x y (k + 1) (q80 x (q0e (x.a.tdiv 48) 3 + 1).toNat y) := by
    rw [hs, Nat.zero_add]; rfl
   (repeat' ((conv => whnf); first | (exfalso; omega) | refine cpC (p2) ?_ | refine dpC (p3) ?_ | refine dpC (p4) ?_ | refine hK2 (k + 1) [some 0, some 1, some 2, some 3] _ _ ⟨by omega⟩ ⟨by omega⟩ (by exact bkI) | refine spC (fun hb => ?_) fun hb => ?_ | refine taC ?_ | refine saC ?_ | refine q02 mixed ?_))
end Go.SX
namespace Go.SX
theorem z6x : ∀ (l : List q06) (k : q06) (d a b : Int), sizeL l d = some a → q2j k d = some b → sizeL (l ++ [k]) d = some (a + b)
 | [], k, d, a, b, h1, h2 => by
  rw [sizeL] at h1; injection h1 with h1
  rw [List.nil_append, sizeL, h2]
  simp only [sizeL]
  congr 1; omega
 | x :: l, k, d, a, b, h1, h2 => by
  rw [sizeL] at h1
  rw [List.cons_append, sizeL]
  cases hx : q2j x d with
  | none => rw [hx] at h1; cases h1
  | some m =>
   rw [hx] at h1
   dsimp only at h1 ⊢
   cases hl : sizeL l d with
   | none => rw [hl] at h1; cases h1
   | some c =>
    rw [hl] at h1
    injection h1 with h1
    rw [z6x l k d c b hl h2]
    dsimp only
    congr 1; omega
structure zb4 (j : Nat) (most : Int) (r : q06 × Int × Int) : Prop where
 size : q2j r.1 (4 - j) = some r.2.2
 used : r.2.1 = r.2.2
 pos : 1 ≤ r.2.2
 le : r.2.2 ≤ most
 kind : 1 ≤ r.1.kind ∧ r.1.kind ≤ 6
structure z5n (j : Nat) (most : Int) (i : Nat) (s : y7x) : Prop where
 kl : s.kids.length = i
 cl : s.cents.length = i
 size : sizeL s.kids (4 - j) = some (s.count - 1)
 used : s.used = s.count
 low : 1 ≤ s.count ∧ (i : Int) + 1 ≤ s.count
 high : s.count + (if i ≤ 1 then 1 else 0) ≤ most
 cents : ∀ c ∈ s.cents, 0 ≤ c ∧ c ≤ 1000000000
 kinds : ∀ k ∈ s.kids, 1 ≤ k.kind ∧ k.kind ≤ 6
theorem qs5 {rec : Int → Int → q06 × Int × Int} {y : A5} {at_ most : Int} {j : Nat} (hm : 3 ≤ most) : z5n j most 0 (q1p rec y at_ most 0) := by
 refine ⟨rfl, rfl, by simp [q1p, sizeL], rfl, by simp [q1p], ?_, fun c h => (by cases h), fun c h => (by cases h)⟩
 simp [q1p]; omega
theorem z3c {rec : Int → Int → q06 × Int × Int} {y : A5} {at_ most many : Int} {j : Nat} (hm : 3 ≤ most) (hr : ∀ (a m : Int), 1 ≤ m → a + m ≤ at_ + most → at_ < a → zb4 j m (rec a m)) {i : Nat} (h : z5n j most i (q1p rec y at_ most i)) (hg : goB rec y at_ most many i = true) : z5n j most (i + 1) (q1p rec y at_ most (i + 1)) := by
 unfold goB at hg
 simp only [Bool.and_eq_true, Bool.or_eq_true, decide_eq_true_eq] at hg
 have hh := h.high
 have hu := h.used
 have hlo := h.low
 have hone : 1 ≤ most - (q1p rec y at_ most i).count - max 0 (1 - (i : Int)) := by
  rcases Nat.lt_or_ge i 1 with h0 | h0
  ·obtain rfl : i = 0 := by omega
   have : (q1p rec y at_ most 0).count = 1 := rfl
   omega
  ·rcases Nat.lt_or_ge i 2 with h1 | h1
   ·rw [if_pos (by omega)] at hh; omega
   ·rcases hg.2 with h2 | h2
    ·omega
    ·omega
 have hk := hr (at_ + (q1p rec y at_ most i).used) (most - (q1p rec y at_ most i).count - max 0 (1 - (i : Int))) hone (by omega) (by omega)
 have hp := hk.pos
 have hl := hk.le
 refine ⟨by simp [q1p, h.kl], by simp [q1p, h.cl], ?_, ?_, ?_, ?_, fun c hc => ?_, fun k hc => ?_⟩
 ·simp only [q1p]
  rw [z6x _ _ _ _ _ h.size hk.size]
  congr 1; omega
 ·have := hk.used
  simp only [q1p]; omega
 ·simp only [q1p]; omega
 ·have h0 : i = 0 → (q1p rec y at_ most i).count = 1 := fun e => by subst e; rfl
  simp only [q1p]
  split <;> omega
 ·simp only [q1p] at hc
  rcases List.mem_append.1 hc with hc | hc
  ·exact h.cents c hc
  ·rw [List.mem_singleton.1 hc]
   have := q0g (c := IntKind.i64.wrap (y.c + IntKind.i64.wrap ((i : Int) * y.d))) (n := 1000) (by omega)
   omega
 ·simp only [q1p] at hc
  rcases List.mem_append.1 hc with hc | hc
  ·exact h.kinds k hc
  ·rw [List.mem_singleton.1 hc]; exact hk.kind
theorem y50 {rec : Int → Int → q06 × Int × Int} {y : A5} {at_ most many : Int} {j : Nat} (hm : 3 ≤ most) (hmany : 2 ≤ many ∧ many ≤ 4) (hr : ∀ (a m : Int), 1 ≤ m → a + m ≤ at_ + most → at_ < a → zb4 j m (rec a m)) :
  ∃ e, z0f rec y at_ most many 4 0 = e ∧ 2 ≤ e ∧ e ≤ 4 ∧ z5n j most e (q1p rec y at_ most e) := by
 have key : ∀ f i, z5n j most i (q1p rec y at_ most i) → i + f = 4 → ∃ e, z0f rec y at_ most many f i = e ∧ i ≤ e ∧ e ≤ 4 ∧ z5n j most e (q1p rec y at_ most e) ∧ (e < 4 → goB rec y at_ most many e = false) := by
  intro f
  induction f with
  | zero => intro i h hi; exact ⟨i, rfl, Nat.le_refl _, by omega, h, fun h => by omega⟩
  | succ f ih =>
   intro i h hi
   rw [z0f]
   cases hg : goB rec y at_ most many i with
   | false => exact ⟨i, rfl, Nat.le_refl _, by omega, h, fun _ => hg⟩
   | true =>
    obtain ⟨e, h1, h2, h3⟩ := ih (i + 1) (z3c hm hr h hg) (by omega)
    exact ⟨e, by simpa using h1, by omega, h3⟩
 obtain ⟨e, h1, h2, h3, h4, h5⟩ := key 4 0 (qs5 hm) rfl
 refine ⟨e, h1, ?_, h3, h4⟩
 rcases Nat.lt_or_ge e 2 with hlt | hge
 ·have := h5 (by omega)
  unfold goB at this
  rw [decide_eq_true (show (e : Int) < many by omega), decide_eq_true (show (e : Int) < 2 by omega)] at this
  cases this
 ·exact hge
theorem y0d (j : Nat) (x : List A5) (at_ most : Int) : 1 ≤ qq2 j x at_ most ∧ qq2 j x at_ most ≤ 6 ∧ (qq2 j x at_ most ≠ 1 → j ≠ 0 ∧ 2 ≤ most ∧ at_ + 1 < x.length) ∧ (5 ≤ qq2 j x at_ most → 3 ≤ most) := by
 have := q0g (c := (y5 x at_).a.tdiv 144) (n := 6) (by omega)
 unfold qq2
 split
 ·omega
 ·rename_i h
  simp only [not_or, not_and] at h
  omega
theorem z3e : ∀ (j : Nat) (x : List A5) (at_ most : Int), j ≤ 3 → 1 ≤ most → zb4 j most (q38 j x at_ most)
 | 0, x, at_, most, hj, hm => ⟨by rw [q38]; exact qv4 _ (by omega), rfl, by simp [q38], by simp [q38]; omega, by simp [q38, z0q]⟩
 | j + 1, x, at_, most, hj, hm => by
  obtain ⟨hk1, hk6, hk, hk5⟩ := y0d (j + 1) x at_ most
  have size_one : ∀ g : q06, okB g = true → (∃ z, g.kids = [z0q z]) → q2j g (4 - ((j + 1 : Nat) : Int)) = some 2 := fun g h ⟨z, hz⟩ => by
   rw [q3g, h, decide_eq_false (by omega), hz]
   simp only [Bool.false_or, Bool.not_true, Bool.false_eq_true, if_false]
   rw [sizeL, qv4 z (by omega)]
   simp [sizeL]
  rw [q38]
  dsimp only
  split
  ·rename_i e
   have h2 := (hk (by omega)).2.1
   have b1 := q0g (c := (y5 x at_).b) (n := 8) (by omega)
   have b2 := q0g (c := (y5 x at_).c) (n := 3000) (by omega)
   refine ⟨size_one _ ?_ ⟨_, rfl⟩, rfl, by show (1 : Int) ≤ 2; omega, h2, by simp⟩
   unfold okB q3s q77 qp5 q35 q6u q48 q1m
   simp [q0f, z0q]
   omega
  ·split
   ·rename_i e
    have h2 := (hk (by omega)).2.1
    have b1 := q0g (c := (y5 x at_).b) (n := 4) (by omega)
    have b2 := q0g (c := (y5 x at_).c) (n := 4) (by omega)
    have b3 := q0g (c := (y5 x at_).d) (n := 1440 * (1 + q0e (y5 x at_).b 4) + 1) (by omega)
    have b4 := q0g (c := (y5 x at_).e) (n := 3000) (by omega)
    refine ⟨size_one _ ?_ ⟨_, rfl⟩, rfl, by show (1 : Int) ≤ 2; omega, h2, by simp⟩
    unfold okB q3s q77 qp5 q35 q6u q48 q1m
    simp [q0f, z0q]
    omega
   ·split
    ·rename_i e
     have h2 := (hk (by omega)).2.1
     have b1 := q0g (c := (y5 x at_).b) (n := 3000) (by omega)
     refine ⟨size_one _ ?_ ⟨_, rfl⟩, rfl, by show (1 : Int) ≤ 2; omega, h2, by simp⟩
     unfold okB q3s q77 qp5 q35 q6u q48 q1m
     simp [q0f, z0q]
     omega
    ·split
     ·rename_i e
      have h3 := hk5 (by omega)
      have b1 := q0g (c := (y5 x at_).b) (n := 3) (by omega)
      obtain ⟨e', h4, h5, h6, h7⟩ := y50 (rec := q38 j x) (y := y5 x at_) (at_ := at_) (most := most) (many := 2 + q0e (y5 x at_).b 3) (j := j) h3 (by omega) fun a m hm _ _ => z3e j x a m (by omega) hm
      rw [h4]
      generalize q1p (q38 j x) (y5 x at_) at_ most e' = s at h7 ⊢
      have hlow := h7.low
      have hhi := h7.high
      have hhi : s.count ≤ most := by split at hhi <;> omega
      have hany : s.kids.any (fun z => decide ((6 : Int) < z.kind)) = false := by
       rw [List.any_eq_false]
       intro z hz
       have := (h7.kinds z hz).2
       simp; omega
      have hcents : s.cents.any (fun n => !inB n 0 1000000000) = false := by
       rw [List.any_eq_false]
       intro z hz
       have := h7.cents z hz
       rw [(q0f z 0 1000000000).2 this]; simp
      refine ⟨?_, h7.used, by show 1 ≤ s.count; omega, by show s.count ≤ most; omega, by rcases e with e | e <;> rw [e] <;> simp⟩
      show q2j _ _ = some s.count
      have hok : okB ⟨qq2 (j + 1) x at_ most, [], 0, 0, 0, 0, false, 0, 0, 0, if qq2 (j + 1) x at_ most = 6 then s.cents else [], s.kids⟩ = true := by
       have hkl := h7.kl
       have hcl := h7.cl
       rcases e with e | e
       ·rw [e]
        unfold okB q3s q77 qp5 q35 q6u q48 q1m
        simp [q0f, hany, hkl]
        (repeat' apply And.intro) <;> first | omega | exact fun z hz => (h7.kinds z hz).2
       ·rw [e]
        unfold okB q3s q77 qp5 q35 q6u q48 q1m
        simp [q0f, hany, hkl, hcl]
        (repeat' apply And.intro) <;> first | omega | exact fun z hz => h7.cents z hz | exact fun z hz => (h7.kinds z hz).2
      rw [q3g, hok, decide_eq_false (by omega)]
      simp only [Bool.false_or, Bool.not_true, Bool.false_eq_true, if_false]
      rw [show (4 - ((j + 1 : Nat) : Int) + 1) = 4 - (j : Int) by omega, h7.size]
      dsimp only
      congr 1; omega
     ·exact ⟨qv4 _ (by omega), rfl, by show (1 : Int) ≤ 1; omega, hm, by simp [z0q]⟩
theorem zg9 (x : List A5) : q2r (q9q x) = true := by
 have h := z3e 3 x 0 9 (by omega) (by omega)
 unfold q9q q2r
 have hs := h.size
 rw [show (4 - ((3 : Nat) : Int)) = 1 by omega] at hs
 rw [hs]
 have := h.le
 exact decide_eq_true (by omega)
end Go.SX
namespace Go.SX
theorem zp3 {g : q06} (h : okB g = true) : (1 ≤ g.kind ∧ g.kind ≤ 6) ∧ qp5 g = true ∧ q6u g = true ∧ q48 g = true := by
 unfold okB q35 at h
 simp only [Bool.and_eq_true, q0f] at h
 exact ⟨h.1.1.1, h.1.2, h.2.1.1.1, h.2.1.1.2⟩
theorem z2q {g : q06} {d n : Int} (h : q2j g d = some n) : 1 ≤ n := by
 have := z3p g d
 rw [h] at this
 exact this.1
theorem qg3 : ∀ {l : List q06} {d n : Int}, sizeL l d = some n → 0 ≤ n
 | [], d, n, h => by rw [sizeL] at h; injection h with h; omega
 | k :: l, d, n, h => by
  rw [sizeL] at h
  split at h
  ·cases h
  ·rename_i m hm
   split at h
   ·cases h
   ·rename_i q hq
    injection h with h
    have := z2q hm
    have := qg3 hq
    omega
theorem z2x {g : q06} {d n : Int} (h : q2j g d = some n) : okB g = true ∧ d ≤ 4 ∧ ∃ m, sizeL g.kids (d + 1) = some m ∧ n = 1 + m := by
 rw [q3g] at h
 split at h
 ·cases h
 ·rename_i hc
  simp only [Bool.or_eq_true, decide_eq_true_eq, Bool.not_eq_true', not_or, Bool.not_eq_false] at hc
  split at h
  ·cases h
  ·rename_i m hm
   injection h with h
   exact ⟨hc.2, by omega, m, hm, h.symm⟩
end Go.SX
namespace Go.SX
end Go.SX
namespace Go.SX
end Go.SX
namespace Go.SX
end Go.SX
namespace Go.SX
theorem z23 : ∀ {ks : List q06} {d n : Int} (i : Nat), sizeL ks d = some n → ∃ m, sizeL (ks.take i) d = some m ∧ m ≤ n
 | ks, d, n, 0, h => ⟨0, by rw [List.take_zero, sizeL], qg3 h⟩
 | [], d, n, i + 1, h => ⟨n, h, Int.le_refl _⟩
 | k :: ks, d, n, i + 1, h => by
  rw [sizeL] at h
  split at h
  ·cases h
  ·rename_i m hm
   split at h
   ·cases h
   ·rename_i x hx
    injection h with h
    obtain ⟨y, h1, h2⟩ := z23 i hx
    refine ⟨m + y, ?_, by omega⟩
    rw [List.take_succ_cons, sizeL, hm, h1]
theorem z1d : ∀ {ks : List q06} {d n : Int} {k : q06}, sizeL ks d = some n → k ∈ ks → ∃ m, q2j k d = some m ∧ m ≤ n
 | [], d, n, k, h, hk => by cases hk
 | a :: ks, d, n, k, h, hk => by
  rw [sizeL] at h
  split at h
  ·cases h
  ·rename_i m hm
   split at h
   ·cases h
   ·rename_i x hx
    injection h with h
    have h1 := qg3 hx
    have h2 := z2q hm
    rcases List.mem_cons.1 hk with rfl | hk
    ·exact ⟨m, hm, by omega⟩
    ·obtain ⟨y, h3, h4⟩ := z1d hx hk
     exact ⟨y, h3, by omega⟩
end Go.SX
