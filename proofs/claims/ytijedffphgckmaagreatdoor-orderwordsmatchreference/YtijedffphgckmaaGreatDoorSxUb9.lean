/-
  Walks: Ub9, Df, Uc0, Uc1, Uc2, Tp8, Td4, Tp9, Tp4: what single functions of the program compute.
-/
import Derived.Test.YtijedffphgckmaaGreatDoorSxUb0
import Derived.Test.YtijedffphgckmaaGreatDoorSxUa5
import Derived.RecoverIn
import Derived.Test.YtijedffphgckmaaGreatDoorSxUa1
set_option linter.unusedVariables false
set_option linter.unusedSimpArgs false
namespace Go.SX
open Go.Proofs
set_option maxHeartbeats 4000000
set_option maxRecDepth 100000
theorem rmE {α : Type} {f : FuncId} {args : List (SV Cd)} {ws : List Wd} {a m : Int} {X : List (HS Cd)} {S S' : Rs α} {ret : α → SV Cd} {Pr : α → Prop} (h : RM f args ws a m X S ret Pr) (e : S' = S) : RM f args ws a m X S' ret Pr := e ▸ h
theorem rgoal {ws : List Wd} (hn : WsOK ws) : ∀ (n : Nat) (of_ dp : Int), 1 ≤ n → 1 ≤ dp → dp + n = 5 → GoalRM ws of_ dp (goalP ws n of_ dp)
 | 0, of_, dp, h, _, _ => absurd h (by omega)
 | n + 1, of_, dp, _, h1, h5 => by
  intro a m hi
  have hd : 1 ≤ dp ∧ dp ≤ 4 := by omega
  have ih : ∀ k, ¬ dp = 4 → GoalRM ws k (dp + 1) (goalP ws n k (dp + 1)) := fun k hk => rgoal hn n k (dp + 1) (by omega) (by omega) (by omega)
  have hlt : ∀ w, w ≠ [32] → peekW ws a = w → a < ws.length := fun w hw e => peekW_lt hi e hw
  have ha0 := hi.a0
  have hm0 := hi.m0
  have hm1 := hi.m1
  by_cases w1 : peekW ws a = w_see
  ·have := hlt _ (by decide) w1
   refine rmE (rgoal_see of_ dp hd hi hn w1 (seeP ws (a + 1) (m - 0)) fun hc => rsee dp ⟨by omega, by omega, by omega, by omega⟩ hn) ?_
   rw [goalP, w1]; rfl
  by_cases w2 : peekW ws a = w_pair
  ·have := hlt _ (by decide) w2
   refine rmE (rgoal_pair of_ dp hd hi hn w2 (pairP ws (goalP ws n 2 (dp + 1)) (a + 1) (m - 1)) fun hc => rpair dp hd (ih 2 (by omega)) ⟨by omega, by omega, by omega, by omega⟩ hn) ?_
   rw [goalP, w2]; rfl
  by_cases w3 : peekW ws a = w_every
  ·have := hlt _ (by decide) w3
   refine rmE (rgoal_every of_ dp hd hi hn w3 (everyP ws (goalP ws n 3 (dp + 1)) (a + 1) (m - 1)) fun hc => revery dp hd (ih 3 (by omega)) ⟨by omega, by omega, by omega, by omega⟩ hn) ?_
   rw [goalP, w3]; rfl
  by_cases w4 : peekW ws a = w_deliver
  ·have := hlt _ (by decide) w4
   refine rmE (rgoal_deliver of_ dp hd hi hn w4 (delP ws (goalP ws n 4 (dp + 1)) (a + 1) (m - 1)) fun hc => rdeliver dp hd (ih 4 (by omega)) ⟨by omega, by omega, by omega, by omega⟩ hn) ?_
   rw [goalP, w4]; rfl
  by_cases w5 : peekW ws a = w_all
  ·have := hlt _ (by decide) w5
   refine rmE (rgoal_all of_ dp hd hi hn w5 (listP ws (goalP ws n 5 (dp + 1)) 5 (a + 1) (m - 2)) fun hc => rall dp hd (ih 5 (by omega)) ⟨by omega, by omega, by omega, by omega⟩ hn) ?_
   rw [goalP, w5]; rfl
  by_cases w6 : peekW ws a = w_any
  ·have := hlt _ (by decide) w6
   refine rmE (rgoal_any of_ dp hd hi hn w6 (listP ws (goalP ws n 6 (dp + 1)) 6 (a + 1) (m - 2)) fun hc => rany dp hd (ih 6 (by omega)) ⟨by omega, by omega, by omega, by omega⟩ hn) ?_
   rw [goalP, w6]; rfl
  have hf : formW (peekW ws a) = none := by unfold formW; rw [if_neg w1, if_neg w2, if_neg w3, if_neg w4, if_neg w5, if_neg w6]
  have e : goalP ws (n + 1) of_ dp a m = .no a m := by rw [goalP, hf]
  rw [e]
  exact ⟨fun x a' m' h => (by cases h), fun a' m' h => by injection h with h1 h2; subst h1 h2; simpa using rgoal_no of_ dp hd hi hn hf, hi.refl, fun x a' m' h => (by cases h)⟩
theorem groupP_bd {ws : List Wd} {a m : Int} (h : InW ws a m) : (groupP ws a m).Bd ws a m := by
 unfold groupP
 split
 ·rename_i e
  have := peekW_lt h e (by decide)
  have := h.a0
  exact ⟨by omega, by omega, h.m0, Int.le_refl _⟩
 ·exact numP_bd h
theorem orderP_bd {ws : List Wd} {a m : Int} (h : InW ws a m) : (orderP ws a m).Bd ws a m := by
 unfold orderP
 refine bd_bind h (mustW_bd [w_order] h (by decide)) fun _ _ _ _ h => ?_
 refine bd_bind h (numP_bd h) fun _ _ _ _ h => ?_
 refine bd_bind h (mustW_bd [w_by] h (by decide)) fun _ _ _ _ h => ?_
 refine bd_bind h (numP_bd h) fun _ _ _ _ h => ?_
 refine bd_bind h (mustW_bd [w_for] h (by decide)) fun _ _ _ _ h => ?_
 refine bd_bind h (numP_bd h) fun _ _ _ _ h => ?_
 refine bd_bind h (mustW_bd [w_group] h (by decide)) fun _ _ _ _ h => ?_
 refine bd_bind h (groupP_bd h) fun _ _ _ _ h => ?_
 refine bd_bind h (wordP_bd h (by decide) (by decide)) fun _ _ _ _ h => ?_
 refine bd_bind h (mustW_bd [w_known] h (by decide)) fun _ _ _ _ h => ?_
 refine bd_bind h (numP_bd h) fun _ _ _ _ h => ?_
 refine bd_bind h (mustW_bd [w_due] h (by decide)) fun _ _ _ _ h => ?_
 refine bd_bind h (numP_bd h) fun _ _ _ _ h => ?_
 refine bd_bind h (mustW_bd [w_colon] h (by decide)) fun _ _ _ _ h => ?_
 refine bd_bind h (goalP_bd 4 5 1 h) fun _ _ _ _ h => ?_
 refine bd_bind h (mustW_bd [w_dot] h (by decide)) fun _ _ _ _ h => ?_
 split
 ·exact h.refl
 ·exact h.refl
theorem rorder {ws : List Wd} {a m : Int} (hi : InW ws a m) (hn : WsOK ws) : RM 52 [.ptr 0 0] ws a m [] (orderP ws a m) (fun o => ordA o) (fun _ => True) := by
 refine rm_of Tryz.func52 (c := _) rfl Tryz.call52 2000 (orderP_bd hi) (fun _ _ _ _ => trivial) ?_
 obtain ⟨S, hS⟩ : ∃ S, S = orderP ws a m := ⟨_, rfl⟩
 rw [← hS]
 unfold orderP at hS
 have hg := rgoal hn 4 5 1 (by omega) (by omega) (by omega)
 have hb2 := hn.n
 (repeat' ((conv => whnf); first | (refine rmX [some 0, some _] (rmust [w_order] (by decide) (by decide) (by assumption) hn) rfl rfl ⟨rfl, rfl, trivial⟩ (fun x a1 m1 e hi hp => ?_) (fun a1 m1 e hi => ?_) (by assumption) <;> simp only [e, Rs.bind] at hS) | (refine rmX [some 0, some _] (rmust [w_by] (by decide) (by decide) (by assumption) hn) rfl rfl ⟨rfl, rfl, trivial⟩ (fun x a1 m1 e hi hp => ?_) (fun a1 m1 e hi => ?_) (by assumption) <;> simp only [e, Rs.bind] at hS) | (refine rmX [some 0, some _] (rmust [w_for] (by decide) (by decide) (by assumption) hn) rfl rfl ⟨rfl, rfl, trivial⟩ (fun x a1 m1 e hi hp => ?_) (fun a1 m1 e hi => ?_) (by assumption) <;> simp only [e, Rs.bind] at hS) | (refine rmX [some 0, some _] (rmust [w_group] (by decide) (by decide) (by assumption) hn) rfl rfl ⟨rfl, rfl, trivial⟩ (fun x a1 m1 e hi hp => ?_) (fun a1 m1 e hi => ?_) (by assumption) <;> simp only [e, Rs.bind] at hS) | (refine rmX [some 0] (rnum _ _ (by assumption) hn) rfl rfl ⟨rfl, trivial⟩ (fun x a1 m1 e hi hp => ?_) (fun a1 m1 e hi => ?_) (by assumption) <;> simp only [e, Rs.bind] at hS) | (refine rno hS (die_end [some 0] ?_); exact hsW) | refine saC ?_))
 by_cases hgr : peekW ws a1 = w_none
 ·have hG : groupP ws a1 m1 = .ok (-1) (a1 + 1) m1 := by unfold groupP; rw [if_pos hgr]
  rw [hG] at hS
  dsimp only at hS
  have q := risT w_none hi hn hgr
  have hlt := peekW_lt hi hgr (by decide)
  have hi : InW ws (a1 + 1) m1 := ⟨by have := hi.a0; omega, by omega, hi.m0, hi.m1⟩
  (repeat' ((conv => whnf); first | (refine callh [some 0] q rfl rfl ⟨rfl, trivial⟩ ?_) | (refine rmX [some 0, some _] (rmust [w_known] (by decide) (by decide) (by assumption) hn) rfl rfl ⟨rfl, rfl, trivial⟩ (fun x a1 m1 e hi hp => ?_) (fun a1 m1 e hi => ?_) (by assumption) <;> simp only [e, Rs.bind] at hS) | (refine rmX [some 0, some _] (rmust [w_due] (by decide) (by decide) (by assumption) hn) rfl rfl ⟨rfl, rfl, trivial⟩ (fun x a1 m1 e hi hp => ?_) (fun a1 m1 e hi => ?_) (by assumption) <;> simp only [e, Rs.bind] at hS) | (refine rmX [some 0, some _] (rmust [w_colon] (by decide) (by decide) (by assumption) hn) rfl rfl ⟨rfl, rfl, trivial⟩ (fun x a1 m1 e hi hp => ?_) (fun a1 m1 e hi => ?_) (by assumption) <;> simp only [e, Rs.bind] at hS) | (refine rmX [some 0, some _] (rmust [w_dot] (by decide) (by decide) (by assumption) hn) rfl rfl ⟨rfl, rfl, trivial⟩ (fun x a1 m1 e hi hp => ?_) (fun a1 m1 e hi => ?_) (by assumption) <;> simp only [e, Rs.bind] at hS) | (refine rmX [some 0] (rnum _ _ (by assumption) hn) rfl rfl ⟨rfl, trivial⟩ (fun x a1 m1 e hi hp => ?_) (fun a1 m1 e hi => ?_) (by assumption) <;> simp only [e, Rs.bind] at hS) | (refine rmX [some 0] (hg _ _ (by assumption)) rfl rfl ⟨rfl, trivial⟩ (fun x a1 m1 e hi hp => ?_) (fun a1 m1 e hi => ?_) (by assumption) <;> simp only [e, Rs.bind] at hS) | (refine rmX [some 0] (rword w_urgent w_plain (by decide) (by decide) (by assumption) hn) rfl rfl ⟨rfl, trivial⟩ (fun x a1 m1 e hi hp => ?_) (fun a1 m1 e hi => ?_) (by assumption) <;> simp only [e, Rs.bind] at hS) | refine unit_in unitS ?_ | refine uface_in (ufaceS _) rfl ?_ | refine panic_in _ _ _ rfl (only_lit rfl) ?_ | (rw [if_pos (by assumption)] at hS; refine rno hS (die_end [some 0] ?_); exact hsW) | (refine rno hS (die_end [some 0] ?_); exact hsW) | (rw [if_neg (by assumption)] at hS; (refine rok hS (end_fn [some 0] (.inr rfl) ?_ ?_ rfl rfl); (focus first | exact vwV | (refine ⟨?_⟩; (repeat' (first | exact trivial | exact rfl | refine And.intro ?_ ?_ | exact fzV | exact fzV rfl rfl rfl (by simp) (by simp [eta_goal]) rfl | exact fvV)); done)); exact hsW)) | refine spC (fun hb => ?_) fun hb => ?_ | refine taC ?_ | refine saC ?_ | refine drawX_of mixed ?_))
 ·have hG : groupP ws a1 m1 = numP ws 0 15 a1 m1 := by unfold groupP; rw [if_neg hgr]
  rw [hG] at hS
  have q := risF w_none hi hn hgr
  (repeat' ((conv => whnf); first | (refine callh [some 0] q rfl rfl ⟨rfl, trivial⟩ ?_) | (refine rmX [some 0, some _] (rmust [w_known] (by decide) (by decide) (by assumption) hn) rfl rfl ⟨rfl, rfl, trivial⟩ (fun x a1 m1 e hi hp => ?_) (fun a1 m1 e hi => ?_) (by assumption) <;> simp only [e, Rs.bind] at hS) | (refine rmX [some 0, some _] (rmust [w_due] (by decide) (by decide) (by assumption) hn) rfl rfl ⟨rfl, rfl, trivial⟩ (fun x a1 m1 e hi hp => ?_) (fun a1 m1 e hi => ?_) (by assumption) <;> simp only [e, Rs.bind] at hS) | (refine rmX [some 0, some _] (rmust [w_colon] (by decide) (by decide) (by assumption) hn) rfl rfl ⟨rfl, rfl, trivial⟩ (fun x a1 m1 e hi hp => ?_) (fun a1 m1 e hi => ?_) (by assumption) <;> simp only [e, Rs.bind] at hS) | (refine rmX [some 0, some _] (rmust [w_dot] (by decide) (by decide) (by assumption) hn) rfl rfl ⟨rfl, rfl, trivial⟩ (fun x a1 m1 e hi hp => ?_) (fun a1 m1 e hi => ?_) (by assumption) <;> simp only [e, Rs.bind] at hS) | (refine rmX [some 0] (rnum _ _ (by assumption) hn) rfl rfl ⟨rfl, trivial⟩ (fun x a1 m1 e hi hp => ?_) (fun a1 m1 e hi => ?_) (by assumption) <;> simp only [e, Rs.bind] at hS) | (refine rmX [some 0] (hg _ _ (by assumption)) rfl rfl ⟨rfl, trivial⟩ (fun x a1 m1 e hi hp => ?_) (fun a1 m1 e hi => ?_) (by assumption) <;> simp only [e, Rs.bind] at hS) | (refine rmX [some 0] (rword w_urgent w_plain (by decide) (by decide) (by assumption) hn) rfl rfl ⟨rfl, trivial⟩ (fun x a1 m1 e hi hp => ?_) (fun a1 m1 e hi => ?_) (by assumption) <;> simp only [e, Rs.bind] at hS) | refine unit_in unitS ?_ | refine uface_in (ufaceS _) rfl ?_ | refine panic_in _ _ _ rfl (only_lit rfl) ?_ | (rw [if_pos (by assumption)] at hS; refine rno hS (die_end [some 0] ?_); exact hsW) | (refine rno hS (die_end [some 0] ?_); exact hsW) | (rw [if_neg (by assumption)] at hS; (refine rok hS (end_fn [some 0] (.inr rfl) ?_ ?_ rfl rfl); (focus first | exact vwV | (refine ⟨?_⟩; (repeat' (first | exact trivial | exact rfl | refine And.intro ?_ ?_ | exact fzV | exact fzV rfl rfl rfl (by simp) (by simp [eta_goal]) rfl | exact fvV)); done)); exact hsW)) | refine spC (fun hb => ?_) fun hb => ?_ | refine taC ?_ | refine saC ?_ | refine drawX_of mixed ?_))
end Go.SX

/-
 SX, part Df: functions that are called when another one leaves, and may recover.
-/
namespace Go.SX
open Go.RowKit
variable {C : Cod}
section
variable {P : Program} {D : Codec C} {tab : Tab C} {B : Base} {E : Env} {σ : Nat → SV C} {H : Nat → HS C} {df : List Deferred} {a : Act} {w : World} {o : Oper} {r : Option Nat}
variable {T : List (SV C)} {Hp : List (HS C)}
/-- the contract of a deferred call: how the frame that leaves stood, and stands behind it -/
structure MeetsD (P : Program) (D : Codec C) (f : FuncId) (args : List (SV C)) (H0 : List (HS C)) (u u' : FrameMode) (H1 : List (HS C)) : Prop where
 calls : ∀ w E (hm : ∀ c, H0.length ≤ c → E.β c = .fresh) vs, Sat D w E (getC H0) → DenA D w E args vs →
  CallsDIn (Fc none) 0 P f vs.toArray u w fun e u2 w' => u2 = u' ∧ ∃ E', (∃ v, e = .returned v) ∧ Sat D w' E' (getC H1) ∧ Fr ⟨w, E, fun b => ∃ c, E.β c = .loc b, H0.length, hm, [], false⟩ E' w'
def VoidPost (m0 : Nat) (H1 : List (HS C)) : Post C := fun e T Hp => (e = .normal ∨ e = .ret) ∧ ∃ θ, ViewOK Hp θ H1 m0
theorem Fr.other {ds : List Deferred} {nm : Bool} (h : Fr B E w) : Fr { B with ds := ds, nm := nm } E w := ⟨h.os, h.tape, h.output, h.size, h.same, h.late, h.newF, h.newO⟩
theorem Fr.back {ds : List Deferred} {nm : Bool} (h : Fr { B with ds := ds, nm := nm } E w) : Fr B E w := ⟨h.os, h.tape, h.output, h.size, h.same, h.late, h.newF, h.newO⟩
theorem relL_set (h : RelL D B df T Hp a w) (d : Nat) {x : SV C} {v : Value} (hd : ∀ E, Den D w E x v) : RelL D B df (setT T d x) Hp (a.put (some d) v) w := by
 obtain ⟨E, hR, hsz⟩ := h
 have := hR.put hsz (some d) (.inr (hd E))
 exact ⟨E, by rw [← show setO T (some d) x = setT T d x from rfl, getT_setO]; exact this, by rw [size_put, hsz, length_setT]⟩
theorem enter_relN {vs : List Value} {n : Nat} {args : List (SV C)} {m : Nat} {hm : ∀ c, m ≤ c → E.β c = .fresh} (hs : Sat D w E (getC Hp)) (hd : DenA D w E args vs) :
  RelL D { Base.here w E m hm with nm := true } [] (args ++ anys (n - args.length)) Hp { tmps := vs.toArray ++ Array.replicate (n - vs.toArray.size) undef, defers := [] } w := by
 have hlen := denA_length _ _ hd
 refine ⟨E, ⟨fun i => ?_, hs, Fr.here.other, rfl, Marks.nil⟩, by simp [anys_length, hlen]⟩
 rw [getT_append]
 split
 ·rename_i hi
  have := denA_getT _ _ hd i hi
  have e : (vs.toArray ++ Array.replicate (n - vs.toArray.size) undef).getD i undef = vs.getD i undef := by
   rw [Array.getD_eq_getD_getElem?, Array.getElem?_append_left (by simp; omega)]
   simp [List.getD_eq_getElem?_getD]
  rw [e]; exact this
 ·rw [getT_anys]; trivial
theorem meetsD_of_gx (A : Aux C D) (hT : TabOK P D tab) {f : FuncId} {fn : Func} {id : Nat} {o1 o2 : Oper} {rest : Code} (hf : P.funcs[f]? = some fn) (hb : fn.body = some (.seq (.region id #[o1, o2] false) rest)) (hres : fn.results = #[])
  {t7 t4 : Nat} (g1 : o1.guard = none) (d1 : o1.dst = some t7) (g2 : o2.guard = none) (d2 : o2.dst = some t4) (h7 : t7 < fn.ntmps)
  (r1 : ∀ e w, (execOp e o1).run P w = .ok .recover w) (r2 : ∀ (e : Operand → Value) w, (execOp e o2).run P w = .ok (.value (e (.tmp t7))) w)
  {v : Value} {u u' : FrameMode} (hv : v.oneCell' = true)
  (hrec : ∀ (c0 : Frame) (cs : List Frame), c0.mode = u → recoverD (c0 :: cs) = some (v, { c0 with mode := u' } :: cs) ∨ (recoverD (c0 :: cs) = none ∧ v = .nilIface ∧ u' = u))
  {args : List (SV C)} {H0 H1 : List (HS C)} (n : Nat)
  (h : forceV (setT (setT (args ++ anys (fn.ntmps - args.length)) t7 (.p (.lit v))) t4 (.p (.lit v))) fun T0 => forceL H0 fun Hp0 => gx P A tab ⟨none, [], H0.length, true⟩ (VoidPost H0.length H1) n [.code rest] T0 Hp0) : MeetsD P D f args H0 u u' H1 := by
 rw [forceV_eq, forceL_eq] at h
 refine ⟨fun w E hm vs hs hd => callsDIn_of_wpSIn hf hb trivial fun c0 cs hu => ?_⟩
 have hR0 := enter_relN (n := fn.ntmps) (m := H0.length) (hm := hm) hs hd
 have hsz : (vs.toArray ++ Array.replicate (fn.ntmps - vs.toArray.size) undef : Array Value).size = (args ++ anys (fn.ntmps - args.length)).length := by obtain ⟨_, _, h⟩ := hR0; exact h
 have hlt : t7 < (vs.toArray ++ Array.replicate (fn.ntmps - vs.toArray.size) undef : Array Value).size := by simp; omega
 have hR1 := relL_set hR0 t7 (x := .p (.lit v)) (v := v) (fun _ => by simp only [Den]; exact .lit v hv)
 have hR2 := relL_set hR1 t4 (x := .p (.lit v)) (v := v) (fun _ => by simp only [Den]; exact .lit v hv)
 refine wpSIn_seq (wpSIn_region ?_)
 obtain ⟨cs1, hcs1, hrun⟩ : ∃ cs1, cs1 = { c0 with mode := u' } :: cs ∧ ∀ next : Act → List Frame → Prop, next (({ tmps := vs.toArray ++ Array.replicate (fn.ntmps - vs.toArray.size) undef, defers := [] } : Act).put (some t7) v) cs1 →
   (match recoverD (c0 :: cs) with
    | some (v, cs') => next (({ tmps := vs.toArray ++ Array.replicate (fn.ntmps - vs.toArray.size) undef, defers := [] } : Act).put (some t7) v) cs'
    | none => next (({ tmps := vs.toArray ++ Array.replicate (fn.ntmps - vs.toArray.size) undef, defers := [] } : Act).put (some t7) .nilIface) (c0 :: cs)) := by
  rcases hrec c0 cs hu with hh | ⟨hh, rfl, rfl⟩
  ·exact ⟨_, rfl, fun next hn => by rw [hh]; exact hn⟩
  ·refine ⟨c0 :: cs, by rw [← hu], fun next hn => by rw [hh]; exact hn⟩
 have hw1 : Region.wanted o1 (yielded #[o1, o2] ({ tmps := vs.toArray ++ Array.replicate (fn.ntmps - vs.toArray.size) undef, defers := [] } : Act).tmps) = true := wanted_free g1
 have hev : (({ tmps := vs.toArray ++ Array.replicate (fn.ntmps - vs.toArray.size) undef, defers := [] } : Act).put (some t7) v).eval (.tmp t7) = v := by
  simp [Act.eval, Act.put, hlt]
  intro hx
  simp at hlt
  omega
 generalize hQQ : Exit.thenS (Code.wpSIn (Fc none) 0 P rest (bodyPostS P fn c0 cs _)) (bodyPostS P fn c0 cs _) = QQ
 show wpOpsSIn _ _ _ _ QQ [0, 1] _ _ _
 simp only [wpOpsSIn, List.getElem?_toArray, List.getElem?_cons_zero, List.getElem?_cons_succ, hw1, if_true, r1, d1]
 refine ⟨fun _ _ => trivial, hrun (fun a cs => wpOpsSIn (Fc none) 0 P #[o1, o2] QQ [1] a cs w) ?_⟩
 simp only [wpOpsSIn, List.getElem?_toArray, List.getElem?_cons_zero, List.getElem?_cons_succ, wanted_free g2, if_true, r2, d2, hev]
 refine ⟨fun _ _ => trivial, ?_⟩
 rw [← hQQ]
 show Code.wpSIn _ _ _ _ _ _ _ _
 refine wpSIn_of_wpIn rfl ?_
 have hX : CtxOK D (⟨none, [], H0.length, true⟩ : Ctx C) { Base.here w E H0.length hm with nm := true } none := ⟨rfl, fun c ri hc => by simp [lkR] at hc, trivial, rfl⟩
 refine gx_sound (r := none) (Q := fun e a' w' => bodyPostS P fn c0 cs (fun e u2 w' => u2 = u' ∧ ∃ E', (∃ v, e = .returned v) ∧ Sat D w' E' (getC H1) ∧ Fr ⟨w, E, fun b => ∃ c, E.β c = .loc b, H0.length, hm, [], false⟩ E' w') e a' cs1 w') A hT hX (fun e a w' T Hp hΦ hRL => ?_) n _ _ _ h _ _ ⟨_, hR2⟩
 obtain ⟨he, θ, h3⟩ := hΦ
 obtain ⟨df, E1, hR1, _⟩ := hRL
 obtain ⟨g1, g2, g3⟩ := view_env hR1.sat hR1.fr h3
 have hdf : a.defers = [] := by
  obtain ⟨bs, e, _, _, hn⟩ := hR1.marks
  rw [hR1.defers, e, hn rfl]
  rfl
 have key : a.defers = [] ∧ ∃ u2, cs1 = { c0 with mode := u2 } :: cs ∧ ∃ v, (results fn a.tmps).run P w' = .ok v w' ∧ u2 = u' ∧ ∃ E', (∃ v', Ending.returned v = .returned v') ∧ Sat D w' E' (getC H1) ∧ Fr ⟨w, E, fun b => ∃ c, E.β c = .loc b, H0.length, hm, [], false⟩ E' w' := by
  refine ⟨hdf, u', hcs1, .tuple #[], ?_, rfl, _, ⟨_, rfl⟩, g2, g3.back⟩
  unfold results
  simp [hres]
 rcases he with rfl | rfl
 ·exact key
 ·exact key
theorem MeetsD.at {f : FuncId} {args0 args : List (SV C)} {H0 H0' H1 H1' : List (HS C)} {u u' : FrameMode} (hM : MeetsD P D f args0 H0 u u' H1) (ρ : List (Option Nat))
  (hargs : renL ρ args0 = some args) (hH0 : renHs ρ H0 = some H0') (hat : heapAt (getC Hp) ρ H0') (θ : List (Option Nat)) (hθ : θ = ρ ++ newIds (H1.length - H0.length) (hlen Hp)) (hnd : ndO θ = true) (hle : H0.length ≤ H1.length)
  (hH1 : renHs θ H1 = some H1') (hR : Rel D B E σ (getC Hp) df a w) {vs : List Value} (hd : DenA D w E args vs) :
  CallsDIn (Fc none) 0 P f vs.toArray u w fun e u2 w' => u2 = u' ∧ ∃ E1, (∃ v, e = .returned v) ∧ Rel D B E1 σ (upHs (getC Hp) (zipW θ H1')) df a w' := by
 refine (call_coreG (XX := fun w vs R => CallsDIn (Fc none) 0 P f vs.toArray u w fun e u2 w' => u2 = u' ∧ R e w') (Ω := fun e _ _ => ∃ v, e = .returned v) (fun _ _ _ _ hm h => h.mono fun e u2 w' h => ⟨h.1, hm _ _ h.2⟩)
  (fun w E hm vs hs hd => (hM.calls w E hm vs hs hd).mono fun e u2 w' ⟨h1, E', h2, h3, h4⟩ => ⟨h1, E', h2, h3, h4⟩) ρ hargs hH0 hat θ hθ (fun k _ => getC_ge Hp _ (by rw [← hlen_eq]; omega)) hnd hle hH1 B σ df a w E hR vs hd).mono ?_
 rintro e u2 w' ⟨h1, e1, E1, h2, _, _, h3⟩
 exact ⟨h1, E1, h2, h3⟩
end
end Go.SX

namespace Go.SX
open Go.Proofs
set_option maxHeartbeats 4000000
set_option maxRecDepth 100000
theorem zero84 : ∃ i, Tryz.prog.info? 84 = some i ∧ i.zero = some (.agg #[]) ∧ i.size = 0 := by
 have : (Tryz.prog.info? 84).map (fun i => (i.zero, i.size)) = some (some (.agg #[]), 0) := by kernel_rfl
 cases h : Tryz.prog.info? 84 with
 | none => rw [h] at this; cases this
 | some i =>
  rw [h] at this
  simp only [Option.map_some, Option.some.injEq, Prod.mk.injEq] at this
  exact ⟨i, rfl, this.1, this.2⟩
theorem uassertS (x : Operand) (e : Operand → Value) (o : Oper) (w : World) (ho : o.op = .typeAssert x 20 84 true) (hx : e x = .iface 84 (.agg #[])) : (execOp e o).run Tryz.prog w = .ok (.value (.tuple #[.agg #[], .bool true])) w := by
 simp only [execOp, ho, Instr.typeAssert, Sem.run_bind, run_underlying und84, Result.andThen_ok, hx]
 simp
theorem uallocS (e : Operand → Value) (o : Oper) (w : World) (ho : o.op = .alloc 84) : (execOp e o).run Tryz.prog w = .ok (.value (.pointer (some ⟨w.heap.size, 0, none⟩))) (w.alloc (.cells #[] 84)) := by
 obtain ⟨i, h1, h2, _⟩ := zero84
 simp [execOp, ho, Instr.alloc, zeroValue, typeInfo, h1, h2, newVar, newRow, Value.cells]
theorem ustoreS (x y : Operand) (e : Operand → Value) (o : Oper) (w : World) (ad : Addr) (ho : o.op = .store 84 x y) (hx : e x = .pointer (some ad)) (hy : e y = .agg #[]) : (execOp e o).run Tryz.prog w = .ok .skip w := by
 obtain ⟨i, h1, h2, h3⟩ := zero84
 simp [execOp, ho, hx, hy, Instr.storeAt, Instr.sureAddr, storeVar, storeCells, sizeOf, typeInfo, h1, h3, Value.cells]
/-- what the deferred call holds: the reader's place, the results -/
@[reducible] def capA : List (SV Cd) := [.ptr 4 0, .ptr 0 0, .ptr 1 0, .ptr 2 0]
@[reducible] def parH (o n e : List (SV Cd)) (ws : List Wd) (a m : Int) : List (HS Cd) := [.vart none o, .vart none n, .vart none e, .vart none [wsS ws, iS a, iS m], .vart none [.ptr 3 0]]
@[reducible] def ordC (o : Order) : List (SV Cd) := [iS o.id, iS o.owner, iS o.goal.kind, lS o.goal.rows, iS o.goal.from_, iS o.goal.to_, iS o.goal.low, iS o.goal.high, bS o.goal.clear, iS o.goal.days, iS o.goal.times, iS o.goal.within, lS o.goal.cents, .p (.dsl U.goal o.goal.kids), iS o.price, iS o.group, bS o.urgent, iS o.known, iS o.due]
@[reducible] def ordZ : List (SV Cd) := [iS 0, iS 0, iS 0, nilS, iS 0, iS 0, iS 0, iS 0, bS false, iS 0, iS 0, iS 0, nilS, nilS, iS 0, iS 0, bS false, iS 0, iS 0]
def chR : List PanicEntry := [{ v := .iface 84 (.agg #[]), recovered := true }]
theorem dret (o : Order) (n e : Int) (ws : List Wd) (a m : Int) : MeetsD Tryz.prog Dc 51 capA (parH (ordC o) [iS n] [iS e] ws a m) .returning .returning (parH (ordC o) [iS n] [iS e] ws a m) := by
 refine meetsD_of_gx Ax tab_ok (o1 := _) (o2 := _) (rest := _) (id := _) Tryz.func51 rfl rfl (t7 := 7) (t4 := 4) rfl rfl rfl rfl (by decide) (fun _ _ => rfl) (fun _ _ => rfl) (v := .nilIface) rfl (fun c0 cs h => .inr ⟨by simp [recoverD, h], rfl, rfl⟩) 200 ?_
 (repeat' ((conv => whnf); first | (exfalso; omega) | exact ⟨[some 0, some 1, some 2, some 3, some 4], ⟨hsW, rfl, rfl⟩⟩ | refine x0C ?_ | refine spC (fun hb => ?_) fun hb => ?_ | refine nilC (fun hb => ?_) ?_ | refine taC ?_ | refine saC ?_ | exact sdV | refine side_and ?_ ?_ | refine drawX_of mixed ?_))
theorem dpan (ws : List Wd) (a m : Int) : MeetsD Tryz.prog Dc 51 capA (parH ordZ [iS 0] [iS 0] ws a m) (.panicking chS) (.panicking chR) (parH ordZ [iS a] [iS 130] ws a m) := by
 refine meetsD_of_gx Ax tab_ok (o1 := _) (o2 := _) (rest := _) (id := _) Tryz.func51 rfl rfl (t7 := 7) (t4 := 4) rfl rfl rfl rfl (by decide) (fun _ _ => rfl) (fun _ _ => rfl) (v := .iface 84 (.agg #[])) rfl (fun c0 cs h => .inl (by simp [recoverD, h, chR])) 200 ?_
 (repeat' ((conv => whnf); first | (exfalso; omega) | refine uassert_in (uassertS _) rfl ?_ | refine ualloc_in uallocS ?_ | refine ustore_in (ustoreS _ _) rfl rfl rfl ?_ | exact ⟨[some 0, some 1, some 2, some 3, some 4], ⟨hsW, rfl, rfl⟩⟩ | refine x0C ?_ | refine spC (fun hb => ?_) fun hb => ?_ | refine nilC (fun hb => ?_) ?_ | refine taC ?_ | refine saC ?_ | exact sdV | refine side_and ?_ ?_ | refine drawX_of mixed ?_))
end Go.SX

namespace Go.SX
open Go.Proofs
open Go.RowKit
set_option maxHeartbeats 4000000
set_option maxRecDepth 100000
theorem splitW_mem : ∀ (s : Wd) (w : Wd), w ∈ splitW s → w.length ≤ s.length
 | [], w, h => by simp [splitW] at h; simp [h]
 | c :: s, w, h => by
  unfold splitW at h
  split at h
  ·rcases List.mem_cons.1 h with rfl | h
   ·simp
   ·have := splitW_mem s w h; simp; omega
  ·split at h
   ·simp at h; subst h; simp
   ·rename_i t l e
    rcases List.mem_cons.1 h with rfl | h
    ·have := splitW_mem s t (by rw [e]; simp); simp; omega
    ·have := splitW_mem s w (by rw [e]; simp [h]); simp; omega
theorem tokensW_ok {s : Wd} (h : s.length ≤ 20000) : WsOK (tokensW s) := by
 unfold tokensW
 split
 ·exact ⟨fun w h => by simp at h, by simp⟩
 ·exact ⟨fun w hw => by have := splitW_mem s w hw; omega, by have := splitW_len s; omega⟩
/-- codes one behind the other -/
def seqL : List Code → Code → Code
 | [], z => z
 | x :: l, z => .seq x (seqL l z)
theorem seqL_gx {P : Program} {D : Codec Cd} {B : Base} {Q : Exit → Act → World → Prop} {z : Code} : ∀ (l : List Code) (e : Exit) (a : Act) (w : World), postX none P D B (Exit.then (z.wpIn (Fc none) 0 P Q) Q) (l.map fun c => (It.code c : It Cd)) e a w → Exit.then ((seqL l z).wpIn (Fc none) 0 P Q) Q e a w
 | [], e, a, w, h => h
 | x :: l, e, a, w, h => by
  cases e with
  | normal =>
   refine wpIn_seq (wpIn_mono h ?_)
   exact seqL_gx l
  | exit i => exact seqL_gx l (.exit i) a w h
  | goto i => exact seqL_gx l (.goto i) a w h
  | ret => exact seqL_gx l .ret a w h
  | panic c => exact seqL_gx l (.panic c) a w h
  | outgrown => exact seqL_gx l .outgrown a w h
structure Ptrs (T : List (SV Cd)) : Prop where
 len : T.length = 22
 t2 : getT T 2 = .ptr 0 0
 t3 : getT T 3 = .ptr 1 0
 t4 : getT T 4 = .ptr 2 0
def midPost (ok : Prop) (ws : List Wd) (ret : SV Cd) (rs : List ResultVar) : Post Cd := fun e T Hp =>
 (e = .normal ∧ ok ∧ Ptrs T ∧ getT T 5 = .ptr 4 0 ∧ Hp = parH ordZ [iS 0] [iS 0] ws 0 11) ∨ (e = .ret ∧ EndPost Dc tab rs 0 ret [] e T Hp)
def endPost (ws : List Wd) (S : Rs Order) : Post Cd := fun e T Hp =>
 (∃ o n m, S = .ok o n m ∧ e = .ret ∧ Ptrs T ∧ Hp = parH (ordC o) [iS n] [iS 0] ws n m) ∨ (∃ n m, S = .no n m ∧ e = .panic chS ∧ Ptrs T ∧ Hp = parH ordZ [iS 0] [iS 0] ws n m)
def sq1 : Code → Code
 | .seq a _ => a
 | c => c
def sq2 : Code → Code
 | .seq _ b => b
 | c => c
def retP (s : Wd) : SV Cd := .tuple [ordA (parseS s).1, iS (parseS s).2.1, iS (parseS s).2.2]
theorem ktok (s : Wd) (hs : s.length ≤ 20000) : Meets Tryz.prog Dc 28 [wS s] [] (wsS (tokensW s)) [] := otokens s (by omega)
theorem par1 (s : Wd) (hs : s.length ≤ 140737488355328) : forceV ([wS s] ++ anys (22 - 1)) fun T0 => forceL ([] : List (HS Cd)) fun Hp0 =>
  gx Tryz.prog Ax tab ⟨none, [], 0, true⟩ (midPost (¬ 20000 < s.length) (tokensW s) (retP s) Tryz.f25.results.toList) 300 [.code (sq1 (Tryz.f25.body.getD .skip)), .code (sq1 (sq2 (Tryz.f25.body.getD .skip))), .code (sq1 (sq2 (sq2 (Tryz.f25.body.getD .skip))))] T0 Hp0 := by
 by_cases h : 20000 < s.length
 ·have e : parseS s = (zeroO, 0, 130) := by unfold parseS; rw [if_pos h]
  unfold retP
  rw [e]
  (repeat' ((conv => whnf); first | (exfalso; omega) | exact .inr ⟨rfl, end_fn [] (.inr rfl) (by exact vwV) (by exact hsW) rfl rfl⟩ | refine x0C ?_ | refine spC (fun hb => ?_) fun hb => ?_ | refine nilC (fun hb => ?_) ?_ | refine taC ?_ | refine saC ?_ | exact sdV | refine side_and ?_ ?_ | refine drawX_of mixed ?_))
 ·have ht := ktok s (by omega)
  clear hs
  generalize retP s = rr
  obtain ⟨ok, hok⟩ : ∃ ok : Prop, ok = (¬ 20000 < s.length) := ⟨_, rfl⟩
  rw [← hok]
  have h2 : ok := hok ▸ h
  clear hok
  generalize tokensW s = ws at *
  (repeat' ((conv => whnf); first | (exfalso; omega) | refine cpC (ht) ?_ | refine dpC (ht) ?_ | exact .inl ⟨rfl, h2, ⟨rfl, rfl, rfl, rfl⟩, rfl, rfl⟩ | refine x0C ?_ | refine spC (fun hb => ?_) fun hb => ?_ | refine nilC (fun hb => ?_) ?_ | refine taC ?_ | refine saC ?_ | exact sdV | refine side_and ?_ ?_ | refine drawX_of mixed ?_))
theorem par2 (ws : List Wd) (hn : WsOK ws) : forceV ([.any, .any, .ptr 0 0, .ptr 1 0, .ptr 2 0, .ptr 4 0] ++ anys 16) fun T0 => forceL (parH ordZ [iS 0] [iS 0] ws 0 11) fun Hp0 =>
  gx Tryz.prog Ax tab ⟨none, [], 5, true⟩ (endPost ws (orderP ws 0 11)) 300 [.code (sq2 (sq2 (sq2 (sq2 (Tryz.f25.body.getD .skip)))))] T0 Hp0 := by
 have hi : InW ws 0 11 := ⟨by omega, by omega, by omega, by omega⟩
 have hR := rorder hi hn
 cases e : orderP ws 0 11 with
 | ok o n m =>
  have hb := hR.bd
  rw [e] at hb
  have hi2 := hi.step hb
  have h1 := hi2.a1
  have h2 := hn.n
  have q := hR.ok _ _ _ e
  (repeat' ((conv => whnf); first | (exfalso; omega) | (refine callh [some 3] q rfl rfl ⟨rfl, trivial⟩ ?_) | exact .inl ⟨_, _, _, rfl, rfl, ⟨rfl, rfl, rfl, rfl⟩, rfl⟩ | refine x0C ?_ | refine spC (fun hb => ?_) fun hb => ?_ | refine nilC (fun hb => ?_) ?_ | refine taC ?_ | refine saC ?_ | exact sdV | refine side_and ?_ ?_ | refine drawX_of mixed ?_))
 | no n m =>
  have q := hR.no _ _ e
  (repeat' ((conv => whnf); first | (exfalso; omega) | (refine dieh [some 3] q rfl rfl ⟨rfl, trivial⟩ ?_) | exact .inr ⟨_, _, rfl, rfl, ⟨rfl, rfl, rfl, rfl⟩, rfl⟩ | refine x0C ?_ | refine spC (fun hb => ?_) fun hb => ?_ | refine nilC (fun hb => ?_) ?_ | refine taC ?_ | refine saC ?_ | exact sdV | refine side_and ?_ ?_ | refine drawX_of mixed ?_))
open Go.RowKit
set_option maxHeartbeats 4000000
set_option maxRecDepth 100000
theorem par_end {fn : Func} {B : Base} {E : Env} {T : List (SV Cd)} {Hp : List (HS Cd)} {df : List Deferred} {a : Act} {w : World} {ret : SV Cd} {e : Exit} {w0 : World} {E0 : Env} {hm : ∀ c, 0 ≤ c → E0.β c = .fresh} (hR : Rel Dc B E (getT T) (getC Hp) df a w)
  (hf : Fr (Base.here w0 E0 0 hm) E w) (h : EndPost Dc tab fn.results.toList 0 ret [] e T Hp) :
  LeavesInM (Fc none) 0 Tryz.prog fn a.tmps (fun e w' => ∃ v E', e = .returned v ∧ Den Dc w' E' ret v ∧ Sat Dc w' E' (getC []) ∧ Fr ⟨w0, E0, fun b => ∃ c, E0.β c = .loc b, 0, hm, [], false⟩ E' w') [] .returning w := by
 obtain ⟨_, θ, l, h1, h2, h3⟩ := h
 have hR2 : Rel Dc (Base.here w0 E0 0 hm) E (getT T) (getC Hp) [] { a with defers := [] } w := ⟨hR.den, hR.sat, hf, rfl, Marks.nil⟩
 obtain ⟨v, h4, h5⟩ := results_run (P := Tryz.prog ) (fn := fn) tab_ok hR2 h1
 obtain ⟨g1, g2, g3⟩ := view_env hR2.sat hR2.fr h3
 exact ⟨v, h4, v, _, rfl, view_den hR2.sat g1 _ _ _ h2 h5, g2, g3⟩
theorem rel_weak {B : Base} {E : Env} {σ σ' : Nat → SV Cd} {H : Nat → HS Cd} {df : List Deferred} {a : Act} {w : World} (h : Rel Dc B E σ H df a w) (hs : ∀ i, σ' i = .any ∨ σ' i = σ i) : Rel Dc B E σ' H df a w :=
  ⟨fun i => by rcases hs i with e | e <;> rw [e]; · trivial
               · exact h.den i, h.sat, h.fr, h.defers, h.marks⟩
@[reducible] def T3 : List (SV Cd) := [.any, .any, .ptr 0 0, .ptr 1 0, .ptr 2 0] ++ anys 17
theorem T3_of {T : List (SV Cd)} (h : Ptrs T) : ∀ i, getT T3 i = .any ∨ getT T3 i = getT T i
 | 0 => .inl rfl
 | 1 => .inl rfl
 | 2 => .inr h.t2.symm
 | 3 => .inr h.t3.symm
 | 4 => .inr h.t4.symm
 | i + 5 => .inl (getT_anys 17 i)
theorem denA4 {w : World} {E : Env} {x1 x2 x3 x4 : SV Cd} {v1 v2 v3 v4 : Value} (h1 : Den Dc w E x1 v1) (h2 : Den Dc w E x2 v2) (h3 : Den Dc w E x3 v3) (h4 : Den Dc w E x4 v4) : DenA Dc w E [x1, x2, x3, x4] [v1, v2, v3, v4] := by
 simp only [DenA]
 exact ⟨_, _, rfl, h1, _, _, rfl, h2, _, _, rfl, h3, _, _, rfl, h4, rfl⟩
theorem oparse (s : Wd) (hs : s.length ≤ 140737488355328) : Meets Tryz.prog Dc 25 [wS s] [] (retP s) [] := by
 refine ⟨Tryz.call25, fun w E hm vs hsat hd => ?_⟩
 refine callsIn_of_wp_marks Tryz.func25 (c := seqL [sq1 (Tryz.f25.body.getD .skip), sq1 (sq2 (Tryz.f25.body.getD .skip)), sq1 (sq2 (sq2 (Tryz.f25.body.getD .skip)))] (sq2 (sq2 (sq2 (Tryz.f25.body.getD .skip))))) rfl trivial ?_ rfl
 have hR0 := enter_relN (n := 22) (m := 0) (hm := hm) hsat hd
 have hX : CtxOK Dc (⟨none, [], 0, true⟩ : Ctx Cd) { Base.here w E 0 hm with nm := true } none := ⟨rfl, fun c ri hc => by simp [lkR] at hc, trivial, rfl⟩
 refine seqL_gx (D := Dc) (B := { Base.here w E 0 hm with nm := true }) _ .normal _ _ ?_
 have hp1 := par1 s hs
 rw [forceV_eq, forceL_eq] at hp1
 refine gx_sound (r := none) Ax tab_ok hX ?_ 300 _ _ _ hp1 _ _ ⟨_, hR0⟩
 intro e a w1 T Hp hΦ hRL
 obtain ⟨df, E1, hR1, hsz1⟩ := hRL
 have hdf : df = [] := by
  obtain ⟨bs, e, _, _, hn⟩ := hR1.marks
  rw [e, hn rfl]; rfl
 subst hdf
 rcases hΦ with ⟨rfl, hok, hpt, ht5, rfl⟩ | ⟨rfl, hend⟩
 rotate_left
 ·have := par_end (fn := Tryz.f25) hR1 hR1.fr.back hend
  show LeavesInM (Fc none) 0 Tryz.prog Tryz.f25 a.tmps _ a.defers .returning w1
  rw [hR1.defers]
  exact this
 show Code.wpIn _ _ _ _ _ _ _
 obtain ⟨id4, mf, dfo, hr4, gm, om, dm, gd, od, dd⟩ : ∃ id4 mf dfo, sq2 (sq2 (sq2 (Tryz.f25.body.getD .skip))) = .seq (.region id4 #[mf, dfo] false) (sq2 (sq2 (sq2 (sq2 (Tryz.f25.body.getD .skip))))) ∧
  mf.guard = none ∧ mf.op = .makeFunc (.func 51) #[] #[.tmp 5, .tmp 2, .tmp 3, .tmp 4] ∧ mf.dst = some 14 ∧ dfo.guard = none ∧ dfo.op = .defer { callee := .value (.tmp 14), args := #[], argTypes := #[] } ∧ dfo.dst = none := ⟨_, _, _, rfl, rfl, rfl, rfl, rfl, rfl, rfl⟩
 rw [hr4]
 refine wpIn_seq (wpIn_region_list ?_)
 obtain ⟨caps, hcaps⟩ : ∃ caps : List Value, caps = [a.tmps.getD 5 undef, a.tmps.getD 2 undef, a.tmps.getD 3 undef, a.tmps.getD 4 undef] := ⟨_, rfl⟩
 have hmf : (execOp a.eval mf).run Tryz.prog w1 = .ok (.value (.func (.func 51) #[] caps.toArray)) w1 := by
  rw [hcaps]; simp [execOp, om, Instr.makeFunc, Act.eval]
 have hd1 : DenA Dc w1 E1 capA caps := by
  rw [hcaps]
  have h2 := hR1.den 2
  have h3 := hR1.den 3
  have h4 := hR1.den 4
  have h5 := hR1.den 5
  rw [hpt.t2] at h2
  rw [hpt.t3] at h3
  rw [hpt.t4] at h4
  rw [ht5] at h5
  exact denA4 h5 h2 h3 h4
 obtain ⟨d, hdd⟩ : ∃ d : Deferred, d = ⟨.fn (.func 51) caps.toArray, #[]⟩ := ⟨_, rfl⟩
 have hlt : 14 < a.tmps.size := by rw [hsz1, hpt.len]; omega
 have hdf : (execOp (a.put mf.dst (.func (.func 51) #[] caps.toArray)).eval dfo).run Tryz.prog w1 = .ok (.defer d) w1 := by
  have hev : (a.put mf.dst (.func (.func 51) #[] caps.toArray)).eval (.tmp 14) = .func (.func 51) #[] caps.toArray := by
   rw [dm]; simp [Act.eval, Act.put, hlt]
  simp only [execOp, od, resolve, hev, Deferred.ofValue, hdd]
  simp
 show wpListIn _ _ _ _ _ [mf, dfo] _ _
 rw [wpListIn, if_pos (wanted_free gm)]
 refine ⟨fun _ _ => trivial, ?_⟩
 rw [show (Fc none).round = none from rfl, Oper.semAt_none, hmf]
 show wpListIn _ _ _ _ _ [dfo] _ _
 rw [wpListIn, if_pos (wanted_free gd)]
 refine ⟨fun _ _ => trivial, ?_⟩
 rw [show (Fc none).round = none from rfl, Oper.semAt_none, hdf]
 show Code.wpIn _ _ _ _ _ _ _
 have hm1 : ∀ c, 5 ≤ c → E1.β c = .fresh := fresh_of_sat hR1.sat
 have hX2 : CtxOK Dc (⟨none, [], 5, true⟩ : Ctx Cd) { Base.here w1 E1 5 hm1 with ds := [d], nm := true } none := ⟨rfl, fun c ri hc => by simp [lkR] at hc, trivial, rfl⟩
 have hR2 : RelL Dc { Base.here w1 E1 5 hm1 with ds := [d], nm := true } [d] ([.any, .any, .ptr 0 0, .ptr 1 0, .ptr 2 0, .ptr 4 0] ++ anys 16) (parH ordZ [iS 0] [iS 0] (tokensW s) 0 11) ({ a.put mf.dst (.func (.func 51) #[] caps.toArray) with defers := d :: (a.put mf.dst (.func (.func 51) #[] caps.toArray)).defers }.put dfo.dst undef) w1 := by
  rw [dm, dd]
  refine ⟨E1, ⟨fun i => ?_, hR1.sat, Fr.here.other, ?_, Marks.nil⟩, ?_⟩
  ·have hne : ∀ j, j ≠ 14 → (a.tmps.setIfInBounds 14 (.func (.func 51) #[] caps.toArray)).getD j undef = a.tmps.getD j undef := fun j hj => by rw [Array.getD_eq_getD_getElem?, Array.getD_eq_getD_getElem?, Array.getElem?_setIfInBounds_ne (Ne.symm hj)]
   match i with
   | 0 => trivial
   | 1 => trivial
   | 2 => have h := hR1.den 2; rw [hpt.t2] at h; show Den _ _ _ _ ((a.tmps.setIfInBounds 14 _).getD 2 undef); rw [hne 2 (by omega)]; exact h
   | 3 => have h := hR1.den 3; rw [hpt.t3] at h; show Den _ _ _ _ ((a.tmps.setIfInBounds 14 _).getD 3 undef); rw [hne 3 (by omega)]; exact h
   | 4 => have h := hR1.den 4; rw [hpt.t4] at h; show Den _ _ _ _ ((a.tmps.setIfInBounds 14 _).getD 4 undef); rw [hne 4 (by omega)]; exact h
   | 5 => have h := hR1.den 5; rw [ht5] at h; show Den _ _ _ _ ((a.tmps.setIfInBounds 14 _).getD 5 undef); rw [hne 5 (by omega)]; exact h
   | i + 6 => show Den _ _ _ (getT (anys 16) i) _; rw [getT_anys]; trivial
  ·show d :: a.defers = [d]
   rw [hR1.defers]
  ·show (a.tmps.setIfInBounds 14 _).size = 22
   rw [Array.size_setIfInBounds, hsz1, hpt.len]
 have hp2 := par2 (tokensW s) (tokensW_ok (by omega))
 rw [forceV_eq, forceL_eq] at hp2
 refine gx_sound (r := none) Ax tab_ok hX2 ?_ 300 _ _ _ hp2 _ _ ⟨_, hR2⟩
 intro e2 a2 w2 T2 Hp2 hΦ2 hRL2
 obtain ⟨df2, E2, hRE, _⟩ := hRL2
 have hinv : ∀ w3, (invoke d.target d.args).run Tryz.prog w3 = .ok (.enter 51 caps.toArray) w3 := fun w3 => by
  rw [hdd]
  simp only [invoke]
  have : (#[] ++ caps.toArray : Array Value) = caps.toArray := by simp
  rw [this]
  exact Tryz.call51 _ _
 rcases hΦ2 with ⟨o, n, m, hS, rfl, hpt2, rfl⟩ | ⟨n, m, hS, rfl, hpt2, rfl⟩
 ·have e : parseS s = (o, n, 0) := by unfold parseS; rw [if_neg hok, hS]
  unfold retP
  rw [e]
  show LeavesInM (Fc none) 0 Tryz.prog Tryz.f25 a2.tmps _ a2.defers .returning w2
  refine leaves_relD (by simp) hRE fun w3 E3 hR3 => ?_
  refine ⟨by simp, .inr ⟨fun h => by simp [Fc] at h, .func 51, caps.toArray, 51, caps.toArray, by rw [hdd], hinv w3, fun _ _ => trivial, ?_⟩⟩
  refine (MeetsD.at (dret o n 0 (tokensW s) n m) [some 0, some 1, some 2, some 3, some 4] rfl rfl ⟨rfl, rfl, rfl, rfl, rfl, trivial⟩ [some 0, some 1, some 2, some 3, some 4] rfl rfl (Nat.le_refl _) rfl hR3 (DenA.mono hR3.fr.late _ _ hd1)).mono ?_
  rintro e4 u4 w4 ⟨rfl, E4, ⟨v4, rfl⟩, hR4⟩
  have hR5 := rel_weak hR4 (T3_of hpt2)
  rw [← getC_setCs, show setCs (parH (ordC o) [iS n] [iS 0] (tokensW s) n m) (zipW [some 0, some 1, some 2, some 3, some 4] (parH (ordC o) [iS n] [iS 0] (tokensW s) n m)) = parH (ordC o) [iS n] [iS 0] (tokensW s) n m from rfl] at hR5
  exact par_end (a := { a2 with defers := [d] }) (T := T3) (Hp := parH (ordC o) [iS n] [iS 0] (tokensW s) n m) (fn := Tryz.f25) hR5 (Fr.trans hR1.fr.back hR5.fr.back) (e := .ret) (end_fn [] (.inr rfl) (by exact vwV) (by exact hsW) rfl rfl)
 ·have e : parseS s = (zeroO, n, 130) := by unfold parseS; rw [if_neg hok, hS]
  unfold retP
  rw [e]
  show LeavesInM (Fc none) 0 Tryz.prog Tryz.f25 a2.tmps _ a2.defers (.panicking chS) w2
  refine leaves_relD (by simp) hRE fun w3 E3 hR3 => ?_
  refine ⟨by simp, .inr ⟨fun h => by simp [Fc] at h, .func 51, caps.toArray, 51, caps.toArray, by rw [hdd], hinv w3, fun _ _ => trivial, ?_⟩⟩
  refine (MeetsD.at (dpan (tokensW s) n m) [some 0, some 1, some 2, some 3, some 4] rfl rfl ⟨rfl, rfl, rfl, rfl, rfl, trivial⟩ [some 0, some 1, some 2, some 3, some 4] rfl rfl (Nat.le_refl _) rfl hR3 (DenA.mono hR3.fr.late _ _ hd1)).mono ?_
  rintro e4 u4 w4 ⟨rfl, E4, ⟨v4, rfl⟩, hR4⟩
  have hR5 := rel_weak hR4 (T3_of hpt2)
  rw [← getC_setCs, show setCs (parH ordZ [iS 0] [iS 0] (tokensW s) n m) (zipW [some 0, some 1, some 2, some 3, some 4] (parH ordZ [iS n] [iS 130] (tokensW s) n m)) = parH ordZ [iS n] [iS 130] (tokensW s) n m from rfl] at hR5
  exact par_end (a := { a2 with defers := [d] }) (T := T3) (Hp := parH ordZ [iS n] [iS 130] (tokensW s) n m) (fn := Tryz.f25) hR5 (Fr.trans hR1.fr.back hR5.fr.back) (e := .ret) (end_fn [] (.inr rfl) (by exact vwV) (by exact hsW) rfl rfl)
end Go.SX

/-
 Plain law: the goals that integers determine (the reference's examples), and why they are valid.
-/
namespace Go.SX
def pickS (c n : Int) : Int := (if c < 0 then -(c + 1) else c) % n
theorem pickS_bd {c n : Int} (h : 0 < n) : 0 ≤ pickS c n ∧ pickS c n < n := ⟨Int.emod_nonneg _ (by omega), Int.emod_lt_of_pos _ h⟩
/-- a cell more -/
def orAt (rows : List Int) (y : Nat) (x : Int) : List Int := rows.set y (bitop .or .i64 (rows.getD y 0) (shlop .i64 1 x))
theorem orAt_len (rows : List Int) (y : Nat) (x : Int) : (orAt rows y x).length = rows.length := by unfold orAt; simp
def cellS (x : A5) (y k : Nat) (rows : List Int) : List Int := orAt rows (min 23 (pickS x.b 24 + y)).toNat ((pickS x.a 48 + k).tmod 48)
def rowsK (x : A5) (y k : Nat) (rows : List Int) : List Int := (List.range k).foldl (fun r k => cellS x y k r) rows
def rowsY (x : A5) (n y : Nat) : List Int := (List.range y).foldl (fun r y => rowsK x y n r) (List.replicate 24 0)
theorem rowsK_succ (x : A5) (y k : Nat) (r : List Int) : rowsK x y (k + 1) r = cellS x y k (rowsK x y k r) := by unfold rowsK; rw [List.range_succ, List.foldl_append]; rfl
theorem rowsY_succ (x : A5) (n y : Nat) : rowsY x n (y + 1) = rowsK x y n (rowsY x n y) := by unfold rowsY; rw [List.range_succ, List.foldl_append]; rfl
theorem rowsK_len (x : A5) (y : Nat) : ∀ (k : Nat) (r : List Int), (rowsK x y k r).length = r.length
 | 0, r => rfl
 | k + 1, r => by rw [rowsK_succ]; unfold cellS; rw [orAt_len, rowsK_len x y k r]
theorem rowsY_len (x : A5) (n : Nat) : ∀ y : Nat, (rowsY x n y).length = 24
 | 0 => by simp [rowsY]
 | y + 1 => by rw [rowsY_succ, rowsK_len, rowsY_len x n y]
def seeRows (x : A5) : List Int :=
 if pickS x.c 3 = 0 then orAt (rowsY x (pickS (x.a.tdiv 48) 3 + 1).toNat (pickS (x.b.tdiv 24) 3 + 1).toNat) (pickS x.b 24).toNat (pickS x.c 48) else rowsY x (pickS (x.a.tdiv 48) 3 + 1).toNat (pickS (x.b.tdiv 24) 3 + 1).toNat
def seeS (x : A5) : Goal := ⟨1, seeRows x, pickS x.c 3000, pickS x.c 3000 + 1 + pickS x.d 5000, pickS x.e 40, pickS x.e 40 + pickS (x.e.tdiv 40) 51, decide (pickS x.d 2 = 1), 0, 0, 0, [], []⟩
/-! areas -/
structure RowsOK (rows : List Int) : Prop where
 len : rows.length = 24
 ok : ∀ r ∈ rows, 0 ≤ r ∧ r ≤ 281474976710655
theorem or_ok {a : Int} {x : Int} (ha : 0 ≤ a ∧ a ≤ 281474976710655) (hx : 0 ≤ x ∧ x < 48) : (0 ≤ bitop .or .i64 a (shlop .i64 1 x) ∧ bitop .or .i64 a (shlop .i64 1 x) ≤ 281474976710655) ∧ bitop .or .i64 a (shlop .i64 1 x) ≠ 0 := by
 obtain ⟨n, rfl⟩ : ∃ n : Nat, a = n := ⟨a.toNat, by omega⟩
 obtain ⟨k, rfl⟩ : ∃ k : Nat, x = k := ⟨x.toNat, by omega⟩
 have hk : k < 48 := by omega
 have h1 : 2 ^ k < 2 ^ 48 := Nat.pow_lt_pow_right (by omega) hk
 have hn : n < 2 ^ 48 := by omega
 rw [shl_one hk, or_nat hn h1]
 have h2 : n ||| 2 ^ k < 2 ^ 48 := Nat.or_lt_two_pow hn h1
 have h3 : n ||| 2 ^ k ≠ 0 := fun e => by
  have := congrArg (fun z => z.testBit k) e
  simp at this
 omega
theorem orAt_ok {rows : List Int} (h : RowsOK rows) {y : Nat} (hy : y < 24) {x : Int} (hx : 0 ≤ x ∧ x < 48) : RowsOK (orAt rows y x) ∧ (orAt rows y x).any (fun r => decide (r ≠ 0)) = true := by
 have hg : rows.getD y 0 ∈ rows := by
  rw [List.getD_eq_getElem?_getD, List.getElem?_eq_getElem (by rw [h.len]; exact hy)]
  exact List.getElem_mem _
 obtain ⟨h1, h2⟩ := or_ok (h.ok _ hg) hx
 refine ⟨⟨by rw [orAt_len, h.len], fun r hr => ?_⟩, ?_⟩
 ·unfold orAt at hr
  rcases List.mem_or_eq_of_mem_set hr with hr | rfl
  ·exact h.ok r hr
  ·exact h1
 ·rw [List.any_eq_true]
  refine ⟨bitop .or .i64 (rows.getD y 0) (shlop .i64 1 x), ?_, by simpa using h2⟩
  unfold orAt
  rw [List.mem_iff_getElem?]
  exact ⟨y, by rw [List.getElem?_set_self (by rw [h.len]; exact hy)]⟩
theorem cellS_ok (x : A5) (y k : Nat) {rows : List Int} (h : RowsOK rows) : RowsOK (cellS x y k rows) ∧ (cellS x y k rows).any (fun r => decide (r ≠ 0)) = true := by
 have b1 := pickS_bd (c := x.b) (n := 24) (by omega)
 have b2 := pickS_bd (c := x.a) (n := 48) (by omega)
 unfold cellS
 refine orAt_ok h (by omega) ?_
 rw [Int.tmod_eq_emod_of_nonneg (by omega)]
 omega
theorem rowsK_ok (x : A5) (y : Nat) : ∀ (k : Nat) (r : List Int), RowsOK r → RowsOK (rowsK x y k r) ∧ (0 < k → (rowsK x y k r).any (fun r => decide (r ≠ 0)) = true)
 | 0, r, h => ⟨h, fun e => by omega⟩
 | k + 1, r, h => by
  rw [rowsK_succ]
  have := cellS_ok x y k (rowsK_ok x y k r h).1
  exact ⟨this.1, fun _ => this.2⟩
theorem rowsY_ok (x : A5) (n : Nat) (hn : 0 < n) : ∀ y : Nat, RowsOK (rowsY x n y) ∧ (0 < y → (rowsY x n y).any (fun r => decide (r ≠ 0)) = true)
 | 0 => ⟨⟨by simp [rowsY], fun r hr => by simp [rowsY] at hr; omega⟩, fun e => by omega⟩
 | y + 1 => by
  rw [rowsY_succ]
  have := rowsK_ok x y n _ (rowsY_ok x n hn y).1
  exact ⟨this.1, fun _ => this.2 hn⟩
theorem seeRows_ok (x : A5) : RowsOK (seeRows x) ∧ (seeRows x).any (fun r => decide (r ≠ 0)) = true := by
 have b1 := pickS_bd (c := x.b.tdiv 24) (n := 3) (by omega)
 have b2 := pickS_bd (c := x.a.tdiv 48) (n := 3) (by omega)
 have b3 := pickS_bd (c := x.b) (n := 24) (by omega)
 have b4 := pickS_bd (c := x.c) (n := 48) (by omega)
 have h := rowsY_ok x (pickS (x.a.tdiv 48) 3 + 1).toNat (by omega) (pickS (x.b.tdiv 24) 3 + 1).toNat
 unfold seeRows
 split
 ·exact orAt_ok h.1 (by omega) (by omega)
 ·exact ⟨h.1, h.2 (by omega)⟩
theorem seeS_ok (x : A5) : okB (seeS x) = true := by
 obtain ⟨h1, h2⟩ := seeRows_ok x
 have b1 := pickS_bd (c := x.c) (n := 3000) (by omega)
 have b2 := pickS_bd (c := x.d) (n := 5000) (by omega)
 have b3 := pickS_bd (c := x.e) (n := 40) (by omega)
 have b4 := pickS_bd (c := x.e.tdiv 40) (n := 51) (by omega)
 have ha : areaB (seeRows x) = true := by
  unfold areaB
  rw [h1.len, Bool.and_eq_true]
  refine ⟨rfl, List.all_eq_true.2 fun r hr => ?_⟩
  exact (inB_iff _ _ _).2 (h1.ok r hr)
 unfold okB plainB restG limB partsB manyB centsB seeS
 simp only [ha, h2]
 simp [inB_iff]
 omega
theorem seeS_size (x : A5) {d : Int} (hd : d ≤ 4) : sizeG (seeS x) d = some 1 := by
 rw [sizeG_eq, seeS_ok, decide_eq_false (by omega)]
 rfl
/-! goals with parts -/
def zero5 : A5 := ⟨0, 0, 0, 0, 0⟩
def y5 (x : List A5) (i : Int) : A5 := if i < x.length then x.getD i.toNat zero5 else zero5
structure KidSt where
 kids : List Goal
 cents : List Int
 used : Int
 count : Int
/-- the parts, so many -/
def kidsN (rec : Int → Int → Goal × Int × Int) (y : A5) (at_ most : Int) : Nat → KidSt
 | 0 => ⟨[], [], 1, 1⟩
 | i + 1 =>
  let s := kidsN rec y at_ most i
  let r := rec (at_ + s.used) (most - s.count - max 0 (1 - (i : Int)))
  ⟨s.kids ++ [r.1], s.cents ++ [pickS (IntKind.i64.wrap (y.c + IntKind.i64.wrap ((i : Int) * y.d))) 1000], s.used + r.2.1, s.count + r.2.2⟩
/-- does it go on? -/
def goB (rec : Int → Int → Goal × Int × Int) (y : A5) (at_ most many : Int) (i : Nat) : Bool := decide ((i : Int) < many) && (decide ((i : Int) < 2) || decide ((kidsN rec y at_ most i).count < most))
def endI (rec : Int → Int → Goal × Int × Int) (y : A5) (at_ most many : Int) : Nat → Nat → Nat
 | 0, i => i
 | f + 1, i => if goB rec y at_ most many i then endI rec y at_ most many f (i + 1) else i
def kindS (j : Nat) (x : List A5) (at_ most : Int) : Int :=
 if j = 0 ∨ most < 2 ∨ (x.length : Int) ≤ at_ + 1 ∨ 5 ≤ 1 + pickS ((y5 x at_).a.tdiv 144) 6 ∧ most < 3 then 1 else 1 + pickS ((y5 x at_).a.tdiv 144) 6
def goalsS : Nat → List A5 → Int → Int → Goal × Int × Int
 | 0, x, at_, most => (seeS (y5 x at_), 1, 1)
 | j + 1, x, at_, most =>
  let y := y5 x at_
  let next := y5 x (at_ + 1)
  let k := kindS (j + 1) x at_ most
  if k = 2 then (⟨2, [], 0, 0, 1 + pickS y.b 8, 0, false, 0, 0, 1 + pickS y.c 3000, [], [seeS next]⟩, 2, 2)
  else if k = 3 then (⟨3, [], pickS y.e 3000, 0, 0, 0, false, 1 + pickS y.b 4, 1 + pickS y.c 4, pickS y.d (1440 * (1 + pickS y.b 4) + 1), [], [seeS next]⟩, 2, 2)
  else if k = 4 then (⟨4, [], 0, 0, 0, 0, false, 0, 0, pickS y.b 3000, [], [seeS next]⟩, 2, 2)
  else if k = 5 ∨ k = 6 then
   let s := kidsN (goalsS j x) y at_ most (endI (goalsS j x) y at_ most (2 + pickS y.b 3) 4 0)
   (⟨k, [], 0, 0, 0, 0, false, 0, 0, 0, if k = 6 then s.cents else [], s.kids⟩, s.used, s.count)
  else (seeS y, 1, 1)
def goalS (x : List A5) : Goal := (goalsS 3 x 0 9).1
end Go.SX

namespace Go.SX
open Go.Proofs
set_option maxHeartbeats 4000000
set_option maxRecDepth 100000
section
variable {C : Cod} {P : Program} {D : Codec C} {tab : Tab C} {Hp : List (HS C)} {ret : SV C}
theorem fzL {θ : List (Option Nat)} {c o n off len : Nat} {u : C.U} {ys xs : List (C.El u)} (h1 : getC Hp c = .rows u xs := by rfl) (h2 : o = 0 := by rfl) (h3 : n = C.n u := by rfl) (h4 : off + len ≤ xs.length := by first | (simp; done) | (simp; omega) | omega)
  (h5 : ys = (xs.drop off).take len := by (simp only [List.drop_zero]; exact (List.take_of_length_le (by first | omega | (simp; omega))).symm)) (h6 : inO θ c = false := by rfl) : FrozenAs Hp θ c o n off len u ys := ⟨xs, h1, h2, h3, h4, h5, h6⟩
theorem vwL {θ : List (Option Nat)} {l : Option (List (SV C))} (h : endV Hp θ ret l := by first | ((repeat' (first | exact trivial | exact rfl | refine And.intro ?_ ?_ | exact fzV | exact fzL | exact fvV)); done) | fail) : EndV Hp θ ret l := ⟨h⟩
end
theorem pick13 (c n : Int) (hc : -9223372036854775808 ≤ c ∧ c ≤ 9223372036854775807) (h : 0 < n) : Meets Tryz.prog Dc 36 [iS c, iS n] [] (iS (pickS c n)) [] := by
 have e : ∀ x : Int, 0 ≤ x → x.tmod n = x % n := fun x hx => Int.tmod_eq_emod_of_nonneg hx
 unfold pickS
 by_cases hc0 : c < 0
 ·rw [if_pos hc0, ← e _ (by omega)]
  refine meets_of_gx Ax tab_ok Tryz.func36 (c := _) rfl Tryz.call36 60 ?_
  (repeat' ((conv => whnf); first | refine x0C (eI ?_ rfl) | (exfalso; omega) | refine x0C ?_ | refine spC (fun hb => ?_) fun hb => ?_ | refine nilC (fun hb => ?_) ?_ | refine taC ?_ | refine saC ?_ | exact sdV | refine side_and ?_ ?_ | refine drawX_of mixed ?_))
  all_goals first | rfl | (rw [Int.zero_sub])
 ·rw [if_neg hc0, ← e _ (by omega)]
  refine meets_of_gx Ax tab_ok Tryz.func36 (c := _) rfl Tryz.call36 60 ?_
  (repeat' ((conv => whnf); first | refine x0C (eI ?_ rfl) | (exfalso; omega) | refine x0C ?_ | refine spC (fun hb => ?_) fun hb => ?_ | refine nilC (fun hb => ?_) ?_ | refine taC ?_ | refine saC ?_ | exact sdV | refine side_and ?_ ?_ | refine drawX_of mixed ?_))
  all_goals first | rfl | (rw [Int.zero_sub])
theorem pickL (c n : Int) (hc : -9223372036854775808 ≤ c ∧ c ≤ 9223372036854775807) (h : 0 < n) : Meets Tryz.prog Dc 13 [iS c, iS n] [] (iS (pickS c n)) [] := by
 have e : ∀ x : Int, 0 ≤ x → x.tmod n = x % n := fun x hx => Int.tmod_eq_emod_of_nonneg hx
 unfold pickS
 by_cases hc0 : c < 0
 ·rw [if_pos hc0, ← e _ (by omega)]
  refine meets_of_gx Ax tab_ok Tryz.func13 (c := _) rfl Tryz.call13 60 ?_
  (repeat' ((conv => whnf); first | refine x0C (eI ?_ rfl) | (exfalso; omega) | refine x0C ?_ | refine spC (fun hb => ?_) fun hb => ?_ | refine nilC (fun hb => ?_) ?_ | refine taC ?_ | refine saC ?_ | exact sdV | refine side_and ?_ ?_ | refine drawX_of mixed ?_))
  all_goals first | rfl | (rw [Int.zero_sub])
 ·rw [if_neg hc0, ← e _ (by omega)]
  refine meets_of_gx Ax tab_ok Tryz.func13 (c := _) rfl Tryz.call13 60 ?_
  (repeat' ((conv => whnf); first | refine x0C (eI ?_ rfl) | (exfalso; omega) | refine x0C ?_ | refine spC (fun hb => ?_) fun hb => ?_ | refine nilC (fun hb => ?_) ?_ | refine taC ?_ | refine saC ?_ | exact sdV | refine side_and ?_ ?_ | refine drawX_of mixed ?_))
  all_goals first | rfl | (rw [Int.zero_sub])
def I64 (c : Int) : Prop := -9223372036854775808 ≤ c ∧ c ≤ 9223372036854775807
@[reducible] def a5A (x : A5) : SV Cd := .agg [iS x.a, iS x.b, iS x.c, iS x.d, iS x.e]
structure A5OK (x : A5) : Prop where
 a : I64 x.a
 b : I64 x.b
 c : I64 x.c
 d : I64 x.d
 e : I64 x.e
theorem tdiv_i64 {c n : Int} (h : -9223372036854775808 ≤ c ∧ c ≤ 9223372036854775807) (hn : 1 < n) : -9223372036854775808 ≤ c.tdiv n ∧ c.tdiv n ≤ 9223372036854775807 := by
 rcases Int.le_total 0 c with h0 | h0
 ·rw [Int.tdiv_eq_ediv_of_nonneg h0]
  have := Int.ediv_nonneg h0 (show 0 ≤ n by omega)
  have := Int.ediv_le_self n h0
  omega
 ·have e : c.tdiv n = -((-c) / n) := by
   have := Int.tdiv_eq_ediv_of_nonneg (a := -c) (b := n) (by omega)
   rw [← this, Int.neg_tdiv, Int.neg_neg]
  rw [e]
  have h1 := Int.ediv_nonneg (show 0 ≤ -c by omega) (show 0 ≤ n by omega)
  have h2 := Int.ediv_le_self n (show 0 ≤ -c by omega)
  omega
theorem rseX (x : A5) (hx : A5OK x) : Meets Tryz.prog Dc 85 [a5A x] [] (goalA (seeS x)) [] := by
 obtain ⟨ha, hb', hc, hd, he⟩ := hx
 unfold I64 at *
 have hda := tdiv_i64 (n := 48) ha (by omega)
 have hdb := tdiv_i64 (n := 24) hb' (by omega)
 have hde := tdiv_i64 (n := 40) he (by omega)
 have p1 := pick13 (x.b.tdiv 24) 3 hdb (by omega)
 have p2 := pick13 (x.a.tdiv 48) 3 hda (by omega)
 have p3 := pick13 x.a 48 ha (by omega)
 have p4 := pick13 x.b 24 hb' (by omega)
 have p5 := pick13 x.c 3 hc (by omega)
 have p6 := pick13 x.c 48 hc (by omega)
 have p7 := pick13 x.c 3000 hc (by omega)
 have p8 := pick13 x.d 5000 hd (by omega)
 have p9 := pick13 x.e 40 he (by omega)
 have p10 := pick13 (x.e.tdiv 40) 51 hde (by omega)
 have p11 := pick13 x.d 2 hd (by omega)
 have b1 := pickS_bd (c := x.b.tdiv 24) (n := 3) (by omega)
 have b2 := pickS_bd (c := x.a.tdiv 48) (n := 3) (by omega)
 have b3 := pickS_bd (c := x.a) (n := 48) (by omega)
 have b4 := pickS_bd (c := x.b) (n := 24) (by omega)
 have b6 := pickS_bd (c := x.c) (n := 48) (by omega)
 have b7 := pickS_bd (c := x.c) (n := 3000) (by omega)
 have b8 := pickS_bd (c := x.d) (n := 5000) (by omega)
 have b9 := pickS_bd (c := x.e) (n := 40) (by omega)
 have b10 := pickS_bd (c := x.e.tdiv 40) (n := 51) (by omega)
 refine meets_of_gx Ax tab_ok Tryz.func85 (c := _) rfl Tryz.call85 400 ?_
 (repeat' ((conv => whnf); first | (exfalso; omega) | refine x0C ?_ | refine spC (fun hb => ?_) fun hb => ?_ | refine nilC (fun hb => ?_) ?_ | refine taC ?_ | refine saC ?_ | exact sdV | refine side_and ?_ ?_ | refine drawX_of mixed ?_))
 refine loop_up (fun y : Nat => [(4, iS y)]) (fun y => [(2, .rows U.int (rowsY x (pickS (x.a.tdiv 48) 3 + 1).toNat y))]) (fun y => (y : Int) ≤ pickS (x.b.tdiv 24) 3 + 1) (fun y => (pickS (x.b.tdiv 24) 3 + 1).toNat - y) 0 (by omega) (by exact bkI) ?_
 intro y hy K hK
 have hyl := rowsY_len x (pickS (x.a.tdiv 48) 3 + 1).toNat y
 rcases Int.lt_or_le (pickS (x.b.tdiv 24) 3) y with hge | hlt
 ·have hye : (pickS (x.b.tdiv 24) 3 + 1).toNat = y := by omega
  unfold seeS seeRows
  rw [hye]
  generalize rowsY x (pickS (x.a.tdiv 48) 3 + 1).toNat y = R at *
  by_cases h5 : pickS x.c 3 = 0
  ·rw [if_pos h5]
   have hol := orAt_len R (pickS x.b 24).toNat (pickS x.c 48)
   unfold orAt at hol ⊢
   rw [← Nat.zero_add (pickS x.b 24).toNat] at hol ⊢
   (repeat' ((conv => whnf); first | (exfalso; omega) | refine cpC (p1) ?_ | refine dpC (p1) ?_ | refine cpC (p2) ?_ | refine dpC (p2) ?_ | refine cpC (p3) ?_ | refine dpC (p3) ?_ | refine cpC (p4) ?_ | refine dpC (p4) ?_ | refine cpC (p5) ?_ | refine dpC (p5) ?_ | refine cpC (p6) ?_ | refine dpC (p6) ?_ | refine cpC (p7) ?_ | refine dpC (p7) ?_ | refine cpC (p8) ?_ | refine dpC (p8) ?_ | refine cpC (p9) ?_ | refine dpC (p9) ?_ | refine cpC (p10) ?_ | refine dpC (p10) ?_ | refine cpC (p11) ?_ | refine dpC (p11) ?_ | refine x0C ?_ | refine spC (fun hb => ?_) fun hb => ?_ | refine nilC (fun hb => ?_) ?_ | refine taC ?_ | refine saC ?_ | exact sdV | refine side_and ?_ ?_ | refine drawX_of mixed ?_))
   all_goals exact vwL
  ·rw [if_neg h5]
   (repeat' ((conv => whnf); first | (exfalso; omega) | refine cpC (p1) ?_ | refine dpC (p1) ?_ | refine cpC (p2) ?_ | refine dpC (p2) ?_ | refine cpC (p3) ?_ | refine dpC (p3) ?_ | refine cpC (p4) ?_ | refine dpC (p4) ?_ | refine cpC (p5) ?_ | refine dpC (p5) ?_ | refine cpC (p6) ?_ | refine dpC (p6) ?_ | refine cpC (p7) ?_ | refine dpC (p7) ?_ | refine cpC (p8) ?_ | refine dpC (p8) ?_ | refine cpC (p9) ?_ | refine dpC (p9) ?_ | refine cpC (p10) ?_ | refine dpC (p10) ?_ | refine cpC (p11) ?_ | refine dpC (p11) ?_ | refine x0C ?_ | refine spC (fun hb => ?_) fun hb => ?_ | refine nilC (fun hb => ?_) ?_ | refine taC ?_ | refine saC ?_ | exact sdV | refine side_and ?_ ?_ | refine drawX_of mixed ?_))
   all_goals exact vwL
 ·(repeat' ((conv => whnf); first | (exfalso; omega) | refine cpC (p1) ?_ | refine dpC (p1) ?_ | refine x0C ?_ | refine spC (fun hb => ?_) fun hb => ?_ | refine nilC (fun hb => ?_) ?_ | refine taC ?_ | refine saC ?_ | exact sdV | refine side_and ?_ ?_ | refine drawX_of mixed ?_))
  refine loop_up (fun k : Nat => [(5, iS k)]) (fun k => [(2, .rows U.int (rowsK x y k (rowsY x (pickS (x.a.tdiv 48) 3 + 1).toNat y)))]) (fun k => (k : Int) ≤ pickS (x.a.tdiv 48) 3 + 1) (fun k => (pickS (x.a.tdiv 48) 3 + 1).toNat - k) 0 (by omega) (by exact bkI) ?_
  intro k hk K2 hK2
  have hkl := rowsK_len x y k (rowsY x (pickS (x.a.tdiv 48) 3 + 1).toNat y)
  rw [hyl] at hkl
  rcases Int.lt_or_le (pickS (x.a.tdiv 48) 3) k with hge2 | hlt2
  ·have hke : (pickS (x.a.tdiv 48) 3 + 1).toNat = k := by omega
   have hs := rowsY_succ x (pickS (x.a.tdiv 48) 3 + 1).toNat y
   rw [show rowsK x y k (rowsY x (pickS (x.a.tdiv 48) 3 + 1).toNat y) = rowsY x (pickS (x.a.tdiv 48) 3 + 1).toNat (y + 1) by rw [hs]; rw [hke]]
   (repeat' ((conv => whnf); first | (exfalso; omega) | refine cpC (p2) ?_ | refine dpC (p2) ?_ | refine hK (y + 1) [some 0, some 1, some 2, some 3] _ _ ⟨by omega⟩ ⟨by omega⟩ (by exact bkI) | refine x0C ?_ | refine spC (fun hb => ?_) fun hb => ?_ | refine nilC (fun hb => ?_) ?_ | refine taC ?_ | refine saC ?_ | exact sdV | refine side_and ?_ ?_ | refine drawX_of mixed ?_))
  ·have ht : (pickS x.a 48 + (k : Int)).tmod 48 = (pickS x.a 48 + (k : Int)) % 48 := Int.tmod_eq_emod_of_nonneg (by omega)
   have ht2 : 0 ≤ (pickS x.a 48 + (k : Int)).tmod 48 ∧ (pickS x.a 48 + (k : Int)).tmod 48 < 48 := by rw [ht]; omega
   have hs := rowsK_succ x y k (rowsY x (pickS (x.a.tdiv 48) 3 + 1).toNat y)
   generalize rowsK x y k (rowsY x (pickS (x.a.tdiv 48) 3 + 1).toNat y) = R at *
   have hm : 0 ≤ min 23 (pickS x.b 24 + (y : Int)) ∧ min 23 (pickS x.b 24 + (y : Int)) < 24 := by omega
   have e1 : R.set (0 + (min 23 (pickS x.b 24 + (y : Int))).toNat) (bitop .or .i64 (R.getD (0 + (min 23 (pickS x.b 24 + (y : Int))).toNat) (Cd.dflt U.int)) (shlop .i64 1 ((pickS x.a 48 + (k : Int)).tmod 48))) = rowsK x y (k + 1) (rowsY x (pickS (x.a.tdiv 48) 3 + 1).toNat y) := by
    rw [hs, Nat.zero_add]; rfl
   (repeat' ((conv => whnf); first | (exfalso; omega) | refine cpC (p2) ?_ | refine dpC (p2) ?_ | refine cpC (p3) ?_ | refine dpC (p3) ?_ | refine cpC (p4) ?_ | refine dpC (p4) ?_ | refine hK2 (k + 1) [some 0, some 1, some 2, some 3] _ _ ⟨by omega⟩ ⟨by omega⟩ (by exact bkI) | refine x0C ?_ | refine spC (fun hb => ?_) fun hb => ?_ | refine nilC (fun hb => ?_) ?_ | refine taC ?_ | refine saC ?_ | exact sdV | refine side_and ?_ ?_ | refine drawX_of mixed ?_))
end Go.SX

/-
 Plain law: the goals that integers determine are valid.
-/
namespace Go.SX
theorem sizeL_app : ∀ (l : List Goal) (k : Goal) (d a b : Int), sizeL l d = some a → sizeG k d = some b → sizeL (l ++ [k]) d = some (a + b)
 | [], k, d, a, b, h1, h2 => by
  rw [sizeL] at h1; injection h1 with h1
  rw [List.nil_append, sizeL, h2]
  simp only [sizeL]
  congr 1; omega
 | x :: l, k, d, a, b, h1, h2 => by
  rw [sizeL] at h1
  rw [List.cons_append, sizeL]
  cases hx : sizeG x d with
  | none => rw [hx] at h1; cases h1
  | some m =>
   rw [hx] at h1
   dsimp only at h1 ⊢
   cases hl : sizeL l d with
   | none => rw [hl] at h1; cases h1
   | some c =>
    rw [hl] at h1
    injection h1 with h1
    rw [sizeL_app l k d c b hl h2]
    dsimp only
    congr 1; omega
/-- what a reckoning of goals gives -/
structure GoalOK (j : Nat) (most : Int) (r : Goal × Int × Int) : Prop where
 size : sizeG r.1 (4 - j) = some r.2.2
 used : r.2.1 = r.2.2
 pos : 1 ≤ r.2.2
 le : r.2.2 ≤ most
 kind : 1 ≤ r.1.kind ∧ r.1.kind ≤ 6
structure KidOK (j : Nat) (most : Int) (i : Nat) (s : KidSt) : Prop where
 kl : s.kids.length = i
 cl : s.cents.length = i
 size : sizeL s.kids (4 - j) = some (s.count - 1)
 used : s.used = s.count
 low : 1 ≤ s.count ∧ (i : Int) + 1 ≤ s.count
 high : s.count + (if i ≤ 1 then 1 else 0) ≤ most
 cents : ∀ c ∈ s.cents, 0 ≤ c ∧ c ≤ 1000000000
 kinds : ∀ k ∈ s.kids, 1 ≤ k.kind ∧ k.kind ≤ 6
theorem kid_start {rec : Int → Int → Goal × Int × Int} {y : A5} {at_ most : Int} {j : Nat} (hm : 3 ≤ most) : KidOK j most 0 (kidsN rec y at_ most 0) := by
 refine ⟨rfl, rfl, by simp [kidsN, sizeL], rfl, by simp [kidsN], ?_, fun c h => (by cases h), fun c h => (by cases h)⟩
 simp [kidsN]; omega
theorem kid_step {rec : Int → Int → Goal × Int × Int} {y : A5} {at_ most many : Int} {j : Nat} (hm : 3 ≤ most) (hr : ∀ (a m : Int), 1 ≤ m → a + m ≤ at_ + most → at_ < a → GoalOK j m (rec a m)) {i : Nat} (h : KidOK j most i (kidsN rec y at_ most i)) (hg : goB rec y at_ most many i = true) : KidOK j most (i + 1) (kidsN rec y at_ most (i + 1)) := by
 unfold goB at hg
 simp only [Bool.and_eq_true, Bool.or_eq_true, decide_eq_true_eq] at hg
 have hh := h.high
 have hu := h.used
 have hlo := h.low
 have hone : 1 ≤ most - (kidsN rec y at_ most i).count - max 0 (1 - (i : Int)) := by
  rcases Nat.lt_or_ge i 1 with h0 | h0
  ·obtain rfl : i = 0 := by omega
   have : (kidsN rec y at_ most 0).count = 1 := rfl
   omega
  ·rcases Nat.lt_or_ge i 2 with h1 | h1
   ·rw [if_pos (by omega)] at hh; omega
   ·rcases hg.2 with h2 | h2
    ·omega
    ·omega
 have hk := hr (at_ + (kidsN rec y at_ most i).used) (most - (kidsN rec y at_ most i).count - max 0 (1 - (i : Int))) hone (by omega) (by omega)
 have hp := hk.pos
 have hl := hk.le
 refine ⟨by simp [kidsN, h.kl], by simp [kidsN, h.cl], ?_, ?_, ?_, ?_, fun c hc => ?_, fun k hc => ?_⟩
 ·simp only [kidsN]
  rw [sizeL_app _ _ _ _ _ h.size hk.size]
  congr 1; omega
 ·have := hk.used
  simp only [kidsN]; omega
 ·simp only [kidsN]; omega
 ·have h0 : i = 0 → (kidsN rec y at_ most i).count = 1 := fun e => by subst e; rfl
  simp only [kidsN]
  split <;> omega
 ·simp only [kidsN] at hc
  rcases List.mem_append.1 hc with hc | hc
  ·exact h.cents c hc
  ·rw [List.mem_singleton.1 hc]
   have := pickS_bd (c := IntKind.i64.wrap (y.c + IntKind.i64.wrap ((i : Int) * y.d))) (n := 1000) (by omega)
   omega
 ·simp only [kidsN] at hc
  rcases List.mem_append.1 hc with hc | hc
  ·exact h.kinds k hc
  ·rw [List.mem_singleton.1 hc]; exact hk.kind
/-- so many parts there are in the end -/
theorem kid_end {rec : Int → Int → Goal × Int × Int} {y : A5} {at_ most many : Int} {j : Nat} (hm : 3 ≤ most) (hmany : 2 ≤ many ∧ many ≤ 4) (hr : ∀ (a m : Int), 1 ≤ m → a + m ≤ at_ + most → at_ < a → GoalOK j m (rec a m)) :
  ∃ e, endI rec y at_ most many 4 0 = e ∧ 2 ≤ e ∧ e ≤ 4 ∧ KidOK j most e (kidsN rec y at_ most e) := by
 have key : ∀ f i, KidOK j most i (kidsN rec y at_ most i) → i + f = 4 → ∃ e, endI rec y at_ most many f i = e ∧ i ≤ e ∧ e ≤ 4 ∧ KidOK j most e (kidsN rec y at_ most e) ∧ (e < 4 → goB rec y at_ most many e = false) := by
  intro f
  induction f with
  | zero => intro i h hi; exact ⟨i, rfl, Nat.le_refl _, by omega, h, fun h => by omega⟩
  | succ f ih =>
   intro i h hi
   rw [endI]
   cases hg : goB rec y at_ most many i with
   | false => exact ⟨i, rfl, Nat.le_refl _, by omega, h, fun _ => hg⟩
   | true =>
    obtain ⟨e, h1, h2, h3⟩ := ih (i + 1) (kid_step hm hr h hg) (by omega)
    exact ⟨e, by simpa using h1, by omega, h3⟩
 obtain ⟨e, h1, h2, h3, h4, h5⟩ := key 4 0 (kid_start hm) rfl
 refine ⟨e, h1, ?_, h3, h4⟩
 rcases Nat.lt_or_ge e 2 with hlt | hge
 ·have := h5 (by omega)
  unfold goB at this
  rw [decide_eq_true (show (e : Int) < many by omega), decide_eq_true (show (e : Int) < 2 by omega)] at this
  cases this
 ·exact hge
theorem kindS_bd (j : Nat) (x : List A5) (at_ most : Int) : 1 ≤ kindS j x at_ most ∧ kindS j x at_ most ≤ 6 ∧ (kindS j x at_ most ≠ 1 → j ≠ 0 ∧ 2 ≤ most ∧ at_ + 1 < x.length) ∧ (5 ≤ kindS j x at_ most → 3 ≤ most) := by
 have := pickS_bd (c := (y5 x at_).a.tdiv 144) (n := 6) (by omega)
 unfold kindS
 split
 ·omega
 ·rename_i h
  simp only [not_or, not_and] at h
  omega
theorem goals_ok : ∀ (j : Nat) (x : List A5) (at_ most : Int), j ≤ 3 → 1 ≤ most → GoalOK j most (goalsS j x at_ most)
 | 0, x, at_, most, hj, hm => ⟨by rw [goalsS]; exact seeS_size _ (by omega), rfl, by simp [goalsS], by simp [goalsS]; omega, by simp [goalsS, seeS]⟩
 | j + 1, x, at_, most, hj, hm => by
  obtain ⟨hk1, hk6, hk, hk5⟩ := kindS_bd (j + 1) x at_ most
  have size_one : ∀ g : Goal, okB g = true → (∃ z, g.kids = [seeS z]) → sizeG g (4 - ((j + 1 : Nat) : Int)) = some 2 := fun g h ⟨z, hz⟩ => by
   rw [sizeG_eq, h, decide_eq_false (by omega), hz]
   simp only [Bool.false_or, Bool.not_true, Bool.false_eq_true, if_false]
   rw [sizeL, seeS_size z (by omega)]
   simp [sizeL]
  rw [goalsS]
  dsimp only
  split
  ·rename_i e
   have h2 := (hk (by omega)).2.1
   have b1 := pickS_bd (c := (y5 x at_).b) (n := 8) (by omega)
   have b2 := pickS_bd (c := (y5 x at_).c) (n := 3000) (by omega)
   refine ⟨size_one _ ?_ ⟨_, rfl⟩, rfl, by show (1 : Int) ≤ 2; omega, h2, by simp⟩
   unfold okB plainB restG limB partsB manyB centsB lastK
   simp [inB_iff, seeS]
   omega
  ·split
   ·rename_i e
    have h2 := (hk (by omega)).2.1
    have b1 := pickS_bd (c := (y5 x at_).b) (n := 4) (by omega)
    have b2 := pickS_bd (c := (y5 x at_).c) (n := 4) (by omega)
    have b3 := pickS_bd (c := (y5 x at_).d) (n := 1440 * (1 + pickS (y5 x at_).b 4) + 1) (by omega)
    have b4 := pickS_bd (c := (y5 x at_).e) (n := 3000) (by omega)
    refine ⟨size_one _ ?_ ⟨_, rfl⟩, rfl, by show (1 : Int) ≤ 2; omega, h2, by simp⟩
    unfold okB plainB restG limB partsB manyB centsB lastK
    simp [inB_iff, seeS]
    omega
   ·split
    ·rename_i e
     have h2 := (hk (by omega)).2.1
     have b1 := pickS_bd (c := (y5 x at_).b) (n := 3000) (by omega)
     refine ⟨size_one _ ?_ ⟨_, rfl⟩, rfl, by show (1 : Int) ≤ 2; omega, h2, by simp⟩
     unfold okB plainB restG limB partsB manyB centsB lastK
     simp [inB_iff, seeS]
     omega
    ·split
     ·rename_i e
      have h3 := hk5 (by omega)
      have b1 := pickS_bd (c := (y5 x at_).b) (n := 3) (by omega)
      obtain ⟨e', h4, h5, h6, h7⟩ := kid_end (rec := goalsS j x) (y := y5 x at_) (at_ := at_) (most := most) (many := 2 + pickS (y5 x at_).b 3) (j := j) h3 (by omega) fun a m hm _ _ => goals_ok j x a m (by omega) hm
      rw [h4]
      generalize kidsN (goalsS j x) (y5 x at_) at_ most e' = s at h7 ⊢
      have hlow := h7.low
      have hhi := h7.high
      have hhi : s.count ≤ most := by split at hhi <;> omega
      have hany : s.kids.any (fun z => decide ((6 : Int) < z.kind)) = false := by
       rw [List.any_eq_false]
       intro z hz
       have := (h7.kinds z hz).2
       simp; omega
      have hcents : s.cents.any (fun n => !inB n 0 1000000000) = false := by
       rw [List.any_eq_false]
       intro z hz
       have := h7.cents z hz
       rw [(inB_iff z 0 1000000000).2 this]; simp
      refine ⟨?_, h7.used, by show 1 ≤ s.count; omega, by show s.count ≤ most; omega, by rcases e with e | e <;> rw [e] <;> simp⟩
      show sizeG _ _ = some s.count
      have hok : okB ⟨kindS (j + 1) x at_ most, [], 0, 0, 0, 0, false, 0, 0, 0, if kindS (j + 1) x at_ most = 6 then s.cents else [], s.kids⟩ = true := by
       have hkl := h7.kl
       have hcl := h7.cl
       rcases e with e | e
       ·rw [e]
        unfold okB plainB restG limB partsB manyB centsB lastK
        simp [inB_iff, hany, hkl]
        (repeat' apply And.intro) <;> first | omega | exact fun z hz => (h7.kinds z hz).2
       ·rw [e]
        unfold okB plainB restG limB partsB manyB centsB lastK
        simp [inB_iff, hany, hkl, hcl]
        (repeat' apply And.intro) <;> first | omega | exact fun z hz => h7.cents z hz | exact fun z hz => (h7.kinds z hz).2
      rw [sizeG_eq, hok, decide_eq_false (by omega)]
      simp only [Bool.false_or, Bool.not_true, Bool.false_eq_true, if_false]
      rw [show (4 - ((j + 1 : Nat) : Int) + 1) = 4 - (j : Int) by omega, h7.size]
      dsimp only
      congr 1; omega
     ·exact ⟨seeS_size _ (by omega), rfl, by show (1 : Int) ≤ 1; omega, hm, by simp [seeS]⟩
theorem goal_valid (x : List A5) : validG (goalS x) = true := by
 have h := goals_ok 3 x 0 9 (by omega) (by omega)
 unfold goalS validG
 have hs := h.size
 rw [show (4 - ((3 : Nat) : Int)) = 1 by omega] at hs
 rw [hs]
 have := h.le
 exact decide_eq_true (by omega)
end Go.SX

/-
 Plain law: what goals mean.
-/
namespace Go.SX
/-! numbers, ascending, each once -/
/-! bounds -/
theorem size_ok {g : Goal} {d n : Int} (h : sizeG g d = some n) : okB g = true ∧ d ≤ 4 ∧ ∃ m, sizeL g.kids (d + 1) = some m ∧ n = 1 + m := by
 rw [sizeG_eq] at h
 split at h
 ·cases h
 ·rename_i hc
  simp only [Bool.or_eq_true, decide_eq_true_eq, Bool.not_eq_true', not_or, Bool.not_eq_false] at hc
  split at h
  ·cases h
  ·rename_i m hm
   injection h with h
   exact ⟨hc.2, by omega, m, hm, h.symm⟩
end Go.SX
namespace Go.SX
end Go.SX
namespace Go.SX
end Go.SX
namespace Go.SX
end Go.SX
namespace Go.SX
end Go.SX
