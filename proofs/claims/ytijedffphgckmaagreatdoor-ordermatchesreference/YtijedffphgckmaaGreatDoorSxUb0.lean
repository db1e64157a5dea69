/-
  Walks: Ub0, Ub1, Ub2, Ub3, Ub4, Ub5, Ub6, Ub7, Ub8: what single functions of the program compute.
-/
import Derived.Test.YtijedffphgckmaaGreatDoorSxUa5
set_option linter.unusedVariables false
set_option linter.unusedSimpArgs false
namespace Go.SX
open Go.Proofs
set_option maxHeartbeats 400000000
set_option maxRecDepth 100000
@[reducible] def rdH (ws : List Wd) (a m : Int) : List (HS Cd) := [.vart none [wsS ws, iS a, iS m]]
@[reducible] def chS : List PanicEntry := [{ v := .iface 84 (.agg #[]), recovered := false }]
structure RM {α : Type} (f : FuncId) (args : List (SV Cd)) (ws : List Wd) (a m : Int) (X : List (HS Cd)) (S : Rs α) (ret : α → SV Cd) (Pr : α → Prop) : Prop where
 ok : ∀ x a' m', S = .ok x a' m' → q07 Tryz.prog Dc f args (rdH ws a m ++ X) (ret x) (rdH ws a' m' ++ X)
 no : ∀ a' m', S = .no a' m' → y6h Tryz.prog Dc f args (rdH ws a m ++ X) chS (rdH ws a' m' ++ X)
 bd : S.Bd ws a m
 pr : ∀ x a' m', S = .ok x a' m' → Pr x
def y4j {α : Type} (S : Rs α) (rs : List ResultVar) (m0 : Nat) (ret : α → SV Cd) (ws : List Wd) (X : List (HS Cd)) : qx3 Cd := fun e T Hp =>
 (∃ x a' m', S = .ok x a' m' ∧ qn8 Dc tab rs m0 (ret x) (rdH ws a' m' ++ X) e T Hp) ∨ ∃ a' m', S = .no a' m' ∧ qy4 chS m0 (rdH ws a' m' ++ X) e T Hp
theorem q6d {α : Type} {f : FuncId} {fn : Func} {c : Code} (hf : Tryz.prog.funcs[f]? = some fn) (hb : fn.body = some c) (henter : ∀ args w, (callFunc f args).run Tryz.prog w = .ok (.enter f args) w)
  {args : List (SV Cd)} {ws : List Wd} {a m : Int} {X : List (HS Cd)} {S : Rs α} {ret : α → SV Cd} {Pr : α → Prop} (n : Nat) (hbd : S.Bd ws a m) (hpr : ∀ x a' m', S = .ok x a' m' → Pr x)
  (h : q3c (args ++ qq4 (fn.ntmps - args.length)) fun T0 => q2s (rdH ws a m ++ X) fun Hp0 => gx Tryz.prog Ax tab ⟨none, [], (rdH ws a m ++ X).length, false⟩ (y4j S fn.results.toList (rdH ws a m ++ X).length ret ws X) n [.code c] T0 Hp0) : RM f args ws a m X S ret Pr where
 ok := fun x a' m' e => z4z Ax q03 hf hb henter (fun ex T Hp hp => by
  rcases hp with ⟨x2, a2, m2, e2, hp⟩ | ⟨a2, m2, e2, hp⟩
  ·rw [e] at e2; cases e2; exact hp
  ·rw [e] at e2; cases e2) n h
 no := fun a' m' e => z7t Ax q03 hf hb henter (fun ex T Hp hp => by
  rcases hp with ⟨x2, a2, m2, e2, hp⟩ | ⟨a2, m2, e2, hp⟩
  ·rw [e] at e2; cases e2
  ·rw [e] at e2; cases e2; exact hp) n h
 bd := hbd
 pr := hpr
section
variable {α : Type} {X : Ctx Cd} {R : q61 Cd} {f : FuncId} {args : List (SV Cd)} {dst : Option Nat} {all rest : List Oper} {k : List (It Cd)} {T : List (SV Cd)} {Hp : List (HS Cd)} {ws : List Wd} {a m : Int}
theorem rok {S : Rs α} {rs : List ResultVar} {m0 : Nat} {ret : α → SV Cd} {Y : List (HS Cd)} {e : Exit} {x : α} {a' m' : Int} (hS : S = .ok x a' m') (h : qn8 Dc tab rs m0 (ret x) (rdH ws a' m' ++ Y) e T Hp) : y4j S rs m0 ret ws Y e T Hp := .inl ⟨x, a', m', hS, h⟩
theorem rno {S : Rs α} {rs : List ResultVar} {m0 : Nat} {ret : α → SV Cd} {Y : List (HS Cd)} {e : Exit} {a' m' : Int} (hS : S = .no a' m') (h : qy4 chS m0 (rdH ws a' m' ++ Y) e T Hp) : y4j S rs m0 ret ws Y e T Hp := .inr ⟨a', m', hS, h⟩
theorem rmX {args0 : List (SV Cd)} {Y : List (HS Cd)} {S : Rs α} {ret : α → SV Cd} {Pr : α → Prop} {H0' : List (HS Cd)} (ρ : List (Option Nat)) (hM : RM f args0 ws a m Y S ret Pr) (hargs : renL ρ args0 = some args) (hH0 : q53 ρ (rdH ws a m ++ Y) = some H0') (hat : q3q (q0r Hp) ρ H0')
  (hok : ∀ x a' m', S = .ok x a' m' → InW ws a' m' → Pr x → z0p Hp ρ (rdH ws a m ++ Y).length (rdH ws a' m' ++ Y) (ret x) fun ret _ ws' => q33 T dst ret fun T' => q49 Hp ws' fun Hp' => R (.ops all rest :: k) T' Hp')
  (hno : ∀ a' m', S = .no a' m' → InW ws a' m' → z0p Hp ρ (rdH ws a m ++ Y).length (rdH ws a' m' ++ Y) (.tuple []) fun _ _ ws' => q49 Hp ws' fun Hp' => R (.die chS :: k) T Hp') (hi : InW ws a m) : q8r Tryz.prog Dc X R f args dst all rest k T Hp := by
 have hb := hM.bd
 cases hS : S with
 | ok x a' m' => rw [hS] at hb; exact q01 ρ (hM.ok x a' m' hS) hargs hH0 hat (hok x a' m' hS (hi.step hb) (hM.pr x a' m' hS))
 | no a' m' => rw [hS] at hb; exact ye0 ρ (hM.no a' m' hS) hargs hH0 hat (hno a' m' hS (hi.step hb))
end
structure q74 (ws : List Wd) : Prop where
 w : ∀ w ∈ ws, w.length ≤ 1000000
 n : ws.length ≤ 1000000
theorem zy4 {ws : List Wd} (h : q74 ws) {a m : Int} (hi : InW ws a m) : (q0y ws a).length ≤ 1000000 := by
 unfold q0y
 split
 ·simp
 ·rename_i hne
  have hlt : a.toNat < ws.length := by have := hi.a0; have := hi.a1; omega
  rw [List.getD_eq_getElem?_getD, List.getElem?_eq_getElem hlt]
  exact h.w _ (List.getElem_mem hlt)
theorem qz3 {ws : List Wd} {a m : Int} (hi : InW ws a m) (hn : q74 ws) : q07 Tryz.prog Dc 102 [.ptr 0 0] (rdH ws a m) (wS (q0y ws a)) (rdH ws a m) := by
 obtain ⟨h1, h2, h3, _⟩ := hi
 have hl := hn.n
 unfold q0y
 by_cases he : a = ws.length
 ·rw [if_pos he]
  refine q00 Ax q03 Tryz.func102 (c := _) rfl Tryz.call102 100 ?_
  (repeat' ((conv => whnf); first | (exfalso; omega) | (refine q08 [some 0] (.inr rfl) ?_ ?_ rfl rfl; (focus exact vwV); exact hsV) | refine spC (fun hb => ?_) fun hb => ?_ | refine taC ?_ | refine q02 mixed ?_))
 ·rw [if_neg he]
  refine q00 Ax q03 Tryz.func102 (c := _) rfl Tryz.call102 100 ?_
  (repeat' ((conv => whnf); first | (exfalso; omega) | (refine q08 [some 0] (.inr rfl) ?_ ?_ rfl rfl; (focus exact vwV); exact hsV) | refine spC (fun hb => ?_) fun hb => ?_ | refine taC ?_ | refine saC ?_ | refine q02 mixed ?_))
theorem y7d {ws : List Wd} {a m : Int} (s : Wd) (hi : InW ws a m) (hn : q74 ws) (h : q0y ws a = s) : q07 Tryz.prog Dc 75 [.ptr 0 0, wS s] (rdH ws a m) (bS true) (rdH ws (a + 1) m) := by
 have hp := qz3 hi hn
 obtain ⟨h1, h2, h3, _⟩ := hi
 have hl := hn.n
 rw [h] at hp
 refine q00 Ax q03 Tryz.func75 (c := _) rfl Tryz.call75 100 ?_
 (repeat' ((conv => whnf); first | (refine q01 [some 0] hp rfl rfl ⟨rfl, trivial⟩ ?_) | (refine q08 [some 0] (.inr rfl) ?_ ?_ rfl rfl; (focus exact vwV); exact hsV) | refine spC (fun hb => ?_) fun hb => ?_ | refine saC ?_))
 all_goals exact absurd rfl (by assumption)
theorem y72 {ws : List Wd} {a m : Int} (s : Wd) (hi : InW ws a m) (hn : q74 ws) (h : ¬ q0y ws a = s) : q07 Tryz.prog Dc 75 [.ptr 0 0, wS s] (rdH ws a m) (bS false) (rdH ws a m) := by
 have hp := qz3 hi hn
 obtain ⟨h1, h2, h3, _⟩ := hi
 have hl := hn.n
 refine q00 Ax q03 Tryz.func75 (c := _) rfl Tryz.call75 100 ?_
 (repeat' ((conv => whnf); first | (refine q01 [some 0] hp rfl rfl ⟨rfl, trivial⟩ ?_) | (refine q08 [some 0] (.inr rfl) ?_ ?_ rfl rfl; (focus exact vwV); exact hsV) | refine spC (fun hb => ?_) fun hb => ?_ | refine saC ?_))
 all_goals exact absurd (by assumption) h
theorem y41 : Tryz.prog.underlying 84 = some (.struct #[]) := by kernel_rfl
theorem q9l (e : Operand → Value) (o : Oper) (w : World) (ho : o.op = .build 84 #[]) : (execOp e o).run Tryz.prog w = .ok (.value (.agg #[])) w := by
 obtain ⟨i, h1, h2⟩ : ∃ i, Tryz.prog.info? 84 = some i ∧ i.zero = some (.agg #[]) := by
  have : (Tryz.prog.info? 84).map (·.zero) = some (some (.agg #[])) := by kernel_rfl
  cases h : Tryz.prog.info? 84 with
  | none => rw [h] at this; cases this
  | some i => rw [h] at this; exact ⟨i, rfl, by simpa using this⟩
 simp [execOp, ho, Instr.build, run_underlying y41, zeroValue, typeInfo, h1, h2]
 rfl
theorem q60 (x : Operand) (e : Operand → Value) (o : Oper) (w : World) (ho : o.op = .makeInterface 84 x) : (execOp e o).run Tryz.prog w = .ok (.value (.iface 84 (e x))) w := by
 simp [execOp, ho, Instr.makeInterface, run_underlying y41]
theorem z0v (ws : List Wd) : ∀ (i : Nat) (l : List Wd) (a m : Int), i ≤ l.length → (∀ j, j < i → q0y ws (a + j) = l.getD j []) → q1t ws l a m = q1t ws (l.drop i) (a + i) m
  | 0, l, a, m, _, _ => by simp
  | i + 1, [], a, m, h, _ => by simp at h
  | i + 1, s :: l, a, m, h, hp => by
    have h0 := hp 0 (by omega)
    simp only [Int.natCast_zero, Int.add_zero, List.getD_cons_zero] at h0
    rw [q1t, if_pos h0, z0v ws i l (a + 1) m (by simpa using h) fun j hj => by
      have := hp (j + 1) (by omega)
      rw [show a + 1 + (j : Int) = a + ((j + 1 : Nat) : Int) by omega]
      simpa using this]
    rw [List.drop_succ_cons, show a + 1 + (i : Int) = a + ((i + 1 : Nat) : Int) by omega]
theorem q4j (l : List Wd) (hll : l.length ≤ 1000000) (h32 : ∀ s ∈ l, s ≠ [32]) {ws : List Wd} {a m : Int} (hi : InW ws a m) (hn : q74 ws) : RM 73 [.ptr 0 0, .slice 1 0 1 0 l.length] ws a m [.rows U.str l] (q1t ws l a m) (fun _ => .tuple []) (fun _ => True) := by
 refine q6d Tryz.func73 (c := _) rfl Tryz.call73 200 (q1n l hi h32) (fun _ _ _ _ => trivial) ?_
 obtain ⟨S, hS⟩ : ∃ S, S = q1t ws l a m := ⟨_, rfl⟩
 rw [← hS]
 refine q0u (fun i : Nat => [(8, iS i)]) (fun i => [(0, .vart none [wsS ws, iS (a + i), iS m])]) (fun i => i ≤ l.length ∧ InW ws (a + i) m ∧ ∀ j, j < i → q0y ws (a + j) = l.getD j []) (fun i => l.length - i) 0 ⟨Nat.zero_le _, by simpa using hi, fun j hj => absurd hj (Nat.not_lt_zero _)⟩ (by exact bkW) ?_
 rintro i ⟨hil, hiw, hpj⟩ K hK
 have hd := z0v ws i l a m hil hpj
 rw [hd] at hS
 rcases Nat.lt_or_ge i l.length with hlt | hge
 ·have hb1 := hiw.a1
  have hb2 := hn.n
  have hg : l.getD (0 + (i : Int).toNat) (Cd.dflt U.str) = l.getD i [] := by rw [Nat.zero_add]; rfl
  rw [q99 (d := ([] : Wd)) hlt, q1t] at hS
  by_cases hp : q0y ws (a + i) = l.getD i []
  ·have hmem : l.getD i [] ∈ l := by rw [List.getD_eq_getElem?_getD, List.getElem?_eq_getElem hlt]; exact List.getElem_mem hlt
   have hlt2 := q3l hiw hp (h32 _ hmem)
   have hI : InW ws (a + i + 1) m := ⟨by have := hiw.a0; omega, by omega, hiw.m0, hiw.m1⟩
   have q := y7d (l.getD (0 + (i : Int).toNat) (Cd.dflt U.str)) hiw hn (hp.trans hg.symm)
   (repeat' ((conv => whnf); first | (exfalso; omega) | (refine q01 [some 0] q rfl rfl ⟨rfl, trivial⟩ ?_) | (refine hK (i + 1) [some 0, some 1] _ _ ⟨⟨by omega, by (rw [show a + ((i + 1 : Nat) : Int) = a + i + 1 by omega]; exact hI), fun j hj => by (rcases Nat.lt_or_ge j i with h | h; exact hpj j h; (obtain rfl : j = i := by omega); exact hp)⟩⟩ ⟨by omega⟩ (by exact bkW)) | refine spC (fun hb => ?_) fun hb => ?_ | refine saC ?_))
  ·have q := y72 (l.getD (0 + (i : Int).toNat) (Cd.dflt U.str)) hiw hn (fun e => hp (e.trans hg))
   rw [if_neg hp] at hS
   (repeat' ((conv => whnf); first | (exfalso; omega) | (refine q01 [some 0] q rfl rfl ⟨rfl, trivial⟩ ?_) | refine q3y q9l ?_ | refine q2y (q60 _) rfl ?_ | refine q31 _ _ _ rfl (q2z rfl) ?_ | (refine rno hS (q0v [some 0, some 1] ?_); exact hsW) | refine spC (fun hb => ?_) fun hb => ?_ | refine saC ?_))
 ·obtain rfl : i = l.length := by omega
  rw [List.drop_length, q1t] at hS
  (repeat' ((conv => whnf); first | (exfalso; omega) | (refine rok hS (q08 [some 0, some 1] (.inl rfl) ?_ ?_ rfl rfl); (focus exact vwV); exact hsW) | refine spC (fun hb => ?_) fun hb => ?_))
theorem zk5 (lo hi' : Int) {ws : List Wd} {a m : Int} (hi : InW ws a m) (hn : q74 ws) : RM 74 [.ptr 0 0, iS lo, iS hi'] ws a m [] (q76 ws lo hi' a m) (fun n => iS n) (fun n => lo ≤ n ∧ n ≤ hi') := by
 refine q6d Tryz.func74 (c := _) rfl Tryz.call74 200 (q2u hi) (fun n a' m' e => ⟨(z7p hi e).1, (z7p hi e).2.1⟩) ?_
 obtain ⟨S, hS⟩ : ∃ S, S = q76 ws lo hi' a m := ⟨_, rfl⟩
 rw [← hS]
 have hp := qz3 hi hn
 have hpl := zy4 hn hi
 have ka := yc1 (q0y ws a) (by omega)
 have hin := fun n => oin n lo hi'
 unfold q76 zs3 at hS
 have hb1 := hi.a1
 have hb2 := hn.n
 have hb0 := hi.a0
 unfold y5i y5c at ka
 cases ha : Go.Lib.atoiAll (q0y ws a) with
 | ok n =>
  rw [ha] at ka hS
  obtain ⟨n1, n2⟩ := Go.Lib.atoiAll_bounds ha
  have ki := zm6 n ⟨by omega, by omega⟩
  have hin' := hin n
  simp only at ka hS
  by_cases hw : q0a n = q0y ws a
  ·rw [if_pos hw] at hS
   simp only at hS
   by_cases hb : lo ≤ n ∧ n ≤ hi'
   ·rw [if_pos hb] at hS
    have hlt : a < ws.length := by
     rcases Int.lt_or_eq_of_le hb1 with h | h
     ·exact h
     ·exfalso
      have : q0y ws a = [32] := by unfold q0y; rw [if_pos h]
      rw [this] at ha
      have h2 : Go.Lib.atoiAll [32] = Go.Lib.NumEnd.syntax := by decide
      rw [h2] at ha; cases ha
    rw [(q0f _ _ _).2 hb] at hin'
    (repeat' ((conv => whnf); first | (refine q01 [some 0] hp rfl rfl ⟨rfl, trivial⟩ ?_) | refine cpC (ka) ?_ | refine cpC (ki) ?_ | refine cpC (hin') ?_ | refine q3y q9l ?_ | refine q2y (q60 _) rfl ?_ | refine q31 _ _ _ rfl (q2z rfl) ?_ | (refine rok hS (q08 [some 0] (.inr rfl) ?_ ?_ rfl rfl); (focus exact vwV); exact hsW) | refine spC (fun hb => ?_) fun hb => ?_ | refine saC ?_))
    all_goals exact absurd hw (by assumption)
   ·rw [if_neg hb] at hS
    rw [(z7h _ _ _).2 hb] at hin'
    (repeat' ((conv => whnf); first | (refine q01 [some 0] hp rfl rfl ⟨rfl, trivial⟩ ?_) | refine cpC (ka) ?_ | refine cpC (ki) ?_ | refine cpC (hin') ?_ | refine q3y q9l ?_ | refine q2y (q60 _) rfl ?_ | refine q31 _ _ _ rfl (q2z rfl) ?_ | (refine rno hS (q0v [some 0] ?_); exact hsW) | refine spC (fun hb => ?_) fun hb => ?_))
  ·rw [if_neg hw] at hS
   simp only at hS
   (repeat' ((conv => whnf); first | (refine q01 [some 0] hp rfl rfl ⟨rfl, trivial⟩ ?_) | refine cpC (ka) ?_ | refine cpC (ki) ?_ | refine cpC (hin') ?_ | refine q3y q9l ?_ | refine q2y (q60 _) rfl ?_ | refine q31 _ _ _ rfl (q2z rfl) ?_ | (refine rno hS (q0v [some 0] ?_); exact hsW) | refine spC (fun hb => ?_) fun hb => ?_ | refine saC ?_))
   all_goals exact absurd (by assumption) hw
 | range =>
  rw [ha] at ka hS
  simp only at ka hS
  (repeat' ((conv => whnf); first | (refine q01 [some 0] hp rfl rfl ⟨rfl, trivial⟩ ?_) | refine cpC (ka) ?_ | refine q3y q9l ?_ | refine q2y (q60 _) rfl ?_ | refine q31 _ _ _ rfl (q2z rfl) ?_ | (refine rno hS (q0v [some 0] ?_); exact hsW)))
 | _ =>
  rw [ha] at ka hS
  simp only at ka hS
  (repeat' ((conv => whnf); first | (refine q01 [some 0] hp rfl rfl ⟨rfl, trivial⟩ ?_) | refine cpC (ka) ?_ | refine q3y q9l ?_ | refine q2y (q60 _) rfl ?_ | refine q31 _ _ _ rfl (q2z rfl) ?_ | (refine rno hS (q0v [some 0] ?_); exact hsW)))
theorem z2f {ws : List Wd} {s t : Wd} {a m : Int} (h : InW ws a m) (hs : s ≠ [32]) (ht : t ≠ [32]) : (qm1 ws s t a m).Bd ws a m := by
 have h0 := h.a0
 unfold qm1
 split
 ·rename_i e
  have := q3l h e hs
  exact ⟨by omega, by omega, h.m0, Int.le_refl _⟩
 ·split
  ·rename_i e
   have := q3l h e ht
   exact ⟨by omega, by omega, h.m0, Int.le_refl _⟩
  ·exact h.refl
theorem y3m (s t : Wd) (hsw : s ≠ [32]) (htw : t ≠ [32]) {ws : List Wd} {a m : Int} (hi : InW ws a m) (hn : q74 ws) : RM 76 [.ptr 0 0, wS s, wS t] ws a m [] (qm1 ws s t a m) (fun b => bS b) (fun _ => True) := by
 refine q6d Tryz.func76 (c := _) rfl Tryz.call76 200 (z2f hi hsw htw) (fun _ _ _ _ => trivial) ?_
 obtain ⟨S, hS⟩ : ∃ S, S = qm1 ws s t a m := ⟨_, rfl⟩
 rw [← hS]
 unfold qm1 at hS
 have hb1 := hi.a1
 have hb2 := hn.n
 by_cases h1 : q0y ws a = s
 ·rw [if_pos h1] at hS
  have hq := y7d s hi hn h1
  (repeat' ((conv => whnf); first | (refine q01 [some 0] hq rfl rfl ⟨rfl, trivial⟩ ?_) | (refine rok hS (q08 [some 0] (.inr rfl) ?_ ?_ rfl rfl); (focus exact vwV); exact hsW)))
 ·rw [if_neg h1] at hS
  have hq := y72 s hi hn h1
  have hm := q4j [t] (by simp) (by simpa using htw) hi hn
  unfold q1t q1t at hm
  by_cases h2 : q0y ws a = t
  ·rw [if_pos h2] at hS hm
   (repeat' ((conv => whnf); first | (refine q01 [some 0] hq rfl rfl ⟨rfl, trivial⟩ ?_) | (refine rmX [some 0, some _] hm rfl rfl ⟨rfl, rfl, trivial⟩ (fun x a1 m1 e hi hp => ?_) (fun a1 m1 e hi => ?_) (by assumption) <;> cases e) | (refine rok hS (q08 [some 0] (.inr rfl) ?_ ?_ rfl rfl); (focus exact vwV); exact hsW) | refine saC ?_))
  ·rw [if_neg h2] at hS hm
   (repeat' ((conv => whnf); first | (refine q01 [some 0] hq rfl rfl ⟨rfl, trivial⟩ ?_) | (refine rmX [some 0, some _] hm rfl rfl ⟨rfl, rfl, trivial⟩ (fun x a1 m1 e hi hp => ?_) (fun a1 m1 e hi => ?_) (by assumption) <;> cases e) | (refine rno hS (q0v [some 0] ?_); exact hsW) | refine saC ?_))
theorem z49 {ws : List Wd} : ∀ (n : Nat) (y free : Int) (rows : List Int) {a m : Int}, InW ws a m → (q7q ws n y free rows a m).Bd ws a m
 | 0, _, _, _, a, m, h => by unfold q7q; exact h.refl
 | n + 1, y, free, rows, a, m, h => by
  unfold q7q
  split
  ·exact h.refl
  ·refine q0k h (q1n [q7o] h (by decide)) fun _ a1 m1 _ h1 => ?_
   refine q0k h1 (q2u h1) fun row a2 m2 _ h2 => ?_
   refine q0k h2 (q2u h2) fun x a3 m3 _ h3 => ?_
   refine q0k h3 (q2u h3) fun z a4 m4 _ h4 => ?_
   split
   ·exact z49 n _ _ _ h4
   ·exact h4.refl
theorem zv3 {n k : Nat} (h : k ≤ 64) (h2 : n * 2 ^ k < 2 ^ 63) : q4p .i64 (n : Int) (k : Int) = ((n * 2 ^ k : Nat) : Int) := by
 unfold q4p
 rw [show min (k : Int).toNat IntKind.i64.bits = k by simp [IntKind.bits]; omega, show (n : Int) * 2 ^ k = ((n * 2 ^ k : Nat) : Int) by simp]
 generalize n * 2 ^ k = x at *
 simp only [IntKind.wrap, IntKind.signed, IntKind.bits]
 simp
 omega
theorem y6b {x z : Int} (h : 0 ≤ x ∧ x ≤ z ∧ z ≤ 47) : 1 ≤ q4p .i64 1 (z - x + 1) ∧ q4p .i64 1 (z - x + 1) ≤ 281474976710656 ∧ q4p .i64 (q4p .i64 1 (z - x + 1) - 1) x = q6f x z := by
  obtain ⟨x, rfl⟩ := Int.eq_ofNat_of_zero_le h.1
  obtain ⟨z, rfl⟩ := Int.eq_ofNat_of_zero_le (Int.le_trans h.1 h.2.1)
  have hk : (z : Int) - x + 1 = ((z - x + 1 : Nat) : Int) := by omega
  have hp : 2 ^ (z - x + 1) ≤ 2 ^ 48 := Nat.pow_le_pow_right (by omega) (by omega)
  have hq : 2 ^ (z - x + 1) * 2 ^ x ≤ 2 ^ 48 := by rw [← Nat.pow_add]; exact Nat.pow_le_pow_right (by omega) (by omega)
  have h1 : 1 ≤ 2 ^ (z - x + 1) := Nat.one_le_two_pow
  have hs := zv3 (n := 1) (k := z - x + 1) (by omega) (by omega)
  rw [Nat.one_mul] at hs
  have e : (2 : Int) ^ (z - x + 1) - 1 = ((2 ^ (z - x + 1) - 1 : Nat) : Int) := by rw [Int.ofNat_sub h1]; simp
  have hs2 := zv3 (n := 2 ^ (z - x + 1) - 1) (k := x) (by omega) (by
    have h3 : (2 ^ (z - x + 1) - 1) * 2 ^ x ≤ 2 ^ (z - x + 1) * 2 ^ x := Nat.mul_le_mul_right _ (by omega)
    omega)
  have hs' : q4p .i64 1 (z - x + 1) = ((2 ^ (z - x + 1) : Nat) : Int) := by rw [hk]; exact hs
  rw [hs']
  refine ⟨by omega, by omega, ?_⟩
  rw [show ((2 ^ (z - x + 1) : Nat) : Int) - 1 = ((2 ^ (z - x + 1) - 1 : Nat) : Int) by omega, hs2]
  unfold q6f
  rw [hk, Int.toNat_natCast, e, Int.toNat_natCast]
  simp
structure yc4 (ws : List Wd) (S : Rs (List Int)) (g : Nat × Int × Int × List Int × Int × Int) : Prop where
 y : 0 ≤ g.2.1 ∧ g.2.1 ≤ 23
 free : 0 ≤ g.2.2.1 ∧ g.2.2.1 ≤ 49
 fuel : 1200 ≤ 50 * g.2.1 + g.2.2.1 + g.1
 len : g.2.2.2.1.length = 24
 inw : InW ws g.2.2.2.2.1 g.2.2.2.2.2
 eq : S = q7q ws g.1 g.2.1 g.2.2.1 g.2.2.2.1 g.2.2.2.2.1 g.2.2.2.2.2
theorem y9t {ws : List Wd} {a m : Int} (hi : InW ws a m) (hn : q74 ws) : RM 142 [.ptr 0 0] ws a m [] (q7q ws 1200 0 0 (List.replicate 24 0) a m) (fun rows => z36 rows) (fun _ => True) := by
 refine q6d Tryz.func142 (c := _) rfl Tryz.call142 600 (z49 _ _ _ _ hi) (fun _ _ _ _ => trivial) ?_
 obtain ⟨S, hS⟩ : ∃ S, S = q7q ws 1200 0 0 (List.replicate 24 0) a m := ⟨_, rfl⟩
 rw [← hS]
 (repeat' ((conv => whnf); first | refine saC ?_))
 refine q0u (fun g : Nat × Int × Int × List Int × Int × Int => [(4, iS g.2.1), (5, iS g.2.2.1)]) (fun g => [(0, .vart none [wsS ws, iS g.2.2.2.2.1, iS g.2.2.2.2.2]), (2, .rows U.int g.2.2.2.1)]) (yc4 ws S) (fun g => g.1) (1200, 0, 0, List.replicate 24 0, a, m) ⟨by simp, by simp, by simp, by simp, hi, hS⟩ (by exact bkW) ?_
 clear hS hi
 rintro ⟨n, y, free, rows, a, m⟩ ⟨⟨hy1, hy2⟩, ⟨hf1, hf2⟩, hfu, hl, hi, hS⟩ K hK
 dsimp only at hy1 hy2 hf1 hf2 hfu hl hi hS ⊢
 obtain ⟨n, rfl⟩ : ∃ j, n = j + 1 := ⟨n - 1, by omega⟩
 unfold q7q at hS
 by_cases hc : 48 ≤ free ∧ y = 23
 ·rw [if_pos hc] at hS
  (repeat' ((conv => whnf); first | (exfalso; omega) | (refine rok hS (q08 [some 0] (.inr rfl) ?_ ?_ rfl rfl); (focus (refine ⟨?_⟩; (repeat' (first | exact trivial | exact rfl | refine And.intro ?_ ?_ | exact fzV rfl rfl rfl (by simp; omega) (by simp [List.take_of_length_le, hl]) rfl)); done)); exact hsW) | refine spC (fun hb => ?_) fun hb => ?_ | refine saC ?_))
 ·rw [if_neg hc] at hS
  (repeat' ((conv => whnf); first | (exfalso; omega) | (refine rmX [some 0, some _] (q4j [q7o] (by decide) (by decide) (by assumption) hn) rfl rfl ⟨rfl, rfl, trivial⟩ (fun x a1 m1 e1 h1 p1 => ?_) (fun a1 m1 e1 h1 => ?_) (by assumption) <;> simp only [e1, Rs.bind] at hS) | (refine rno hS (q0v [some 0] ?_); exact hsW) | refine spC (fun hb => ?_) fun hb => ?_ | refine saC ?_))
  all_goals first | (have h48' : 48 ≤ free := (by assumption); simp only [h48', if_true, or_true] at hS) | (have h48' : ¬ 48 ≤ free := (by assumption); simp only [h48', if_false, or_false] at hS)
  all_goals (conv => whnf); (refine rmX [some 0] (zk5 _ _ (by assumption) hn) rfl rfl ⟨rfl, trivial⟩ (fun row a2 m2 e2 h2 p2 => ?_) (fun a2 m2 e2 h2 => ?_) (by assumption)) <;> simp only [e2, Rs.bind] at hS
  all_goals (repeat' ((conv => whnf); first | (refine rno hS (q0v [some 0] ?_); exact hsW) | refine spC (fun hb => ?_) fun hb => ?_))
  all_goals first | simp only [gt_iff_lt, ‹_ < _›, if_true] at hS | simp only [gt_iff_lt, ‹¬ _ < _›, if_false] at hS | skip
  all_goals (conv => whnf); (refine rmX [some 0] (zk5 _ _ (by assumption) hn) rfl rfl ⟨rfl, trivial⟩ (fun x0 a3 m3 e3 h3 p3 => ?_) (fun a3 m3 e3 h3 => ?_) (by assumption)) <;> simp only [e3, Rs.bind] at hS
  all_goals (repeat' ((conv => whnf); first | (refine rno hS (q0v [some 0] ?_); exact hsW)))
  all_goals (conv => whnf); (refine rmX [some 0] (zk5 _ _ (by assumption) hn) rfl rfl ⟨rfl, trivial⟩ (fun z1 a4 m4 e4 h4 p4 => ?_) (fun a4 m4 e4 h4 => ?_) (by assumption)) <;> simp only [e4, Rs.bind] at hS
  all_goals try have hmk := y6b (x := x0) (z := z1) ⟨by omega, by omega, by omega⟩
  all_goals try obtain ⟨k1, k2, k3⟩ := hmk
  all_goals try have hrow : rows.set (0 + row.toNat) (q1l .or .i64 (rows.getD (0 + row.toNat) (Cd.dflt U.int)) (q4p .i64 (q4p .i64 1 (z1 - x0 + 1) - 1) x0)) = rows.set row.toNat (q1l .or .i64 (rows.getD row.toNat 0) (q6f x0 z1)) := by rw [k3, Nat.zero_add]; rfl
  all_goals try have hpk := qz3 h4 hn
  all_goals try (by_cases hw : q0y ws a4 = q7o <;> simp only [hw, if_true, if_false] at hS hpk)
  all_goals (repeat' ((conv => whnf); first | (refine q01 [some 0] hpk rfl rfl ⟨rfl, trivial⟩ ?_) | (refine rno hS (q0v [some 0] ?_); exact hsW) | (refine hK (n, row, z1 + 2, rows.set row.toNat (q1l .or .i64 (rows.getD row.toNat 0) (q6f x0 z1)), a4, m4) [some 0, some 1, some 2, some 3] _ _ ⟨⟨by dsimp only; omega, by dsimp only; omega, by dsimp only; omega, by simp [hl], h4, hS⟩⟩ ⟨by simp⟩ (by exact bkW)) | (refine rok hS (q08 [some 0] (.inr rfl) ?_ ?_ rfl rfl); (focus (refine ⟨?_⟩; (repeat' (first | exact trivial | exact rfl | refine And.intro ?_ ?_ | exact fzV rfl rfl rfl (by simp; omega) (by rw [hrow]; simp [List.take_of_length_le, hl]) rfl)); done)); exact hsW) | refine spC (fun hb => ?_) fun hb => ?_ | refine taC ?_ | refine saC ?_ | refine q02 mixed ?_))
  all_goals exact absurd (by assumption) hw
theorem zm4 {ws : List Wd} {a m : Int} (h : InW ws a m) : (zk0 ws a m).Bd ws a m := by
 unfold zk0
 refine q0k h (z49 _ _ _ _ h) fun _ _ _ _ h => ?_
 refine q0k h (q1n [q1q] h (by decide)) fun _ _ _ _ h => ?_
 refine q0k h (q2u h) fun _ _ _ _ h => ?_
 refine q0k h (q1n [qh5] h (by decide)) fun _ _ _ _ h => ?_
 refine q0k h (q2u h) fun _ _ _ _ h => ?_
 refine q0k h (q1n [qf4] h (by decide)) fun _ _ _ _ h => ?_
 refine q0k h (q2u h) fun _ _ _ _ h => ?_
 refine q0k h (q1n [qh5] h (by decide)) fun _ _ _ _ h => ?_
 refine q0k h (q2u h) fun _ _ _ _ h => ?_
 refine q0k h (z2f h (by decide) (by decide)) fun _ _ _ _ h => ?_
 exact h.refl
theorem ye2 (dp : Int) {ws : List Wd} {a m : Int} (hi : InW ws a m) (hn : q74 ws) : RM 121 [.ptr 0 0, iS dp] ws a m [] (zk0 ws a m) (fun g => q0m g) (fun _ => True) := by
 refine q6d Tryz.func121 (c := _) rfl Tryz.call121 900 (zm4 hi) (fun _ _ _ _ => trivial) ?_
 obtain ⟨S, hS⟩ : ∃ S, S = zk0 ws a m := ⟨_, rfl⟩
 rw [← hS]
 unfold zk0 at hS
 (repeat' ((conv => whnf); first | (refine rmX [some 0, some _] (q4j [q1q] (by decide) (by decide) (by assumption) hn) rfl rfl ⟨rfl, rfl, trivial⟩ (fun x a1 m1 e hi hp => ?_) (fun a1 m1 e hi => ?_) (by assumption) <;> simp only [e, Rs.bind] at hS) | (refine rmX [some 0, some _] (q4j [qh5] (by decide) (by decide) (by assumption) hn) rfl rfl ⟨rfl, rfl, trivial⟩ (fun x a1 m1 e hi hp => ?_) (fun a1 m1 e hi => ?_) (by assumption) <;> simp only [e, Rs.bind] at hS) | (refine rmX [some 0, some _] (q4j [qf4] (by decide) (by decide) (by assumption) hn) rfl rfl ⟨rfl, rfl, trivial⟩ (fun x a1 m1 e hi hp => ?_) (fun a1 m1 e hi => ?_) (by assumption) <;> simp only [e, Rs.bind] at hS) | (refine rmX [some 0] (zk5 _ _ (by assumption) hn) rfl rfl ⟨rfl, trivial⟩ (fun x a1 m1 e hi hp => ?_) (fun a1 m1 e hi => ?_) (by assumption) <;> simp only [e, Rs.bind] at hS) | (refine rmX [some 0] (y9t (by assumption) hn) rfl rfl ⟨rfl, trivial⟩ (fun x a1 m1 e hi hp => ?_) (fun a1 m1 e hi => ?_) (by assumption) <;> simp only [e, Rs.bind] at hS) | (refine rmX [some 0] (y3m q64 q2p (by decide) (by decide) (by assumption) hn) rfl rfl ⟨rfl, trivial⟩ (fun x a1 m1 e hi hp => ?_) (fun a1 m1 e hi => ?_) (by assumption) <;> simp only [e, Rs.bind] at hS) | (refine rno hS (q0v [some 0] ?_); exact hsW) | (refine rok hS (q08 [some 0] (.inr rfl) ?_ ?_ rfl rfl); (focus first | exact vwV | (refine ⟨?_⟩; (repeat' (first | exact trivial | exact rfl | refine And.intro ?_ ?_ | exact fzV | exact fzV rfl rfl rfl (by simp) (by simp [eta_goal]) rfl | exact fvV)); done)); exact hsW) | refine saC ?_))
theorem eta_goal (x : q06) : (⟨x.kind, x.rows, x.from_, x.to_, x.low, x.high, x.clear, x.days, x.times, x.within, x.cents, x.kids⟩ : q06) = x := by cases x; rfl
@[reducible] def qh1 (ws : List Wd) (of dp : Int) (sub : Int → Int → Rs q06) : Prop := ∀ a m, InW ws a m → RM 77 [.ptr 0 0, iS of, iS dp] ws a m [] (sub a m) (fun g => q0m g) (fun _ => True)
theorem z96 {ws : List Wd} {sub : Int → Int → Rs q06} (hs : ∀ a m, InW ws a m → (sub a m).Bd ws a m) {a m : Int} (h : InW ws a m) : (qq5 ws sub a m).Bd ws a m := by
 unfold qq5
 refine q0k h (q1n [q3w] h (by decide)) fun _ _ _ _ h => ?_
 refine q0k h (q2u h) fun _ _ _ _ h => ?_
 refine q0k h (q1n [q0z] h (by decide)) fun _ _ _ _ h => ?_
 refine q0k h (q2u h) fun _ _ _ _ h => ?_
 refine q0k h (q1n [q5t] h (by decide)) fun _ _ _ _ h => ?_
 refine q0k h (hs _ _ h) fun _ _ _ _ h => ?_
 exact h.refl
theorem z6g {ws : List Wd} {sub : Int → Int → Rs q06} (hs : ∀ a m, InW ws a m → (sub a m).Bd ws a m) {a m : Int} (h : InW ws a m) : (q92 ws sub a m).Bd ws a m := by
 unfold q92
 refine q0k h (q2u h) fun _ _ _ _ h => ?_
 refine q0k h (q1n [q5d] h (by decide)) fun _ _ _ _ h => ?_
 refine q0k h (q2u h) fun _ _ _ _ h => ?_
 refine q0k h (q1n [q3u, q3v] h (by decide)) fun _ _ _ _ h => ?_
 refine q0k h (q2u h) fun _ _ _ _ h => ?_
 refine q0k h (q1n [q1q] h (by decide)) fun _ _ _ _ h => ?_
 refine q0k h (q2u h) fun _ _ _ _ h => ?_
 refine q0k h (q1n [q5t] h (by decide)) fun _ _ _ _ h => ?_
 refine q0k h (hs _ _ h) fun _ _ _ _ h => ?_
 exact h.refl
theorem zq8 {ws : List Wd} {sub : Int → Int → Rs q06} (hs : ∀ a m, InW ws a m → (sub a m).Bd ws a m) {a m : Int} (h : InW ws a m) : (zk1 ws sub a m).Bd ws a m := by
 unfold zk1
 refine q0k h (q1n [q0z] h (by decide)) fun _ _ _ _ h => ?_
 refine q0k h (q2u h) fun _ _ _ _ h => ?_
 refine q0k h (q1n [q5t] h (by decide)) fun _ _ _ _ h => ?_
 refine q0k h (hs _ _ h) fun _ _ _ _ h => ?_
 exact h.refl
theorem y9o (dp : Int) (hd : 1 ≤ dp ∧ dp ≤ 4) {ws : List Wd} {sub : Int → Int → Rs q06} (hs : qh1 ws 2 (dp + 1) sub) {a m : Int} (hi : InW ws a m) (hn : q74 ws) : RM 122 [.ptr 0 0, iS dp] ws a m [] (qq5 ws sub a m) (fun g => q0m g) (fun _ => True) := by
 refine q6d Tryz.func122 (c := _) rfl Tryz.call122 900 (z96 (fun a m h => (hs a m h).bd) hi) (fun _ _ _ _ => trivial) ?_
 obtain ⟨S, hS⟩ : ∃ S, S = qq5 ws sub a m := ⟨_, rfl⟩
 rw [← hS]
 unfold qq5 at hS
 (repeat' ((conv => whnf); first | (refine rmX [some 0, some _] (q4j [q3w] (by decide) (by decide) (by assumption) hn) rfl rfl ⟨rfl, rfl, trivial⟩ (fun x a1 m1 e hi hp => ?_) (fun a1 m1 e hi => ?_) (by assumption) <;> simp only [e, Rs.bind] at hS) | (refine rmX [some 0, some _] (q4j [q0z] (by decide) (by decide) (by assumption) hn) rfl rfl ⟨rfl, rfl, trivial⟩ (fun x a1 m1 e hi hp => ?_) (fun a1 m1 e hi => ?_) (by assumption) <;> simp only [e, Rs.bind] at hS) | (refine rmX [some 0, some _] (q4j [q5t] (by decide) (by decide) (by assumption) hn) rfl rfl ⟨rfl, rfl, trivial⟩ (fun x a1 m1 e hi hp => ?_) (fun a1 m1 e hi => ?_) (by assumption) <;> simp only [e, Rs.bind] at hS) | (refine rmX [some 0] (zk5 _ _ (by assumption) hn) rfl rfl ⟨rfl, trivial⟩ (fun x a1 m1 e hi hp => ?_) (fun a1 m1 e hi => ?_) (by assumption) <;> simp only [e, Rs.bind] at hS) | (refine rmX [some 0] (hs _ _ (by assumption)) rfl rfl ⟨rfl, trivial⟩ (fun x a1 m1 e hi hp => ?_) (fun a1 m1 e hi => ?_) (by assumption) <;> simp only [e, Rs.bind] at hS) | (refine rno hS (q0v [some 0] ?_); exact hsW) | (refine rok hS (q08 [some 0] (.inr rfl) ?_ ?_ rfl rfl); (focus first | exact vwV | (refine ⟨?_⟩; (repeat' (first | exact trivial | exact rfl | refine And.intro ?_ ?_ | exact fzV | exact fzV rfl rfl rfl (by simp) (by simp [eta_goal]) rfl | exact fvV)); done)); exact hsW) | refine saC ?_))
theorem y8j (dp : Int) (hd : 1 ≤ dp ∧ dp ≤ 4) {ws : List Wd} {sub : Int → Int → Rs q06} (hs : qh1 ws 3 (dp + 1) sub) {a m : Int} (hi : InW ws a m) (hn : q74 ws) : RM 123 [.ptr 0 0, iS dp] ws a m [] (q92 ws sub a m) (fun g => q0m g) (fun _ => True) := by
 refine q6d Tryz.func123 (c := _) rfl Tryz.call123 900 (z6g (fun a m h => (hs a m h).bd) hi) (fun _ _ _ _ => trivial) ?_
 obtain ⟨S, hS⟩ : ∃ S, S = q92 ws sub a m := ⟨_, rfl⟩
 rw [← hS]
 unfold q92 at hS
 (repeat' ((conv => whnf); first | (refine rmX [some 0, some _] (q4j [q5d] (by decide) (by decide) (by assumption) hn) rfl rfl ⟨rfl, rfl, trivial⟩ (fun x a1 m1 e hi hp => ?_) (fun a1 m1 e hi => ?_) (by assumption) <;> simp only [e, Rs.bind] at hS) | (refine rmX [some 0, some _] (q4j [q3u, q3v] (by decide) (by decide) (by assumption) hn) rfl rfl ⟨rfl, rfl, trivial⟩ (fun x a1 m1 e hi hp => ?_) (fun a1 m1 e hi => ?_) (by assumption) <;> simp only [e, Rs.bind] at hS) | (refine rmX [some 0, some _] (q4j [q1q] (by decide) (by decide) (by assumption) hn) rfl rfl ⟨rfl, rfl, trivial⟩ (fun x a1 m1 e hi hp => ?_) (fun a1 m1 e hi => ?_) (by assumption) <;> simp only [e, Rs.bind] at hS) | (refine rmX [some 0, some _] (q4j [q5t] (by decide) (by decide) (by assumption) hn) rfl rfl ⟨rfl, rfl, trivial⟩ (fun x a1 m1 e hi hp => ?_) (fun a1 m1 e hi => ?_) (by assumption) <;> simp only [e, Rs.bind] at hS) | (refine rmX [some 0] (zk5 _ _ (by assumption) hn) rfl rfl ⟨rfl, trivial⟩ (fun x a1 m1 e hi hp => ?_) (fun a1 m1 e hi => ?_) (by assumption) <;> simp only [e, Rs.bind] at hS) | (refine rmX [some 0] (hs _ _ (by assumption)) rfl rfl ⟨rfl, trivial⟩ (fun x a1 m1 e hi hp => ?_) (fun a1 m1 e hi => ?_) (by assumption) <;> simp only [e, Rs.bind] at hS) | (refine rno hS (q0v [some 0] ?_); exact hsW) | (refine rok hS (q08 [some 0] (.inr rfl) ?_ ?_ rfl rfl); (focus first | exact vwV | (refine ⟨?_⟩; (repeat' (first | exact trivial | exact rfl | refine And.intro ?_ ?_ | exact fzV | exact fzV rfl rfl rfl (by simp) (by simp [eta_goal]) rfl | exact fvV)); done)); exact hsW) | refine saC ?_))
theorem y1w (dp : Int) (hd : 1 ≤ dp ∧ dp ≤ 4) {ws : List Wd} {sub : Int → Int → Rs q06} (hs : qh1 ws 4 (dp + 1) sub) {a m : Int} (hi : InW ws a m) (hn : q74 ws) : RM 124 [.ptr 0 0, iS dp] ws a m [] (zk1 ws sub a m) (fun g => q0m g) (fun _ => True) := by
 refine q6d Tryz.func124 (c := _) rfl Tryz.call124 900 (zq8 (fun a m h => (hs a m h).bd) hi) (fun _ _ _ _ => trivial) ?_
 obtain ⟨S, hS⟩ : ∃ S, S = zk1 ws sub a m := ⟨_, rfl⟩
 rw [← hS]
 unfold zk1 at hS
 (repeat' ((conv => whnf); first | (refine rmX [some 0, some _] (q4j [q0z] (by decide) (by decide) (by assumption) hn) rfl rfl ⟨rfl, rfl, trivial⟩ (fun x a1 m1 e hi hp => ?_) (fun a1 m1 e hi => ?_) (by assumption) <;> simp only [e, Rs.bind] at hS) | (refine rmX [some 0, some _] (q4j [q5t] (by decide) (by decide) (by assumption) hn) rfl rfl ⟨rfl, rfl, trivial⟩ (fun x a1 m1 e hi hp => ?_) (fun a1 m1 e hi => ?_) (by assumption) <;> simp only [e, Rs.bind] at hS) | (refine rmX [some 0] (zk5 _ _ (by assumption) hn) rfl rfl ⟨rfl, trivial⟩ (fun x a1 m1 e hi hp => ?_) (fun a1 m1 e hi => ?_) (by assumption) <;> simp only [e, Rs.bind] at hS) | (refine rmX [some 0] (hs _ _ (by assumption)) rfl rfl ⟨rfl, trivial⟩ (fun x a1 m1 e hi hp => ?_) (fun a1 m1 e hi => ?_) (by assumption) <;> simp only [e, Rs.bind] at hS) | (refine rno hS (q0v [some 0] ?_); exact hsW) | (refine rok hS (q08 [some 0] (.inr rfl) ?_ ?_ rfl rfl); (focus first | exact vwV | (refine ⟨?_⟩; (repeat' (first | exact trivial | exact rfl | refine And.intro ?_ ?_ | exact fzV | exact fzV rfl rfl rfl (by simp) (by simp [eta_goal]) rfl | exact fvV)); done)); exact hsW) | refine saC ?_))
theorem qw7 {ws : List Wd} {sub : Int → Int → Rs q06} (hs : ∀ a m, InW ws a m → (sub a m).Bd ws a m) (k : Int) : ∀ (n : Nat) (cents : List Int) (kids : List q06) {a m : Int}, InW ws a m → (q4f ws sub k n cents kids a m).Bd ws a m
 | 0, _, _, a, m, h => by unfold q4f; exact h.refl
 | n + 1, cents, kids, a, m, h => by
  unfold q4f
  refine q0k h ?_ fun c a1 m1 _ h1 => ?_
  ·split
   ·exact q0k h (q2u h) fun _ _ _ _ h => h.refl
   ·exact h.refl
  refine q0k h1 (hs _ _ h1) fun g a2 m2 _ h2 => ?_
  split
  ·split
   ·rename_i e
    have := q3l h2 e (by decide)
    have := h2.a0
    exact ⟨by omega, by omega, h2.m0, Int.le_refl _⟩
   ·split
    ·exact h2.refl
    ·rename_i hne
     have h3 : InW ws a2 (m2 - 1) := ⟨h2.a0, h2.a1, by have := h2.m0; omega, by have := h2.m1; omega⟩
     have := q0k h3 (q1n [q0d] h3 (by decide)) fun _ a4 m4 _ h4 => qw7 hs k n c (kids ++ [g]) h4
     revert this
     cases ((q1t ws [q0d] a2 (m2 - 1)).bind fun _ a m => q4f ws sub k n c (kids ++ [g]) a m) with
     | ok z a5 m5 => intro hb; exact ⟨hb.at1, hb.at2, hb.r1, by have := hb.r2; omega⟩
     | no a5 m5 => intro hb; exact ⟨hb.at1, hb.at2, hb.r1, by have := hb.r2; omega⟩
  ·exact q0k h2 (q1n [q0d] h2 (by decide)) fun _ a4 m4 _ h4 => qw7 hs k n c (kids ++ [g]) h4
theorem qg8 {ws : List Wd} {sub : Int → Int → Rs q06} (hs : ∀ a m, InW ws a m → (sub a m).Bd ws a m) (k : Int) {a m : Int} (h : InW ws a m) : (q95 ws sub k a m).Bd ws a m := by
 unfold q95
 exact q0k h (q1n [q2m] h (by decide)) fun _ _ _ _ h => qw7 hs k 5 [] [] h
@[reducible] def zz2 : SV Cd := .p (.lit (.slice none 0 0))
@[reducible] def y45 (k : Int) : SV Cd := .agg [iS k, zz2, iS 0, iS 0, iS 0, iS 0, bS false, iS 0, iS 0, iS 0, zz2, zz2]
@[reducible] def yd5 (k : Int) (cents kids : SV Cd) : HS Cd := .vart none [iS k, zz2, iS 0, iS 0, iS 0, iS 0, bS false, iS 0, iS 0, iS 0, cents, kids]
structure y7r (ws : List Wd) (sub : Int → Int → Rs q06) (k : Int) (S : Rs q06) (g : Nat × List Int × List q06 × Int × Int) : Prop where
 len : g.2.2.1.length = g.1
 lt : g.1 ≤ 3
 inw : InW ws g.2.2.2.1 g.2.2.2.2
 eq : S = q4f ws sub k (5 - g.1) g.2.1 g.2.2.1 g.2.2.2.1 g.2.2.2.2
 cents : g.2.1.length = if k = 6 then g.1 else 0
theorem yb2 (dp : Int) (hd : 1 ≤ dp ∧ dp ≤ 4) {ws : List Wd} {sub : Int → Int → Rs q06} (hs : qh1 ws 5 (dp + 1) sub) {a m : Int} (hi : InW ws a m) (hn : q74 ws) : RM 143 [.ptr 0 0, y45 5, iS dp] ws a m [] (q95 ws sub 5 a m) (fun g => q0m g) (fun _ => True) := by
 refine q6d Tryz.func143 (c := _) rfl Tryz.call143 900 (qg8 (fun a m h => (hs a m h).bd) 5 hi) (fun _ _ _ _ => trivial) ?_
 obtain ⟨S, hS⟩ : ∃ S, S = q95 ws sub 5 a m := ⟨_, rfl⟩
 rw [← hS]
 unfold q95 at hS
 (repeat' ((conv => whnf); first | (refine rmX [some 0, some _] (q4j [q2m] (by decide) (by decide) (by assumption) hn) rfl rfl ⟨rfl, rfl, trivial⟩ (fun x a1 m1 e hi hp => ?_) (fun a1 m1 e hi => ?_) (by assumption) <;> simp only [e, Rs.bind] at hS) | (refine rno hS (q0v [some 0] ?_); exact hsW) | refine saC ?_))
 conv => whnf
 refine q0u (fun g : Nat × List Int × List q06 × Int × Int => []) (fun g => match g.1 with
  | 0 => [(0, .vart none [wsS ws, iS g.2.2.2.1, iS g.2.2.2.2])]
  | i + 1 => [(0, .vart none [wsS ws, iS g.2.2.2.1, iS g.2.2.2.2]), (1, yd5 5 zz2 (.slice 4 0 12 0 (i + 1))), (4, .rows U.goal g.2.2.1)]) (y7r ws sub 5 S) (fun g => 5 - g.1) (0, [], [], _, _) ⟨rfl, by simp, by assumption, hS, rfl⟩ (by exact bkW) ?_
 clear hS
 rintro ⟨i, cents, kids, a, m⟩ ⟨hl, hlt, hi, hS, hc⟩ K hK
 dsimp only at hl hlt hi hS hc ⊢
 rw [if_neg (by decide)] at hc
 obtain rfl := List.eq_nil_of_length_eq_zero hc
 have hR := hs a m hi
 cases i with
 | zero =>
  obtain rfl := List.eq_nil_of_length_eq_zero hl
  rw [q4f, if_neg (by decide)] at hS
  simp only [Rs.bind] at hS
  cases e0 : sub a m with
  | no a1 m1 =>
   rw [e0] at hS
   (repeat' ((conv => whnf); first | fail))
   refine q7r 7 mixed ?_
   (repeat' ((conv => whnf); first | (refine zh6 [some 0] (hR.no _ _ e0) rfl rfl ⟨rfl, trivial⟩ ?_ ?_) | exact trivial | (refine rno hS (q0v [some 0] ?_); exact hsW) | refine taC ?_ | refine saC ?_))
  | ok g a1 m1 =>
   rw [e0] at hS
   have hi1 : InW ws a1 m1 := hi.step (by have := hR.bd; rw [e0] at this; exact this)
   (repeat' ((conv => whnf); first | fail))
   refine q02 mixed ?_
   have hg : List.take 1 (List.drop 0 [(⟨g.kind, g.rows, g.from_, g.to_, g.low, g.high, g.clear, g.days, g.times, g.within, g.cents, g.kids⟩ : q06)]) = [] ++ [g] := by simp [eta_goal]
   simp only [List.length_nil, Nat.zero_add, Nat.lt_irrefl, if_false] at hS
   (repeat' ((conv => whnf); first | (refine q37 [some 0] (hR.ok _ _ _ e0) rfl rfl ⟨rfl, trivial⟩ ?_) | (refine rmX [some 0, some _] (q4j [q0d] (by decide) (by decide) (by assumption) hn) rfl rfl ⟨rfl, rfl, trivial⟩ (fun x a1 m1 e hi hp => ?_) (fun a1 m1 e hi => ?_) (by assumption) <;> simp only [e, Rs.bind] at hS) | (refine rno hS (q0v [some 0] ?_); exact hsW) | (refine hK (1, [], [] ++ [g], _, _) [some 0, some 1, some 2, some 3, some 5] _ _ ⟨⟨rfl, by simp, by assumption, hS, rfl⟩⟩ ⟨by simp⟩ (by exact bkW)) | refine taC ?_ | refine saC ?_))
 | succ i =>
  have hkl : kids.length = i + 1 := hl
  rw [show 5 - (i + 1) = (3 - i) + 1 by omega, q4f, if_neg (by decide)] at hS
  simp only [Rs.bind] at hS
  have h1 : 1 < kids.length + 1 := by omega
  cases e0 : sub a m with
  | no a1 m1 =>
   rw [e0] at hS
   (repeat' ((conv => whnf); first | fail))
   refine q7r 7 mixed ?_
   (repeat' ((conv => whnf); first | (refine zh6 [some 0] (hR.no _ _ e0) rfl rfl ⟨rfl, trivial⟩ ?_ ?_) | exact trivial | (refine rno hS (q0v [some 0] ?_); exact hsW) | refine taC ?_ | refine saC ?_))
  | ok g a1 m1 =>
   rw [e0] at hS
   simp only [h1, if_true] at hS
   have hi1 : InW ws a1 m1 := hi.step (by have := hR.bd; rw [e0] at this; exact this)
   (repeat' ((conv => whnf); first | fail))
   refine q02 mixed ?_
   have hg : List.take (i + 1) kids ++ List.take 1 (List.drop 0 [(⟨g.kind, g.rows, g.from_, g.to_, g.low, g.high, g.clear, g.days, g.times, g.within, g.cents, g.kids⟩ : q06)]) = kids ++ [g] := by simp [eta_goal, ← hkl]
   obtain ⟨L, hL⟩ : ∃ L, L = kids ++ [g] := ⟨_, rfl⟩
   have hLl : L.length = i + 2 := by rw [hL]; simp; omega
   rw [← hL] at hS hg
   have hkL : kids.length + 1 = L.length := by omega
   rw [hkL] at hS
   clear hL hkL
   have hm0 := hi1.m0
   have hm1 := hi1.m1
   (repeat' ((conv => whnf); first | (refine q37 [some 0] (hR.ok _ _ _ e0) rfl rfl ⟨rfl, trivial⟩ ?_) | refine spC (fun hb => ?_) fun hb => ?_ | refine taC ?_ | refine saC ?_))
   rotate_left
   ·rename_i hb
    rw [hg] at hb
    exact absurd (by omega) hb
   rw [hg]
   by_cases hw : q0y ws a1 = q1d
   ·rw [if_pos hw] at hS
    have q := y7d q1d hi1 hn hw
    (repeat' ((conv => whnf); first | (refine q01 [some 0] q rfl rfl ⟨rfl, trivial⟩ ?_) | (refine rok hS (q08 [some 0] (.inr rfl) ?_ ?_ rfl rfl); (focus (refine ⟨?_⟩; (repeat' (first | exact trivial | exact rfl | refine And.intro ?_ ?_ | exact fzV | exact fzV rfl rfl rfl (by omega) (by simp [List.take_of_length_le]) rfl | exact fvV)); done)); exact hsW)))
   ·rw [if_neg hw] at hS
    have q := y72 q1d hi1 hn hw
    by_cases hx : L.length = 4 ∨ m1 = 0
    ·rw [if_pos hx] at hS
     (repeat' ((conv => whnf); first | (exfalso; omega) | (refine q01 [some 0] q rfl rfl ⟨rfl, trivial⟩ ?_) | refine q3y q9l ?_ | refine q2y (q60 _) rfl ?_ | refine q31 _ _ _ rfl (q2z rfl) ?_ | (refine rno hS (q0v [some 0] ?_); exact hsW) | refine spC (fun hb => ?_) fun hb => ?_))
    ·rw [if_neg hx] at hS
     have hi2 : InW ws a1 (m1 - 1) := ⟨hi1.a0, hi1.a1, by omega, by omega⟩
     (repeat' ((conv => whnf); first | (exfalso; omega) | (refine q01 [some 0] q rfl rfl ⟨rfl, trivial⟩ ?_) | (refine rmX [some 0, some _] (q4j [q0d] (by decide) (by decide) (by assumption) hn) rfl rfl ⟨rfl, rfl, trivial⟩ (fun x a1 m1 e hi hp => ?_) (fun a1 m1 e hi => ?_) (by assumption) <;> simp only [e, Rs.bind] at hS) | (refine rno hS (q0v [some 0] ?_); exact hsW) | (refine hK (i + 2, [], L, _, _) [some 0, some 1, some 2, some 3, some 6] _ _ ⟨⟨hLl, by simp; omega, by assumption, by (rw [show 5 - (i + 2) = 3 - i by omega]; exact hS), rfl⟩⟩ ⟨by simp; omega⟩ (by exact bkW)) | refine spC (fun hb => ?_) fun hb => ?_ | refine saC ?_))
theorem ya2 (dp : Int) (hd : 1 ≤ dp ∧ dp ≤ 4) {ws : List Wd} {sub : Int → Int → Rs q06} (hs : qh1 ws 6 (dp + 1) sub) {a m : Int} (hi : InW ws a m) (hn : q74 ws) : RM 143 [.ptr 0 0, y45 6, iS dp] ws a m [] (q95 ws sub 6 a m) (fun g => q0m g) (fun _ => True) := by
 refine q6d Tryz.func143 (c := _) rfl Tryz.call143 900 (qg8 (fun a m h => (hs a m h).bd) 6 hi) (fun _ _ _ _ => trivial) ?_
 obtain ⟨S, hS⟩ : ∃ S, S = q95 ws sub 6 a m := ⟨_, rfl⟩
 rw [← hS]
 unfold q95 at hS
 (repeat' ((conv => whnf); first | (refine rmX [some 0, some _] (q4j [q2m] (by decide) (by decide) (by assumption) hn) rfl rfl ⟨rfl, rfl, trivial⟩ (fun x a1 m1 e hi hp => ?_) (fun a1 m1 e hi => ?_) (by assumption) <;> simp only [e, Rs.bind] at hS) | (refine rno hS (q0v [some 0] ?_); exact hsW) | refine saC ?_))
 conv => whnf
 refine q0u (fun g : Nat × List Int × List q06 × Int × Int => []) (fun g => match g.1 with
  | 0 => [(0, .vart none [wsS ws, iS g.2.2.2.1, iS g.2.2.2.2])]
  | i + 1 => [(0, .vart none [wsS ws, iS g.2.2.2.1, iS g.2.2.2.2]), (1, yd5 6 (.slice 4 0 1 0 (i + 1)) (.slice 5 0 12 0 (i + 1))), (4, .rows U.int g.2.1), (5, .rows U.goal g.2.2.1)]) (y7r ws sub 6 S) (fun g => 5 - g.1) (0, [], [], _, _) ⟨rfl, by simp, by assumption, hS, rfl⟩ (by exact bkW) ?_
 clear hS
 rintro ⟨i, cents, kids, a, m⟩ ⟨hl, hlt, hi, hS, hc⟩ K hK
 dsimp only at hl hlt hi hS hc ⊢
 rw [if_pos rfl] at hc
 cases i with
 | zero =>
  obtain rfl := List.eq_nil_of_length_eq_zero hl
  obtain rfl := List.eq_nil_of_length_eq_zero hc
  rw [q4f, if_pos rfl] at hS
  simp only [Rs.bind] at hS
  have hN := zk5 0 1000000000 hi hn
  cases e1 : q76 ws 0 1000000000 a m with
  | no a1 m1 =>
   rw [e1] at hS
   (repeat' ((conv => whnf); first | fail))
   refine q7r 3 mixed ?_
   (repeat' ((conv => whnf); first | (refine zh6 [some 0] (hN.no _ _ e1) rfl rfl ⟨rfl, trivial⟩ ?_ ?_) | exact trivial | (refine rno hS (q0v [some 0] ?_); exact hsW) | refine taC ?_))
  | ok c a m =>
  rw [e1] at hS
  dsimp only at hS
  have hi : InW ws a m := hi.step (by have := hN.bd; rw [e1] at this; exact this)
  have hR := hs a m hi
  (repeat' ((conv => whnf); first | fail))
  refine q02 mixed ?_
  have hcc : List.take 1 (List.drop 0 [c]) = [] ++ [c] := by simp
  (repeat' ((conv => whnf); first | (refine q37 [some 0] (hN.ok _ _ _ e1) rfl rfl ⟨rfl, trivial⟩ ?_) | refine taC ?_ | refine saC ?_))
  cases e0 : sub a m with
  | no a1 m1 =>
   rw [e0] at hS
   (repeat' ((conv => whnf); first | fail))
   refine q7r 7 mixed ?_
   (repeat' ((conv => whnf); first | (refine zh6 [some 0] (hR.no _ _ e0) rfl rfl ⟨rfl, trivial⟩ ?_ ?_) | exact trivial | (refine rno hS (q0v [some 0] ?_); exact hsW) | refine taC ?_ | refine saC ?_))
  | ok g a1 m1 =>
   rw [e0] at hS
   have hi1 : InW ws a1 m1 := hi.step (by have := hR.bd; rw [e0] at this; exact this)
   (repeat' ((conv => whnf); first | fail))
   refine q02 mixed ?_
   have hg : List.take 1 (List.drop 0 [(⟨g.kind, g.rows, g.from_, g.to_, g.low, g.high, g.clear, g.days, g.times, g.within, g.cents, g.kids⟩ : q06)]) = [] ++ [g] := by simp [eta_goal]
   simp only [List.length_nil, Nat.zero_add, Nat.lt_irrefl, if_false] at hS
   (repeat' ((conv => whnf); first | (refine q37 [some 0] (hR.ok _ _ _ e0) rfl rfl ⟨rfl, trivial⟩ ?_) | (refine rmX [some 0, some _] (q4j [q0d] (by decide) (by decide) (by assumption) hn) rfl rfl ⟨rfl, rfl, trivial⟩ (fun x a1 m1 e hi hp => ?_) (fun a1 m1 e hi => ?_) (by assumption) <;> simp only [e, Rs.bind] at hS) | (refine rno hS (q0v [some 0] ?_); exact hsW) | (refine hK (1, [] ++ [c], [] ++ [g], _, _) [some 0, some 1, some 2, some 3, some 5, some 7] _ _ ⟨⟨rfl, by simp, by assumption, hS, rfl⟩⟩ ⟨by simp⟩ (by exact bkW)) | refine taC ?_ | refine saC ?_))
 | succ i =>
  have hkl : kids.length = i + 1 := hl
  rw [show 5 - (i + 1) = (3 - i) + 1 by omega, q4f, if_pos rfl] at hS
  simp only [Rs.bind] at hS
  have hN := zk5 0 1000000000 hi hn
  cases e1 : q76 ws 0 1000000000 a m with
  | no a1 m1 =>
   rw [e1] at hS
   (repeat' ((conv => whnf); first | fail))
   refine q7r 3 mixed ?_
   (repeat' ((conv => whnf); first | (refine zh6 [some 0] (hN.no _ _ e1) rfl rfl ⟨rfl, trivial⟩ ?_ ?_) | exact trivial | (refine rno hS (q0v [some 0] ?_); exact hsW) | refine taC ?_))
  | ok c a m =>
  rw [e1] at hS
  dsimp only at hS
  have hi : InW ws a m := hi.step (by have := hN.bd; rw [e1] at this; exact this)
  have hR := hs a m hi
  have hcc : List.take (i + 1) cents ++ List.take 1 (List.drop 0 [c]) = cents ++ [c] := by simp [← hc]
  obtain ⟨M, hM⟩ : ∃ M, M = cents ++ [c] := ⟨_, rfl⟩
  have hMl : M.length = i + 2 := by rw [hM]; simp; omega
  rw [← hM] at hS hcc
  clear hM
  (repeat' ((conv => whnf); first | fail))
  refine q02 mixed ?_
  (repeat' ((conv => whnf); first | (refine q37 [some 0] (hN.ok _ _ _ e1) rfl rfl ⟨rfl, trivial⟩ ?_) | refine taC ?_ | refine saC ?_))
  rw [hcc]
  have h1 : 1 < kids.length + 1 := by omega
  cases e0 : sub a m with
  | no a1 m1 =>
   rw [e0] at hS
   (repeat' ((conv => whnf); first | fail))
   refine q7r 7 mixed ?_
   (repeat' ((conv => whnf); first | (refine zh6 [some 0] (hR.no _ _ e0) rfl rfl ⟨rfl, trivial⟩ ?_ ?_) | exact trivial | (refine rno hS (q0v [some 0] ?_); exact hsW) | refine taC ?_ | refine saC ?_))
  | ok g a1 m1 =>
   rw [e0] at hS
   simp only [h1, if_true] at hS
   have hi1 : InW ws a1 m1 := hi.step (by have := hR.bd; rw [e0] at this; exact this)
   (repeat' ((conv => whnf); first | fail))
   refine q02 mixed ?_
   have hg : List.take (i + 1) kids ++ List.take 1 (List.drop 0 [(⟨g.kind, g.rows, g.from_, g.to_, g.low, g.high, g.clear, g.days, g.times, g.within, g.cents, g.kids⟩ : q06)]) = kids ++ [g] := by simp [eta_goal, ← hkl]
   obtain ⟨L, hL⟩ : ∃ L, L = kids ++ [g] := ⟨_, rfl⟩
   have hLl : L.length = i + 2 := by rw [hL]; simp; omega
   rw [← hL] at hS hg
   have hkL : kids.length + 1 = L.length := by omega
   rw [hkL] at hS
   clear hL hkL
   have hm0 := hi1.m0
   have hm1 := hi1.m1
   (repeat' ((conv => whnf); first | (refine q37 [some 0] (hR.ok _ _ _ e0) rfl rfl ⟨rfl, trivial⟩ ?_) | refine spC (fun hb => ?_) fun hb => ?_ | refine taC ?_ | refine saC ?_))
   rotate_left
   ·rename_i hb
    rw [hg] at hb
    exact absurd (by omega) hb
   rw [hg]
   by_cases hw : q0y ws a1 = q1d
   ·rw [if_pos hw] at hS
    have q := y7d q1d hi1 hn hw
    (repeat' ((conv => whnf); first | (refine q01 [some 0] q rfl rfl ⟨rfl, trivial⟩ ?_) | (refine rok hS (q08 [some 0] (.inr rfl) ?_ ?_ rfl rfl); (focus (refine ⟨?_⟩; (repeat' (first | exact trivial | exact rfl | refine And.intro ?_ ?_ | exact fzV | exact fzV rfl rfl rfl (by omega) (by simp [List.take_of_length_le]) rfl | exact fvV)); done)); exact hsW)))
   ·rw [if_neg hw] at hS
    have q := y72 q1d hi1 hn hw
    by_cases hx : L.length = 4 ∨ m1 = 0
    ·rw [if_pos hx] at hS
     (repeat' ((conv => whnf); first | (exfalso; omega) | (refine q01 [some 0] q rfl rfl ⟨rfl, trivial⟩ ?_) | refine q3y q9l ?_ | refine q2y (q60 _) rfl ?_ | refine q31 _ _ _ rfl (q2z rfl) ?_ | (refine rno hS (q0v [some 0] ?_); exact hsW) | refine spC (fun hb => ?_) fun hb => ?_))
    ·rw [if_neg hx] at hS
     have hi2 : InW ws a1 (m1 - 1) := ⟨hi1.a0, hi1.a1, by omega, by omega⟩
     (repeat' ((conv => whnf); first | (exfalso; omega) | (refine q01 [some 0] q rfl rfl ⟨rfl, trivial⟩ ?_) | (refine rmX [some 0, some _] (q4j [q0d] (by decide) (by decide) (by assumption) hn) rfl rfl ⟨rfl, rfl, trivial⟩ (fun x a1 m1 e hi hp => ?_) (fun a1 m1 e hi => ?_) (by assumption) <;> simp only [e, Rs.bind] at hS) | (refine rno hS (q0v [some 0] ?_); exact hsW) | (refine hK (i + 2, M, L, _, _) [some 0, some 1, some 2, some 3, some 7, some 9] _ _ ⟨⟨hLl, by simp; omega, by assumption, by (rw [show 5 - (i + 2) = 3 - i by omega]; exact hS), by simpa using hMl⟩⟩ ⟨by simp; omega⟩ (by exact bkW)) | refine spC (fun hb => ?_) fun hb => ?_ | refine saC ?_))
def ql8 (w : Wd) (k needs : Int) (f : Nat) (i : Nat) : MapEntry := ⟨.string ⟨⟨w⟩⟩, .agg #[.int .i64 k, .int .i64 needs, .func (.func f) #[] #[]], i⟩
def y7b : Obj := .map #[ql8 q3e 1 0 121 0, ql8 q28 2 1 122 1, ql8 q1k 3 1 123 2, ql8 q0q 4 1 124 3, ql8 q46 5 2 125 4, ql8 q2p 6 2 126 5] 6
theorem q7v : q07 Tryz.prog Dc 104 [] [] (.mapp 0) [.obj y7b] := by
 refine q00 Ax q03 Tryz.func104 (c := _) rfl Tryz.call104 200 ?_
 (repeat' ((conv => whnf); first | refine q0b ⟨rfl⟩ ?_ | (refine q08 [some 0] (.inr rfl) ?_ ?_ rfl rfl; (focus exact vwV); exact hsV)))
theorem yf4 (dp : Int) (hd : 1 ≤ dp ∧ dp ≤ 4) {ws : List Wd} {sub : Int → Int → Rs q06} (hs : qh1 ws 5 (dp + 1) sub) {a m : Int} (hi : InW ws a m) (hn : q74 ws) : RM 125 [.ptr 0 0, iS dp] ws a m [] (q95 ws sub 5 a m) (fun g => q0m g) (fun _ => True) := by
 refine q6d Tryz.func125 (c := _) rfl Tryz.call125 900 (qg8 (fun a m h => (hs a m h).bd) 5 hi) (fun _ _ _ _ => trivial) ?_
 obtain ⟨S, hS⟩ : ∃ S, S = q95 ws sub 5 a m := ⟨_, rfl⟩
 rw [← hS]
 have hR := yb2 dp hd hs hi hn
 rw [← hS] at hR
 (repeat' ((conv => whnf); first | (refine rmX [some 0] hR rfl rfl ⟨rfl, trivial⟩ (fun x a1 m1 e hi hp => ?_) (fun a1 m1 e hi => ?_) (by assumption)) | (refine rno e (q0v [some 0] ?_); exact hsW) | (refine rok e (q08 [some 0] (.inr rfl) ?_ ?_ rfl rfl); (focus exact vwV); exact hsW)))
theorem ye9 (dp : Int) (hd : 1 ≤ dp ∧ dp ≤ 4) {ws : List Wd} {sub : Int → Int → Rs q06} (hs : qh1 ws 6 (dp + 1) sub) {a m : Int} (hi : InW ws a m) (hn : q74 ws) : RM 126 [.ptr 0 0, iS dp] ws a m [] (q95 ws sub 6 a m) (fun g => q0m g) (fun _ => True) := by
 refine q6d Tryz.func126 (c := _) rfl Tryz.call126 900 (qg8 (fun a m h => (hs a m h).bd) 6 hi) (fun _ _ _ _ => trivial) ?_
 obtain ⟨S, hS⟩ : ∃ S, S = q95 ws sub 6 a m := ⟨_, rfl⟩
 rw [← hS]
 have hR := ya2 dp hd hs hi hn
 rw [← hS] at hR
 (repeat' ((conv => whnf); first | (refine rmX [some 0] hR rfl rfl ⟨rfl, trivial⟩ (fun x a1 m1 e hi hp => ?_) (fun a1 m1 e hi => ?_) (by assumption)) | (refine rno e (q0v [some 0] ?_); exact hsW) | (refine rok e (q08 [some 0] (.inr rfl) ?_ ?_ rfl rfl); (focus exact vwV); exact hsW)))
theorem z88 {ws : List Wd} {α : Type} {S : Rs α} {a m a1 m1 : Int} (h : BdR ws a m a1 m1) (hb : S.Bd ws a1 m1) : S.Bd ws a m := by
 cases S with
 | ok z a5 m5 => exact ⟨Int.le_trans h.at1 hb.at1, hb.at2, hb.r1, Int.le_trans hb.r2 h.r2⟩
 | no a5 m5 => exact ⟨Int.le_trans h.at1 hb.at1, hb.at2, hb.r1, Int.le_trans hb.r2 h.r2⟩
theorem zj6 {w : Wd} {k needs : Int} (h : qp8 w = some (k, needs)) : w ≠ [32] ∧ 0 ≤ needs := by
 unfold qp8 at h
 repeat' (split at h)
 all_goals first | (cases h; rename_i e; rw [e]; decide) | cases h
theorem qi9 {ws : List Wd} : ∀ (n : Nat) (of_ dp : Int) {a m : Int}, InW ws a m → (q50 ws n of_ dp a m).Bd ws a m
 | 0, _, _, a, m, h => by unfold q50; exact h.refl
 | n + 1, of_, dp, a, m, h => by
  unfold q50
  split
  ·exact h.refl
  ·rename_i k needs hf
   obtain ⟨hne, h0⟩ := zj6 hf
   have hlt := q3l h rfl hne
   split
   ·exact h.refl
   ·rename_i hc
    have ha0 := h.a0
    have hm1 := h.m1
    have hi : InW ws (a + 1) (m - needs) := ⟨by omega, by omega, by omega, by omega⟩
    have hb : BdR ws a m (a + 1) (m - needs) := ⟨by omega, by omega, by omega, by omega⟩
    refine z88 hb ?_
    repeat' split
    ·exact zm4 hi
    ·exact z96 (fun a m h => qi9 n _ _ h) hi
    ·exact z6g (fun a m h => qi9 n _ _ h) hi
    ·exact zq8 (fun a m h => qi9 n _ _ h) hi
    ·exact qg8 (fun a m h => qi9 n _ _ h) _ hi
theorem y1k (a b : Wd) : Instr.sameNow (qc7 CK.str) (.string ⟨⟨a⟩⟩) (.string ⟨⟨b⟩⟩) = some (decide (a = b)) := by
 simp only [Instr.sameNow, qc7]
 congr 1
 rw [Bool.eq_iff_iff]
 show ((⟨a⟩ : Array UInt8) == ⟨b⟩) = true ↔ _
 simp
theorem zu6 {w : Wd} (h : qp8 w = none) : Instr.findNow (qc7 CK.str) (.string ⟨⟨w⟩⟩) [ql8 q3e 1 0 121 0, ql8 q28 2 1 122 1, ql8 q1k 3 1 123 2, ql8 q0q 4 1 124 3, ql8 q46 5 2 125 4, ql8 q2p 6 2 126 5] 0 = some none := by
 unfold qp8 at h
 by_cases h1 : w = q3e
 ·rw [if_pos h1] at h; cases h
 rw [if_neg h1] at h
 by_cases h2 : w = q28
 ·rw [if_pos h2] at h; cases h
 rw [if_neg h2] at h
 by_cases h3 : w = q1k
 ·rw [if_pos h3] at h; cases h
 rw [if_neg h3] at h
 by_cases h4 : w = q0q
 ·rw [if_pos h4] at h; cases h
 rw [if_neg h4] at h
 by_cases h5 : w = q46
 ·rw [if_pos h5] at h; cases h
 rw [if_neg h5] at h
 by_cases h6 : w = q2p
 ·rw [if_pos h6] at h; cases h
 simp only [Instr.findNow, ql8, y1k, decide_eq_false h1, decide_eq_false h2, decide_eq_false h3, decide_eq_false h4, decide_eq_false h5, decide_eq_false h6]
theorem y14 (of_ dp : Int) (hd : 1 ≤ dp ∧ dp ≤ 4) {ws : List Wd} {a m : Int} (hi : InW ws a m) (hn : q74 ws) (hf : qp8 (q0y ws a) = none) : y6h Tryz.prog Dc 77 [.ptr 0 0, iS of_, iS dp] (rdH ws a m) chS (rdH ws a m) := by
 have hp := qz3 hi hn
 generalize q0y ws a = w at *
 refine ze2 Ax q03 Tryz.func77 (c := _) rfl Tryz.call77 600 ?_
 (repeat' ((conv => whnf); first | (refine q01 [] q7v rfl rfl trivial ?_) | (refine q01 [some 0] hp rfl rfl ⟨rfl, trivial⟩ ?_)))
 conv => whnf
 refine q86 (zu6 hf) ?_
 (repeat' ((conv => whnf); first | refine q3y q9l ?_ | refine q2y (q60 _) rfl ?_ | refine q31 _ _ _ rfl (q2z rfl) ?_ | exact ⟨[some 0], ⟨hsW, rfl, rfl⟩⟩ | refine taC ?_ | refine saC ?_ | refine q02 mixed ?_))
theorem zm7 (of_ dp : Int) (hd : 1 ≤ dp ∧ dp ≤ 4) {ws : List Wd} {a m : Int} (hi : InW ws a m) (hn : q74 ws) (hw : q0y ws a = q3e) (Q : Rs q06)
  (hR : ¬ (q1m of_ < 1 ∨ m < 0 ∨ (0 < (0 : Int) ∧ dp = 4)) → RM 121 [.ptr 0 0, iS dp] ws (a + 1) (m - 0) [] Q (fun g => q0m g) (fun _ => True)) :
  RM 77 [.ptr 0 0, iS of_, iS dp] ws a m [] (if q1m of_ < 1 ∨ m < 0 ∨ (0 < (0 : Int) ∧ dp = 4) then .no a m else Q) (fun g => q0m g) (fun _ => True) := by
 have hlt := q3l hi hw (by decide)
 have ha0 := hi.a0
 have hm0 := hi.m0
 have hm1 := hi.m1
 have hb2 := hn.n
 have hp := qz3 hi hn
 rw [hw] at hp
 have hl := q5m of_
 by_cases hc : q1m of_ < 1 ∨ m < 0 ∨ (0 < (0 : Int) ∧ dp = 4)
 ·rw [if_pos hc]
  clear hR
  refine q6d Tryz.func77 (c := _) rfl Tryz.call77 900 hi.refl (fun _ _ _ _ => trivial) ?_
  obtain ⟨S, hS⟩ : ∃ S : Rs q06, S = .no a m := ⟨_, rfl⟩
  rw [← hS]
  (repeat' ((conv => whnf); first | (exfalso; omega) | (refine q01 [] q7v rfl rfl trivial ?_) | (refine q01 [some 0] hp rfl rfl ⟨rfl, trivial⟩ ?_) | refine q86 rfl ?_ | refine dpC (hl) ?_ | refine q3y q9l ?_ | refine q2y (q60 _) rfl ?_ | refine q31 _ _ _ rfl (q2z rfl) ?_ | (refine rno hS (q0v [some 0] ?_); exact hsW) | refine spC (fun hb => ?_) fun hb => ?_ | refine taC ?_ | refine q02 mixed ?_))
 ·rw [if_neg hc]
  have hR := hR hc
  have hi2 : InW ws (a + 1) (m - 0) := ⟨by omega, by omega, by omega, by omega⟩
  refine q6d Tryz.func77 (c := _) rfl Tryz.call77 900 (z88 ⟨by omega, by omega, by omega, by omega⟩ hR.bd) (fun _ _ _ _ => trivial) ?_
  (repeat' ((conv => whnf); first | (exfalso; omega) | (refine q01 [] q7v rfl rfl trivial ?_) | (refine q01 [some 0] hp rfl rfl ⟨rfl, trivial⟩ ?_) | refine q86 rfl ?_ | refine dpC (hl) ?_ | (refine rmX [some 0] hR rfl rfl ⟨rfl, trivial⟩ (fun x a1 m1 e hi hp => ?_) (fun a1 m1 e hi => ?_) hi2) | (refine rno e (q0v [some 0] ?_); exact hsW) | (refine rok e (q08 [some 0] (.inr rfl) ?_ ?_ rfl rfl); (focus exact vwV); exact hsW) | refine spC (fun hb => ?_) fun hb => ?_ | refine taC ?_ | refine saC ?_ | refine q02 mixed ?_))
theorem zd8 (of_ dp : Int) (hd : 1 ≤ dp ∧ dp ≤ 4) {ws : List Wd} {a m : Int} (hi : InW ws a m) (hn : q74 ws) (hw : q0y ws a = q28) (Q : Rs q06)
  (hR : ¬ (q1m of_ < 2 ∨ m < 1 ∨ (0 < (1 : Int) ∧ dp = 4)) → RM 122 [.ptr 0 0, iS dp] ws (a + 1) (m - 1) [] Q (fun g => q0m g) (fun _ => True)) :
  RM 77 [.ptr 0 0, iS of_, iS dp] ws a m [] (if q1m of_ < 2 ∨ m < 1 ∨ (0 < (1 : Int) ∧ dp = 4) then .no a m else Q) (fun g => q0m g) (fun _ => True) := by
 have hlt := q3l hi hw (by decide)
 have ha0 := hi.a0
 have hm0 := hi.m0
 have hm1 := hi.m1
 have hb2 := hn.n
 have hp := qz3 hi hn
 rw [hw] at hp
 have hl := q5m of_
 by_cases hc : q1m of_ < 2 ∨ m < 1 ∨ (0 < (1 : Int) ∧ dp = 4)
 ·rw [if_pos hc]
  clear hR
  refine q6d Tryz.func77 (c := _) rfl Tryz.call77 900 hi.refl (fun _ _ _ _ => trivial) ?_
  obtain ⟨S, hS⟩ : ∃ S : Rs q06, S = .no a m := ⟨_, rfl⟩
  rw [← hS]
  (repeat' ((conv => whnf); first | (exfalso; omega) | (refine q01 [] q7v rfl rfl trivial ?_) | (refine q01 [some 0] hp rfl rfl ⟨rfl, trivial⟩ ?_) | refine q86 rfl ?_ | refine dpC (hl) ?_ | refine q3y q9l ?_ | refine q2y (q60 _) rfl ?_ | refine q31 _ _ _ rfl (q2z rfl) ?_ | (refine rno hS (q0v [some 0] ?_); exact hsW) | refine spC (fun hb => ?_) fun hb => ?_ | refine taC ?_ | refine q02 mixed ?_))
 ·rw [if_neg hc]
  have hR := hR hc
  have hi2 : InW ws (a + 1) (m - 1) := ⟨by omega, by omega, by omega, by omega⟩
  refine q6d Tryz.func77 (c := _) rfl Tryz.call77 900 (z88 ⟨by omega, by omega, by omega, by omega⟩ hR.bd) (fun _ _ _ _ => trivial) ?_
  (repeat' ((conv => whnf); first | (exfalso; omega) | (refine q01 [] q7v rfl rfl trivial ?_) | (refine q01 [some 0] hp rfl rfl ⟨rfl, trivial⟩ ?_) | refine q86 rfl ?_ | refine dpC (hl) ?_ | (refine rmX [some 0] hR rfl rfl ⟨rfl, trivial⟩ (fun x a1 m1 e hi hp => ?_) (fun a1 m1 e hi => ?_) hi2) | (refine rno e (q0v [some 0] ?_); exact hsW) | (refine rok e (q08 [some 0] (.inr rfl) ?_ ?_ rfl rfl); (focus exact vwV); exact hsW) | refine spC (fun hb => ?_) fun hb => ?_ | refine taC ?_ | refine saC ?_ | refine q02 mixed ?_))
theorem z8r (of_ dp : Int) (hd : 1 ≤ dp ∧ dp ≤ 4) {ws : List Wd} {a m : Int} (hi : InW ws a m) (hn : q74 ws) (hw : q0y ws a = q1k) (Q : Rs q06)
  (hR : ¬ (q1m of_ < 3 ∨ m < 1 ∨ (0 < (1 : Int) ∧ dp = 4)) → RM 123 [.ptr 0 0, iS dp] ws (a + 1) (m - 1) [] Q (fun g => q0m g) (fun _ => True)) :
  RM 77 [.ptr 0 0, iS of_, iS dp] ws a m [] (if q1m of_ < 3 ∨ m < 1 ∨ (0 < (1 : Int) ∧ dp = 4) then .no a m else Q) (fun g => q0m g) (fun _ => True) := by
 have hlt := q3l hi hw (by decide)
 have ha0 := hi.a0
 have hm0 := hi.m0
 have hm1 := hi.m1
 have hb2 := hn.n
 have hp := qz3 hi hn
 rw [hw] at hp
 have hl := q5m of_
 by_cases hc : q1m of_ < 3 ∨ m < 1 ∨ (0 < (1 : Int) ∧ dp = 4)
 ·rw [if_pos hc]
  clear hR
  refine q6d Tryz.func77 (c := _) rfl Tryz.call77 900 hi.refl (fun _ _ _ _ => trivial) ?_
  obtain ⟨S, hS⟩ : ∃ S : Rs q06, S = .no a m := ⟨_, rfl⟩
  rw [← hS]
  (repeat' ((conv => whnf); first | (exfalso; omega) | (refine q01 [] q7v rfl rfl trivial ?_) | (refine q01 [some 0] hp rfl rfl ⟨rfl, trivial⟩ ?_) | refine q86 rfl ?_ | refine dpC (hl) ?_ | refine q3y q9l ?_ | refine q2y (q60 _) rfl ?_ | refine q31 _ _ _ rfl (q2z rfl) ?_ | (refine rno hS (q0v [some 0] ?_); exact hsW) | refine spC (fun hb => ?_) fun hb => ?_ | refine taC ?_ | refine q02 mixed ?_))
 ·rw [if_neg hc]
  have hR := hR hc
  have hi2 : InW ws (a + 1) (m - 1) := ⟨by omega, by omega, by omega, by omega⟩
  refine q6d Tryz.func77 (c := _) rfl Tryz.call77 900 (z88 ⟨by omega, by omega, by omega, by omega⟩ hR.bd) (fun _ _ _ _ => trivial) ?_
  (repeat' ((conv => whnf); first | (exfalso; omega) | (refine q01 [] q7v rfl rfl trivial ?_) | (refine q01 [some 0] hp rfl rfl ⟨rfl, trivial⟩ ?_) | refine q86 rfl ?_ | refine dpC (hl) ?_ | (refine rmX [some 0] hR rfl rfl ⟨rfl, trivial⟩ (fun x a1 m1 e hi hp => ?_) (fun a1 m1 e hi => ?_) hi2) | (refine rno e (q0v [some 0] ?_); exact hsW) | (refine rok e (q08 [some 0] (.inr rfl) ?_ ?_ rfl rfl); (focus exact vwV); exact hsW) | refine spC (fun hb => ?_) fun hb => ?_ | refine taC ?_ | refine saC ?_ | refine q02 mixed ?_))
theorem z3a (of_ dp : Int) (hd : 1 ≤ dp ∧ dp ≤ 4) {ws : List Wd} {a m : Int} (hi : InW ws a m) (hn : q74 ws) (hw : q0y ws a = q0q) (Q : Rs q06)
  (hR : ¬ (q1m of_ < 4 ∨ m < 1 ∨ (0 < (1 : Int) ∧ dp = 4)) → RM 124 [.ptr 0 0, iS dp] ws (a + 1) (m - 1) [] Q (fun g => q0m g) (fun _ => True)) :
  RM 77 [.ptr 0 0, iS of_, iS dp] ws a m [] (if q1m of_ < 4 ∨ m < 1 ∨ (0 < (1 : Int) ∧ dp = 4) then .no a m else Q) (fun g => q0m g) (fun _ => True) := by
 have hlt := q3l hi hw (by decide)
 have ha0 := hi.a0
 have hm0 := hi.m0
 have hm1 := hi.m1
 have hb2 := hn.n
 have hp := qz3 hi hn
 rw [hw] at hp
 have hl := q5m of_
 by_cases hc : q1m of_ < 4 ∨ m < 1 ∨ (0 < (1 : Int) ∧ dp = 4)
 ·rw [if_pos hc]
  clear hR
  refine q6d Tryz.func77 (c := _) rfl Tryz.call77 900 hi.refl (fun _ _ _ _ => trivial) ?_
  obtain ⟨S, hS⟩ : ∃ S : Rs q06, S = .no a m := ⟨_, rfl⟩
  rw [← hS]
  (repeat' ((conv => whnf); first | (exfalso; omega) | (refine q01 [] q7v rfl rfl trivial ?_) | (refine q01 [some 0] hp rfl rfl ⟨rfl, trivial⟩ ?_) | refine q86 rfl ?_ | refine dpC (hl) ?_ | refine q3y q9l ?_ | refine q2y (q60 _) rfl ?_ | refine q31 _ _ _ rfl (q2z rfl) ?_ | (refine rno hS (q0v [some 0] ?_); exact hsW) | refine spC (fun hb => ?_) fun hb => ?_ | refine taC ?_ | refine q02 mixed ?_))
 ·rw [if_neg hc]
  have hR := hR hc
  have hi2 : InW ws (a + 1) (m - 1) := ⟨by omega, by omega, by omega, by omega⟩
  refine q6d Tryz.func77 (c := _) rfl Tryz.call77 900 (z88 ⟨by omega, by omega, by omega, by omega⟩ hR.bd) (fun _ _ _ _ => trivial) ?_
  (repeat' ((conv => whnf); first | (exfalso; omega) | (refine q01 [] q7v rfl rfl trivial ?_) | (refine q01 [some 0] hp rfl rfl ⟨rfl, trivial⟩ ?_) | refine q86 rfl ?_ | refine dpC (hl) ?_ | (refine rmX [some 0] hR rfl rfl ⟨rfl, trivial⟩ (fun x a1 m1 e hi hp => ?_) (fun a1 m1 e hi => ?_) hi2) | (refine rno e (q0v [some 0] ?_); exact hsW) | (refine rok e (q08 [some 0] (.inr rfl) ?_ ?_ rfl rfl); (focus exact vwV); exact hsW) | refine spC (fun hb => ?_) fun hb => ?_ | refine taC ?_ | refine saC ?_ | refine q02 mixed ?_))
theorem zu4 (of_ dp : Int) (hd : 1 ≤ dp ∧ dp ≤ 4) {ws : List Wd} {a m : Int} (hi : InW ws a m) (hn : q74 ws) (hw : q0y ws a = q46) (Q : Rs q06)
  (hR : ¬ (q1m of_ < 5 ∨ m < 2 ∨ (0 < (2 : Int) ∧ dp = 4)) → RM 125 [.ptr 0 0, iS dp] ws (a + 1) (m - 2) [] Q (fun g => q0m g) (fun _ => True)) :
  RM 77 [.ptr 0 0, iS of_, iS dp] ws a m [] (if q1m of_ < 5 ∨ m < 2 ∨ (0 < (2 : Int) ∧ dp = 4) then .no a m else Q) (fun g => q0m g) (fun _ => True) := by
 have hlt := q3l hi hw (by decide)
 have ha0 := hi.a0
 have hm0 := hi.m0
 have hm1 := hi.m1
 have hb2 := hn.n
 have hp := qz3 hi hn
 rw [hw] at hp
 have hl := q5m of_
 by_cases hc : q1m of_ < 5 ∨ m < 2 ∨ (0 < (2 : Int) ∧ dp = 4)
 ·rw [if_pos hc]
  clear hR
  refine q6d Tryz.func77 (c := _) rfl Tryz.call77 900 hi.refl (fun _ _ _ _ => trivial) ?_
  obtain ⟨S, hS⟩ : ∃ S : Rs q06, S = .no a m := ⟨_, rfl⟩
  rw [← hS]
  (repeat' ((conv => whnf); first | (exfalso; omega) | (refine q01 [] q7v rfl rfl trivial ?_) | (refine q01 [some 0] hp rfl rfl ⟨rfl, trivial⟩ ?_) | refine q86 rfl ?_ | refine dpC (hl) ?_ | refine q3y q9l ?_ | refine q2y (q60 _) rfl ?_ | refine q31 _ _ _ rfl (q2z rfl) ?_ | (refine rno hS (q0v [some 0] ?_); exact hsW) | refine spC (fun hb => ?_) fun hb => ?_ | refine taC ?_ | refine q02 mixed ?_))
 ·rw [if_neg hc]
  have hR := hR hc
  have hi2 : InW ws (a + 1) (m - 2) := ⟨by omega, by omega, by omega, by omega⟩
  refine q6d Tryz.func77 (c := _) rfl Tryz.call77 900 (z88 ⟨by omega, by omega, by omega, by omega⟩ hR.bd) (fun _ _ _ _ => trivial) ?_
  (repeat' ((conv => whnf); first | (exfalso; omega) | (refine q01 [] q7v rfl rfl trivial ?_) | (refine q01 [some 0] hp rfl rfl ⟨rfl, trivial⟩ ?_) | refine q86 rfl ?_ | refine dpC (hl) ?_ | (refine rmX [some 0] hR rfl rfl ⟨rfl, trivial⟩ (fun x a1 m1 e hi hp => ?_) (fun a1 m1 e hi => ?_) hi2) | (refine rno e (q0v [some 0] ?_); exact hsW) | (refine rok e (q08 [some 0] (.inr rfl) ?_ ?_ rfl rfl); (focus exact vwV); exact hsW) | refine spC (fun hb => ?_) fun hb => ?_ | refine taC ?_ | refine saC ?_ | refine q02 mixed ?_))
theorem zy9 (of_ dp : Int) (hd : 1 ≤ dp ∧ dp ≤ 4) {ws : List Wd} {a m : Int} (hi : InW ws a m) (hn : q74 ws) (hw : q0y ws a = q2p) (Q : Rs q06)
  (hR : ¬ (q1m of_ < 6 ∨ m < 2 ∨ (0 < (2 : Int) ∧ dp = 4)) → RM 126 [.ptr 0 0, iS dp] ws (a + 1) (m - 2) [] Q (fun g => q0m g) (fun _ => True)) :
  RM 77 [.ptr 0 0, iS of_, iS dp] ws a m [] (if q1m of_ < 6 ∨ m < 2 ∨ (0 < (2 : Int) ∧ dp = 4) then .no a m else Q) (fun g => q0m g) (fun _ => True) := by
 have hlt := q3l hi hw (by decide)
 have ha0 := hi.a0
 have hm0 := hi.m0
 have hm1 := hi.m1
 have hb2 := hn.n
 have hp := qz3 hi hn
 rw [hw] at hp
 have hl := q5m of_
 by_cases hc : q1m of_ < 6 ∨ m < 2 ∨ (0 < (2 : Int) ∧ dp = 4)
 ·rw [if_pos hc]
  clear hR
  refine q6d Tryz.func77 (c := _) rfl Tryz.call77 900 hi.refl (fun _ _ _ _ => trivial) ?_
  obtain ⟨S, hS⟩ : ∃ S : Rs q06, S = .no a m := ⟨_, rfl⟩
  rw [← hS]
  (repeat' ((conv => whnf); first | (exfalso; omega) | (refine q01 [] q7v rfl rfl trivial ?_) | (refine q01 [some 0] hp rfl rfl ⟨rfl, trivial⟩ ?_) | refine q86 rfl ?_ | refine dpC (hl) ?_ | refine q3y q9l ?_ | refine q2y (q60 _) rfl ?_ | refine q31 _ _ _ rfl (q2z rfl) ?_ | (refine rno hS (q0v [some 0] ?_); exact hsW) | refine spC (fun hb => ?_) fun hb => ?_ | refine taC ?_ | refine q02 mixed ?_))
 ·rw [if_neg hc]
  have hR := hR hc
  have hi2 : InW ws (a + 1) (m - 2) := ⟨by omega, by omega, by omega, by omega⟩
  refine q6d Tryz.func77 (c := _) rfl Tryz.call77 900 (z88 ⟨by omega, by omega, by omega, by omega⟩ hR.bd) (fun _ _ _ _ => trivial) ?_
  (repeat' ((conv => whnf); first | (exfalso; omega) | (refine q01 [] q7v rfl rfl trivial ?_) | (refine q01 [some 0] hp rfl rfl ⟨rfl, trivial⟩ ?_) | refine q86 rfl ?_ | refine dpC (hl) ?_ | (refine rmX [some 0] hR rfl rfl ⟨rfl, trivial⟩ (fun x a1 m1 e hi hp => ?_) (fun a1 m1 e hi => ?_) hi2) | (refine rno e (q0v [some 0] ?_); exact hsW) | (refine rok e (q08 [some 0] (.inr rfl) ?_ ?_ rfl rfl); (focus exact vwV); exact hsW) | refine spC (fun hb => ?_) fun hb => ?_ | refine taC ?_ | refine saC ?_ | refine q02 mixed ?_))
end Go.SX
