/-
  Walks: Ub0, Ub1, Ub2, Ub3, Ub4, Ub5, Ub6, Ub7, Ub8: what single functions of the program compute.
-/
import Derived.Test.YtijedffphgckmaaGreatDoorSxUa5
set_option linter.unusedVariables false
set_option linter.unusedSimpArgs false
namespace Go.SX
open Go.Proofs
set_option maxHeartbeats 4000000
set_option maxRecDepth 100000
@[reducible] def rdH (ws : List Wd) (a m : Int) : List (HS Cd) := [.vart none [wsS ws, iS a, iS m]]
@[reducible] def chS : List PanicEntry := [{ v := .iface 84 (.agg #[]), recovered := false }]
/-- what a reader's function does: it hands back what S says, or ends with a panic -/
structure RM {α : Type} (f : FuncId) (args : List (SV Cd)) (ws : List Wd) (a m : Int) (X : List (HS Cd)) (S : Rs α) (ret : α → SV Cd) (Pr : α → Prop) : Prop where
 ok : ∀ x a' m', S = .ok x a' m' → Meets Tryz.prog Dc f args (rdH ws a m ++ X) (ret x) (rdH ws a' m' ++ X)
 no : ∀ a' m', S = .no a' m' → Dies Tryz.prog Dc f args (rdH ws a m ++ X) chS (rdH ws a' m' ++ X)
 bd : S.Bd ws a m
 pr : ∀ x a' m', S = .ok x a' m' → Pr x
def RPost {α : Type} (S : Rs α) (rs : List ResultVar) (m0 : Nat) (ret : α → SV Cd) (ws : List Wd) (X : List (HS Cd)) : Post Cd := fun e T Hp =>
 (∃ x a' m', S = .ok x a' m' ∧ EndPost Dc tab rs m0 (ret x) (rdH ws a' m' ++ X) e T Hp) ∨ ∃ a' m', S = .no a' m' ∧ DiePost chS m0 (rdH ws a' m' ++ X) e T Hp
theorem rm_of {α : Type} {f : FuncId} {fn : Func} {c : Code} (hf : Tryz.prog.funcs[f]? = some fn) (hb : fn.body = some c) (henter : ∀ args w, (callFunc f args).run Tryz.prog w = .ok (.enter f args) w)
  {args : List (SV Cd)} {ws : List Wd} {a m : Int} {X : List (HS Cd)} {S : Rs α} {ret : α → SV Cd} {Pr : α → Prop} (n : Nat) (hbd : S.Bd ws a m) (hpr : ∀ x a' m', S = .ok x a' m' → Pr x)
  (h : forceV (args ++ anys (fn.ntmps - args.length)) fun T0 => forceL (rdH ws a m ++ X) fun Hp0 => gx Tryz.prog Ax tab ⟨none, [], (rdH ws a m ++ X).length, false⟩ (RPost S fn.results.toList (rdH ws a m ++ X).length ret ws X) n [.code c] T0 Hp0) : RM f args ws a m X S ret Pr where
 ok := fun x a' m' e => meets_of_gxP Ax tab_ok hf hb henter (fun ex T Hp hp => by
  rcases hp with ⟨x2, a2, m2, e2, hp⟩ | ⟨a2, m2, e2, hp⟩
  ·rw [e] at e2; cases e2; exact hp
  ·rw [e] at e2; cases e2) n h
 no := fun a' m' e => dies_of_gxP Ax tab_ok hf hb henter (fun ex T Hp hp => by
  rcases hp with ⟨x2, a2, m2, e2, hp⟩ | ⟨a2, m2, e2, hp⟩
  ·rw [e] at e2; cases e2
  ·rw [e] at e2; cases e2; exact hp) n h
 bd := hbd
 pr := hpr
section
variable {α : Type} {X : Ctx Cd} {R : Kont Cd} {f : FuncId} {args : List (SV Cd)} {dst : Option Nat} {all rest : List Oper} {k : List (It Cd)} {T : List (SV Cd)} {Hp : List (HS Cd)} {ws : List Wd} {a m : Int}
theorem rok {S : Rs α} {rs : List ResultVar} {m0 : Nat} {ret : α → SV Cd} {Y : List (HS Cd)} {e : Exit} {x : α} {a' m' : Int} (hS : S = .ok x a' m') (h : EndPost Dc tab rs m0 (ret x) (rdH ws a' m' ++ Y) e T Hp) : RPost S rs m0 ret ws Y e T Hp := .inl ⟨x, a', m', hS, h⟩
theorem rno {S : Rs α} {rs : List ResultVar} {m0 : Nat} {ret : α → SV Cd} {Y : List (HS Cd)} {e : Exit} {a' m' : Int} (hS : S = .no a' m') (h : DiePost chS m0 (rdH ws a' m' ++ Y) e T Hp) : RPost S rs m0 ret ws Y e T Hp := .inr ⟨a', m', hS, h⟩
theorem rmX {args0 : List (SV Cd)} {Y : List (HS Cd)} {S : Rs α} {ret : α → SV Cd} {Pr : α → Prop} {H0' : List (HS Cd)} (ρ : List (Option Nat)) (hM : RM f args0 ws a m Y S ret Pr) (hargs : renL ρ args0 = some args) (hH0 : renHs ρ (rdH ws a m ++ Y) = some H0') (hat : heapAt (getC Hp) ρ H0')
  (hok : ∀ x a' m', S = .ok x a' m' → InW ws a' m' → Pr x → callK Hp ρ (rdH ws a m ++ Y).length (rdH ws a' m' ++ Y) (ret x) fun ret _ ws' => setOK T dst ret fun T' => setCsK Hp ws' fun Hp' => R (.ops all rest :: k) T' Hp')
  (hno : ∀ a' m', S = .no a' m' → InW ws a' m' → callK Hp ρ (rdH ws a m ++ Y).length (rdH ws a' m' ++ Y) (.tuple []) fun _ _ ws' => setCsK Hp ws' fun Hp' => R (.die chS :: k) T Hp') (hi : InW ws a m) : CallX Tryz.prog Dc X R f args dst all rest k T Hp := by
 have hb := hM.bd
 cases hS : S with
 | ok x a' m' => rw [hS] at hb; exact callh ρ (hM.ok x a' m' hS) hargs hH0 hat (hok x a' m' hS (hi.step hb) (hM.pr x a' m' hS))
 | no a' m' => rw [hS] at hb; exact dieh ρ (hM.no a' m' hS) hargs hH0 hat (hno a' m' hS (hi.step hb))
end
structure WsOK (ws : List Wd) : Prop where
 w : ∀ w ∈ ws, w.length ≤ 1000000
 n : ws.length ≤ 1000000
theorem peekW_len {ws : List Wd} (h : WsOK ws) {a m : Int} (hi : InW ws a m) : (peekW ws a).length ≤ 1000000 := by
 unfold peekW
 split
 ·simp
 ·rename_i hne
  have hlt : a.toNat < ws.length := by have := hi.a0; have := hi.a1; omega
  rw [List.getD_eq_getElem?_getD, List.getElem?_eq_getElem hlt]
  exact h.w _ (List.getElem_mem hlt)
theorem rpeek {ws : List Wd} {a m : Int} (hi : InW ws a m) (hn : WsOK ws) : Meets Tryz.prog Dc 102 [.ptr 0 0] (rdH ws a m) (wS (peekW ws a)) (rdH ws a m) := by
 obtain ⟨h1, h2, h3, _⟩ := hi
 have hl := hn.n
 unfold peekW
 by_cases he : a = ws.length
 ·rw [if_pos he]
  refine meets_of_gx Ax tab_ok Tryz.func102 (c := _) rfl Tryz.call102 100 ?_
  (repeat' ((conv => whnf); first | (exfalso; omega) | (refine end_fn [some 0] (.inr rfl) ?_ ?_ rfl rfl; (focus exact vwV); exact hsV) | refine x0C ?_ | refine spC (fun hb => ?_) fun hb => ?_ | refine nilC (fun hb => ?_) ?_ | refine taC ?_ | refine saC ?_ | exact sdV | refine side_and ?_ ?_ | refine drawX_of mixed ?_))
 ·rw [if_neg he]
  refine meets_of_gx Ax tab_ok Tryz.func102 (c := _) rfl Tryz.call102 100 ?_
  (repeat' ((conv => whnf); first | (exfalso; omega) | (refine end_fn [some 0] (.inr rfl) ?_ ?_ rfl rfl; (focus exact vwV); exact hsV) | refine x0C ?_ | refine spC (fun hb => ?_) fun hb => ?_ | refine nilC (fun hb => ?_) ?_ | refine taC ?_ | refine saC ?_ | exact sdV | refine side_and ?_ ?_ | refine drawX_of mixed ?_))
theorem risT {ws : List Wd} {a m : Int} (s : Wd) (hi : InW ws a m) (hn : WsOK ws) (h : peekW ws a = s) : Meets Tryz.prog Dc 75 [.ptr 0 0, wS s] (rdH ws a m) (bS true) (rdH ws (a + 1) m) := by
 have hp := rpeek hi hn
 obtain ⟨h1, h2, h3, _⟩ := hi
 have hl := hn.n
 rw [h] at hp
 refine meets_of_gx Ax tab_ok Tryz.func75 (c := _) rfl Tryz.call75 100 ?_
 (repeat' ((conv => whnf); first | (exfalso; omega) | (refine callh [some 0] hp rfl rfl ⟨rfl, trivial⟩ ?_) | (refine end_fn [some 0] (.inr rfl) ?_ ?_ rfl rfl; (focus exact vwV); exact hsV) | refine x0C ?_ | refine spC (fun hb => ?_) fun hb => ?_ | refine nilC (fun hb => ?_) ?_ | refine taC ?_ | refine saC ?_ | exact sdV | refine side_and ?_ ?_ | refine drawX_of mixed ?_))
 all_goals exact absurd rfl (by assumption)
theorem risF {ws : List Wd} {a m : Int} (s : Wd) (hi : InW ws a m) (hn : WsOK ws) (h : ¬ peekW ws a = s) : Meets Tryz.prog Dc 75 [.ptr 0 0, wS s] (rdH ws a m) (bS false) (rdH ws a m) := by
 have hp := rpeek hi hn
 obtain ⟨h1, h2, h3, _⟩ := hi
 have hl := hn.n
 refine meets_of_gx Ax tab_ok Tryz.func75 (c := _) rfl Tryz.call75 100 ?_
 (repeat' ((conv => whnf); first | (exfalso; omega) | (refine callh [some 0] hp rfl rfl ⟨rfl, trivial⟩ ?_) | (refine end_fn [some 0] (.inr rfl) ?_ ?_ rfl rfl; (focus exact vwV); exact hsV) | refine x0C ?_ | refine spC (fun hb => ?_) fun hb => ?_ | refine nilC (fun hb => ?_) ?_ | refine taC ?_ | refine saC ?_ | exact sdV | refine side_and ?_ ?_ | refine drawX_of mixed ?_))
 all_goals exact absurd (by assumption) h
theorem und84 : Tryz.prog.underlying 84 = some (.struct #[]) := by kernel_rfl
theorem unitS (e : Operand → Value) (o : Oper) (w : World) (ho : o.op = .build 84 #[]) : (execOp e o).run Tryz.prog w = .ok (.value (.agg #[])) w := by
 obtain ⟨i, h1, h2⟩ : ∃ i, Tryz.prog.info? 84 = some i ∧ i.zero = some (.agg #[]) := by
  have : (Tryz.prog.info? 84).map (·.zero) = some (some (.agg #[])) := by kernel_rfl
  cases h : Tryz.prog.info? 84 with
  | none => rw [h] at this; cases this
  | some i => rw [h] at this; exact ⟨i, rfl, by simpa using this⟩
 simp [execOp, ho, Instr.build, run_underlying und84, zeroValue, typeInfo, h1, h2]
 rfl
theorem ufaceS (x : Operand) (e : Operand → Value) (o : Oper) (w : World) (ho : o.op = .makeInterface 84 x) : (execOp e o).run Tryz.prog w = .ok (.value (.iface 84 (e x))) w := by
 simp [execOp, ho, Instr.makeInterface, run_underlying und84]
/-- the three operations of a panic -/
theorem mustW_drop (ws : List Wd) : ∀ (i : Nat) (l : List Wd) (a m : Int), i ≤ l.length → (∀ j, j < i → peekW ws (a + j) = l.getD j []) → mustW ws l a m = mustW ws (l.drop i) (a + i) m
  | 0, l, a, m, _, _ => by simp
  | i + 1, [], a, m, h, _ => by simp at h
  | i + 1, s :: l, a, m, h, hp => by
    have h0 := hp 0 (by omega)
    simp only [Int.natCast_zero, Int.add_zero, List.getD_cons_zero] at h0
    rw [mustW, if_pos h0, mustW_drop ws i l (a + 1) m (by simpa using h) fun j hj => by
      have := hp (j + 1) (by omega)
      rw [show a + 1 + (j : Int) = a + ((j + 1 : Nat) : Int) by omega]
      simpa using this]
    rw [List.drop_succ_cons, show a + 1 + (i : Int) = a + ((i + 1 : Nat) : Int) by omega]
theorem rmust (l : List Wd) (hll : l.length ≤ 1000000) (h32 : ∀ s ∈ l, s ≠ [32]) {ws : List Wd} {a m : Int} (hi : InW ws a m) (hn : WsOK ws) : RM 73 [.ptr 0 0, .slice 1 0 1 0 l.length] ws a m [.rows U.str l] (mustW ws l a m) (fun _ => .tuple []) (fun _ => True) := by
 refine rm_of Tryz.func73 (c := _) rfl Tryz.call73 200 (mustW_bd l hi h32) (fun _ _ _ _ => trivial) ?_
 obtain ⟨S, hS⟩ : ∃ S, S = mustW ws l a m := ⟨_, rfl⟩
 rw [← hS]
 refine loop_up (fun i : Nat => [(8, iS i)]) (fun i => [(0, .vart none [wsS ws, iS (a + i), iS m])]) (fun i => i ≤ l.length ∧ InW ws (a + i) m ∧ ∀ j, j < i → peekW ws (a + j) = l.getD j []) (fun i => l.length - i) 0 ⟨Nat.zero_le _, by simpa using hi, fun j hj => absurd hj (Nat.not_lt_zero _)⟩ (by exact bkW) ?_
 rintro i ⟨hil, hiw, hpj⟩ K hK
 have hd := mustW_drop ws i l a m hil hpj
 rw [hd] at hS
 rcases Nat.lt_or_ge i l.length with hlt | hge
 ·have hb1 := hiw.a1
  have hb2 := hn.n
  have hg : l.getD (0 + (i : Int).toNat) (Cd.dflt U.str) = l.getD i [] := by rw [Nat.zero_add]; rfl
  rw [drop_getD (d := ([] : Wd)) hlt, mustW] at hS
  by_cases hp : peekW ws (a + i) = l.getD i []
  ·have hmem : l.getD i [] ∈ l := by rw [List.getD_eq_getElem?_getD, List.getElem?_eq_getElem hlt]; exact List.getElem_mem hlt
   have hlt2 := peekW_lt hiw hp (h32 _ hmem)
   have hI : InW ws (a + i + 1) m := ⟨by have := hiw.a0; omega, by omega, hiw.m0, hiw.m1⟩
   have q := risT (l.getD (0 + (i : Int).toNat) (Cd.dflt U.str)) hiw hn (hp.trans hg.symm)
   (repeat' ((conv => whnf); first | (exfalso; omega) | (refine callh [some 0] q rfl rfl ⟨rfl, trivial⟩ ?_) | (refine hK (i + 1) [some 0, some 1] _ _ ⟨⟨by omega, by (rw [show a + ((i + 1 : Nat) : Int) = a + i + 1 by omega]; exact hI), fun j hj => by (rcases Nat.lt_or_ge j i with h | h; exact hpj j h; (obtain rfl : j = i := by omega); exact hp)⟩⟩ ⟨by omega⟩ (by exact bkW)) | refine x0C ?_ | refine spC (fun hb => ?_) fun hb => ?_ | refine nilC (fun hb => ?_) ?_ | refine taC ?_ | refine saC ?_ | exact sdV | refine side_and ?_ ?_ | refine drawX_of mixed ?_))
  ·have q := risF (l.getD (0 + (i : Int).toNat) (Cd.dflt U.str)) hiw hn (fun e => hp (e.trans hg))
   rw [if_neg hp] at hS
   (repeat' ((conv => whnf); first | (exfalso; omega) | (refine callh [some 0] q rfl rfl ⟨rfl, trivial⟩ ?_) | refine unit_in unitS ?_ | refine uface_in (ufaceS _) rfl ?_ | refine panic_in _ _ _ rfl (only_lit rfl) ?_ | (refine rno hS (die_end [some 0, some 1] ?_); exact hsW) | refine x0C ?_ | refine spC (fun hb => ?_) fun hb => ?_ | refine nilC (fun hb => ?_) ?_ | refine taC ?_ | refine saC ?_ | exact sdV | refine side_and ?_ ?_ | refine drawX_of mixed ?_))
 ·obtain rfl : i = l.length := by omega
  rw [List.drop_length, mustW] at hS
  (repeat' ((conv => whnf); first | (exfalso; omega) | (refine rok hS (end_fn [some 0, some 1] (.inl rfl) ?_ ?_ rfl rfl); (focus exact vwV); exact hsW) | refine x0C ?_ | refine spC (fun hb => ?_) fun hb => ?_ | refine nilC (fun hb => ?_) ?_ | refine taC ?_ | refine saC ?_ | exact sdV | refine side_and ?_ ?_ | refine drawX_of mixed ?_))
theorem rnum (lo hi' : Int) {ws : List Wd} {a m : Int} (hi : InW ws a m) (hn : WsOK ws) : RM 74 [.ptr 0 0, iS lo, iS hi'] ws a m [] (numP ws lo hi' a m) (fun n => iS n) (fun n => lo ≤ n ∧ n ≤ hi') := by
 refine rm_of Tryz.func74 (c := _) rfl Tryz.call74 200 (numP_bd hi) (fun n a' m' e => ⟨(numP_ok hi e).1, (numP_ok hi e).2.1⟩) ?_
 obtain ⟨S, hS⟩ : ∃ S, S = numP ws lo hi' a m := ⟨_, rfl⟩
 rw [← hS]
 have hp := rpeek hi hn
 have hpl := peekW_len hn hi
 have ka := katoi (peekW ws a) (by omega)
 have hin := fun n => oin n lo hi'
 unfold numP numW at hS
 have hb1 := hi.a1
 have hb2 := hn.n
 have hb0 := hi.a0
 unfold atoiN atoiE at ka
 cases ha : Go.Lib.atoiAll (peekW ws a) with
 | ok n =>
  rw [ha] at ka hS
  obtain ⟨n1, n2⟩ := Go.Lib.atoiAll_bounds ha
  have ki := kitoa n ⟨by omega, by omega⟩
  have hin' := hin n
  simp only at ka hS
  by_cases hw : itoaW n = peekW ws a
  ·rw [if_pos hw] at hS
   simp only at hS
   by_cases hb : lo ≤ n ∧ n ≤ hi'
   ·rw [if_pos hb] at hS
    have hlt : a < ws.length := by
     rcases Int.lt_or_eq_of_le hb1 with h | h
     ·exact h
     ·exfalso
      have : peekW ws a = [32] := by unfold peekW; rw [if_pos h]
      rw [this] at ha
      have h2 : Go.Lib.atoiAll [32] = Go.Lib.NumEnd.syntax := by decide
      rw [h2] at ha; cases ha
    rw [(inB_iff _ _ _).2 hb] at hin'
    (repeat' ((conv => whnf); first | (exfalso; omega) | (refine callh [some 0] hp rfl rfl ⟨rfl, trivial⟩ ?_) | refine cpC (ka) ?_ | refine dpC (ka) ?_ | refine cpC (ki) ?_ | refine dpC (ki) ?_ | refine cpC (hin') ?_ | refine dpC (hin') ?_ | refine unit_in unitS ?_ | refine uface_in (ufaceS _) rfl ?_ | refine panic_in _ _ _ rfl (only_lit rfl) ?_ | (refine rok hS (end_fn [some 0] (.inr rfl) ?_ ?_ rfl rfl); (focus exact vwV); exact hsW) | refine x0C ?_ | refine spC (fun hb => ?_) fun hb => ?_ | refine nilC (fun hb => ?_) ?_ | refine taC ?_ | refine saC ?_ | exact sdV | refine side_and ?_ ?_ | refine drawX_of mixed ?_))
    all_goals exact absurd hw (by assumption)
   ·rw [if_neg hb] at hS
    rw [(inB_not _ _ _).2 hb] at hin'
    (repeat' ((conv => whnf); first | (exfalso; omega) | (refine callh [some 0] hp rfl rfl ⟨rfl, trivial⟩ ?_) | refine cpC (ka) ?_ | refine dpC (ka) ?_ | refine cpC (ki) ?_ | refine dpC (ki) ?_ | refine cpC (hin') ?_ | refine dpC (hin') ?_ | refine unit_in unitS ?_ | refine uface_in (ufaceS _) rfl ?_ | refine panic_in _ _ _ rfl (only_lit rfl) ?_ | (refine rno hS (die_end [some 0] ?_); exact hsW) | refine x0C ?_ | refine spC (fun hb => ?_) fun hb => ?_ | refine nilC (fun hb => ?_) ?_ | refine taC ?_ | refine saC ?_ | exact sdV | refine side_and ?_ ?_ | refine drawX_of mixed ?_))
  ·rw [if_neg hw] at hS
   simp only at hS
   (repeat' ((conv => whnf); first | (exfalso; omega) | (refine callh [some 0] hp rfl rfl ⟨rfl, trivial⟩ ?_) | refine cpC (ka) ?_ | refine dpC (ka) ?_ | refine cpC (ki) ?_ | refine dpC (ki) ?_ | refine cpC (hin') ?_ | refine dpC (hin') ?_ | refine unit_in unitS ?_ | refine uface_in (ufaceS _) rfl ?_ | refine panic_in _ _ _ rfl (only_lit rfl) ?_ | (refine rno hS (die_end [some 0] ?_); exact hsW) | refine x0C ?_ | refine spC (fun hb => ?_) fun hb => ?_ | refine nilC (fun hb => ?_) ?_ | refine taC ?_ | refine saC ?_ | exact sdV | refine side_and ?_ ?_ | refine drawX_of mixed ?_))
   all_goals exact absurd (by assumption) hw
 | range =>
  rw [ha] at ka hS
  simp only at ka hS
  (repeat' ((conv => whnf); first | (exfalso; omega) | (refine callh [some 0] hp rfl rfl ⟨rfl, trivial⟩ ?_) | refine cpC (ka) ?_ | refine dpC (ka) ?_ | refine unit_in unitS ?_ | refine uface_in (ufaceS _) rfl ?_ | refine panic_in _ _ _ rfl (only_lit rfl) ?_ | (refine rno hS (die_end [some 0] ?_); exact hsW) | refine x0C ?_ | refine spC (fun hb => ?_) fun hb => ?_ | refine nilC (fun hb => ?_) ?_ | refine taC ?_ | refine saC ?_ | exact sdV | refine side_and ?_ ?_ | refine drawX_of mixed ?_))
 | _ =>
  rw [ha] at ka hS
  simp only at ka hS
  (repeat' ((conv => whnf); first | (exfalso; omega) | (refine callh [some 0] hp rfl rfl ⟨rfl, trivial⟩ ?_) | refine cpC (ka) ?_ | refine dpC (ka) ?_ | refine unit_in unitS ?_ | refine uface_in (ufaceS _) rfl ?_ | refine panic_in _ _ _ rfl (only_lit rfl) ?_ | (refine rno hS (die_end [some 0] ?_); exact hsW) | refine x0C ?_ | refine spC (fun hb => ?_) fun hb => ?_ | refine nilC (fun hb => ?_) ?_ | refine taC ?_ | refine saC ?_ | exact sdV | refine side_and ?_ ?_ | refine drawX_of mixed ?_))
theorem wordP_bd {ws : List Wd} {s t : Wd} {a m : Int} (h : InW ws a m) (hs : s ≠ [32]) (ht : t ≠ [32]) : (wordP ws s t a m).Bd ws a m := by
 have h0 := h.a0
 unfold wordP
 split
 ·rename_i e
  have := peekW_lt h e hs
  exact ⟨by omega, by omega, h.m0, Int.le_refl _⟩
 ·split
  ·rename_i e
   have := peekW_lt h e ht
   exact ⟨by omega, by omega, h.m0, Int.le_refl _⟩
  ·exact h.refl
theorem rword (s t : Wd) (hsw : s ≠ [32]) (htw : t ≠ [32]) {ws : List Wd} {a m : Int} (hi : InW ws a m) (hn : WsOK ws) : RM 76 [.ptr 0 0, wS s, wS t] ws a m [] (wordP ws s t a m) (fun b => bS b) (fun _ => True) := by
 refine rm_of Tryz.func76 (c := _) rfl Tryz.call76 200 (wordP_bd hi hsw htw) (fun _ _ _ _ => trivial) ?_
 obtain ⟨S, hS⟩ : ∃ S, S = wordP ws s t a m := ⟨_, rfl⟩
 rw [← hS]
 unfold wordP at hS
 have hb1 := hi.a1
 have hb2 := hn.n
 by_cases h1 : peekW ws a = s
 ·rw [if_pos h1] at hS
  have hq := risT s hi hn h1
  (repeat' ((conv => whnf); first | (exfalso; omega) | (refine callh [some 0] hq rfl rfl ⟨rfl, trivial⟩ ?_) | (refine rok hS (end_fn [some 0] (.inr rfl) ?_ ?_ rfl rfl); (focus exact vwV); exact hsW) | refine x0C ?_ | refine spC (fun hb => ?_) fun hb => ?_ | refine nilC (fun hb => ?_) ?_ | refine taC ?_ | refine saC ?_ | exact sdV | refine side_and ?_ ?_ | refine drawX_of mixed ?_))
 ·rw [if_neg h1] at hS
  have hq := risF s hi hn h1
  have hm := rmust [t] (by simp) (by simpa using htw) hi hn
  unfold mustW mustW at hm
  by_cases h2 : peekW ws a = t
  ·rw [if_pos h2] at hS hm
   (repeat' ((conv => whnf); first | (exfalso; omega) | (refine callh [some 0] hq rfl rfl ⟨rfl, trivial⟩ ?_) | (refine rmX [some 0, some _] hm rfl rfl ⟨rfl, rfl, trivial⟩ (fun x a1 m1 e hi hp => ?_) (fun a1 m1 e hi => ?_) (by assumption) <;> cases e) | (refine rok hS (end_fn [some 0] (.inr rfl) ?_ ?_ rfl rfl); (focus exact vwV); exact hsW) | refine x0C ?_ | refine spC (fun hb => ?_) fun hb => ?_ | refine nilC (fun hb => ?_) ?_ | refine taC ?_ | refine saC ?_ | exact sdV | refine side_and ?_ ?_ | refine drawX_of mixed ?_))
  ·rw [if_neg h2] at hS hm
   (repeat' ((conv => whnf); first | (exfalso; omega) | (refine callh [some 0] hq rfl rfl ⟨rfl, trivial⟩ ?_) | (refine rmX [some 0, some _] hm rfl rfl ⟨rfl, rfl, trivial⟩ (fun x a1 m1 e hi hp => ?_) (fun a1 m1 e hi => ?_) (by assumption) <;> cases e) | (refine rno hS (die_end [some 0] ?_); exact hsW) | refine x0C ?_ | refine spC (fun hb => ?_) fun hb => ?_ | refine nilC (fun hb => ?_) ?_ | refine taC ?_ | refine saC ?_ | exact sdV | refine side_and ?_ ?_ | refine drawX_of mixed ?_))
theorem areaP_bd {ws : List Wd} : ∀ (n : Nat) (y free : Int) (rows : List Int) {a m : Int}, InW ws a m → (areaP ws n y free rows a m).Bd ws a m
 | 0, _, _, _, a, m, h => by unfold areaP; exact h.refl
 | n + 1, y, free, rows, a, m, h => by
  unfold areaP
  split
  ·exact h.refl
  ·refine bd_bind h (mustW_bd [w_at] h (by decide)) fun _ a1 m1 _ h1 => ?_
   refine bd_bind h1 (numP_bd h1) fun row a2 m2 _ h2 => ?_
   refine bd_bind h2 (numP_bd h2) fun x a3 m3 _ h3 => ?_
   refine bd_bind h3 (numP_bd h3) fun z a4 m4 _ h4 => ?_
   split
   ·exact areaP_bd n _ _ _ h4
   ·exact h4.refl
theorem shl_i64 {n k : Nat} (h : k ≤ 64) (h2 : n * 2 ^ k < 2 ^ 63) : shlop .i64 (n : Int) (k : Int) = ((n * 2 ^ k : Nat) : Int) := by
 unfold shlop
 rw [show min (k : Int).toNat IntKind.i64.bits = k by simp [IntKind.bits]; omega, show (n : Int) * 2 ^ k = ((n * 2 ^ k : Nat) : Int) by simp]
 generalize n * 2 ^ k = x at *
 simp only [IntKind.wrap, IntKind.signed, IntKind.bits]
 simp
 omega
theorem mask_eq {x z : Int} (h : 0 ≤ x ∧ x ≤ z ∧ z ≤ 47) : 1 ≤ shlop .i64 1 (z - x + 1) ∧ shlop .i64 1 (z - x + 1) ≤ 281474976710656 ∧ shlop .i64 (shlop .i64 1 (z - x + 1) - 1) x = maskW x z := by
  obtain ⟨x, rfl⟩ := Int.eq_ofNat_of_zero_le h.1
  obtain ⟨z, rfl⟩ := Int.eq_ofNat_of_zero_le (Int.le_trans h.1 h.2.1)
  have hk : (z : Int) - x + 1 = ((z - x + 1 : Nat) : Int) := by omega
  have hp : 2 ^ (z - x + 1) ≤ 2 ^ 48 := Nat.pow_le_pow_right (by omega) (by omega)
  have hq : 2 ^ (z - x + 1) * 2 ^ x ≤ 2 ^ 48 := by rw [← Nat.pow_add]; exact Nat.pow_le_pow_right (by omega) (by omega)
  have h1 : 1 ≤ 2 ^ (z - x + 1) := Nat.one_le_two_pow
  have hs := shl_i64 (n := 1) (k := z - x + 1) (by omega) (by omega)
  rw [Nat.one_mul] at hs
  have e : (2 : Int) ^ (z - x + 1) - 1 = ((2 ^ (z - x + 1) - 1 : Nat) : Int) := by rw [Int.ofNat_sub h1]; simp
  have hs2 := shl_i64 (n := 2 ^ (z - x + 1) - 1) (k := x) (by omega) (by
    have h3 : (2 ^ (z - x + 1) - 1) * 2 ^ x ≤ 2 ^ (z - x + 1) * 2 ^ x := Nat.mul_le_mul_right _ (by omega)
    omega)
  have hs' : shlop .i64 1 (z - x + 1) = ((2 ^ (z - x + 1) : Nat) : Int) := by rw [hk]; exact hs
  rw [hs']
  refine ⟨by omega, by omega, ?_⟩
  rw [show ((2 ^ (z - x + 1) : Nat) : Int) - 1 = ((2 ^ (z - x + 1) - 1 : Nat) : Int) by omega, hs2]
  unfold maskW
  rw [hk, Int.toNat_natCast, e, Int.toNat_natCast]
  simp
structure AreaI (ws : List Wd) (S : Rs (List Int)) (g : Nat × Int × Int × List Int × Int × Int) : Prop where
 y : 0 ≤ g.2.1 ∧ g.2.1 ≤ 23
 free : 0 ≤ g.2.2.1 ∧ g.2.2.1 ≤ 49
 fuel : 1200 ≤ 50 * g.2.1 + g.2.2.1 + g.1
 len : g.2.2.2.1.length = 24
 inw : InW ws g.2.2.2.2.1 g.2.2.2.2.2
 eq : S = areaP ws g.1 g.2.1 g.2.2.1 g.2.2.2.1 g.2.2.2.2.1 g.2.2.2.2.2
theorem rarea {ws : List Wd} {a m : Int} (hi : InW ws a m) (hn : WsOK ws) : RM 142 [.ptr 0 0] ws a m [] (areaP ws 1200 0 0 (List.replicate 24 0) a m) (fun rows => areaA rows) (fun _ => True) := by
 refine rm_of Tryz.func142 (c := _) rfl Tryz.call142 600 (areaP_bd _ _ _ _ hi) (fun _ _ _ _ => trivial) ?_
 obtain ⟨S, hS⟩ : ∃ S, S = areaP ws 1200 0 0 (List.replicate 24 0) a m := ⟨_, rfl⟩
 rw [← hS]
 (repeat' ((conv => whnf); first | refine x0C ?_ | refine spC (fun hb => ?_) fun hb => ?_ | refine nilC (fun hb => ?_) ?_ | refine taC ?_ | refine saC ?_ | exact sdV | refine side_and ?_ ?_ | refine drawX_of mixed ?_))
 refine loop_up (fun g : Nat × Int × Int × List Int × Int × Int => [(4, iS g.2.1), (5, iS g.2.2.1)]) (fun g => [(0, .vart none [wsS ws, iS g.2.2.2.2.1, iS g.2.2.2.2.2]), (2, .rows U.int g.2.2.2.1)]) (AreaI ws S) (fun g => g.1) (1200, 0, 0, List.replicate 24 0, a, m) ⟨by simp, by simp, by simp, by simp, hi, hS⟩ (by exact bkW) ?_
 clear hS hi
 rintro ⟨n, y, free, rows, a, m⟩ ⟨⟨hy1, hy2⟩, ⟨hf1, hf2⟩, hfu, hl, hi, hS⟩ K hK
 dsimp only at hy1 hy2 hf1 hf2 hfu hl hi hS ⊢
 obtain ⟨n, rfl⟩ : ∃ j, n = j + 1 := ⟨n - 1, by omega⟩
 unfold areaP at hS
 by_cases hc : 48 ≤ free ∧ y = 23
 ·rw [if_pos hc] at hS
  (repeat' ((conv => whnf); first | (exfalso; omega) | (refine rok hS (end_fn [some 0] (.inr rfl) ?_ ?_ rfl rfl); (focus (refine ⟨?_⟩; (repeat' (first | exact trivial | exact rfl | refine And.intro ?_ ?_ | exact fzV rfl rfl rfl (by simp; omega) (by simp [List.take_of_length_le, hl]) rfl)); done)); exact hsW) | refine x0C ?_ | refine spC (fun hb => ?_) fun hb => ?_ | refine nilC (fun hb => ?_) ?_ | refine taC ?_ | refine saC ?_ | exact sdV | refine side_and ?_ ?_ | refine drawX_of mixed ?_))
 ·rw [if_neg hc] at hS
  (repeat' ((conv => whnf); first | (exfalso; omega) | (refine rmX [some 0, some _] (rmust [w_at] (by decide) (by decide) (by assumption) hn) rfl rfl ⟨rfl, rfl, trivial⟩ (fun x a1 m1 e1 h1 p1 => ?_) (fun a1 m1 e1 h1 => ?_) (by assumption) <;> simp only [e1, Rs.bind] at hS) | (refine rno hS (die_end [some 0] ?_); exact hsW) | refine x0C ?_ | refine spC (fun hb => ?_) fun hb => ?_ | refine nilC (fun hb => ?_) ?_ | refine taC ?_ | refine saC ?_ | exact sdV | refine side_and ?_ ?_ | refine drawX_of mixed ?_))
  all_goals first | (have h48' : 48 ≤ free := (by assumption); simp only [h48', if_true, or_true] at hS) | (have h48' : ¬ 48 ≤ free := (by assumption); simp only [h48', if_false, or_false] at hS)
  all_goals (conv => whnf); (refine rmX [some 0] (rnum _ _ (by assumption) hn) rfl rfl ⟨rfl, trivial⟩ (fun row a2 m2 e2 h2 p2 => ?_) (fun a2 m2 e2 h2 => ?_) (by assumption)) <;> simp only [e2, Rs.bind] at hS
  all_goals (repeat' ((conv => whnf); first | (exfalso; omega) | (refine rno hS (die_end [some 0] ?_); exact hsW) | refine x0C ?_ | refine spC (fun hb => ?_) fun hb => ?_ | refine nilC (fun hb => ?_) ?_ | refine taC ?_ | refine saC ?_ | exact sdV | refine side_and ?_ ?_ | refine drawX_of mixed ?_))
  all_goals first | simp only [gt_iff_lt, ‹_ < _›, if_true] at hS | simp only [gt_iff_lt, ‹¬ _ < _›, if_false] at hS | skip
  all_goals (conv => whnf); (refine rmX [some 0] (rnum _ _ (by assumption) hn) rfl rfl ⟨rfl, trivial⟩ (fun x0 a3 m3 e3 h3 p3 => ?_) (fun a3 m3 e3 h3 => ?_) (by assumption)) <;> simp only [e3, Rs.bind] at hS
  all_goals (repeat' ((conv => whnf); first | (exfalso; omega) | (refine rno hS (die_end [some 0] ?_); exact hsW) | refine x0C ?_ | refine spC (fun hb => ?_) fun hb => ?_ | refine nilC (fun hb => ?_) ?_ | refine taC ?_ | refine saC ?_ | exact sdV | refine side_and ?_ ?_ | refine drawX_of mixed ?_))
  all_goals (conv => whnf); (refine rmX [some 0] (rnum _ _ (by assumption) hn) rfl rfl ⟨rfl, trivial⟩ (fun z1 a4 m4 e4 h4 p4 => ?_) (fun a4 m4 e4 h4 => ?_) (by assumption)) <;> simp only [e4, Rs.bind] at hS
  all_goals try have hmk := mask_eq (x := x0) (z := z1) ⟨by omega, by omega, by omega⟩
  all_goals try obtain ⟨k1, k2, k3⟩ := hmk
  all_goals try have hrow : rows.set (0 + row.toNat) (bitop .or .i64 (rows.getD (0 + row.toNat) (Cd.dflt U.int)) (shlop .i64 (shlop .i64 1 (z1 - x0 + 1) - 1) x0)) = rows.set row.toNat (bitop .or .i64 (rows.getD row.toNat 0) (maskW x0 z1)) := by rw [k3, Nat.zero_add]; rfl
  all_goals try have hpk := rpeek h4 hn
  all_goals try (by_cases hw : peekW ws a4 = w_at <;> simp only [hw, if_true, if_false] at hS hpk)
  all_goals (repeat' ((conv => whnf); first | (exfalso; omega) | (refine callh [some 0] hpk rfl rfl ⟨rfl, trivial⟩ ?_) | (refine rno hS (die_end [some 0] ?_); exact hsW) | (refine hK (n, row, z1 + 2, rows.set row.toNat (bitop .or .i64 (rows.getD row.toNat 0) (maskW x0 z1)), a4, m4) [some 0, some 1, some 2, some 3] _ _ ⟨⟨by dsimp only; omega, by dsimp only; omega, by dsimp only; omega, by simp [hl], h4, hS⟩⟩ ⟨by simp⟩ (by exact bkW)) | (refine rok hS (end_fn [some 0] (.inr rfl) ?_ ?_ rfl rfl); (focus (refine ⟨?_⟩; (repeat' (first | exact trivial | exact rfl | refine And.intro ?_ ?_ | exact fzV rfl rfl rfl (by simp; omega) (by rw [hrow]; simp [List.take_of_length_le, hl]) rfl)); done)); exact hsW) | refine x0C ?_ | refine spC (fun hb => ?_) fun hb => ?_ | refine nilC (fun hb => ?_) ?_ | refine taC ?_ | refine saC ?_ | exact sdV | refine side_and ?_ ?_ | refine drawX_of mixed ?_))
  all_goals exact absurd (by assumption) hw
theorem seeP_bd {ws : List Wd} {a m : Int} (h : InW ws a m) : (seeP ws a m).Bd ws a m := by
 unfold seeP
 refine bd_bind h (areaP_bd _ _ _ _ h) fun _ _ _ _ h => ?_
 refine bd_bind h (mustW_bd [w_from] h (by decide)) fun _ _ _ _ h => ?_
 refine bd_bind h (numP_bd h) fun _ _ _ _ h => ?_
 refine bd_bind h (mustW_bd [w_to] h (by decide)) fun _ _ _ _ h => ?_
 refine bd_bind h (numP_bd h) fun _ _ _ _ h => ?_
 refine bd_bind h (mustW_bd [w_sun] h (by decide)) fun _ _ _ _ h => ?_
 refine bd_bind h (numP_bd h) fun _ _ _ _ h => ?_
 refine bd_bind h (mustW_bd [w_to] h (by decide)) fun _ _ _ _ h => ?_
 refine bd_bind h (numP_bd h) fun _ _ _ _ h => ?_
 refine bd_bind h (wordP_bd h (by decide) (by decide)) fun _ _ _ _ h => ?_
 exact h.refl
theorem rsee (dp : Int) {ws : List Wd} {a m : Int} (hi : InW ws a m) (hn : WsOK ws) : RM 121 [.ptr 0 0, iS dp] ws a m [] (seeP ws a m) (fun g => goalA g) (fun _ => True) := by
 refine rm_of Tryz.func121 (c := _) rfl Tryz.call121 900 (seeP_bd hi) (fun _ _ _ _ => trivial) ?_
 obtain ⟨S, hS⟩ : ∃ S, S = seeP ws a m := ⟨_, rfl⟩
 rw [← hS]
 unfold seeP at hS
 (repeat' ((conv => whnf); first | (exfalso; omega) | (refine rmX [some 0, some _] (rmust [w_from] (by decide) (by decide) (by assumption) hn) rfl rfl ⟨rfl, rfl, trivial⟩ (fun x a1 m1 e hi hp => ?_) (fun a1 m1 e hi => ?_) (by assumption) <;> simp only [e, Rs.bind] at hS) | (refine rmX [some 0, some _] (rmust [w_to] (by decide) (by decide) (by assumption) hn) rfl rfl ⟨rfl, rfl, trivial⟩ (fun x a1 m1 e hi hp => ?_) (fun a1 m1 e hi => ?_) (by assumption) <;> simp only [e, Rs.bind] at hS) | (refine rmX [some 0, some _] (rmust [w_sun] (by decide) (by decide) (by assumption) hn) rfl rfl ⟨rfl, rfl, trivial⟩ (fun x a1 m1 e hi hp => ?_) (fun a1 m1 e hi => ?_) (by assumption) <;> simp only [e, Rs.bind] at hS) | (refine rmX [some 0] (rnum _ _ (by assumption) hn) rfl rfl ⟨rfl, trivial⟩ (fun x a1 m1 e hi hp => ?_) (fun a1 m1 e hi => ?_) (by assumption) <;> simp only [e, Rs.bind] at hS) | (refine rmX [some 0] (rarea (by assumption) hn) rfl rfl ⟨rfl, trivial⟩ (fun x a1 m1 e hi hp => ?_) (fun a1 m1 e hi => ?_) (by assumption) <;> simp only [e, Rs.bind] at hS) | (refine rmX [some 0] (rword w_clear w_any (by decide) (by decide) (by assumption) hn) rfl rfl ⟨rfl, trivial⟩ (fun x a1 m1 e hi hp => ?_) (fun a1 m1 e hi => ?_) (by assumption) <;> simp only [e, Rs.bind] at hS) | (refine rno hS (die_end [some 0] ?_); exact hsW) | (refine rok hS (end_fn [some 0] (.inr rfl) ?_ ?_ rfl rfl); (focus first | exact vwV | (refine ⟨?_⟩; (repeat' (first | exact trivial | exact rfl | refine And.intro ?_ ?_ | exact fzV | exact fzV rfl rfl rfl (by simp) (by simp [eta_goal]) rfl | exact fvV)); done)); exact hsW) | refine x0C ?_ | refine spC (fun hb => ?_) fun hb => ?_ | refine nilC (fun hb => ?_) ?_ | refine taC ?_ | refine saC ?_ | exact sdV | refine side_and ?_ ?_ | refine drawX_of mixed ?_))
theorem eta_goal (x : Goal) : (⟨x.kind, x.rows, x.from_, x.to_, x.low, x.high, x.clear, x.days, x.times, x.within, x.cents, x.kids⟩ : Goal) = x := by cases x; rfl
/-- how a part is read -/
@[reducible] def GoalRM (ws : List Wd) (of dp : Int) (sub : Int → Int → Rs Goal) : Prop := ∀ a m, InW ws a m → RM 77 [.ptr 0 0, iS of, iS dp] ws a m [] (sub a m) (fun g => goalA g) (fun _ => True)
theorem pairP_bd {ws : List Wd} {sub : Int → Int → Rs Goal} (hs : ∀ a m, InW ws a m → (sub a m).Bd ws a m) {a m : Int} (h : InW ws a m) : (pairP ws sub a m).Bd ws a m := by
 unfold pairP
 refine bd_bind h (mustW_bd [w_looks] h (by decide)) fun _ _ _ _ h => ?_
 refine bd_bind h (numP_bd h) fun _ _ _ _ h => ?_
 refine bd_bind h (mustW_bd [w_within] h (by decide)) fun _ _ _ _ h => ?_
 refine bd_bind h (numP_bd h) fun _ _ _ _ h => ?_
 refine bd_bind h (mustW_bd [w_of] h (by decide)) fun _ _ _ _ h => ?_
 refine bd_bind h (hs _ _ h) fun _ _ _ _ h => ?_
 exact h.refl
theorem everyP_bd {ws : List Wd} {sub : Int → Int → Rs Goal} (hs : ∀ a m, InW ws a m → (sub a m).Bd ws a m) {a m : Int} (h : InW ws a m) : (everyP ws sub a m).Bd ws a m := by
 unfold everyP
 refine bd_bind h (numP_bd h) fun _ _ _ _ h => ?_
 refine bd_bind h (mustW_bd [w_days] h (by decide)) fun _ _ _ _ h => ?_
 refine bd_bind h (numP_bd h) fun _ _ _ _ h => ?_
 refine bd_bind h (mustW_bd [w_times, w_apart] h (by decide)) fun _ _ _ _ h => ?_
 refine bd_bind h (numP_bd h) fun _ _ _ _ h => ?_
 refine bd_bind h (mustW_bd [w_from] h (by decide)) fun _ _ _ _ h => ?_
 refine bd_bind h (numP_bd h) fun _ _ _ _ h => ?_
 refine bd_bind h (mustW_bd [w_of] h (by decide)) fun _ _ _ _ h => ?_
 refine bd_bind h (hs _ _ h) fun _ _ _ _ h => ?_
 exact h.refl
theorem delP_bd {ws : List Wd} {sub : Int → Int → Rs Goal} (hs : ∀ a m, InW ws a m → (sub a m).Bd ws a m) {a m : Int} (h : InW ws a m) : (delP ws sub a m).Bd ws a m := by
 unfold delP
 refine bd_bind h (mustW_bd [w_within] h (by decide)) fun _ _ _ _ h => ?_
 refine bd_bind h (numP_bd h) fun _ _ _ _ h => ?_
 refine bd_bind h (mustW_bd [w_of] h (by decide)) fun _ _ _ _ h => ?_
 refine bd_bind h (hs _ _ h) fun _ _ _ _ h => ?_
 exact h.refl
theorem rpair (dp : Int) (hd : 1 ≤ dp ∧ dp ≤ 4) {ws : List Wd} {sub : Int → Int → Rs Goal} (hs : GoalRM ws 2 (dp + 1) sub) {a m : Int} (hi : InW ws a m) (hn : WsOK ws) : RM 122 [.ptr 0 0, iS dp] ws a m [] (pairP ws sub a m) (fun g => goalA g) (fun _ => True) := by
 refine rm_of Tryz.func122 (c := _) rfl Tryz.call122 900 (pairP_bd (fun a m h => (hs a m h).bd) hi) (fun _ _ _ _ => trivial) ?_
 obtain ⟨S, hS⟩ : ∃ S, S = pairP ws sub a m := ⟨_, rfl⟩
 rw [← hS]
 unfold pairP at hS
 (repeat' ((conv => whnf); first | (exfalso; omega) | (refine rmX [some 0, some _] (rmust [w_looks] (by decide) (by decide) (by assumption) hn) rfl rfl ⟨rfl, rfl, trivial⟩ (fun x a1 m1 e hi hp => ?_) (fun a1 m1 e hi => ?_) (by assumption) <;> simp only [e, Rs.bind] at hS) | (refine rmX [some 0, some _] (rmust [w_within] (by decide) (by decide) (by assumption) hn) rfl rfl ⟨rfl, rfl, trivial⟩ (fun x a1 m1 e hi hp => ?_) (fun a1 m1 e hi => ?_) (by assumption) <;> simp only [e, Rs.bind] at hS) | (refine rmX [some 0, some _] (rmust [w_of] (by decide) (by decide) (by assumption) hn) rfl rfl ⟨rfl, rfl, trivial⟩ (fun x a1 m1 e hi hp => ?_) (fun a1 m1 e hi => ?_) (by assumption) <;> simp only [e, Rs.bind] at hS) | (refine rmX [some 0] (rnum _ _ (by assumption) hn) rfl rfl ⟨rfl, trivial⟩ (fun x a1 m1 e hi hp => ?_) (fun a1 m1 e hi => ?_) (by assumption) <;> simp only [e, Rs.bind] at hS) | (refine rmX [some 0] (hs _ _ (by assumption)) rfl rfl ⟨rfl, trivial⟩ (fun x a1 m1 e hi hp => ?_) (fun a1 m1 e hi => ?_) (by assumption) <;> simp only [e, Rs.bind] at hS) | (refine rno hS (die_end [some 0] ?_); exact hsW) | (refine rok hS (end_fn [some 0] (.inr rfl) ?_ ?_ rfl rfl); (focus first | exact vwV | (refine ⟨?_⟩; (repeat' (first | exact trivial | exact rfl | refine And.intro ?_ ?_ | exact fzV | exact fzV rfl rfl rfl (by simp) (by simp [eta_goal]) rfl | exact fvV)); done)); exact hsW) | refine x0C ?_ | refine spC (fun hb => ?_) fun hb => ?_ | refine nilC (fun hb => ?_) ?_ | refine taC ?_ | refine saC ?_ | exact sdV | refine side_and ?_ ?_ | refine drawX_of mixed ?_))
theorem revery (dp : Int) (hd : 1 ≤ dp ∧ dp ≤ 4) {ws : List Wd} {sub : Int → Int → Rs Goal} (hs : GoalRM ws 3 (dp + 1) sub) {a m : Int} (hi : InW ws a m) (hn : WsOK ws) : RM 123 [.ptr 0 0, iS dp] ws a m [] (everyP ws sub a m) (fun g => goalA g) (fun _ => True) := by
 refine rm_of Tryz.func123 (c := _) rfl Tryz.call123 900 (everyP_bd (fun a m h => (hs a m h).bd) hi) (fun _ _ _ _ => trivial) ?_
 obtain ⟨S, hS⟩ : ∃ S, S = everyP ws sub a m := ⟨_, rfl⟩
 rw [← hS]
 unfold everyP at hS
 (repeat' ((conv => whnf); first | (exfalso; omega) | (refine rmX [some 0, some _] (rmust [w_days] (by decide) (by decide) (by assumption) hn) rfl rfl ⟨rfl, rfl, trivial⟩ (fun x a1 m1 e hi hp => ?_) (fun a1 m1 e hi => ?_) (by assumption) <;> simp only [e, Rs.bind] at hS) | (refine rmX [some 0, some _] (rmust [w_times, w_apart] (by decide) (by decide) (by assumption) hn) rfl rfl ⟨rfl, rfl, trivial⟩ (fun x a1 m1 e hi hp => ?_) (fun a1 m1 e hi => ?_) (by assumption) <;> simp only [e, Rs.bind] at hS) | (refine rmX [some 0, some _] (rmust [w_from] (by decide) (by decide) (by assumption) hn) rfl rfl ⟨rfl, rfl, trivial⟩ (fun x a1 m1 e hi hp => ?_) (fun a1 m1 e hi => ?_) (by assumption) <;> simp only [e, Rs.bind] at hS) | (refine rmX [some 0, some _] (rmust [w_of] (by decide) (by decide) (by assumption) hn) rfl rfl ⟨rfl, rfl, trivial⟩ (fun x a1 m1 e hi hp => ?_) (fun a1 m1 e hi => ?_) (by assumption) <;> simp only [e, Rs.bind] at hS) | (refine rmX [some 0] (rnum _ _ (by assumption) hn) rfl rfl ⟨rfl, trivial⟩ (fun x a1 m1 e hi hp => ?_) (fun a1 m1 e hi => ?_) (by assumption) <;> simp only [e, Rs.bind] at hS) | (refine rmX [some 0] (hs _ _ (by assumption)) rfl rfl ⟨rfl, trivial⟩ (fun x a1 m1 e hi hp => ?_) (fun a1 m1 e hi => ?_) (by assumption) <;> simp only [e, Rs.bind] at hS) | (refine rno hS (die_end [some 0] ?_); exact hsW) | (refine rok hS (end_fn [some 0] (.inr rfl) ?_ ?_ rfl rfl); (focus first | exact vwV | (refine ⟨?_⟩; (repeat' (first | exact trivial | exact rfl | refine And.intro ?_ ?_ | exact fzV | exact fzV rfl rfl rfl (by simp) (by simp [eta_goal]) rfl | exact fvV)); done)); exact hsW) | refine x0C ?_ | refine spC (fun hb => ?_) fun hb => ?_ | refine nilC (fun hb => ?_) ?_ | refine taC ?_ | refine saC ?_ | exact sdV | refine side_and ?_ ?_ | refine drawX_of mixed ?_))
theorem rdeliver (dp : Int) (hd : 1 ≤ dp ∧ dp ≤ 4) {ws : List Wd} {sub : Int → Int → Rs Goal} (hs : GoalRM ws 4 (dp + 1) sub) {a m : Int} (hi : InW ws a m) (hn : WsOK ws) : RM 124 [.ptr 0 0, iS dp] ws a m [] (delP ws sub a m) (fun g => goalA g) (fun _ => True) := by
 refine rm_of Tryz.func124 (c := _) rfl Tryz.call124 900 (delP_bd (fun a m h => (hs a m h).bd) hi) (fun _ _ _ _ => trivial) ?_
 obtain ⟨S, hS⟩ : ∃ S, S = delP ws sub a m := ⟨_, rfl⟩
 rw [← hS]
 unfold delP at hS
 (repeat' ((conv => whnf); first | (exfalso; omega) | (refine rmX [some 0, some _] (rmust [w_within] (by decide) (by decide) (by assumption) hn) rfl rfl ⟨rfl, rfl, trivial⟩ (fun x a1 m1 e hi hp => ?_) (fun a1 m1 e hi => ?_) (by assumption) <;> simp only [e, Rs.bind] at hS) | (refine rmX [some 0, some _] (rmust [w_of] (by decide) (by decide) (by assumption) hn) rfl rfl ⟨rfl, rfl, trivial⟩ (fun x a1 m1 e hi hp => ?_) (fun a1 m1 e hi => ?_) (by assumption) <;> simp only [e, Rs.bind] at hS) | (refine rmX [some 0] (rnum _ _ (by assumption) hn) rfl rfl ⟨rfl, trivial⟩ (fun x a1 m1 e hi hp => ?_) (fun a1 m1 e hi => ?_) (by assumption) <;> simp only [e, Rs.bind] at hS) | (refine rmX [some 0] (hs _ _ (by assumption)) rfl rfl ⟨rfl, trivial⟩ (fun x a1 m1 e hi hp => ?_) (fun a1 m1 e hi => ?_) (by assumption) <;> simp only [e, Rs.bind] at hS) | (refine rno hS (die_end [some 0] ?_); exact hsW) | (refine rok hS (end_fn [some 0] (.inr rfl) ?_ ?_ rfl rfl); (focus first | exact vwV | (refine ⟨?_⟩; (repeat' (first | exact trivial | exact rfl | refine And.intro ?_ ?_ | exact fzV | exact fzV rfl rfl rfl (by simp) (by simp [eta_goal]) rfl | exact fvV)); done)); exact hsW) | refine x0C ?_ | refine spC (fun hb => ?_) fun hb => ?_ | refine nilC (fun hb => ?_) ?_ | refine taC ?_ | refine saC ?_ | exact sdV | refine side_and ?_ ?_ | refine drawX_of mixed ?_))
theorem partsP_bd {ws : List Wd} {sub : Int → Int → Rs Goal} (hs : ∀ a m, InW ws a m → (sub a m).Bd ws a m) (k : Int) : ∀ (n : Nat) (cents : List Int) (kids : List Goal) {a m : Int}, InW ws a m → (partsP ws sub k n cents kids a m).Bd ws a m
 | 0, _, _, a, m, h => by unfold partsP; exact h.refl
 | n + 1, cents, kids, a, m, h => by
  unfold partsP
  refine bd_bind h ?_ fun c a1 m1 _ h1 => ?_
  ·split
   ·exact bd_bind h (numP_bd h) fun _ _ _ _ h => h.refl
   ·exact h.refl
  refine bd_bind h1 (hs _ _ h1) fun g a2 m2 _ h2 => ?_
  split
  ·split
   ·rename_i e
    have := peekW_lt h2 e (by decide)
    have := h2.a0
    exact ⟨by omega, by omega, h2.m0, Int.le_refl _⟩
   ·split
    ·exact h2.refl
    ·rename_i hne
     have h3 : InW ws a2 (m2 - 1) := ⟨h2.a0, h2.a1, by have := h2.m0; omega, by have := h2.m1; omega⟩
     have := bd_bind h3 (mustW_bd [w_comma] h3 (by decide)) fun _ a4 m4 _ h4 => partsP_bd hs k n c (kids ++ [g]) h4
     revert this
     cases ((mustW ws [w_comma] a2 (m2 - 1)).bind fun _ a m => partsP ws sub k n c (kids ++ [g]) a m) with
     | ok z a5 m5 => intro hb; exact ⟨hb.at1, hb.at2, hb.r1, by have := hb.r2; omega⟩
     | no a5 m5 => intro hb; exact ⟨hb.at1, hb.at2, hb.r1, by have := hb.r2; omega⟩
  ·exact bd_bind h2 (mustW_bd [w_comma] h2 (by decide)) fun _ a4 m4 _ h4 => partsP_bd hs k n c (kids ++ [g]) h4
theorem listP_bd {ws : List Wd} {sub : Int → Int → Rs Goal} (hs : ∀ a m, InW ws a m → (sub a m).Bd ws a m) (k : Int) {a m : Int} (h : InW ws a m) : (listP ws sub k a m).Bd ws a m := by
 unfold listP
 exact bd_bind h (mustW_bd [w_open] h (by decide)) fun _ _ _ _ h => partsP_bd hs k 5 [] [] h
@[reducible] def nilS : SV Cd := .p (.lit (.slice none 0 0))
@[reducible] def kindA (k : Int) : SV Cd := .agg [iS k, nilS, iS 0, iS 0, iS 0, iS 0, bS false, iS 0, iS 0, iS 0, nilS, nilS]
@[reducible] def boxL (k : Int) (cents kids : SV Cd) : HS Cd := .vart none [iS k, nilS, iS 0, iS 0, iS 0, iS 0, bS false, iS 0, iS 0, iS 0, cents, kids]
structure ListI (ws : List Wd) (sub : Int → Int → Rs Goal) (k : Int) (S : Rs Goal) (g : Nat × List Int × List Goal × Int × Int) : Prop where
 len : g.2.2.1.length = g.1
 lt : g.1 ≤ 3
 inw : InW ws g.2.2.2.1 g.2.2.2.2
 eq : S = partsP ws sub k (5 - g.1) g.2.1 g.2.2.1 g.2.2.2.1 g.2.2.2.2
 cents : g.2.1.length = if k = 6 then g.1 else 0
theorem rall0 (dp : Int) (hd : 1 ≤ dp ∧ dp ≤ 4) {ws : List Wd} {sub : Int → Int → Rs Goal} (hs : GoalRM ws 5 (dp + 1) sub) {a m : Int} (hi : InW ws a m) (hn : WsOK ws) : RM 143 [.ptr 0 0, kindA 5, iS dp] ws a m [] (listP ws sub 5 a m) (fun g => goalA g) (fun _ => True) := by
 refine rm_of Tryz.func143 (c := _) rfl Tryz.call143 900 (listP_bd (fun a m h => (hs a m h).bd) 5 hi) (fun _ _ _ _ => trivial) ?_
 obtain ⟨S, hS⟩ : ∃ S, S = listP ws sub 5 a m := ⟨_, rfl⟩
 rw [← hS]
 unfold listP at hS
 (repeat' ((conv => whnf); first | (exfalso; omega) | (refine rmX [some 0, some _] (rmust [w_open] (by decide) (by decide) (by assumption) hn) rfl rfl ⟨rfl, rfl, trivial⟩ (fun x a1 m1 e hi hp => ?_) (fun a1 m1 e hi => ?_) (by assumption) <;> simp only [e, Rs.bind] at hS) | (refine rno hS (die_end [some 0] ?_); exact hsW) | refine x0C ?_ | refine spC (fun hb => ?_) fun hb => ?_ | refine nilC (fun hb => ?_) ?_ | refine taC ?_ | refine saC ?_ | exact sdV | refine side_and ?_ ?_ | refine drawX_of mixed ?_))
 conv => whnf
 refine loop_up (fun g : Nat × List Int × List Goal × Int × Int => []) (fun g => match g.1 with
  | 0 => [(0, .vart none [wsS ws, iS g.2.2.2.1, iS g.2.2.2.2])]
  | i + 1 => [(0, .vart none [wsS ws, iS g.2.2.2.1, iS g.2.2.2.2]), (1, boxL 5 nilS (.slice 4 0 12 0 (i + 1))), (4, .rows U.goal g.2.2.1)]) (ListI ws sub 5 S) (fun g => 5 - g.1) (0, [], [], _, _) ⟨rfl, by simp, by assumption, hS, rfl⟩ (by exact bkW) ?_
 clear hS
 rintro ⟨i, cents, kids, a, m⟩ ⟨hl, hlt, hi, hS, hc⟩ K hK
 dsimp only at hl hlt hi hS hc ⊢
 rw [if_neg (by decide)] at hc
 obtain rfl := List.eq_nil_of_length_eq_zero hc
 have hR := hs a m hi
 cases i with
 | zero =>
  obtain rfl := List.eq_nil_of_length_eq_zero hl
  rw [partsP, if_neg (by decide)] at hS
  simp only [Rs.bind] at hS
  cases e0 : sub a m with
  | no a1 m1 =>
   rw [e0] at hS
   (repeat' ((conv => whnf); first | (exfalso; omega) | refine x0C ?_ | refine spC (fun hb => ?_) fun hb => ?_ | refine nilC (fun hb => ?_) ?_ | refine taC ?_ | refine saC ?_ | exact sdV | refine side_and ?_ ?_))
   refine drawX_die 7 mixed ?_
   (repeat' ((conv => whnf); first | (exfalso; omega) | (refine ddieh [some 0] (hR.no _ _ e0) rfl rfl ⟨rfl, trivial⟩ ?_ ?_) | exact trivial | (refine rno hS (die_end [some 0] ?_); exact hsW) | refine x0C ?_ | refine spC (fun hb => ?_) fun hb => ?_ | refine nilC (fun hb => ?_) ?_ | refine taC ?_ | refine saC ?_ | exact sdV | refine side_and ?_ ?_))
  | ok g a1 m1 =>
   rw [e0] at hS
   have hi1 : InW ws a1 m1 := hi.step (by have := hR.bd; rw [e0] at this; exact this)
   (repeat' ((conv => whnf); first | (exfalso; omega) | refine x0C ?_ | refine spC (fun hb => ?_) fun hb => ?_ | refine nilC (fun hb => ?_) ?_ | refine taC ?_ | refine saC ?_ | exact sdV | refine side_and ?_ ?_))
   refine drawX_of mixed ?_
   have hg : List.take 1 (List.drop 0 [(⟨g.kind, g.rows, g.from_, g.to_, g.low, g.high, g.clear, g.days, g.times, g.within, g.cents, g.kids⟩ : Goal)]) = [] ++ [g] := by simp [eta_goal]
   simp only [List.length_nil, Nat.zero_add, Nat.lt_irrefl, if_false] at hS
   (repeat' ((conv => whnf); first | (exfalso; omega) | (refine dcallh [some 0] (hR.ok _ _ _ e0) rfl rfl ⟨rfl, trivial⟩ ?_) | (refine rmX [some 0, some _] (rmust [w_comma] (by decide) (by decide) (by assumption) hn) rfl rfl ⟨rfl, rfl, trivial⟩ (fun x a1 m1 e hi hp => ?_) (fun a1 m1 e hi => ?_) (by assumption) <;> simp only [e, Rs.bind] at hS) | (refine rno hS (die_end [some 0] ?_); exact hsW) | (refine hK (1, [], [] ++ [g], _, _) [some 0, some 1, some 2, some 3, some 5] _ _ ⟨⟨rfl, by simp, by assumption, hS, rfl⟩⟩ ⟨by simp⟩ (by exact bkW)) | refine x0C ?_ | refine spC (fun hb => ?_) fun hb => ?_ | refine nilC (fun hb => ?_) ?_ | refine taC ?_ | refine saC ?_ | exact sdV | refine side_and ?_ ?_))
 | succ i =>
  have hkl : kids.length = i + 1 := hl
  rw [show 5 - (i + 1) = (3 - i) + 1 by omega, partsP, if_neg (by decide)] at hS
  simp only [Rs.bind] at hS
  have h1 : 1 < kids.length + 1 := by omega
  cases e0 : sub a m with
  | no a1 m1 =>
   rw [e0] at hS
   (repeat' ((conv => whnf); first | (exfalso; omega) | refine x0C ?_ | refine spC (fun hb => ?_) fun hb => ?_ | refine nilC (fun hb => ?_) ?_ | refine taC ?_ | refine saC ?_ | exact sdV | refine side_and ?_ ?_))
   refine drawX_die 7 mixed ?_
   (repeat' ((conv => whnf); first | (exfalso; omega) | (refine ddieh [some 0] (hR.no _ _ e0) rfl rfl ⟨rfl, trivial⟩ ?_ ?_) | exact trivial | (refine rno hS (die_end [some 0] ?_); exact hsW) | refine x0C ?_ | refine spC (fun hb => ?_) fun hb => ?_ | refine nilC (fun hb => ?_) ?_ | refine taC ?_ | refine saC ?_ | exact sdV | refine side_and ?_ ?_))
  | ok g a1 m1 =>
   rw [e0] at hS
   simp only [h1, if_true] at hS
   have hi1 : InW ws a1 m1 := hi.step (by have := hR.bd; rw [e0] at this; exact this)
   (repeat' ((conv => whnf); first | (exfalso; omega) | refine x0C ?_ | refine spC (fun hb => ?_) fun hb => ?_ | refine nilC (fun hb => ?_) ?_ | refine taC ?_ | refine saC ?_ | exact sdV | refine side_and ?_ ?_))
   refine drawX_of mixed ?_
   have hg : List.take (i + 1) kids ++ List.take 1 (List.drop 0 [(⟨g.kind, g.rows, g.from_, g.to_, g.low, g.high, g.clear, g.days, g.times, g.within, g.cents, g.kids⟩ : Goal)]) = kids ++ [g] := by simp [eta_goal, ← hkl]
   obtain ⟨L, hL⟩ : ∃ L, L = kids ++ [g] := ⟨_, rfl⟩
   have hLl : L.length = i + 2 := by rw [hL]; simp; omega
   rw [← hL] at hS hg
   have hkL : kids.length + 1 = L.length := by omega
   rw [hkL] at hS
   clear hL hkL
   have hm0 := hi1.m0
   have hm1 := hi1.m1
   (repeat' ((conv => whnf); first | (exfalso; omega) | (refine dcallh [some 0] (hR.ok _ _ _ e0) rfl rfl ⟨rfl, trivial⟩ ?_) | refine x0C ?_ | refine spC (fun hb => ?_) fun hb => ?_ | refine nilC (fun hb => ?_) ?_ | refine taC ?_ | refine saC ?_ | exact sdV | refine side_and ?_ ?_))
   rotate_left
   ·rename_i hb
    rw [hg] at hb
    exact absurd (by omega) hb
   rw [hg]
   by_cases hw : peekW ws a1 = w_close
   ·rw [if_pos hw] at hS
    have q := risT w_close hi1 hn hw
    (repeat' ((conv => whnf); first | (exfalso; omega) | (refine callh [some 0] q rfl rfl ⟨rfl, trivial⟩ ?_) | (refine rok hS (end_fn [some 0] (.inr rfl) ?_ ?_ rfl rfl); (focus (refine ⟨?_⟩; (repeat' (first | exact trivial | exact rfl | refine And.intro ?_ ?_ | exact fzV | exact fzV rfl rfl rfl (by omega) (by simp [List.take_of_length_le]) rfl | exact fvV)); done)); exact hsW) | refine x0C ?_ | refine spC (fun hb => ?_) fun hb => ?_ | refine nilC (fun hb => ?_) ?_ | refine taC ?_ | refine saC ?_ | exact sdV | refine side_and ?_ ?_))
   ·rw [if_neg hw] at hS
    have q := risF w_close hi1 hn hw
    by_cases hx : L.length = 4 ∨ m1 = 0
    ·rw [if_pos hx] at hS
     (repeat' ((conv => whnf); first | (exfalso; omega) | (refine callh [some 0] q rfl rfl ⟨rfl, trivial⟩ ?_) | refine unit_in unitS ?_ | refine uface_in (ufaceS _) rfl ?_ | refine panic_in _ _ _ rfl (only_lit rfl) ?_ | (refine rno hS (die_end [some 0] ?_); exact hsW) | refine x0C ?_ | refine spC (fun hb => ?_) fun hb => ?_ | refine nilC (fun hb => ?_) ?_ | refine taC ?_ | refine saC ?_ | exact sdV | refine side_and ?_ ?_))
    ·rw [if_neg hx] at hS
     have hi2 : InW ws a1 (m1 - 1) := ⟨hi1.a0, hi1.a1, by omega, by omega⟩
     (repeat' ((conv => whnf); first | (exfalso; omega) | (refine callh [some 0] q rfl rfl ⟨rfl, trivial⟩ ?_) | (refine rmX [some 0, some _] (rmust [w_comma] (by decide) (by decide) (by assumption) hn) rfl rfl ⟨rfl, rfl, trivial⟩ (fun x a1 m1 e hi hp => ?_) (fun a1 m1 e hi => ?_) (by assumption) <;> simp only [e, Rs.bind] at hS) | (refine rno hS (die_end [some 0] ?_); exact hsW) | (refine hK (i + 2, [], L, _, _) [some 0, some 1, some 2, some 3, some 6] _ _ ⟨⟨hLl, by simp; omega, by assumption, by (rw [show 5 - (i + 2) = 3 - i by omega]; exact hS), rfl⟩⟩ ⟨by simp; omega⟩ (by exact bkW)) | refine x0C ?_ | refine spC (fun hb => ?_) fun hb => ?_ | refine nilC (fun hb => ?_) ?_ | refine taC ?_ | refine saC ?_ | exact sdV | refine side_and ?_ ?_))
theorem rany0 (dp : Int) (hd : 1 ≤ dp ∧ dp ≤ 4) {ws : List Wd} {sub : Int → Int → Rs Goal} (hs : GoalRM ws 6 (dp + 1) sub) {a m : Int} (hi : InW ws a m) (hn : WsOK ws) : RM 143 [.ptr 0 0, kindA 6, iS dp] ws a m [] (listP ws sub 6 a m) (fun g => goalA g) (fun _ => True) := by
 refine rm_of Tryz.func143 (c := _) rfl Tryz.call143 900 (listP_bd (fun a m h => (hs a m h).bd) 6 hi) (fun _ _ _ _ => trivial) ?_
 obtain ⟨S, hS⟩ : ∃ S, S = listP ws sub 6 a m := ⟨_, rfl⟩
 rw [← hS]
 unfold listP at hS
 (repeat' ((conv => whnf); first | (exfalso; omega) | (refine rmX [some 0, some _] (rmust [w_open] (by decide) (by decide) (by assumption) hn) rfl rfl ⟨rfl, rfl, trivial⟩ (fun x a1 m1 e hi hp => ?_) (fun a1 m1 e hi => ?_) (by assumption) <;> simp only [e, Rs.bind] at hS) | (refine rno hS (die_end [some 0] ?_); exact hsW) | refine x0C ?_ | refine spC (fun hb => ?_) fun hb => ?_ | refine nilC (fun hb => ?_) ?_ | refine taC ?_ | refine saC ?_ | exact sdV | refine side_and ?_ ?_ | refine drawX_of mixed ?_))
 conv => whnf
 refine loop_up (fun g : Nat × List Int × List Goal × Int × Int => []) (fun g => match g.1 with
  | 0 => [(0, .vart none [wsS ws, iS g.2.2.2.1, iS g.2.2.2.2])]
  | i + 1 => [(0, .vart none [wsS ws, iS g.2.2.2.1, iS g.2.2.2.2]), (1, boxL 6 (.slice 4 0 1 0 (i + 1)) (.slice 5 0 12 0 (i + 1))), (4, .rows U.int g.2.1), (5, .rows U.goal g.2.2.1)]) (ListI ws sub 6 S) (fun g => 5 - g.1) (0, [], [], _, _) ⟨rfl, by simp, by assumption, hS, rfl⟩ (by exact bkW) ?_
 clear hS
 rintro ⟨i, cents, kids, a, m⟩ ⟨hl, hlt, hi, hS, hc⟩ K hK
 dsimp only at hl hlt hi hS hc ⊢
 rw [if_pos rfl] at hc
 cases i with
 | zero =>
  obtain rfl := List.eq_nil_of_length_eq_zero hl
  obtain rfl := List.eq_nil_of_length_eq_zero hc
  rw [partsP, if_pos rfl] at hS
  simp only [Rs.bind] at hS
  have hN := rnum 0 1000000000 hi hn
  cases e1 : numP ws 0 1000000000 a m with
  | no a1 m1 =>
   rw [e1] at hS
   (repeat' ((conv => whnf); first | (exfalso; omega) | refine x0C ?_ | refine spC (fun hb => ?_) fun hb => ?_ | refine nilC (fun hb => ?_) ?_ | refine taC ?_ | refine saC ?_ | exact sdV | refine side_and ?_ ?_))
   refine drawX_die 3 mixed ?_
   (repeat' ((conv => whnf); first | (exfalso; omega) | (refine ddieh [some 0] (hN.no _ _ e1) rfl rfl ⟨rfl, trivial⟩ ?_ ?_) | exact trivial | (refine rno hS (die_end [some 0] ?_); exact hsW) | refine x0C ?_ | refine spC (fun hb => ?_) fun hb => ?_ | refine nilC (fun hb => ?_) ?_ | refine taC ?_ | refine saC ?_ | exact sdV | refine side_and ?_ ?_))
  | ok c a m =>
  rw [e1] at hS
  dsimp only at hS
  have hi : InW ws a m := hi.step (by have := hN.bd; rw [e1] at this; exact this)
  have hR := hs a m hi
  (repeat' ((conv => whnf); first | (exfalso; omega) | refine x0C ?_ | refine spC (fun hb => ?_) fun hb => ?_ | refine nilC (fun hb => ?_) ?_ | refine taC ?_ | refine saC ?_ | exact sdV | refine side_and ?_ ?_))
  refine drawX_of mixed ?_
  have hcc : List.take 1 (List.drop 0 [c]) = [] ++ [c] := by simp
  (repeat' ((conv => whnf); first | (exfalso; omega) | (refine dcallh [some 0] (hN.ok _ _ _ e1) rfl rfl ⟨rfl, trivial⟩ ?_) | refine x0C ?_ | refine spC (fun hb => ?_) fun hb => ?_ | refine nilC (fun hb => ?_) ?_ | refine taC ?_ | refine saC ?_ | exact sdV | refine side_and ?_ ?_))
  cases e0 : sub a m with
  | no a1 m1 =>
   rw [e0] at hS
   (repeat' ((conv => whnf); first | (exfalso; omega) | refine x0C ?_ | refine spC (fun hb => ?_) fun hb => ?_ | refine nilC (fun hb => ?_) ?_ | refine taC ?_ | refine saC ?_ | exact sdV | refine side_and ?_ ?_))
   refine drawX_die 7 mixed ?_
   (repeat' ((conv => whnf); first | (exfalso; omega) | (refine ddieh [some 0] (hR.no _ _ e0) rfl rfl ⟨rfl, trivial⟩ ?_ ?_) | exact trivial | (refine rno hS (die_end [some 0] ?_); exact hsW) | refine x0C ?_ | refine spC (fun hb => ?_) fun hb => ?_ | refine nilC (fun hb => ?_) ?_ | refine taC ?_ | refine saC ?_ | exact sdV | refine side_and ?_ ?_))
  | ok g a1 m1 =>
   rw [e0] at hS
   have hi1 : InW ws a1 m1 := hi.step (by have := hR.bd; rw [e0] at this; exact this)
   (repeat' ((conv => whnf); first | (exfalso; omega) | refine x0C ?_ | refine spC (fun hb => ?_) fun hb => ?_ | refine nilC (fun hb => ?_) ?_ | refine taC ?_ | refine saC ?_ | exact sdV | refine side_and ?_ ?_))
   refine drawX_of mixed ?_
   have hg : List.take 1 (List.drop 0 [(⟨g.kind, g.rows, g.from_, g.to_, g.low, g.high, g.clear, g.days, g.times, g.within, g.cents, g.kids⟩ : Goal)]) = [] ++ [g] := by simp [eta_goal]
   simp only [List.length_nil, Nat.zero_add, Nat.lt_irrefl, if_false] at hS
   (repeat' ((conv => whnf); first | (exfalso; omega) | (refine dcallh [some 0] (hR.ok _ _ _ e0) rfl rfl ⟨rfl, trivial⟩ ?_) | (refine rmX [some 0, some _] (rmust [w_comma] (by decide) (by decide) (by assumption) hn) rfl rfl ⟨rfl, rfl, trivial⟩ (fun x a1 m1 e hi hp => ?_) (fun a1 m1 e hi => ?_) (by assumption) <;> simp only [e, Rs.bind] at hS) | (refine rno hS (die_end [some 0] ?_); exact hsW) | (refine hK (1, [] ++ [c], [] ++ [g], _, _) [some 0, some 1, some 2, some 3, some 5, some 7] _ _ ⟨⟨rfl, by simp, by assumption, hS, rfl⟩⟩ ⟨by simp⟩ (by exact bkW)) | refine x0C ?_ | refine spC (fun hb => ?_) fun hb => ?_ | refine nilC (fun hb => ?_) ?_ | refine taC ?_ | refine saC ?_ | exact sdV | refine side_and ?_ ?_))
 | succ i =>
  have hkl : kids.length = i + 1 := hl
  rw [show 5 - (i + 1) = (3 - i) + 1 by omega, partsP, if_pos rfl] at hS
  simp only [Rs.bind] at hS
  have hN := rnum 0 1000000000 hi hn
  cases e1 : numP ws 0 1000000000 a m with
  | no a1 m1 =>
   rw [e1] at hS
   (repeat' ((conv => whnf); first | (exfalso; omega) | refine x0C ?_ | refine spC (fun hb => ?_) fun hb => ?_ | refine nilC (fun hb => ?_) ?_ | refine taC ?_ | refine saC ?_ | exact sdV | refine side_and ?_ ?_))
   refine drawX_die 3 mixed ?_
   (repeat' ((conv => whnf); first | (exfalso; omega) | (refine ddieh [some 0] (hN.no _ _ e1) rfl rfl ⟨rfl, trivial⟩ ?_ ?_) | exact trivial | (refine rno hS (die_end [some 0] ?_); exact hsW) | refine x0C ?_ | refine spC (fun hb => ?_) fun hb => ?_ | refine nilC (fun hb => ?_) ?_ | refine taC ?_ | refine saC ?_ | exact sdV | refine side_and ?_ ?_))
  | ok c a m =>
  rw [e1] at hS
  dsimp only at hS
  have hi : InW ws a m := hi.step (by have := hN.bd; rw [e1] at this; exact this)
  have hR := hs a m hi
  have hcc : List.take (i + 1) cents ++ List.take 1 (List.drop 0 [c]) = cents ++ [c] := by simp [← hc]
  obtain ⟨M, hM⟩ : ∃ M, M = cents ++ [c] := ⟨_, rfl⟩
  have hMl : M.length = i + 2 := by rw [hM]; simp; omega
  rw [← hM] at hS hcc
  clear hM
  (repeat' ((conv => whnf); first | (exfalso; omega) | refine x0C ?_ | refine spC (fun hb => ?_) fun hb => ?_ | refine nilC (fun hb => ?_) ?_ | refine taC ?_ | refine saC ?_ | exact sdV | refine side_and ?_ ?_))
  refine drawX_of mixed ?_
  (repeat' ((conv => whnf); first | (exfalso; omega) | (refine dcallh [some 0] (hN.ok _ _ _ e1) rfl rfl ⟨rfl, trivial⟩ ?_) | refine x0C ?_ | refine spC (fun hb => ?_) fun hb => ?_ | refine nilC (fun hb => ?_) ?_ | refine taC ?_ | refine saC ?_ | exact sdV | refine side_and ?_ ?_))
  rw [hcc]
  have h1 : 1 < kids.length + 1 := by omega
  cases e0 : sub a m with
  | no a1 m1 =>
   rw [e0] at hS
   (repeat' ((conv => whnf); first | (exfalso; omega) | refine x0C ?_ | refine spC (fun hb => ?_) fun hb => ?_ | refine nilC (fun hb => ?_) ?_ | refine taC ?_ | refine saC ?_ | exact sdV | refine side_and ?_ ?_))
   refine drawX_die 7 mixed ?_
   (repeat' ((conv => whnf); first | (exfalso; omega) | (refine ddieh [some 0] (hR.no _ _ e0) rfl rfl ⟨rfl, trivial⟩ ?_ ?_) | exact trivial | (refine rno hS (die_end [some 0] ?_); exact hsW) | refine x0C ?_ | refine spC (fun hb => ?_) fun hb => ?_ | refine nilC (fun hb => ?_) ?_ | refine taC ?_ | refine saC ?_ | exact sdV | refine side_and ?_ ?_))
  | ok g a1 m1 =>
   rw [e0] at hS
   simp only [h1, if_true] at hS
   have hi1 : InW ws a1 m1 := hi.step (by have := hR.bd; rw [e0] at this; exact this)
   (repeat' ((conv => whnf); first | (exfalso; omega) | refine x0C ?_ | refine spC (fun hb => ?_) fun hb => ?_ | refine nilC (fun hb => ?_) ?_ | refine taC ?_ | refine saC ?_ | exact sdV | refine side_and ?_ ?_))
   refine drawX_of mixed ?_
   have hg : List.take (i + 1) kids ++ List.take 1 (List.drop 0 [(⟨g.kind, g.rows, g.from_, g.to_, g.low, g.high, g.clear, g.days, g.times, g.within, g.cents, g.kids⟩ : Goal)]) = kids ++ [g] := by simp [eta_goal, ← hkl]
   obtain ⟨L, hL⟩ : ∃ L, L = kids ++ [g] := ⟨_, rfl⟩
   have hLl : L.length = i + 2 := by rw [hL]; simp; omega
   rw [← hL] at hS hg
   have hkL : kids.length + 1 = L.length := by omega
   rw [hkL] at hS
   clear hL hkL
   have hm0 := hi1.m0
   have hm1 := hi1.m1
   (repeat' ((conv => whnf); first | (exfalso; omega) | (refine dcallh [some 0] (hR.ok _ _ _ e0) rfl rfl ⟨rfl, trivial⟩ ?_) | refine x0C ?_ | refine spC (fun hb => ?_) fun hb => ?_ | refine nilC (fun hb => ?_) ?_ | refine taC ?_ | refine saC ?_ | exact sdV | refine side_and ?_ ?_))
   rotate_left
   ·rename_i hb
    rw [hg] at hb
    exact absurd (by omega) hb
   rw [hg]
   by_cases hw : peekW ws a1 = w_close
   ·rw [if_pos hw] at hS
    have q := risT w_close hi1 hn hw
    (repeat' ((conv => whnf); first | (exfalso; omega) | (refine callh [some 0] q rfl rfl ⟨rfl, trivial⟩ ?_) | (refine rok hS (end_fn [some 0] (.inr rfl) ?_ ?_ rfl rfl); (focus (refine ⟨?_⟩; (repeat' (first | exact trivial | exact rfl | refine And.intro ?_ ?_ | exact fzV | exact fzV rfl rfl rfl (by omega) (by simp [List.take_of_length_le]) rfl | exact fvV)); done)); exact hsW) | refine x0C ?_ | refine spC (fun hb => ?_) fun hb => ?_ | refine nilC (fun hb => ?_) ?_ | refine taC ?_ | refine saC ?_ | exact sdV | refine side_and ?_ ?_))
   ·rw [if_neg hw] at hS
    have q := risF w_close hi1 hn hw
    by_cases hx : L.length = 4 ∨ m1 = 0
    ·rw [if_pos hx] at hS
     (repeat' ((conv => whnf); first | (exfalso; omega) | (refine callh [some 0] q rfl rfl ⟨rfl, trivial⟩ ?_) | refine unit_in unitS ?_ | refine uface_in (ufaceS _) rfl ?_ | refine panic_in _ _ _ rfl (only_lit rfl) ?_ | (refine rno hS (die_end [some 0] ?_); exact hsW) | refine x0C ?_ | refine spC (fun hb => ?_) fun hb => ?_ | refine nilC (fun hb => ?_) ?_ | refine taC ?_ | refine saC ?_ | exact sdV | refine side_and ?_ ?_))
    ·rw [if_neg hx] at hS
     have hi2 : InW ws a1 (m1 - 1) := ⟨hi1.a0, hi1.a1, by omega, by omega⟩
     (repeat' ((conv => whnf); first | (exfalso; omega) | (refine callh [some 0] q rfl rfl ⟨rfl, trivial⟩ ?_) | (refine rmX [some 0, some _] (rmust [w_comma] (by decide) (by decide) (by assumption) hn) rfl rfl ⟨rfl, rfl, trivial⟩ (fun x a1 m1 e hi hp => ?_) (fun a1 m1 e hi => ?_) (by assumption) <;> simp only [e, Rs.bind] at hS) | (refine rno hS (die_end [some 0] ?_); exact hsW) | (refine hK (i + 2, M, L, _, _) [some 0, some 1, some 2, some 3, some 7, some 9] _ _ ⟨⟨hLl, by simp; omega, by assumption, by (rw [show 5 - (i + 2) = 3 - i by omega]; exact hS), by simpa using hMl⟩⟩ ⟨by simp; omega⟩ (by exact bkW)) | refine x0C ?_ | refine spC (fun hb => ?_) fun hb => ?_ | refine nilC (fun hb => ?_) ?_ | refine taC ?_ | refine saC ?_ | exact sdV | refine side_and ?_ ?_))
def formM (w : Wd) (k needs : Int) (f : Nat) (i : Nat) : MapEntry := ⟨.string ⟨⟨w⟩⟩, .agg #[.int .i64 k, .int .i64 needs, .func (.func f) #[] #[]], i⟩
def formsM : Obj := .map #[formM w_see 1 0 121 0, formM w_pair 2 1 122 1, formM w_every 3 1 123 2, formM w_deliver 4 1 124 3, formM w_all 5 2 125 4, formM w_any 6 2 126 5] 6
theorem rforms : Meets Tryz.prog Dc 104 [] [] (.mapp 0) [.obj formsM] := by
 refine meets_of_gx Ax tab_ok Tryz.func104 (c := _) rfl Tryz.call104 200 ?_
 (repeat' ((conv => whnf); first | (exfalso; omega) | refine side_and ⟨rfl⟩ ?_ | (refine end_fn [some 0] (.inr rfl) ?_ ?_ rfl rfl; (focus exact vwV); exact hsV) | refine x0C ?_ | refine spC (fun hb => ?_) fun hb => ?_ | refine nilC (fun hb => ?_) ?_ | refine taC ?_ | refine saC ?_ | exact sdV | refine side_and ?_ ?_ | refine drawX_of mixed ?_))
theorem rall (dp : Int) (hd : 1 ≤ dp ∧ dp ≤ 4) {ws : List Wd} {sub : Int → Int → Rs Goal} (hs : GoalRM ws 5 (dp + 1) sub) {a m : Int} (hi : InW ws a m) (hn : WsOK ws) : RM 125 [.ptr 0 0, iS dp] ws a m [] (listP ws sub 5 a m) (fun g => goalA g) (fun _ => True) := by
 refine rm_of Tryz.func125 (c := _) rfl Tryz.call125 900 (listP_bd (fun a m h => (hs a m h).bd) 5 hi) (fun _ _ _ _ => trivial) ?_
 obtain ⟨S, hS⟩ : ∃ S, S = listP ws sub 5 a m := ⟨_, rfl⟩
 rw [← hS]
 have hR := rall0 dp hd hs hi hn
 rw [← hS] at hR
 (repeat' ((conv => whnf); first | (exfalso; omega) | (refine rmX [some 0] hR rfl rfl ⟨rfl, trivial⟩ (fun x a1 m1 e hi hp => ?_) (fun a1 m1 e hi => ?_) (by assumption)) | (refine rno e (die_end [some 0] ?_); exact hsW) | (refine rok e (end_fn [some 0] (.inr rfl) ?_ ?_ rfl rfl); (focus exact vwV); exact hsW) | refine x0C ?_ | refine spC (fun hb => ?_) fun hb => ?_ | refine nilC (fun hb => ?_) ?_ | refine taC ?_ | refine saC ?_ | exact sdV | refine side_and ?_ ?_ | refine drawX_of mixed ?_))
theorem rany (dp : Int) (hd : 1 ≤ dp ∧ dp ≤ 4) {ws : List Wd} {sub : Int → Int → Rs Goal} (hs : GoalRM ws 6 (dp + 1) sub) {a m : Int} (hi : InW ws a m) (hn : WsOK ws) : RM 126 [.ptr 0 0, iS dp] ws a m [] (listP ws sub 6 a m) (fun g => goalA g) (fun _ => True) := by
 refine rm_of Tryz.func126 (c := _) rfl Tryz.call126 900 (listP_bd (fun a m h => (hs a m h).bd) 6 hi) (fun _ _ _ _ => trivial) ?_
 obtain ⟨S, hS⟩ : ∃ S, S = listP ws sub 6 a m := ⟨_, rfl⟩
 rw [← hS]
 have hR := rany0 dp hd hs hi hn
 rw [← hS] at hR
 (repeat' ((conv => whnf); first | (exfalso; omega) | (refine rmX [some 0] hR rfl rfl ⟨rfl, trivial⟩ (fun x a1 m1 e hi hp => ?_) (fun a1 m1 e hi => ?_) (by assumption)) | (refine rno e (die_end [some 0] ?_); exact hsW) | (refine rok e (end_fn [some 0] (.inr rfl) ?_ ?_ rfl rfl); (focus exact vwV); exact hsW) | refine x0C ?_ | refine spC (fun hb => ?_) fun hb => ?_ | refine nilC (fun hb => ?_) ?_ | refine taC ?_ | refine saC ?_ | exact sdV | refine side_and ?_ ?_ | refine drawX_of mixed ?_))
theorem bd_in {ws : List Wd} {α : Type} {S : Rs α} {a m a1 m1 : Int} (h : BdR ws a m a1 m1) (hb : S.Bd ws a1 m1) : S.Bd ws a m := by
 cases S with
 | ok z a5 m5 => exact ⟨Int.le_trans h.at1 hb.at1, hb.at2, hb.r1, Int.le_trans hb.r2 h.r2⟩
 | no a5 m5 => exact ⟨Int.le_trans h.at1 hb.at1, hb.at2, hb.r1, Int.le_trans hb.r2 h.r2⟩
theorem formW_word {w : Wd} {k needs : Int} (h : formW w = some (k, needs)) : w ≠ [32] ∧ 0 ≤ needs := by
 unfold formW at h
 repeat' (split at h)
 all_goals first | (cases h; rename_i e; rw [e]; decide) | cases h
theorem goalP_bd {ws : List Wd} : ∀ (n : Nat) (of_ dp : Int) {a m : Int}, InW ws a m → (goalP ws n of_ dp a m).Bd ws a m
 | 0, _, _, a, m, h => by unfold goalP; exact h.refl
 | n + 1, of_, dp, a, m, h => by
  unfold goalP
  split
  ·exact h.refl
  ·rename_i k needs hf
   obtain ⟨hne, h0⟩ := formW_word hf
   have hlt := peekW_lt h rfl hne
   split
   ·exact h.refl
   ·rename_i hc
    have ha0 := h.a0
    have hm1 := h.m1
    have hi : InW ws (a + 1) (m - needs) := ⟨by omega, by omega, by omega, by omega⟩
    have hb : BdR ws a m (a + 1) (m - needs) := ⟨by omega, by omega, by omega, by omega⟩
    refine bd_in hb ?_
    repeat' split
    ·exact seeP_bd hi
    ·exact pairP_bd (fun a m h => goalP_bd n _ _ h) hi
    ·exact everyP_bd (fun a m h => goalP_bd n _ _ h) hi
    ·exact delP_bd (fun a m h => goalP_bd n _ _ h) hi
    ·exact listP_bd (fun a m h => goalP_bd n _ _ h) _ hi
theorem same_str (a b : Wd) : Instr.sameNow (ckDesc CK.str) (.string ⟨⟨a⟩⟩) (.string ⟨⟨b⟩⟩) = some (decide (a = b)) := by
 simp only [Instr.sameNow, ckDesc]
 congr 1
 rw [Bool.eq_iff_iff]
 show ((⟨a⟩ : Array UInt8) == ⟨b⟩) = true ↔ _
 simp
theorem find_none {w : Wd} (h : formW w = none) : Instr.findNow (ckDesc CK.str) (.string ⟨⟨w⟩⟩) [formM w_see 1 0 121 0, formM w_pair 2 1 122 1, formM w_every 3 1 123 2, formM w_deliver 4 1 124 3, formM w_all 5 2 125 4, formM w_any 6 2 126 5] 0 = some none := by
 unfold formW at h
 by_cases h1 : w = w_see
 ·rw [if_pos h1] at h; cases h
 rw [if_neg h1] at h
 by_cases h2 : w = w_pair
 ·rw [if_pos h2] at h; cases h
 rw [if_neg h2] at h
 by_cases h3 : w = w_every
 ·rw [if_pos h3] at h; cases h
 rw [if_neg h3] at h
 by_cases h4 : w = w_deliver
 ·rw [if_pos h4] at h; cases h
 rw [if_neg h4] at h
 by_cases h5 : w = w_all
 ·rw [if_pos h5] at h; cases h
 rw [if_neg h5] at h
 by_cases h6 : w = w_any
 ·rw [if_pos h6] at h; cases h
 simp only [Instr.findNow, formM, same_str, decide_eq_false h1, decide_eq_false h2, decide_eq_false h3, decide_eq_false h4, decide_eq_false h5, decide_eq_false h6]
theorem rgoal_no (of_ dp : Int) (hd : 1 ≤ dp ∧ dp ≤ 4) {ws : List Wd} {a m : Int} (hi : InW ws a m) (hn : WsOK ws) (hf : formW (peekW ws a) = none) : Dies Tryz.prog Dc 77 [.ptr 0 0, iS of_, iS dp] (rdH ws a m) chS (rdH ws a m) := by
 have hp := rpeek hi hn
 generalize peekW ws a = w at *
 refine dies_of_gx Ax tab_ok Tryz.func77 (c := _) rfl Tryz.call77 600 ?_
 (repeat' ((conv => whnf); first | (exfalso; omega) | (refine callh [] rforms rfl rfl trivial ?_) | (refine callh [some 0] hp rfl rfl ⟨rfl, trivial⟩ ?_) | refine x0C ?_ | refine spC (fun hb => ?_) fun hb => ?_ | refine nilC (fun hb => ?_) ?_ | refine taC ?_ | refine saC ?_ | exact sdV | refine side_and ?_ ?_ | refine drawX_of mixed ?_))
 conv => whnf
 refine ask_in (find_none hf) ?_
 (repeat' ((conv => whnf); first | (exfalso; omega) | refine unit_in unitS ?_ | refine uface_in (ufaceS _) rfl ?_ | refine panic_in _ _ _ rfl (only_lit rfl) ?_ | (refine die_end [some 0] ?_; exact hsW) | exact ⟨[some 0], ⟨hsW, rfl, rfl⟩⟩ | refine x0C ?_ | refine spC (fun hb => ?_) fun hb => ?_ | refine nilC (fun hb => ?_) ?_ | refine taC ?_ | refine saC ?_ | exact sdV | refine side_and ?_ ?_ | refine drawX_of mixed ?_))
theorem rgoal_see (of_ dp : Int) (hd : 1 ≤ dp ∧ dp ≤ 4) {ws : List Wd} {a m : Int} (hi : InW ws a m) (hn : WsOK ws) (hw : peekW ws a = w_see) (Q : Rs Goal)
  (hR : ¬ (lastK of_ < 1 ∨ m < 0 ∨ (0 < (0 : Int) ∧ dp = 4)) → RM 121 [.ptr 0 0, iS dp] ws (a + 1) (m - 0) [] Q (fun g => goalA g) (fun _ => True)) :
  RM 77 [.ptr 0 0, iS of_, iS dp] ws a m [] (if lastK of_ < 1 ∨ m < 0 ∨ (0 < (0 : Int) ∧ dp = 4) then .no a m else Q) (fun g => goalA g) (fun _ => True) := by
 have hlt := peekW_lt hi hw (by decide)
 have ha0 := hi.a0
 have hm0 := hi.m0
 have hm1 := hi.m1
 have hb2 := hn.n
 have hp := rpeek hi hn
 rw [hw] at hp
 have hl := last_meets of_
 by_cases hc : lastK of_ < 1 ∨ m < 0 ∨ (0 < (0 : Int) ∧ dp = 4)
 ·rw [if_pos hc]
  clear hR
  refine rm_of Tryz.func77 (c := _) rfl Tryz.call77 900 hi.refl (fun _ _ _ _ => trivial) ?_
  obtain ⟨S, hS⟩ : ∃ S : Rs Goal, S = .no a m := ⟨_, rfl⟩
  rw [← hS]
  (repeat' ((conv => whnf); first | (exfalso; omega) | (refine callh [] rforms rfl rfl trivial ?_) | (refine callh [some 0] hp rfl rfl ⟨rfl, trivial⟩ ?_) | refine ask_in rfl ?_ | refine dpC (hl) ?_ | refine unit_in unitS ?_ | refine uface_in (ufaceS _) rfl ?_ | refine panic_in _ _ _ rfl (only_lit rfl) ?_ | (refine rno hS (die_end [some 0] ?_); exact hsW) | refine spC (fun hb => ?_) fun hb => ?_ | refine taC ?_ | refine drawX_of mixed ?_))
 ·rw [if_neg hc]
  have hR := hR hc
  have hi2 : InW ws (a + 1) (m - 0) := ⟨by omega, by omega, by omega, by omega⟩
  refine rm_of Tryz.func77 (c := _) rfl Tryz.call77 900 (bd_in ⟨by omega, by omega, by omega, by omega⟩ hR.bd) (fun _ _ _ _ => trivial) ?_
  (repeat' ((conv => whnf); first | (exfalso; omega) | (refine callh [] rforms rfl rfl trivial ?_) | (refine callh [some 0] hp rfl rfl ⟨rfl, trivial⟩ ?_) | refine ask_in rfl ?_ | refine dpC (hl) ?_ | (refine rmX [some 0] hR rfl rfl ⟨rfl, trivial⟩ (fun x a1 m1 e hi hp => ?_) (fun a1 m1 e hi => ?_) hi2) | (refine rno e (die_end [some 0] ?_); exact hsW) | (refine rok e (end_fn [some 0] (.inr rfl) ?_ ?_ rfl rfl); (focus exact vwV); exact hsW) | refine spC (fun hb => ?_) fun hb => ?_ | refine taC ?_ | refine saC ?_ | refine drawX_of mixed ?_))
theorem rgoal_pair (of_ dp : Int) (hd : 1 ≤ dp ∧ dp ≤ 4) {ws : List Wd} {a m : Int} (hi : InW ws a m) (hn : WsOK ws) (hw : peekW ws a = w_pair) (Q : Rs Goal)
  (hR : ¬ (lastK of_ < 2 ∨ m < 1 ∨ (0 < (1 : Int) ∧ dp = 4)) → RM 122 [.ptr 0 0, iS dp] ws (a + 1) (m - 1) [] Q (fun g => goalA g) (fun _ => True)) :
  RM 77 [.ptr 0 0, iS of_, iS dp] ws a m [] (if lastK of_ < 2 ∨ m < 1 ∨ (0 < (1 : Int) ∧ dp = 4) then .no a m else Q) (fun g => goalA g) (fun _ => True) := by
 have hlt := peekW_lt hi hw (by decide)
 have ha0 := hi.a0
 have hm0 := hi.m0
 have hm1 := hi.m1
 have hb2 := hn.n
 have hp := rpeek hi hn
 rw [hw] at hp
 have hl := last_meets of_
 by_cases hc : lastK of_ < 2 ∨ m < 1 ∨ (0 < (1 : Int) ∧ dp = 4)
 ·rw [if_pos hc]
  clear hR
  refine rm_of Tryz.func77 (c := _) rfl Tryz.call77 900 hi.refl (fun _ _ _ _ => trivial) ?_
  obtain ⟨S, hS⟩ : ∃ S : Rs Goal, S = .no a m := ⟨_, rfl⟩
  rw [← hS]
  (repeat' ((conv => whnf); first | (exfalso; omega) | (refine callh [] rforms rfl rfl trivial ?_) | (refine callh [some 0] hp rfl rfl ⟨rfl, trivial⟩ ?_) | refine ask_in rfl ?_ | refine dpC (hl) ?_ | refine unit_in unitS ?_ | refine uface_in (ufaceS _) rfl ?_ | refine panic_in _ _ _ rfl (only_lit rfl) ?_ | (refine rno hS (die_end [some 0] ?_); exact hsW) | refine spC (fun hb => ?_) fun hb => ?_ | refine taC ?_ | refine drawX_of mixed ?_))
 ·rw [if_neg hc]
  have hR := hR hc
  have hi2 : InW ws (a + 1) (m - 1) := ⟨by omega, by omega, by omega, by omega⟩
  refine rm_of Tryz.func77 (c := _) rfl Tryz.call77 900 (bd_in ⟨by omega, by omega, by omega, by omega⟩ hR.bd) (fun _ _ _ _ => trivial) ?_
  (repeat' ((conv => whnf); first | (exfalso; omega) | (refine callh [] rforms rfl rfl trivial ?_) | (refine callh [some 0] hp rfl rfl ⟨rfl, trivial⟩ ?_) | refine ask_in rfl ?_ | refine dpC (hl) ?_ | (refine rmX [some 0] hR rfl rfl ⟨rfl, trivial⟩ (fun x a1 m1 e hi hp => ?_) (fun a1 m1 e hi => ?_) hi2) | (refine rno e (die_end [some 0] ?_); exact hsW) | (refine rok e (end_fn [some 0] (.inr rfl) ?_ ?_ rfl rfl); (focus exact vwV); exact hsW) | refine spC (fun hb => ?_) fun hb => ?_ | refine taC ?_ | refine saC ?_ | refine drawX_of mixed ?_))
theorem rgoal_every (of_ dp : Int) (hd : 1 ≤ dp ∧ dp ≤ 4) {ws : List Wd} {a m : Int} (hi : InW ws a m) (hn : WsOK ws) (hw : peekW ws a = w_every) (Q : Rs Goal)
  (hR : ¬ (lastK of_ < 3 ∨ m < 1 ∨ (0 < (1 : Int) ∧ dp = 4)) → RM 123 [.ptr 0 0, iS dp] ws (a + 1) (m - 1) [] Q (fun g => goalA g) (fun _ => True)) :
  RM 77 [.ptr 0 0, iS of_, iS dp] ws a m [] (if lastK of_ < 3 ∨ m < 1 ∨ (0 < (1 : Int) ∧ dp = 4) then .no a m else Q) (fun g => goalA g) (fun _ => True) := by
 have hlt := peekW_lt hi hw (by decide)
 have ha0 := hi.a0
 have hm0 := hi.m0
 have hm1 := hi.m1
 have hb2 := hn.n
 have hp := rpeek hi hn
 rw [hw] at hp
 have hl := last_meets of_
 by_cases hc : lastK of_ < 3 ∨ m < 1 ∨ (0 < (1 : Int) ∧ dp = 4)
 ·rw [if_pos hc]
  clear hR
  refine rm_of Tryz.func77 (c := _) rfl Tryz.call77 900 hi.refl (fun _ _ _ _ => trivial) ?_
  obtain ⟨S, hS⟩ : ∃ S : Rs Goal, S = .no a m := ⟨_, rfl⟩
  rw [← hS]
  (repeat' ((conv => whnf); first | (exfalso; omega) | (refine callh [] rforms rfl rfl trivial ?_) | (refine callh [some 0] hp rfl rfl ⟨rfl, trivial⟩ ?_) | refine ask_in rfl ?_ | refine dpC (hl) ?_ | refine unit_in unitS ?_ | refine uface_in (ufaceS _) rfl ?_ | refine panic_in _ _ _ rfl (only_lit rfl) ?_ | (refine rno hS (die_end [some 0] ?_); exact hsW) | refine spC (fun hb => ?_) fun hb => ?_ | refine taC ?_ | refine drawX_of mixed ?_))
 ·rw [if_neg hc]
  have hR := hR hc
  have hi2 : InW ws (a + 1) (m - 1) := ⟨by omega, by omega, by omega, by omega⟩
  refine rm_of Tryz.func77 (c := _) rfl Tryz.call77 900 (bd_in ⟨by omega, by omega, by omega, by omega⟩ hR.bd) (fun _ _ _ _ => trivial) ?_
  (repeat' ((conv => whnf); first | (exfalso; omega) | (refine callh [] rforms rfl rfl trivial ?_) | (refine callh [some 0] hp rfl rfl ⟨rfl, trivial⟩ ?_) | refine ask_in rfl ?_ | refine dpC (hl) ?_ | (refine rmX [some 0] hR rfl rfl ⟨rfl, trivial⟩ (fun x a1 m1 e hi hp => ?_) (fun a1 m1 e hi => ?_) hi2) | (refine rno e (die_end [some 0] ?_); exact hsW) | (refine rok e (end_fn [some 0] (.inr rfl) ?_ ?_ rfl rfl); (focus exact vwV); exact hsW) | refine spC (fun hb => ?_) fun hb => ?_ | refine taC ?_ | refine saC ?_ | refine drawX_of mixed ?_))
theorem rgoal_deliver (of_ dp : Int) (hd : 1 ≤ dp ∧ dp ≤ 4) {ws : List Wd} {a m : Int} (hi : InW ws a m) (hn : WsOK ws) (hw : peekW ws a = w_deliver) (Q : Rs Goal)
  (hR : ¬ (lastK of_ < 4 ∨ m < 1 ∨ (0 < (1 : Int) ∧ dp = 4)) → RM 124 [.ptr 0 0, iS dp] ws (a + 1) (m - 1) [] Q (fun g => goalA g) (fun _ => True)) :
  RM 77 [.ptr 0 0, iS of_, iS dp] ws a m [] (if lastK of_ < 4 ∨ m < 1 ∨ (0 < (1 : Int) ∧ dp = 4) then .no a m else Q) (fun g => goalA g) (fun _ => True) := by
 have hlt := peekW_lt hi hw (by decide)
 have ha0 := hi.a0
 have hm0 := hi.m0
 have hm1 := hi.m1
 have hb2 := hn.n
 have hp := rpeek hi hn
 rw [hw] at hp
 have hl := last_meets of_
 by_cases hc : lastK of_ < 4 ∨ m < 1 ∨ (0 < (1 : Int) ∧ dp = 4)
 ·rw [if_pos hc]
  clear hR
  refine rm_of Tryz.func77 (c := _) rfl Tryz.call77 900 hi.refl (fun _ _ _ _ => trivial) ?_
  obtain ⟨S, hS⟩ : ∃ S : Rs Goal, S = .no a m := ⟨_, rfl⟩
  rw [← hS]
  (repeat' ((conv => whnf); first | (exfalso; omega) | (refine callh [] rforms rfl rfl trivial ?_) | (refine callh [some 0] hp rfl rfl ⟨rfl, trivial⟩ ?_) | refine ask_in rfl ?_ | refine dpC (hl) ?_ | refine unit_in unitS ?_ | refine uface_in (ufaceS _) rfl ?_ | refine panic_in _ _ _ rfl (only_lit rfl) ?_ | (refine rno hS (die_end [some 0] ?_); exact hsW) | refine spC (fun hb => ?_) fun hb => ?_ | refine taC ?_ | refine drawX_of mixed ?_))
 ·rw [if_neg hc]
  have hR := hR hc
  have hi2 : InW ws (a + 1) (m - 1) := ⟨by omega, by omega, by omega, by omega⟩
  refine rm_of Tryz.func77 (c := _) rfl Tryz.call77 900 (bd_in ⟨by omega, by omega, by omega, by omega⟩ hR.bd) (fun _ _ _ _ => trivial) ?_
  (repeat' ((conv => whnf); first | (exfalso; omega) | (refine callh [] rforms rfl rfl trivial ?_) | (refine callh [some 0] hp rfl rfl ⟨rfl, trivial⟩ ?_) | refine ask_in rfl ?_ | refine dpC (hl) ?_ | (refine rmX [some 0] hR rfl rfl ⟨rfl, trivial⟩ (fun x a1 m1 e hi hp => ?_) (fun a1 m1 e hi => ?_) hi2) | (refine rno e (die_end [some 0] ?_); exact hsW) | (refine rok e (end_fn [some 0] (.inr rfl) ?_ ?_ rfl rfl); (focus exact vwV); exact hsW) | refine spC (fun hb => ?_) fun hb => ?_ | refine taC ?_ | refine saC ?_ | refine drawX_of mixed ?_))
theorem rgoal_all (of_ dp : Int) (hd : 1 ≤ dp ∧ dp ≤ 4) {ws : List Wd} {a m : Int} (hi : InW ws a m) (hn : WsOK ws) (hw : peekW ws a = w_all) (Q : Rs Goal)
  (hR : ¬ (lastK of_ < 5 ∨ m < 2 ∨ (0 < (2 : Int) ∧ dp = 4)) → RM 125 [.ptr 0 0, iS dp] ws (a + 1) (m - 2) [] Q (fun g => goalA g) (fun _ => True)) :
  RM 77 [.ptr 0 0, iS of_, iS dp] ws a m [] (if lastK of_ < 5 ∨ m < 2 ∨ (0 < (2 : Int) ∧ dp = 4) then .no a m else Q) (fun g => goalA g) (fun _ => True) := by
 have hlt := peekW_lt hi hw (by decide)
 have ha0 := hi.a0
 have hm0 := hi.m0
 have hm1 := hi.m1
 have hb2 := hn.n
 have hp := rpeek hi hn
 rw [hw] at hp
 have hl := last_meets of_
 by_cases hc : lastK of_ < 5 ∨ m < 2 ∨ (0 < (2 : Int) ∧ dp = 4)
 ·rw [if_pos hc]
  clear hR
  refine rm_of Tryz.func77 (c := _) rfl Tryz.call77 900 hi.refl (fun _ _ _ _ => trivial) ?_
  obtain ⟨S, hS⟩ : ∃ S : Rs Goal, S = .no a m := ⟨_, rfl⟩
  rw [← hS]
  (repeat' ((conv => whnf); first | (exfalso; omega) | (refine callh [] rforms rfl rfl trivial ?_) | (refine callh [some 0] hp rfl rfl ⟨rfl, trivial⟩ ?_) | refine ask_in rfl ?_ | refine dpC (hl) ?_ | refine unit_in unitS ?_ | refine uface_in (ufaceS _) rfl ?_ | refine panic_in _ _ _ rfl (only_lit rfl) ?_ | (refine rno hS (die_end [some 0] ?_); exact hsW) | refine spC (fun hb => ?_) fun hb => ?_ | refine taC ?_ | refine drawX_of mixed ?_))
 ·rw [if_neg hc]
  have hR := hR hc
  have hi2 : InW ws (a + 1) (m - 2) := ⟨by omega, by omega, by omega, by omega⟩
  refine rm_of Tryz.func77 (c := _) rfl Tryz.call77 900 (bd_in ⟨by omega, by omega, by omega, by omega⟩ hR.bd) (fun _ _ _ _ => trivial) ?_
  (repeat' ((conv => whnf); first | (exfalso; omega) | (refine callh [] rforms rfl rfl trivial ?_) | (refine callh [some 0] hp rfl rfl ⟨rfl, trivial⟩ ?_) | refine ask_in rfl ?_ | refine dpC (hl) ?_ | (refine rmX [some 0] hR rfl rfl ⟨rfl, trivial⟩ (fun x a1 m1 e hi hp => ?_) (fun a1 m1 e hi => ?_) hi2) | (refine rno e (die_end [some 0] ?_); exact hsW) | (refine rok e (end_fn [some 0] (.inr rfl) ?_ ?_ rfl rfl); (focus exact vwV); exact hsW) | refine spC (fun hb => ?_) fun hb => ?_ | refine taC ?_ | refine saC ?_ | refine drawX_of mixed ?_))
theorem rgoal_any (of_ dp : Int) (hd : 1 ≤ dp ∧ dp ≤ 4) {ws : List Wd} {a m : Int} (hi : InW ws a m) (hn : WsOK ws) (hw : peekW ws a = w_any) (Q : Rs Goal)
  (hR : ¬ (lastK of_ < 6 ∨ m < 2 ∨ (0 < (2 : Int) ∧ dp = 4)) → RM 126 [.ptr 0 0, iS dp] ws (a + 1) (m - 2) [] Q (fun g => goalA g) (fun _ => True)) :
  RM 77 [.ptr 0 0, iS of_, iS dp] ws a m [] (if lastK of_ < 6 ∨ m < 2 ∨ (0 < (2 : Int) ∧ dp = 4) then .no a m else Q) (fun g => goalA g) (fun _ => True) := by
 have hlt := peekW_lt hi hw (by decide)
 have ha0 := hi.a0
 have hm0 := hi.m0
 have hm1 := hi.m1
 have hb2 := hn.n
 have hp := rpeek hi hn
 rw [hw] at hp
 have hl := last_meets of_
 by_cases hc : lastK of_ < 6 ∨ m < 2 ∨ (0 < (2 : Int) ∧ dp = 4)
 ·rw [if_pos hc]
  clear hR
  refine rm_of Tryz.func77 (c := _) rfl Tryz.call77 900 hi.refl (fun _ _ _ _ => trivial) ?_
  obtain ⟨S, hS⟩ : ∃ S : Rs Goal, S = .no a m := ⟨_, rfl⟩
  rw [← hS]
  (repeat' ((conv => whnf); first | (exfalso; omega) | (refine callh [] rforms rfl rfl trivial ?_) | (refine callh [some 0] hp rfl rfl ⟨rfl, trivial⟩ ?_) | refine ask_in rfl ?_ | refine dpC (hl) ?_ | refine unit_in unitS ?_ | refine uface_in (ufaceS _) rfl ?_ | refine panic_in _ _ _ rfl (only_lit rfl) ?_ | (refine rno hS (die_end [some 0] ?_); exact hsW) | refine spC (fun hb => ?_) fun hb => ?_ | refine taC ?_ | refine drawX_of mixed ?_))
 ·rw [if_neg hc]
  have hR := hR hc
  have hi2 : InW ws (a + 1) (m - 2) := ⟨by omega, by omega, by omega, by omega⟩
  refine rm_of Tryz.func77 (c := _) rfl Tryz.call77 900 (bd_in ⟨by omega, by omega, by omega, by omega⟩ hR.bd) (fun _ _ _ _ => trivial) ?_
  (repeat' ((conv => whnf); first | (exfalso; omega) | (refine callh [] rforms rfl rfl trivial ?_) | (refine callh [some 0] hp rfl rfl ⟨rfl, trivial⟩ ?_) | refine ask_in rfl ?_ | refine dpC (hl) ?_ | (refine rmX [some 0] hR rfl rfl ⟨rfl, trivial⟩ (fun x a1 m1 e hi hp => ?_) (fun a1 m1 e hi => ?_) hi2) | (refine rno e (die_end [some 0] ?_); exact hsW) | (refine rok e (end_fn [some 0] (.inr rfl) ?_ ?_ rfl rfl); (focus exact vwV); exact hsW) | refine spC (fun hb => ?_) fun hb => ?_ | refine taC ?_ | refine saC ?_ | refine drawX_of mixed ?_))
end Go.SX
