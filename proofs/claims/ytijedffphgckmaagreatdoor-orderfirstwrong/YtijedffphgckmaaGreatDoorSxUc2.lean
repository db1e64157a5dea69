/-
  Walks: Uc2, Ta6, Ta7, Ta8, Tp8, Tp9, Oq6, Oq7, Ud0: what single functions of the program compute.
-/
import Derived.Test.YtijedffphgckmaaGreatDoorSxUb4
import Derived.Test.YtijedffphgckmaaGreatDoorSxTp0
import Derived.Test.YtijedffphgckmaaGreatDoorSxUa3
import Derived.Test.YtijedffphgckmaaGreatDoorSxUa7
set_option linter.unusedVariables false
set_option linter.unusedSimpArgs false
namespace Go.SX
open Go.Proofs
open Go.RowKit
set_option maxHeartbeats 4000000
set_option maxRecDepth 100000
theorem par_end {fn : Func} {B : Base} {E : Env} {T : List (SV Cd)} {Hp : List (HS Cd)} {df : List Deferred} {a : Act} {w : World} {ret : SV Cd} {e : Exit} {w0 : World} {E0 : Env} {hm : ∀ c, 0 ≤ c → E0.β c = .fresh} (hR : Rel Dc B E (getT T) (getC Hp) df a w)
  (hf : Fr (Base.here w0 E0 0 hm) E w) (h : EndPost Dc tab fn.results.toList 0 ret [] e T Hp) :
  LeavesInM (Fc none) 0 Tryz.prog fn a.tmps (fun e w' => ∃ v E', e = .returned v ∧ Den Dc w' E' ret v ∧ Sat Dc w' E' (getC []) ∧ Fr ⟨w0, E0, fun b => ∃ c, E0.β c = .loc b, 0, hm, [], false⟩ E' w') [] .returning w := by
 obtain ⟨_, θ, l, h1, h2, h3⟩ := h
 have hR2 : Rel Dc (Base.here w0 E0 0 hm) E (getT T) (getC Hp) [] { a with defers := [] } w := ⟨hR.den, hR.sat, hf, rfl, Marks.nil⟩
 obtain ⟨v, h4, h5⟩ := results_run (P := Tryz.prog ) (fn := fn) tab_ok hR2 h1
 obtain ⟨g1, g2, g3⟩ := view_env hR2.sat hR2.fr h3
 exact ⟨v, h4, v, _, rfl, view_den hR2.sat g1 _ _ _ h2 h5, g2, g3⟩
theorem rel_weak {B : Base} {E : Env} {σ σ' : Nat → SV Cd} {H : Nat → HS Cd} {df : List Deferred} {a : Act} {w : World} (h : Rel Dc B E σ H df a w) (hs : ∀ i, σ' i = .any ∨ σ' i = σ i) : Rel Dc B E σ' H df a w :=
  ⟨fun i => by rcases hs i with e | e <;> rw [e]; · trivial
               · exact h.den i, h.sat, h.fr, h.defers, h.marks⟩
@[reducible] def T3 : List (SV Cd) := [.any, .any, .ptr 0 0, .ptr 1 0, .ptr 2 0] ++ anys 17
theorem T3_of {T : List (SV Cd)} (h : Ptrs T) : ∀ i, getT T3 i = .any ∨ getT T3 i = getT T i
 | 0 => .inl rfl
 | 1 => .inl rfl
 | 2 => .inr h.t2.symm
 | 3 => .inr h.t3.symm
 | 4 => .inr h.t4.symm
 | i + 5 => .inl (getT_anys 17 i)
theorem denA4 {w : World} {E : Env} {x1 x2 x3 x4 : SV Cd} {v1 v2 v3 v4 : Value} (h1 : Den Dc w E x1 v1) (h2 : Den Dc w E x2 v2) (h3 : Den Dc w E x3 v3) (h4 : Den Dc w E x4 v4) : DenA Dc w E [x1, x2, x3, x4] [v1, v2, v3, v4] := by
 simp only [DenA]
 exact ⟨_, _, rfl, h1, _, _, rfl, h2, _, _, rfl, h3, _, _, rfl, h4, rfl⟩
theorem oparse (s : Wd) (hs : s.length ≤ 140737488355328) : Meets Tryz.prog Dc 25 [wS s] [] (retP s) [] := by
 refine ⟨Tryz.call25, fun w E hm vs hsat hd => ?_⟩
 refine callsIn_of_wp_marks Tryz.func25 (c := seqL [sq1 (Tryz.f25.body.getD .skip), sq1 (sq2 (Tryz.f25.body.getD .skip)), sq1 (sq2 (sq2 (Tryz.f25.body.getD .skip)))] (sq2 (sq2 (sq2 (Tryz.f25.body.getD .skip))))) rfl trivial ?_ rfl
 have hR0 := enter_relN (n := 22) (m := 0) (hm := hm) hsat hd
 have hX : CtxOK Dc (⟨none, [], 0, true⟩ : Ctx Cd) { Base.here w E 0 hm with nm := true } none := ⟨rfl, fun c ri hc => by simp [lkR] at hc, trivial, rfl⟩
 refine seqL_gx (D := Dc) (B := { Base.here w E 0 hm with nm := true }) _ .normal _ _ ?_
 have hp1 := par1 s hs
 rw [forceV_eq, forceL_eq] at hp1
 refine gx_sound (r := none) Ax tab_ok hX ?_ 300 _ _ _ hp1 _ _ ⟨_, hR0⟩
 intro e a w1 T Hp hΦ hRL
 obtain ⟨df, E1, hR1, hsz1⟩ := hRL
 have hdf : df = [] := by
  obtain ⟨bs, e, _, _, hn⟩ := hR1.marks
  rw [e, hn rfl]; rfl
 subst hdf
 rcases hΦ with ⟨rfl, hok, hpt, ht5, rfl⟩ | ⟨rfl, hend⟩
 rotate_left
 ·have := par_end (fn := Tryz.f25) hR1 hR1.fr.back hend
  show LeavesInM (Fc none) 0 Tryz.prog Tryz.f25 a.tmps _ a.defers .returning w1
  rw [hR1.defers]
  exact this
 show Code.wpIn _ _ _ _ _ _ _
 obtain ⟨id4, mf, dfo, hr4, gm, om, dm, gd, od, dd⟩ : ∃ id4 mf dfo, sq2 (sq2 (sq2 (Tryz.f25.body.getD .skip))) = .seq (.region id4 #[mf, dfo] false) (sq2 (sq2 (sq2 (sq2 (Tryz.f25.body.getD .skip))))) ∧
  mf.guard = none ∧ mf.op = .makeFunc (.func 51) #[] #[.tmp 5, .tmp 2, .tmp 3, .tmp 4] ∧ mf.dst = some 14 ∧ dfo.guard = none ∧ dfo.op = .defer { callee := .value (.tmp 14), args := #[], argTypes := #[] } ∧ dfo.dst = none := ⟨_, _, _, rfl, rfl, rfl, rfl, rfl, rfl, rfl⟩
 rw [hr4]
 refine wpIn_seq (wpIn_region_list ?_)
 obtain ⟨caps, hcaps⟩ : ∃ caps : List Value, caps = [a.tmps.getD 5 undef, a.tmps.getD 2 undef, a.tmps.getD 3 undef, a.tmps.getD 4 undef] := ⟨_, rfl⟩
 have hmf : (execOp a.eval mf).run Tryz.prog w1 = .ok (.value (.func (.func 51) #[] caps.toArray)) w1 := by
  rw [hcaps]; simp [execOp, om, Instr.makeFunc, Act.eval]
 have hd1 : DenA Dc w1 E1 capA caps := by
  rw [hcaps]
  have h2 := hR1.den 2
  have h3 := hR1.den 3
  have h4 := hR1.den 4
  have h5 := hR1.den 5
  rw [hpt.t2] at h2
  rw [hpt.t3] at h3
  rw [hpt.t4] at h4
  rw [ht5] at h5
  exact denA4 h5 h2 h3 h4
 obtain ⟨d, hdd⟩ : ∃ d : Deferred, d = ⟨.fn (.func 51) caps.toArray, #[]⟩ := ⟨_, rfl⟩
 have hlt : 14 < a.tmps.size := by rw [hsz1, hpt.len]; omega
 have hdf : (execOp (a.put mf.dst (.func (.func 51) #[] caps.toArray)).eval dfo).run Tryz.prog w1 = .ok (.defer d) w1 := by
  have hev : (a.put mf.dst (.func (.func 51) #[] caps.toArray)).eval (.tmp 14) = .func (.func 51) #[] caps.toArray := by
   rw [dm]; simp [Act.eval, Act.put, hlt]
  simp only [execOp, od, resolve, hev, Deferred.ofValue, hdd]
  simp
 show wpListIn _ _ _ _ _ [mf, dfo] _ _
 rw [wpListIn, if_pos (wanted_free gm)]
 refine ⟨fun _ _ => trivial, ?_⟩
 rw [show (Fc none).round = none from rfl, Oper.semAt_none, hmf]
 show wpListIn _ _ _ _ _ [dfo] _ _
 rw [wpListIn, if_pos (wanted_free gd)]
 refine ⟨fun _ _ => trivial, ?_⟩
 rw [show (Fc none).round = none from rfl, Oper.semAt_none, hdf]
 show Code.wpIn _ _ _ _ _ _ _
 have hm1 : ∀ c, 5 ≤ c → E1.β c = .fresh := fresh_of_sat hR1.sat
 have hX2 : CtxOK Dc (⟨none, [], 5, true⟩ : Ctx Cd) { Base.here w1 E1 5 hm1 with ds := [d], nm := true } none := ⟨rfl, fun c ri hc => by simp [lkR] at hc, trivial, rfl⟩
 have hR2 : RelL Dc { Base.here w1 E1 5 hm1 with ds := [d], nm := true } [d] ([.any, .any, .ptr 0 0, .ptr 1 0, .ptr 2 0, .ptr 4 0] ++ anys 16) (parH ordZ [iS 0] [iS 0] (tokensW s) 0 11) ({ a.put mf.dst (.func (.func 51) #[] caps.toArray) with defers := d :: (a.put mf.dst (.func (.func 51) #[] caps.toArray)).defers }.put dfo.dst undef) w1 := by
  rw [dm, dd]
  refine ⟨E1, ⟨fun i => ?_, hR1.sat, Fr.here.other, ?_, Marks.nil⟩, ?_⟩
  ·have hne : ∀ j, j ≠ 14 → (a.tmps.setIfInBounds 14 (.func (.func 51) #[] caps.toArray)).getD j undef = a.tmps.getD j undef := fun j hj => by rw [Array.getD_eq_getD_getElem?, Array.getD_eq_getD_getElem?, Array.getElem?_setIfInBounds_ne (Ne.symm hj)]
   match i with
   | 0 => trivial
   | 1 => trivial
   | 2 => have h := hR1.den 2; rw [hpt.t2] at h; show Den _ _ _ _ ((a.tmps.setIfInBounds 14 _).getD 2 undef); rw [hne 2 (by omega)]; exact h
   | 3 => have h := hR1.den 3; rw [hpt.t3] at h; show Den _ _ _ _ ((a.tmps.setIfInBounds 14 _).getD 3 undef); rw [hne 3 (by omega)]; exact h
   | 4 => have h := hR1.den 4; rw [hpt.t4] at h; show Den _ _ _ _ ((a.tmps.setIfInBounds 14 _).getD 4 undef); rw [hne 4 (by omega)]; exact h
   | 5 => have h := hR1.den 5; rw [ht5] at h; show Den _ _ _ _ ((a.tmps.setIfInBounds 14 _).getD 5 undef); rw [hne 5 (by omega)]; exact h
   | i + 6 => show Den _ _ _ (getT (anys 16) i) _; rw [getT_anys]; trivial
  ·show d :: a.defers = [d]
   rw [hR1.defers]
  ·show (a.tmps.setIfInBounds 14 _).size = 22
   rw [Array.size_setIfInBounds, hsz1, hpt.len]
 have hp2 := par2 (tokensW s) (tokensW_ok (by omega))
 rw [forceV_eq, forceL_eq] at hp2
 refine gx_sound (r := none) Ax tab_ok hX2 ?_ 300 _ _ _ hp2 _ _ ⟨_, hR2⟩
 intro e2 a2 w2 T2 Hp2 hΦ2 hRL2
 obtain ⟨df2, E2, hRE, _⟩ := hRL2
 have hinv : ∀ w3, (invoke d.target d.args).run Tryz.prog w3 = .ok (.enter 51 caps.toArray) w3 := fun w3 => by
  rw [hdd]
  simp only [invoke]
  have : (#[] ++ caps.toArray : Array Value) = caps.toArray := by simp
  rw [this]
  exact Tryz.call51 _ _
 rcases hΦ2 with ⟨o, n, m, hS, rfl, hpt2, rfl⟩ | ⟨n, m, hS, rfl, hpt2, rfl⟩
 ·have e : parseS s = (o, n, 0) := by unfold parseS; rw [if_neg hok, hS]
  unfold retP
  rw [e]
  show LeavesInM (Fc none) 0 Tryz.prog Tryz.f25 a2.tmps _ a2.defers .returning w2
  refine leaves_relD (by simp) hRE fun w3 E3 hR3 => ?_
  refine ⟨by simp, .inr ⟨fun h => by simp [Fc] at h, .func 51, caps.toArray, 51, caps.toArray, by rw [hdd], hinv w3, fun _ _ => trivial, ?_⟩⟩
  refine (MeetsD.at (dret o n 0 (tokensW s) n m) [some 0, some 1, some 2, some 3, some 4] rfl rfl ⟨rfl, rfl, rfl, rfl, rfl, trivial⟩ [some 0, some 1, some 2, some 3, some 4] rfl rfl (Nat.le_refl _) rfl hR3 (DenA.mono hR3.fr.late _ _ hd1)).mono ?_
  rintro e4 u4 w4 ⟨rfl, E4, ⟨v4, rfl⟩, hR4⟩
  have hR5 := rel_weak hR4 (T3_of hpt2)
  rw [← getC_setCs, show setCs (parH (ordC o) [iS n] [iS 0] (tokensW s) n m) (zipW [some 0, some 1, some 2, some 3, some 4] (parH (ordC o) [iS n] [iS 0] (tokensW s) n m)) = parH (ordC o) [iS n] [iS 0] (tokensW s) n m from rfl] at hR5
  exact par_end (a := { a2 with defers := [d] }) (T := T3) (Hp := parH (ordC o) [iS n] [iS 0] (tokensW s) n m) (fn := Tryz.f25) hR5 (Fr.trans hR1.fr.back hR5.fr.back) (e := .ret) (end_fn [] (.inr rfl) (by exact vwV) (by exact hsW) rfl rfl)
 ·have e : parseS s = (zeroO, n, 130) := by unfold parseS; rw [if_neg hok, hS]
  unfold retP
  rw [e]
  show LeavesInM (Fc none) 0 Tryz.prog Tryz.f25 a2.tmps _ a2.defers (.panicking chS) w2
  refine leaves_relD (by simp) hRE fun w3 E3 hR3 => ?_
  refine ⟨by simp, .inr ⟨fun h => by simp [Fc] at h, .func 51, caps.toArray, 51, caps.toArray, by rw [hdd], hinv w3, fun _ _ => trivial, ?_⟩⟩
  refine (MeetsD.at (dpan (tokensW s) n m) [some 0, some 1, some 2, some 3, some 4] rfl rfl ⟨rfl, rfl, rfl, rfl, rfl, trivial⟩ [some 0, some 1, some 2, some 3, some 4] rfl rfl (Nat.le_refl _) rfl hR3 (DenA.mono hR3.fr.late _ _ hd1)).mono ?_
  rintro e4 u4 w4 ⟨rfl, E4, ⟨v4, rfl⟩, hR4⟩
  have hR5 := rel_weak hR4 (T3_of hpt2)
  rw [← getC_setCs, show setCs (parH ordZ [iS 0] [iS 0] (tokensW s) n m) (zipW [some 0, some 1, some 2, some 3, some 4] (parH ordZ [iS n] [iS 130] (tokensW s) n m)) = parH ordZ [iS n] [iS 130] (tokensW s) n m from rfl] at hR5
  exact par_end (a := { a2 with defers := [d] }) (T := T3) (Hp := parH ordZ [iS n] [iS 130] (tokensW s) n m) (fn := Tryz.f25) hR5 (Fr.trans hR1.fr.back hR5.fr.back) (e := .ret) (end_fn [] (.inr rfl) (by exact vwV) (by exact hsW) rfl rfl)
end Go.SX

namespace Go.SX
open Go.Proofs
set_option maxHeartbeats 4000000
set_option maxRecDepth 100000
theorem rvalid (rows : List Int) (hl : (rows.length : Int) ≤ 9223372036854775807) : Meets Tryz.prog Dc 98 [areaA rows] [] (bS (areaB rows)) [] := by
 refine meets_of_gx Ax tab_ok Tryz.func98 (c := _) rfl Tryz.call98 200 ?_
 (repeat' ((conv => whnf); first | (exfalso; omega) | refine x0C ?_ | refine spC (fun hb => ?_) fun hb => ?_ | refine nilC (fun hb => ?_) ?_ | refine taC ?_ | refine saC ?_ | exact sdV | refine side_and ?_ ?_ | refine drawX_of mixed ?_))
 refine loop_up (fun i : Nat => [(3, iS i)]) (fun _ => []) (fun i => i ≤ rows.length ∧ i ≤ 25 ∧ (rows.take i).all rowOK = true) (fun i => 25 - i) 0 ⟨by omega, by omega, by simp⟩ (by exact bkV) ?_
 rintro i ⟨h1, h2, h3⟩ K hK
 by_cases hc : i < rows.length ∧ i < 25
 ·have hg := getD_some (d := Cd.dflt U.int) hc.1
  cases hr : rowOK (rows.getD (i : Int).toNat (Cd.dflt U.int)) with
  | true =>
   have h4 := (inB_iff _ _ _).1 hr
   have h5 : (rows.take (i + 1)).all rowOK = true := by
    rw [List.take_add_one, hg, List.all_append, h3]
    simpa using hr
   (repeat' ((conv => whnf); first | (exfalso; omega) | refine hK (i + 1) [some 0] _ _ ⟨⟨by omega, by omega, h5⟩⟩ ⟨by omega⟩ (by exact bkV) | refine x0C ?_ | refine spC (fun hb => ?_) fun hb => ?_ | refine nilC (fun hb => ?_) ?_ | refine taC ?_ | refine saC ?_ | exact sdV | refine side_and ?_ ?_ | refine drawX_of mixed ?_))
  | false =>
   have h4 := (inB_not _ _ _).1 hr
   have ha : areaB rows = false := by
    cases ha : areaB rows with
    | false => rfl
    | true =>
     simp only [areaB, Bool.and_eq_true] at ha
     rw [List.all_eq_true.1 ha.2 _ (List.mem_of_getElem? hg)] at hr
     cases hr
   rw [ha]
   (repeat' ((conv => whnf); first | (exfalso; omega) | refine x0C ?_ | refine spC (fun hb => ?_) fun hb => ?_ | refine nilC (fun hb => ?_) ?_ | refine taC ?_ | refine saC ?_ | exact sdV | refine side_and ?_ ?_ | refine drawX_of mixed ?_))
   all_goals exact vwV
 ·have ha : areaB rows = decide ((rows.length : Int) = 24) := by
   unfold areaB
   by_cases hl : rows.length = 24
   ·rw [List.take_of_length_le (by omega)] at h3
    rw [h3, Bool.and_true]
   ·rw [decide_eq_false (by omega), Bool.false_and]
  rw [ha]
  (repeat' ((conv => whnf); first | refine x0C (eB ?_ rfl) | (exfalso; omega) | refine x0C ?_ | refine spC (fun hb => ?_) fun hb => ?_ | refine nilC (fun hb => ?_) ?_ | refine taC ?_ | refine saC ?_ | exact sdV | refine side_and ?_ ?_ | refine drawX_of mixed ?_))
  all_goals rfl
def bitB (rows : List Int) (y x : Nat) : Bool := (rows.getD y 0).toNat.testBit x
theorem area_row {rows : List Int} (h : areaB rows = true) {y : Nat} (hy : y < 24) : rowOK (rows.getD y 0) = true := by
 have hlen := area_len h
 simp only [areaB, Bool.and_eq_true] at h
 refine List.all_eq_true.1 h.2 _ ?_
 rw [List.getD_eq_getElem?_getD, List.getElem?_eq_getElem (by omega)]
 exact List.getElem_mem _
theorem has_meets (rows : List Int) (h : areaB rows = true) (y x : Nat) (hy : y < 24) (hx : x < 48) : Meets Tryz.prog Dc 136 [areaA rows, iS x, iS y] [] (bS (bitB rows y x)) [] := by
 have hlen := area_len h
 have hr := (inB_iff _ _ _).1 (area_row h hy)
 have hb := shr_bit (r := rows.getD y 0) hr.1 hx
 unfold bitB
 rw [← hb]
 refine meets_of_gx Ax tab_ok Tryz.func136 (c := _) rfl Tryz.call136 100 ?_
 (repeat' ((conv => whnf); first | refine x0C (eB ?_ rfl) | (exfalso; omega) | refine x0C ?_ | refine spC (fun hb => ?_) fun hb => ?_ | refine nilC (fun hb => ?_) ?_ | refine taC ?_ | refine saC ?_ | exact sdV | refine side_and ?_ ?_ | refine drawX_of mixed ?_))
 all_goals rfl
def cellN (rows : List Int) : Nat → List Cell
 | 0 => []
 | n + 1 => if bitB rows (n / 48) (n % 48) then cellN rows n ++ [⟨((n % 48 : Nat) : Int), ((n / 48 : Nat) : Int)⟩] else cellN rows n
theorem cellN_t {rows : List Int} {y x : Nat} (hx : x < 48) (h : bitB rows y x = true) : cellN rows (48 * y + x + 1) = cellN rows (48 * y + x) ++ [⟨x, y⟩] := by
 rw [cellN, show (48 * y + x) / 48 = y by omega, show (48 * y + x) % 48 = x by omega, if_pos h]
theorem cellN_f {rows : List Int} {y x : Nat} (hx : x < 48) (h : bitB rows y x = false) : cellN rows (48 * y + x + 1) = cellN rows (48 * y + x) := by
 rw [cellN, show (48 * y + x) / 48 = y by omega, show (48 * y + x) % 48 = x by omega, h]; simp
theorem cellN_len (rows : List Int) : ∀ n, (cellN rows n).length ≤ n
 | 0 => by simp [cellN]
 | n + 1 => by
  have := cellN_len rows n
  rw [cellN]
  split <;> simp <;> omega
theorem cells_meets (rows : List Int) (hl : (rows.length : Int) ≤ 9223372036854775807) : Meets Tryz.prog Dc 118 [areaA rows] [] (.p (.dsl U.cell (if areaB rows then cellN rows 1152 else []))) [] := by
 have h := rvalid rows hl
 cases ha : areaB rows with
 | false =>
  rw [ha] at h
  refine meets_of_gx Ax tab_ok Tryz.func118 (c := _) rfl Tryz.call118 200 ?_
  (repeat' ((conv => whnf); first | (exfalso; omega) | refine cpC (h) ?_ | refine dpC (h) ?_ | refine x0C ?_ | refine spC (fun hb => ?_) fun hb => ?_ | refine nilC (fun hb => ?_) ?_ | refine taC ?_ | refine saC ?_ | exact sdV | refine side_and ?_ ?_ | refine drawX_of mixed ?_))
  all_goals exact vwV
 | true =>
  rw [ha] at h
  refine meets_of_gx Ax tab_ok Tryz.func118 (c := _) rfl Tryz.call118 200 ?_
  (repeat' ((conv => whnf); first | (exfalso; omega) | refine cpC (h) ?_ | refine dpC (h) ?_ | refine x0C ?_ | refine spC (fun hb => ?_) fun hb => ?_ | refine nilC (fun hb => ?_) ?_ | refine taC ?_ | refine saC ?_ | exact sdV | refine side_and ?_ ?_ | refine drawX_of mixed ?_))
  refine loop_inv (fun y : Nat => [(3, .slice 1 0 2 0 (cellN rows (48 * y)).length), (4, iS y)]) (fun y => [.var [lS rows], .rows U.cell (cellN rows (48 * y))]) (fun y => y ≤ 24) (fun y => 24 - y) 0 (Nat.zero_le _) [some 0, none] (by exact bkV) ?_
  intro y hy K hK
  rcases Nat.lt_or_ge y 24 with hlt | hge
  ·(repeat' ((conv => whnf); first | (exfalso; omega) | refine x0C ?_ | refine spC (fun hb => ?_) fun hb => ?_ | refine nilC (fun hb => ?_) ?_ | refine taC ?_ | refine saC ?_ | exact sdV | refine side_and ?_ ?_ | refine drawX_of mixed ?_))
   refine loop_inv (fun x : Nat => [(3, .slice 1 0 2 0 (cellN rows (48 * y + x)).length), (5, iS x)]) (fun x => [.var [lS rows], .rows U.cell (cellN rows (48 * y + x))]) (fun x => x ≤ 48) (fun x => 48 - x) 0 (Nat.zero_le _) [some 0, some 1] (by exact bkV) ?_
   intro x hx K' hK'
   have hcl := cellN_len rows (48 * y + x)
   rcases Nat.lt_or_ge x 48 with hxl | hxg
   ·have hh := has_meets rows ha y x hlt hxl
    cases hb : bitB rows y x with
    | true =>
     rw [hb] at hh
     have he := cellN_t hxl hb
     (repeat' ((conv => whnf); first | (exfalso; omega) | refine cpC (hh) ?_ | refine dpC (hh) ?_ | refine hK' (x + 1) [some 0, some 3] _ _ ⟨by omega⟩ ⟨by omega⟩ (by (dsimp only; rw [show 48 * y + (x + 1) = 48 * y + x + 1 by omega, he, List.take_length]; exact bkV)) | refine x0C ?_ | refine spC (fun hb => ?_) fun hb => ?_ | refine nilC (fun hb => ?_) ?_ | refine taC ?_ | refine saC ?_ | exact sdV | refine side_and ?_ ?_ | refine drawX_of mixed ?_))
    | false =>
     rw [hb] at hh
     have he := cellN_f hxl hb
     (repeat' ((conv => whnf); first | (exfalso; omega) | refine cpC (hh) ?_ | refine dpC (hh) ?_ | refine hK' (x + 1) [some 0, some 1] _ _ ⟨by omega⟩ ⟨by omega⟩ (by (dsimp only; rw [show 48 * y + (x + 1) = 48 * y + x + 1 by omega, he]; exact bkV)) | refine x0C ?_ | refine spC (fun hb => ?_) fun hb => ?_ | refine nilC (fun hb => ?_) ?_ | refine taC ?_ | refine saC ?_ | exact sdV | refine side_and ?_ ?_ | refine drawX_of mixed ?_))
   ·obtain rfl : x = 48 := by omega
    (repeat' ((conv => whnf); first | (exfalso; omega) | refine hK (y + 1) [some 0, some 1] _ _ ⟨by omega⟩ ⟨by omega⟩ (by (dsimp only; rw [show 48 * (y + 1) = 48 * y + 48 by omega]; exact bkV)) | refine x0C ?_ | refine spC (fun hb => ?_) fun hb => ?_ | refine nilC (fun hb => ?_) ?_ | refine taC ?_ | refine saC ?_ | exact sdV | refine side_and ?_ ?_ | refine drawX_of mixed ?_))
  ·obtain rfl : y = 24 := by omega
   (repeat' ((conv => whnf); first | (exfalso; omega) | refine x0C ?_ | refine spC (fun hb => ?_) fun hb => ?_ | refine nilC (fun hb => ?_) ?_ | refine taC ?_ | refine saC ?_ | exact sdV | refine side_and ?_ ?_ | refine drawX_of mixed ?_))
   all_goals exact vwV
theorem rcount_meets (rows : List Int) (hl : (rows.length : Int) ≤ 9223372036854775807) : Meets Tryz.prog Dc 99 [areaA rows] [] (iS (if areaB rows then (cellN rows 1152).length else 0)) [] := by
 have h := cells_meets rows hl
 cases ha : areaB rows with
 | false =>
  rw [ha] at h
  refine meets_of_gx Ax tab_ok Tryz.func99 (c := _) rfl Tryz.call99 60 ?_
  (repeat' ((conv => whnf); first | refine x0C (eI ?_ rfl) | refine cpC (h) ?_ | refine dpC (h) ?_ | refine x0C ?_ | refine spC (fun hb => ?_) fun hb => ?_ | refine nilC (fun hb => ?_) ?_ | refine taC ?_ | refine saC ?_ | exact sdV | refine side_and ?_ ?_ | refine drawX_of mixed ?_))
  all_goals rfl
 | true =>
  rw [ha] at h
  refine meets_of_gx Ax tab_ok Tryz.func99 (c := _) rfl Tryz.call99 60 ?_
  (repeat' ((conv => whnf); first | refine x0C (eI ?_ rfl) | refine cpC (h) ?_ | refine dpC (h) ?_ | refine x0C ?_ | refine spC (fun hb => ?_) fun hb => ?_ | refine nilC (fun hb => ?_) ?_ | refine taC ?_ | refine saC ?_ | exact sdV | refine side_and ?_ ?_ | refine drawX_of mixed ?_))
  all_goals rfl
theorem cellN_any {rows : List Int} : ∀ n : Nat, (0 < (cellN rows n).length ↔ ∃ k, k < n ∧ bitB rows (k / 48) (k % 48) = true)
 | 0 => by simp [cellN]
 | n + 1 => by
  have ih := cellN_any (rows := rows) n
  rw [cellN]
  split
  ·rename_i h
   simp only [List.length_append, List.length_cons, List.length_nil]
   exact ⟨fun _ => ⟨n, by omega, h⟩, fun _ => by omega⟩
  ·rename_i h
   rw [ih]
   constructor
   ·rintro ⟨k, h1, h2⟩; exact ⟨k, by omega, h2⟩
   ·rintro ⟨k, h1, h2⟩
    by_cases hk : k = n
    ·subst hk; exact absurd h2 h
    ·exact ⟨k, by omega, h2⟩
theorem bit_ne {m : Nat} (hm : m < 2 ^ 48) : m ≠ 0 ↔ ∃ x, x < 48 ∧ m.testBit x = true := by
 constructor
 ·intro h
  obtain ⟨x, hx⟩ := Nat.exists_testBit_of_ne_zero h
  refine ⟨x, ?_, hx⟩
  rcases Nat.lt_or_ge x 48 with h1 | h1
  ·exact h1
  ·rw [Nat.testBit_lt_two_pow (Nat.lt_of_lt_of_le hm (Nat.pow_le_pow_right (by omega) h1))] at hx; cases hx
 ·rintro ⟨x, _, hx⟩ h
  subst h; simp at hx
theorem cellN_pos {rows : List Int} (h : areaB rows = true) : decide (0 < ((cellN rows 1152).length : Int)) = rows.any (fun r => decide (r ≠ 0)) := by
 have hlen := area_len h
 rw [Bool.eq_iff_iff, decide_eq_true_iff, List.any_eq_true]
 have := cellN_any (rows := rows) 1152
 rw [show (0 < ((cellN rows 1152).length : Int)) ↔ 0 < (cellN rows 1152).length by omega, this]
 constructor
 ·rintro ⟨k, h1, h2⟩
  have hy : k / 48 < 24 := by omega
  have hr := (inB_iff _ _ _).1 (area_row h hy)
  refine ⟨rows.getD (k / 48) 0, ?_, ?_⟩
  ·rw [List.getD_eq_getElem?_getD, List.getElem?_eq_getElem (by omega)]; exact List.getElem_mem _
  ·have := (bit_ne (m := (rows.getD (k / 48) 0).toNat) (by omega)).2 ⟨k % 48, by omega, h2⟩
   simp only [decide_eq_true_eq]
   omega
 ·rintro ⟨r, h1, h2⟩
  obtain ⟨y, hy, rfl⟩ := List.getElem_of_mem h1
  have hr := (inB_iff _ _ _).1 (area_row h (show y < 24 by omega))
  have e : rows.getD y 0 = rows[y] := by rw [List.getD_eq_getElem?_getD, List.getElem?_eq_getElem hy]; rfl
  rw [e] at hr
  simp only [decide_eq_true_eq] at h2
  obtain ⟨x, hx, hb⟩ := (bit_ne (m := (rows[y]).toNat) (by omega)).1 (by omega)
  refine ⟨48 * y + x, by omega, ?_⟩
  rw [show (48 * y + x) / 48 = y by omega, show (48 * y + x) % 48 = x by omega]
  unfold bitB
  rw [e]; exact hb
theorem spell_meets (f t : Int) : Meets Tryz.prog Dc 100 [.agg [iS f, iS t]] [] (bS (spellB f t)) [] := by
 have h1 := in13 f 0 1000000
 have h2 := in13 t 0 1000000
 refine meets_of_gx Ax tab_ok Tryz.func100 (c := _) rfl Tryz.call100 100 ?_
 (repeat' ((conv => whnf); first | refine x0C (eB ?_ rfl) | refine cpC (h1) ?_ | refine dpC (h1) ?_ | refine cpC (h2) ?_ | refine dpC (h2) ?_ | refine x0C ?_ | refine spC (fun hb => ?_) fun hb => ?_ | refine nilC (fun hb => ?_) ?_ | refine taC ?_ | refine saC ?_ | exact sdV | refine side_and ?_ ?_ | refine drawX_of mixed ?_))
 all_goals clear h1 h2
 all_goals (first | (simp_all [spellB]; done) | (simp_all [spellB]; omega) | (simp_all [spellB]; grind))
theorem one_meets (g : Goal) (most : Int) : Meets Tryz.prog Dc 101 [goalA g, iS most] [] (bS (oneB g most)) [] := by
 have h1 := in13 (g.kids.getD (0 : Int).toNat (Cd.dflt U.goal)).kind 1 most
 refine meets_of_gx Ax tab_ok Tryz.func101 (c := _) rfl Tryz.call101 100 ?_
 unfold oneB
 (repeat' ((conv => whnf); first | refine x0C (eB ?_ rfl) | (exfalso; omega) | refine cpC (h1) ?_ | refine dpC (h1) ?_ | refine x0C ?_ | refine spC (fun hb => ?_) fun hb => ?_ | refine nilC (fun hb => ?_) ?_ | refine taC ?_ | refine saC ?_ | exact sdV | refine side_and ?_ ?_ | refine drawX_of mixed ?_))
 ·rw [decide_eq_true (by assumption), Bool.true_and]; rfl
 ·rw [decide_eq_false (by assumption), Bool.false_and]
theorem bare_meets (g own : Goal) (a c : Bool) : Meets Tryz.prog Dc 49 [goalA g, goalA own, bS a, bS c] [] (bS (bareB g own a c)) [] := by
 refine meets_of_gx Ax tab_ok Tryz.func49 (c := _) rfl Tryz.call49 200 ?_
 (repeat' ((conv => whnf); first | refine x0C (eB ?_ rfl) | refine x0C ?_ | refine spC (fun hb => ?_) fun hb => ?_ | refine nilC (fun hb => ?_) ?_ | refine taC ?_ | refine saC ?_ | exact sdV | refine side_and ?_ ?_ | refine drawX_of mixed ?_))
 all_goals (first | (simp_all [bareB]; done) | (simp_all [bareB]; omega) | (simp_all [bareB]; grind))
@[reducible] def own0 (f t lo hi : Int) (cl : Bool) (d tm w : Int) : Goal := ⟨0, [], f, t, lo, hi, cl, d, tm, w, [], []⟩
theorem kind_meets (g : Goal) (hg : GLen g) : Meets Tryz.prog Dc 70 [goalA g] [] (bS (kindB' g)) [] := by
 obtain ⟨hl1, hl2, hl3⟩ := hg
 have b1 := bare_meets g (own0 g.from_ g.to_ g.low g.high g.clear 0 0 0) true false
 have b2 := bare_meets g (own0 0 0 g.low 0 false 0 0 g.within) false false
 have b3 := bare_meets g (own0 g.from_ 0 0 0 false g.days g.times g.within) false false
 have b4 := bare_meets g (own0 0 0 0 0 false 0 0 g.within) false false
 have b5 := bare_meets g (own0 0 0 0 0 false 0 0 0) false false
 have b6 := bare_meets g (own0 0 0 0 0 false 0 0 0) false true
 have o1 := one_meets g 1
 have o3 := one_meets g 3
 have h0 := rvalid g.rows hl1
 have h1 := rcount_meets g.rows hl1
 have h2 := spell_meets g.from_ g.to_
 have h4 := in13 g.low 0 90
 have h5 := in13 g.high g.low 90
 have h6 := in13 g.low 1 8
 have h7 := in13 g.within 1 1000000
 have h8 := in13 g.days 1 60
 have h9 := in13 g.times 1 6
 have ha1 := in13 g.within 0 (1440 * g.days)
 have ha2 := in13 g.within 0 1000000
 have ha3 := in13 g.from_ 0 1000000
 have ha4 := in13 g.kids.length 2 4
 have i2 := fun h => (inB_iff g.days 1 60).1 h
 have hcp : areaB g.rows = true → decide (0 < (if areaB g.rows then ((cellN g.rows 1152).length : Int) else 0)) = g.rows.any (fun r => decide (r ≠ 0)) := fun h => by rw [h, if_pos rfl]; exact cellN_pos h
 by_cases hk : g.kind = 6
 ·unfold kindB'
  rw [if_neg (by omega), if_neg (by omega), if_neg (by omega), if_neg (by omega), if_neg (by omega), if_pos hk]
  clear b1 b2 b3 b4 b5 o1 o3 h0 h1 h2 h4 h5 h6 h7 h8 h9 ha1 ha2 ha3 hcp
  dsimp only [own0] at b6
  generalize bareB g _ _ _ = x6 at b6 ⊢
  refine meets_of_gx Ax tab_ok Tryz.func70 (c := _) rfl Tryz.call70 400 ?_
  (repeat' ((conv => whnf); first | refine x0C (eB ?_ rfl) | (exfalso; omega) | refine x0C ?_ | refine spC (fun hb => ?_) fun hb => ?_ | refine nilC (fun hb => ?_) ?_ | refine taC ?_ | refine saC ?_ | exact sdV | refine side_and ?_ ?_ | refine drawX_of mixed ?_))
  refine loop_up (fun i : Nat => [(4, iS i)]) (fun _ => []) (fun i => i ≤ g.cents.length ∧ (g.cents.take i).all (fun n => inB n 0 1000000000) = true) (fun i => g.cents.length - i) 0 ⟨by omega, by simp⟩ (by exact bkV) ?_
  rintro i ⟨c1, c3⟩ K hK
  rcases Nat.lt_or_ge i g.cents.length with hlt | hge
  ·have hg := getD_some (d := Cd.dflt U.int) hlt
   have hx := in13 (g.cents.getD (i : Int).toNat (Cd.dflt U.int)) 0 1000000000
   cases hr : inB (g.cents.getD (i : Int).toNat (Cd.dflt U.int)) 0 1000000000 with
   | true =>
    rw [hr] at hx
    have c5 : (g.cents.take (i + 1)).all (fun n => inB n 0 1000000000) = true := by
     rw [List.take_add_one, hg, List.all_append, c3]
     simpa using hr
    (repeat' ((conv => whnf); first | (exfalso; omega) | refine cpC (hx) ?_ | refine dpC (hx) ?_ | refine hK (i + 1) [some 0, some 1] _ _ ⟨⟨by omega, c5⟩⟩ ⟨by omega⟩ (by exact bkV) | refine x0C ?_ | refine spC (fun hb => ?_) fun hb => ?_ | refine nilC (fun hb => ?_) ?_ | refine taC ?_ | refine saC ?_ | exact sdV | refine side_and ?_ ?_ | refine drawX_of mixed ?_))
   | false =>
    rw [hr] at hx
    have ha : g.cents.all (fun n => inB n 0 1000000000) = false := by
     rw [List.all_eq_false]
     exact ⟨_, List.mem_of_getElem? hg, by rw [hr]; simp⟩
    rw [ha]
    (repeat' ((conv => whnf); first | refine x0C (eB ?_ rfl) | (exfalso; omega) | refine cpC (hx) ?_ | refine dpC (hx) ?_ | refine x0C ?_ | refine spC (fun hb => ?_) fun hb => ?_ | refine nilC (fun hb => ?_) ?_ | refine taC ?_ | refine saC ?_ | exact sdV | refine side_and ?_ ?_ | refine drawX_of mixed ?_))
    all_goals rfl
  ·rw [List.take_of_length_le hge] at c3
   rw [c3]
   (repeat' ((conv => whnf); first | refine x0C (eB ?_ rfl) | (exfalso; omega) | refine rdC (b6) ?_ | refine cpC (ha4) ?_ | refine dpC (ha4) ?_ | refine x0C ?_ | refine spC (fun hb => ?_) fun hb => ?_ | refine nilC (fun hb => ?_) ?_ | refine taC ?_ | refine saC ?_ | exact sdV | refine side_and ?_ ?_ | refine drawX_of mixed ?_))
   all_goals clear b6 ha4
   all_goals (first | (simp_all []; done) | (simp_all []; omega) | (simp_all []; grind))
 ·unfold kindB'
  generalize (if areaB g.rows then ((cellN g.rows 1152).length : Int) else 0) = n at *
  generalize areaB g.rows = ar at *
  generalize (g.rows.any fun r => decide (r ≠ 0)) = nz at *
  dsimp only [own0] at b1 b2 b3 b4 b5
  generalize bareB g _ _ _ = x1 at b1 ⊢
  generalize bareB g _ _ _ = x2 at b2 ⊢
  generalize bareB g _ _ _ = x3 at b3 ⊢
  generalize bareB g _ _ _ = x4 at b4 ⊢
  generalize bareB g _ _ _ = x5 at b5 ⊢
  generalize oneB g 1 = y1 at *
  generalize oneB g 3 = y3 at *
  generalize spellB g.from_ g.to_ = sp at *
  refine meets_of_gx Ax tab_ok Tryz.func70 (c := _) rfl Tryz.call70 400 ?_
  (repeat' ((conv => whnf); first | refine x0C (eB ?_ rfl) | (exfalso; omega) | (have := i2 (by assumption); refine saC ?_) | refine rdC (b1) ?_ | refine rdC (b2) ?_ | refine rdC (b3) ?_ | refine rdC (b4) ?_ | refine rdC (b5) ?_ | refine cpC (o1) ?_ | refine dpC (o1) ?_ | refine cpC (o3) ?_ | refine dpC (o3) ?_ | refine cpC (h0) ?_ | refine dpC (h0) ?_ | refine cpC (h1) ?_ | refine dpC (h1) ?_ | refine cpC (h2) ?_ | refine dpC (h2) ?_ | refine cpC (h4) ?_ | refine dpC (h4) ?_ | refine cpC (h5) ?_ | refine dpC (h5) ?_ | refine cpC (h6) ?_ | refine dpC (h6) ?_ | refine cpC (h7) ?_ | refine dpC (h7) ?_ | refine cpC (h8) ?_ | refine dpC (h8) ?_ | refine cpC (h9) ?_ | refine dpC (h9) ?_ | refine cpC (ha1) ?_ | refine dpC (ha1) ?_ | refine cpC (ha2) ?_ | refine dpC (ha2) ?_ | refine cpC (ha3) ?_ | refine dpC (ha3) ?_ | refine cpC (ha4) ?_ | refine dpC (ha4) ?_ | refine x0C ?_ | refine spC (fun hb => ?_) fun hb => ?_ | refine nilC (fun hb => ?_) ?_ | refine taC ?_ | refine saC ?_ | exact sdV | refine side_and ?_ ?_ | refine drawX_of mixed ?_))
  all_goals clear b1 b2 b3 b4 b5 b6 o1 o3 h0 h1 h2 h4 h5 h6 h7 h8 h9 ha1 ha2 ha3 ha4
  all_goals (first | (simp_all []; done) | (simp_all []; omega) | (simp_all []; grind))
theorem cntL_stop {l : List Goal} {d n : Int} (h : 12 < n) : cntL l d n = n := cntL_big l d n h
theorem cntL_app : ∀ (l : List Goal) (k : List Goal) (d n : Int), cntL (l ++ k) d n = cntL k d (cntL l d n)
 | [], k, d, n => by simp [cntL]
 | x :: l, k, d, n => by
  simp only [List.cons_append, cntL]
  split
  ·exact cntL_app l k d _
  ·rw [cntL_big k d n (by omega)]
theorem cntG_max : ∀ (j : Nat) (g : Goal) (d : Int), 5 ≤ d + j → cntG g d ≤ 13 + 12 * j
 | j, g, d, hj => by
  rw [cntG_eq]
  split
  ·omega
  ·rename_i hc
   simp only [Bool.or_eq_true, decide_eq_true_eq, not_or] at hc
   cases j with
   | zero => omega
   | succ j =>
    have key : ∀ (l : List Goal) (n : Int), n ≤ 12 + (13 + 12 * j) → cntL l (d + 1) n ≤ 12 + (13 + 12 * j) := by
     intro l
     induction l with
     | nil => intro n hn; rw [cntL]; exact hn
     | cons k l ih =>
      intro n hn
      rw [cntL]
      split
      ·have := cntG_max j k (d + 1) (by omega)
       exact ih _ (by omega)
      ·exact hn
    have := key g.kids 1 (by omega)
    omega
theorem count13 : ∀ (j : Nat) (g : Goal) (d : Int), d + j = 5 → 1 ≤ d → GAll g → Meets Tryz.prog Dc 44 [goalA g, iS d] [] (iS (cntG g d)) [] := by
 intro j
 induction j with
 | zero =>
  intro g d hj hd hG
  rw [show cntG g d = 13 by rw [cntG_eq]; simp; omega]
  refine meets_of_gx Ax tab_ok Tryz.func44 (c := _) rfl Tryz.call44 400 ?_
  (repeat' ((conv => whnf); first | refine x0C (eI ?_ rfl) | (exfalso; omega) | refine x0C ?_ | refine spC (fun hb => ?_) fun hb => ?_ | refine nilC (fun hb => ?_) ?_ | refine taC ?_ | refine saC ?_ | exact sdV | refine side_and ?_ ?_ | refine drawX_of mixed ?_))
  all_goals rfl
 | succ j ih =>
  intro g d hj hd hG
  have hgl := ((GAll_iff g).1 hG).1
  have hkl := hgl.kids
  have hkk := ((GAll_iff g).1 hG).2
  have h1 := kind_meets g hgl
  rw [cntG_eq, show decide (4 < d) = false by simp; omega, Bool.false_or]
  cases hok : kindB' g with
  | false =>
   rw [hok] at h1
   refine meets_of_gx Ax tab_ok Tryz.func44 (c := _) rfl Tryz.call44 400 ?_
   (repeat' ((conv => whnf); first | refine x0C (eI ?_ rfl) | (exfalso; omega) | refine cpC (h1) ?_ | refine dpC (h1) ?_ | refine x0C ?_ | refine spC (fun hb => ?_) fun hb => ?_ | refine nilC (fun hb => ?_) ?_ | refine taC ?_ | refine saC ?_ | exact sdV | refine side_and ?_ ?_ | refine drawX_of mixed ?_))
   all_goals rfl
  | true =>
   rw [hok] at h1
   simp only [Bool.not_true]
   refine meets_of_gx Ax tab_ok Tryz.func44 (c := _) rfl Tryz.call44 400 ?_
   (repeat' ((conv => whnf); first | (exfalso; omega) | refine cpC (h1) ?_ | refine dpC (h1) ?_ | refine x0C ?_ | refine spC (fun hb => ?_) fun hb => ?_ | refine nilC (fun hb => ?_) ?_ | refine taC ?_ | refine saC ?_ | exact sdV | refine side_and ?_ ?_ | refine drawX_of mixed ?_))
   clear h1
   refine loop_up (fun i : Nat => [(5, iS (cntL (g.kids.take i) (d + 1) 1)), (6, iS i)]) (fun _ => []) (fun i => i ≤ g.kids.length) (fun i => g.kids.length - i) 0 (Nat.zero_le _) (by exact bkV) ?_
   intro i hi K hK
   have hpos := cntL_pos (g.kids.take i) (d + 1) 1 (by omega)
   have happ := cntL_app (g.kids.take i) (g.kids.drop i) (d + 1) 1
   rw [List.take_append_drop] at happ
   rcases Nat.lt_or_ge i g.kids.length with hlt | hge
   ·have hg := getD_some (d := Cd.dflt U.goal) hlt
    have hx := ih _ (d + 1) (by omega) (by omega) (GAllL_mem hkk (List.mem_of_getElem? hg))
    have ht : g.kids.take (i + 1) = g.kids.take i ++ [g.kids.getD (i : Int).toNat (Cd.dflt U.goal)] := by rw [List.take_add_one, hg]; rfl
    have hs := cntL_app (g.kids.take i) [g.kids.getD (i : Int).toNat (Cd.dflt U.goal)] (d + 1) 1
    rw [← ht] at hs
    have hm := cntG_max j (g.kids.getD (i : Int).toNat (Cd.dflt U.goal)) (d + 1) (by omega)
    have hp := cntG_pos (g.kids.getD (i : Int).toNat (Cd.dflt U.goal)) (d + 1)
    generalize cntL (g.kids.take i) (d + 1) 1 = n at *
    by_cases hn : n ≤ 12
    ·rw [cntL, if_pos hn, cntL] at hs
     (repeat' ((conv => whnf); first | (exfalso; omega) | refine cpC (hx) ?_ | refine dpC (hx) ?_ | refine hK (i + 1) [some 0] _ _ ⟨by omega⟩ ⟨by omega⟩ (by (dsimp only; rw [hs]; exact bkV)) | refine x0C ?_ | refine spC (fun hb => ?_) fun hb => ?_ | refine nilC (fun hb => ?_) ?_ | refine taC ?_ | refine saC ?_ | exact sdV | refine side_and ?_ ?_ | refine drawX_of mixed ?_))
    ·rw [cntL_big (g.kids.drop i) (d + 1) n (by omega)] at happ
     rw [happ]
     (repeat' ((conv => whnf); first | refine x0C (eI ?_ rfl) | (exfalso; omega) | refine x0C ?_ | refine spC (fun hb => ?_) fun hb => ?_ | refine nilC (fun hb => ?_) ?_ | refine taC ?_ | refine saC ?_ | exact sdV | refine side_and ?_ ?_ | refine drawX_of mixed ?_))
     all_goals rfl
   ·rw [List.drop_of_length_le hge, cntL] at happ
    rw [happ]
    generalize cntL (g.kids.take i) (d + 1) 1 = n at *
    (repeat' ((conv => whnf); first | refine x0C (eI ?_ rfl) | (exfalso; omega) | refine x0C ?_ | refine spC (fun hb => ?_) fun hb => ?_ | refine nilC (fun hb => ?_) ?_ | refine taC ?_ | refine saC ?_ | exact sdV | refine side_and ?_ ?_ | refine drawX_of mixed ?_))
    all_goals rfl
theorem valid13 (g : Goal) (hG : GAll g) : Meets Tryz.prog Dc 19 [goalA g] [] (bS (validG g)) [] := by
 have h := count13 4 g 1 (by omega) (by omega) hG
 rw [valid_cnt]
 refine meets_of_gx Ax tab_ok Tryz.func19 (c := _) rfl Tryz.call19 60 ?_
 (repeat' ((conv => whnf); first | refine x0C (eB ?_ rfl) | refine cpC (h) ?_ | refine dpC (h) ?_ | refine x0C ?_ | refine spC (fun hb => ?_) fun hb => ?_ | refine nilC (fun hb => ?_) ?_ | refine taC ?_ | refine saC ?_ | exact sdV | refine side_and ?_ ?_ | refine drawX_of mixed ?_))
 all_goals rfl
end Go.SX

/-
 Plain law: the goals that integers determine (the reference's examples), and why they are valid.
-/
namespace Go.SX
def pickS (c n : Int) : Int := (if c < 0 then -(c + 1) else c) % n
theorem pickS_bd {c n : Int} (h : 0 < n) : 0 ≤ pickS c n ∧ pickS c n < n := ⟨Int.emod_nonneg _ (by omega), Int.emod_lt_of_pos _ h⟩
/-- a cell more -/
def orAt (rows : List Int) (y : Nat) (x : Int) : List Int := rows.set y (bitop .or .i64 (rows.getD y 0) (shlop .i64 1 x))
theorem orAt_len (rows : List Int) (y : Nat) (x : Int) : (orAt rows y x).length = rows.length := by unfold orAt; simp
def cellS (x : A5) (y k : Nat) (rows : List Int) : List Int := orAt rows (min 23 (pickS x.b 24 + y)).toNat ((pickS x.a 48 + k).tmod 48)
def rowsK (x : A5) (y k : Nat) (rows : List Int) : List Int := (List.range k).foldl (fun r k => cellS x y k r) rows
def rowsY (x : A5) (n y : Nat) : List Int := (List.range y).foldl (fun r y => rowsK x y n r) (List.replicate 24 0)
theorem rowsK_succ (x : A5) (y k : Nat) (r : List Int) : rowsK x y (k + 1) r = cellS x y k (rowsK x y k r) := by unfold rowsK; rw [List.range_succ, List.foldl_append]; rfl
theorem rowsY_succ (x : A5) (n y : Nat) : rowsY x n (y + 1) = rowsK x y n (rowsY x n y) := by unfold rowsY; rw [List.range_succ, List.foldl_append]; rfl
theorem rowsK_len (x : A5) (y : Nat) : ∀ (k : Nat) (r : List Int), (rowsK x y k r).length = r.length
 | 0, r => rfl
 | k + 1, r => by rw [rowsK_succ]; unfold cellS; rw [orAt_len, rowsK_len x y k r]
theorem rowsY_len (x : A5) (n : Nat) : ∀ y : Nat, (rowsY x n y).length = 24
 | 0 => by simp [rowsY]
 | y + 1 => by rw [rowsY_succ, rowsK_len, rowsY_len x n y]
def seeRows (x : A5) : List Int :=
 if pickS x.c 3 = 0 then orAt (rowsY x (pickS (x.a.tdiv 48) 3 + 1).toNat (pickS (x.b.tdiv 24) 3 + 1).toNat) (pickS x.b 24).toNat (pickS x.c 48) else rowsY x (pickS (x.a.tdiv 48) 3 + 1).toNat (pickS (x.b.tdiv 24) 3 + 1).toNat
def seeS (x : A5) : Goal := ⟨1, seeRows x, pickS x.c 3000, pickS x.c 3000 + 1 + pickS x.d 5000, pickS x.e 40, pickS x.e 40 + pickS (x.e.tdiv 40) 51, decide (pickS x.d 2 = 1), 0, 0, 0, [], []⟩
/-! areas -/
structure RowsOK (rows : List Int) : Prop where
 len : rows.length = 24
 ok : ∀ r ∈ rows, 0 ≤ r ∧ r ≤ 281474976710655
theorem or_ok {a : Int} {x : Int} (ha : 0 ≤ a ∧ a ≤ 281474976710655) (hx : 0 ≤ x ∧ x < 48) : (0 ≤ bitop .or .i64 a (shlop .i64 1 x) ∧ bitop .or .i64 a (shlop .i64 1 x) ≤ 281474976710655) ∧ bitop .or .i64 a (shlop .i64 1 x) ≠ 0 := by
 obtain ⟨n, rfl⟩ : ∃ n : Nat, a = n := ⟨a.toNat, by omega⟩
 obtain ⟨k, rfl⟩ : ∃ k : Nat, x = k := ⟨x.toNat, by omega⟩
 have hk : k < 48 := by omega
 have h1 : 2 ^ k < 2 ^ 48 := Nat.pow_lt_pow_right (by omega) hk
 have hn : n < 2 ^ 48 := by omega
 rw [shl_one hk, or_nat hn h1]
 have h2 : n ||| 2 ^ k < 2 ^ 48 := Nat.or_lt_two_pow hn h1
 have h3 : n ||| 2 ^ k ≠ 0 := fun e => by
  have := congrArg (fun z => z.testBit k) e
  simp at this
 omega
theorem orAt_ok {rows : List Int} (h : RowsOK rows) {y : Nat} (hy : y < 24) {x : Int} (hx : 0 ≤ x ∧ x < 48) : RowsOK (orAt rows y x) ∧ (orAt rows y x).any (fun r => decide (r ≠ 0)) = true := by
 have hg : rows.getD y 0 ∈ rows := by
  rw [List.getD_eq_getElem?_getD, List.getElem?_eq_getElem (by rw [h.len]; exact hy)]
  exact List.getElem_mem _
 obtain ⟨h1, h2⟩ := or_ok (h.ok _ hg) hx
 refine ⟨⟨by rw [orAt_len, h.len], fun r hr => ?_⟩, ?_⟩
 ·unfold orAt at hr
  rcases List.mem_or_eq_of_mem_set hr with hr | rfl
  ·exact h.ok r hr
  ·exact h1
 ·rw [List.any_eq_true]
  refine ⟨bitop .or .i64 (rows.getD y 0) (shlop .i64 1 x), ?_, by simpa using h2⟩
  unfold orAt
  rw [List.mem_iff_getElem?]
  exact ⟨y, by rw [List.getElem?_set_self (by rw [h.len]; exact hy)]⟩
theorem cellS_ok (x : A5) (y k : Nat) {rows : List Int} (h : RowsOK rows) : RowsOK (cellS x y k rows) ∧ (cellS x y k rows).any (fun r => decide (r ≠ 0)) = true := by
 have b1 := pickS_bd (c := x.b) (n := 24) (by omega)
 have b2 := pickS_bd (c := x.a) (n := 48) (by omega)
 unfold cellS
 refine orAt_ok h (by omega) ?_
 rw [Int.tmod_eq_emod_of_nonneg (by omega)]
 omega
theorem rowsK_ok (x : A5) (y : Nat) : ∀ (k : Nat) (r : List Int), RowsOK r → RowsOK (rowsK x y k r) ∧ (0 < k → (rowsK x y k r).any (fun r => decide (r ≠ 0)) = true)
 | 0, r, h => ⟨h, fun e => by omega⟩
 | k + 1, r, h => by
  rw [rowsK_succ]
  have := cellS_ok x y k (rowsK_ok x y k r h).1
  exact ⟨this.1, fun _ => this.2⟩
theorem rowsY_ok (x : A5) (n : Nat) (hn : 0 < n) : ∀ y : Nat, RowsOK (rowsY x n y) ∧ (0 < y → (rowsY x n y).any (fun r => decide (r ≠ 0)) = true)
 | 0 => ⟨⟨by simp [rowsY], fun r hr => by simp [rowsY] at hr; omega⟩, fun e => by omega⟩
 | y + 1 => by
  rw [rowsY_succ]
  have := rowsK_ok x y n _ (rowsY_ok x n hn y).1
  exact ⟨this.1, fun _ => this.2 hn⟩
theorem seeRows_ok (x : A5) : RowsOK (seeRows x) ∧ (seeRows x).any (fun r => decide (r ≠ 0)) = true := by
 have b1 := pickS_bd (c := x.b.tdiv 24) (n := 3) (by omega)
 have b2 := pickS_bd (c := x.a.tdiv 48) (n := 3) (by omega)
 have b3 := pickS_bd (c := x.b) (n := 24) (by omega)
 have b4 := pickS_bd (c := x.c) (n := 48) (by omega)
 have h := rowsY_ok x (pickS (x.a.tdiv 48) 3 + 1).toNat (by omega) (pickS (x.b.tdiv 24) 3 + 1).toNat
 unfold seeRows
 split
 ·exact orAt_ok h.1 (by omega) (by omega)
 ·exact ⟨h.1, h.2 (by omega)⟩
theorem seeS_ok (x : A5) : okB (seeS x) = true := by
 obtain ⟨h1, h2⟩ := seeRows_ok x
 have b1 := pickS_bd (c := x.c) (n := 3000) (by omega)
 have b2 := pickS_bd (c := x.d) (n := 5000) (by omega)
 have b3 := pickS_bd (c := x.e) (n := 40) (by omega)
 have b4 := pickS_bd (c := x.e.tdiv 40) (n := 51) (by omega)
 have ha : areaB (seeRows x) = true := by
  unfold areaB
  rw [h1.len, Bool.and_eq_true]
  refine ⟨rfl, List.all_eq_true.2 fun r hr => ?_⟩
  exact (inB_iff _ _ _).2 (h1.ok r hr)
 unfold okB plainB restG limB partsB manyB centsB seeS
 simp only [ha, h2]
 simp [inB_iff]
 omega
theorem seeS_size (x : A5) {d : Int} (hd : d ≤ 4) : sizeG (seeS x) d = some 1 := by
 rw [sizeG_eq, seeS_ok, decide_eq_false (by omega)]
 rfl
/-! goals with parts -/
def zero5 : A5 := ⟨0, 0, 0, 0, 0⟩
def y5 (x : List A5) (i : Int) : A5 := if i < x.length then x.getD i.toNat zero5 else zero5
structure KidSt where
 kids : List Goal
 cents : List Int
 used : Int
 count : Int
/-- the parts, so many -/
def kidsN (rec : Int → Int → Goal × Int × Int) (y : A5) (at_ most : Int) : Nat → KidSt
 | 0 => ⟨[], [], 1, 1⟩
 | i + 1 =>
  let s := kidsN rec y at_ most i
  let r := rec (at_ + s.used) (most - s.count - max 0 (1 - (i : Int)))
  ⟨s.kids ++ [r.1], s.cents ++ [pickS (IntKind.i64.wrap (y.c + IntKind.i64.wrap ((i : Int) * y.d))) 1000], s.used + r.2.1, s.count + r.2.2⟩
/-- does it go on? -/
def goB (rec : Int → Int → Goal × Int × Int) (y : A5) (at_ most many : Int) (i : Nat) : Bool := decide ((i : Int) < many) && (decide ((i : Int) < 2) || decide ((kidsN rec y at_ most i).count < most))
def endI (rec : Int → Int → Goal × Int × Int) (y : A5) (at_ most many : Int) : Nat → Nat → Nat
 | 0, i => i
 | f + 1, i => if goB rec y at_ most many i then endI rec y at_ most many f (i + 1) else i
def kindS (j : Nat) (x : List A5) (at_ most : Int) : Int :=
 if j = 0 ∨ most < 2 ∨ (x.length : Int) ≤ at_ + 1 ∨ 5 ≤ 1 + pickS ((y5 x at_).a.tdiv 144) 6 ∧ most < 3 then 1 else 1 + pickS ((y5 x at_).a.tdiv 144) 6
def goalsS : Nat → List A5 → Int → Int → Goal × Int × Int
 | 0, x, at_, most => (seeS (y5 x at_), 1, 1)
 | j + 1, x, at_, most =>
  let y := y5 x at_
  let next := y5 x (at_ + 1)
  let k := kindS (j + 1) x at_ most
  if k = 2 then (⟨2, [], 0, 0, 1 + pickS y.b 8, 0, false, 0, 0, 1 + pickS y.c 3000, [], [seeS next]⟩, 2, 2)
  else if k = 3 then (⟨3, [], pickS y.e 3000, 0, 0, 0, false, 1 + pickS y.b 4, 1 + pickS y.c 4, pickS y.d (1440 * (1 + pickS y.b 4) + 1), [], [seeS next]⟩, 2, 2)
  else if k = 4 then (⟨4, [], 0, 0, 0, 0, false, 0, 0, pickS y.b 3000, [], [seeS next]⟩, 2, 2)
  else if k = 5 ∨ k = 6 then
   let s := kidsN (goalsS j x) y at_ most (endI (goalsS j x) y at_ most (2 + pickS y.b 3) 4 0)
   (⟨k, [], 0, 0, 0, 0, false, 0, 0, 0, if k = 6 then s.cents else [], s.kids⟩, s.used, s.count)
  else (seeS y, 1, 1)
def goalS (x : List A5) : Goal := (goalsS 3 x 0 9).1
end Go.SX

/-
 Plain law: the goals that integers determine are valid.
-/
namespace Go.SX
theorem sizeL_app : ∀ (l : List Goal) (k : Goal) (d a b : Int), sizeL l d = some a → sizeG k d = some b → sizeL (l ++ [k]) d = some (a + b)
 | [], k, d, a, b, h1, h2 => by
  rw [sizeL] at h1; injection h1 with h1
  rw [List.nil_append, sizeL, h2]
  simp only [sizeL]
  congr 1; omega
 | x :: l, k, d, a, b, h1, h2 => by
  rw [sizeL] at h1
  rw [List.cons_append, sizeL]
  cases hx : sizeG x d with
  | none => rw [hx] at h1; cases h1
  | some m =>
   rw [hx] at h1
   dsimp only at h1 ⊢
   cases hl : sizeL l d with
   | none => rw [hl] at h1; cases h1
   | some c =>
    rw [hl] at h1
    injection h1 with h1
    rw [sizeL_app l k d c b hl h2]
    dsimp only
    congr 1; omega
/-- what a reckoning of goals gives -/
structure GoalOK (j : Nat) (most : Int) (r : Goal × Int × Int) : Prop where
 size : sizeG r.1 (4 - j) = some r.2.2
 used : r.2.1 = r.2.2
 pos : 1 ≤ r.2.2
 le : r.2.2 ≤ most
 kind : 1 ≤ r.1.kind ∧ r.1.kind ≤ 6
structure KidOK (j : Nat) (most : Int) (i : Nat) (s : KidSt) : Prop where
 kl : s.kids.length = i
 cl : s.cents.length = i
 size : sizeL s.kids (4 - j) = some (s.count - 1)
 used : s.used = s.count
 low : 1 ≤ s.count ∧ (i : Int) + 1 ≤ s.count
 high : s.count + (if i ≤ 1 then 1 else 0) ≤ most
 cents : ∀ c ∈ s.cents, 0 ≤ c ∧ c ≤ 1000000000
 kinds : ∀ k ∈ s.kids, 1 ≤ k.kind ∧ k.kind ≤ 6
theorem kid_start {rec : Int → Int → Goal × Int × Int} {y : A5} {at_ most : Int} {j : Nat} (hm : 3 ≤ most) : KidOK j most 0 (kidsN rec y at_ most 0) := by
 refine ⟨rfl, rfl, by simp [kidsN, sizeL], rfl, by simp [kidsN], ?_, fun c h => (by cases h), fun c h => (by cases h)⟩
 simp [kidsN]; omega
theorem kid_step {rec : Int → Int → Goal × Int × Int} {y : A5} {at_ most many : Int} {j : Nat} (hm : 3 ≤ most) (hr : ∀ (a m : Int), 1 ≤ m → a + m ≤ at_ + most → at_ < a → GoalOK j m (rec a m)) {i : Nat} (h : KidOK j most i (kidsN rec y at_ most i)) (hg : goB rec y at_ most many i = true) : KidOK j most (i + 1) (kidsN rec y at_ most (i + 1)) := by
 unfold goB at hg
 simp only [Bool.and_eq_true, Bool.or_eq_true, decide_eq_true_eq] at hg
 have hh := h.high
 have hu := h.used
 have hlo := h.low
 have hone : 1 ≤ most - (kidsN rec y at_ most i).count - max 0 (1 - (i : Int)) := by
  rcases Nat.lt_or_ge i 1 with h0 | h0
  ·obtain rfl : i = 0 := by omega
   have : (kidsN rec y at_ most 0).count = 1 := rfl
   omega
  ·rcases Nat.lt_or_ge i 2 with h1 | h1
   ·rw [if_pos (by omega)] at hh; omega
   ·rcases hg.2 with h2 | h2
    ·omega
    ·omega
 have hk := hr (at_ + (kidsN rec y at_ most i).used) (most - (kidsN rec y at_ most i).count - max 0 (1 - (i : Int))) hone (by omega) (by omega)
 have hp := hk.pos
 have hl := hk.le
 refine ⟨by simp [kidsN, h.kl], by simp [kidsN, h.cl], ?_, ?_, ?_, ?_, fun c hc => ?_, fun k hc => ?_⟩
 ·simp only [kidsN]
  rw [sizeL_app _ _ _ _ _ h.size hk.size]
  congr 1; omega
 ·have := hk.used
  simp only [kidsN]; omega
 ·simp only [kidsN]; omega
 ·have h0 : i = 0 → (kidsN rec y at_ most i).count = 1 := fun e => by subst e; rfl
  simp only [kidsN]
  split <;> omega
 ·simp only [kidsN] at hc
  rcases List.mem_append.1 hc with hc | hc
  ·exact h.cents c hc
  ·rw [List.mem_singleton.1 hc]
   have := pickS_bd (c := IntKind.i64.wrap (y.c + IntKind.i64.wrap ((i : Int) * y.d))) (n := 1000) (by omega)
   omega
 ·simp only [kidsN] at hc
  rcases List.mem_append.1 hc with hc | hc
  ·exact h.kinds k hc
  ·rw [List.mem_singleton.1 hc]; exact hk.kind
/-- so many parts there are in the end -/
theorem kid_end {rec : Int → Int → Goal × Int × Int} {y : A5} {at_ most many : Int} {j : Nat} (hm : 3 ≤ most) (hmany : 2 ≤ many ∧ many ≤ 4) (hr : ∀ (a m : Int), 1 ≤ m → a + m ≤ at_ + most → at_ < a → GoalOK j m (rec a m)) :
  ∃ e, endI rec y at_ most many 4 0 = e ∧ 2 ≤ e ∧ e ≤ 4 ∧ KidOK j most e (kidsN rec y at_ most e) := by
 have key : ∀ f i, KidOK j most i (kidsN rec y at_ most i) → i + f = 4 → ∃ e, endI rec y at_ most many f i = e ∧ i ≤ e ∧ e ≤ 4 ∧ KidOK j most e (kidsN rec y at_ most e) ∧ (e < 4 → goB rec y at_ most many e = false) := by
  intro f
  induction f with
  | zero => intro i h hi; exact ⟨i, rfl, Nat.le_refl _, by omega, h, fun h => by omega⟩
  | succ f ih =>
   intro i h hi
   rw [endI]
   cases hg : goB rec y at_ most many i with
   | false => exact ⟨i, rfl, Nat.le_refl _, by omega, h, fun _ => hg⟩
   | true =>
    obtain ⟨e, h1, h2, h3⟩ := ih (i + 1) (kid_step hm hr h hg) (by omega)
    exact ⟨e, by simpa using h1, by omega, h3⟩
 obtain ⟨e, h1, h2, h3, h4, h5⟩ := key 4 0 (kid_start hm) rfl
 refine ⟨e, h1, ?_, h3, h4⟩
 rcases Nat.lt_or_ge e 2 with hlt | hge
 ·have := h5 (by omega)
  unfold goB at this
  rw [decide_eq_true (show (e : Int) < many by omega), decide_eq_true (show (e : Int) < 2 by omega)] at this
  cases this
 ·exact hge
theorem kindS_bd (j : Nat) (x : List A5) (at_ most : Int) : 1 ≤ kindS j x at_ most ∧ kindS j x at_ most ≤ 6 ∧ (kindS j x at_ most ≠ 1 → j ≠ 0 ∧ 2 ≤ most ∧ at_ + 1 < x.length) ∧ (5 ≤ kindS j x at_ most → 3 ≤ most) := by
 have := pickS_bd (c := (y5 x at_).a.tdiv 144) (n := 6) (by omega)
 unfold kindS
 split
 ·omega
 ·rename_i h
  simp only [not_or, not_and] at h
  omega
theorem one_kid {k : Goal} {x : A5} (h : k.kids = [seeS x]) : (k.kids.length : Int) = 1 ∧ k.kids.any (fun z => decide ((1 : Int) < z.kind)) = false ∧ k.kids.any (fun z => decide ((3 : Int) < z.kind)) = false := by
 rw [h]; simp [seeS]
theorem goals_ok : ∀ (j : Nat) (x : List A5) (at_ most : Int), j ≤ 3 → 1 ≤ most → GoalOK j most (goalsS j x at_ most)
 | 0, x, at_, most, hj, hm => ⟨by rw [goalsS]; exact seeS_size _ (by omega), rfl, by simp [goalsS], by simp [goalsS]; omega, by simp [goalsS, seeS]⟩
 | j + 1, x, at_, most, hj, hm => by
  obtain ⟨hk1, hk6, hk, hk5⟩ := kindS_bd (j + 1) x at_ most
  have size_one : ∀ g : Goal, okB g = true → (∃ z, g.kids = [seeS z]) → sizeG g (4 - ((j + 1 : Nat) : Int)) = some 2 := fun g h ⟨z, hz⟩ => by
   rw [sizeG_eq, h, decide_eq_false (by omega), hz]
   simp only [Bool.false_or, Bool.not_true, Bool.false_eq_true, if_false]
   rw [sizeL, seeS_size z (by omega)]
   simp [sizeL]
  rw [goalsS]
  dsimp only
  split
  ·rename_i e
   have h2 := (hk (by omega)).2.1
   have b1 := pickS_bd (c := (y5 x at_).b) (n := 8) (by omega)
   have b2 := pickS_bd (c := (y5 x at_).c) (n := 3000) (by omega)
   refine ⟨size_one _ ?_ ⟨_, rfl⟩, rfl, by show (1 : Int) ≤ 2; omega, h2, by simp⟩
   unfold okB plainB restG limB partsB manyB centsB lastK
   simp [inB_iff, seeS]
   omega
  ·split
   ·rename_i e
    have h2 := (hk (by omega)).2.1
    have b1 := pickS_bd (c := (y5 x at_).b) (n := 4) (by omega)
    have b2 := pickS_bd (c := (y5 x at_).c) (n := 4) (by omega)
    have b3 := pickS_bd (c := (y5 x at_).d) (n := 1440 * (1 + pickS (y5 x at_).b 4) + 1) (by omega)
    have b4 := pickS_bd (c := (y5 x at_).e) (n := 3000) (by omega)
    refine ⟨size_one _ ?_ ⟨_, rfl⟩, rfl, by show (1 : Int) ≤ 2; omega, h2, by simp⟩
    unfold okB plainB restG limB partsB manyB centsB lastK
    simp [inB_iff, seeS]
    omega
   ·split
    ·rename_i e
     have h2 := (hk (by omega)).2.1
     have b1 := pickS_bd (c := (y5 x at_).b) (n := 3000) (by omega)
     refine ⟨size_one _ ?_ ⟨_, rfl⟩, rfl, by show (1 : Int) ≤ 2; omega, h2, by simp⟩
     unfold okB plainB restG limB partsB manyB centsB lastK
     simp [inB_iff, seeS]
     omega
    ·split
     ·rename_i e
      have h3 := hk5 (by omega)
      have b1 := pickS_bd (c := (y5 x at_).b) (n := 3) (by omega)
      obtain ⟨e', h4, h5, h6, h7⟩ := kid_end (rec := goalsS j x) (y := y5 x at_) (at_ := at_) (most := most) (many := 2 + pickS (y5 x at_).b 3) (j := j) h3 (by omega) fun a m hm _ _ => goals_ok j x a m (by omega) hm
      rw [h4]
      generalize kidsN (goalsS j x) (y5 x at_) at_ most e' = s at h7 ⊢
      have hlow := h7.low
      have hhi := h7.high
      have hhi : s.count ≤ most := by split at hhi <;> omega
      have hany : s.kids.any (fun z => decide ((6 : Int) < z.kind)) = false := by
       rw [List.any_eq_false]
       intro z hz
       have := (h7.kinds z hz).2
       simp; omega
      have hcents : s.cents.any (fun n => !inB n 0 1000000000) = false := by
       rw [List.any_eq_false]
       intro z hz
       have := h7.cents z hz
       rw [(inB_iff z 0 1000000000).2 this]; simp
      refine ⟨?_, h7.used, by show 1 ≤ s.count; omega, by show s.count ≤ most; omega, by rcases e with e | e <;> rw [e] <;> simp⟩
      show sizeG _ _ = some s.count
      have hok : okB ⟨kindS (j + 1) x at_ most, [], 0, 0, 0, 0, false, 0, 0, 0, if kindS (j + 1) x at_ most = 6 then s.cents else [], s.kids⟩ = true := by
       have hkl := h7.kl
       have hcl := h7.cl
       rcases e with e | e
       ·rw [e]
        unfold okB plainB restG limB partsB manyB centsB lastK
        simp [inB_iff, hany, hkl]
        (repeat' apply And.intro) <;> first | omega | exact fun z hz => (h7.kinds z hz).2
       ·rw [e]
        unfold okB plainB restG limB partsB manyB centsB lastK
        simp [inB_iff, hany, hkl, hcl]
        (repeat' apply And.intro) <;> first | omega | exact fun z hz => h7.cents z hz | exact fun z hz => (h7.kinds z hz).2
      rw [sizeG_eq, hok, decide_eq_false (by omega)]
      simp only [Bool.false_or, Bool.not_true, Bool.false_eq_true, if_false]
      rw [show (4 - ((j + 1 : Nat) : Int) + 1) = 4 - (j : Int) by omega, h7.size]
      dsimp only
      congr 1; omega
     ·exact ⟨seeS_size _ (by omega), rfl, by show (1 : Int) ≤ 1; omega, hm, by simp [seeS]⟩
theorem goal_valid (x : List A5) : validG (goalS x) = true := by
 have h := goals_ok 3 x 0 9 (by omega) (by omega)
 unfold goalS validG
 have hs := h.size
 rw [show (4 - ((3 : Nat) : Int)) = 1 by omega] at hs
 rw [hs]
 have := h.le
 exact decide_eq_true (by omega)
end Go.SX

/-
 Plain: how many goals a goal is, and how deep they lie; when two of them fit in one.
-/
namespace Go.SX
def maxI (a b : Int) : Int := if a ≤ b then b else a
mutual
def manyG : Goal → Int
 | ⟨_, _, _, _, _, _, _, _, _, _, _, kids⟩ => 1 + manyL kids
def manyL : List Goal → Int
 | [] => 0
 | k :: l => manyG k + manyL l
end
mutual
def deepG : Goal → Int
 | ⟨_, _, _, _, _, _, _, _, _, _, _, kids⟩ => deepL kids + 1
def deepL : List Goal → Int
 | [] => 0
 | k :: l => maxI (deepG k) (deepL l)
end
theorem manyG_eq (g : Goal) : manyG g = 1 + manyL g.kids := by cases g; rw [manyG]
theorem deepG_eq (g : Goal) : deepG g = deepL g.kids + 1 := by cases g; rw [deepG]
mutual
/-- every goal of it is of its kind -/
def allOK : Goal → Bool
 | ⟨kind, rows, from_, to_, low, high, clear, days, times, within, cents, kids⟩ => okB ⟨kind, rows, from_, to_, low, high, clear, days, times, within, cents, kids⟩ && allOKL kids
def allOKL : List Goal → Bool
 | [] => true
 | k :: l => allOK k && allOKL l
end
theorem allOK_eq (g : Goal) : allOK g = (okB g && allOKL g.kids) := by cases g; rw [allOK]
theorem maxI_le (a b c : Int) : maxI a b ≤ c ↔ a ≤ c ∧ b ≤ c := by unfold maxI; split <;> omega
mutual
theorem deepG_one : ∀ g : Goal, 1 ≤ deepG g
 | ⟨_, _, _, _, _, _, _, _, _, _, _, kids⟩ => by rw [deepG]; have := deepL_nn kids; omega
theorem deepL_nn : ∀ l : List Goal, 0 ≤ deepL l
 | [] => by simp [deepL]
 | k :: l => by rw [deepL]; have := deepL_nn l; unfold maxI; split <;> omega
end
mutual
theorem size_law : ∀ (g : Goal) (d : Int), sizeG g d = if allOK g = true ∧ d + deepG g ≤ 5 then some (manyG g) else none
  | ⟨kind, rows, from_, to_, low, high, clear, days, times, within, cents, kids⟩, d => by
    have hL := sizeL_law kids (d + 1)
    have hp := deepL_nn kids
    rw [sizeG, allOK, deepG, manyG, hL]
    cases hk : okB ⟨kind, rows, from_, to_, low, high, clear, days, times, within, cents, kids⟩ with
    | false => simp
    | true =>
      by_cases hd : 4 < d
      · rw [if_pos (by simp [hd]), if_neg (by simp; omega)]
      · rw [if_neg (by simp [hd])]
        by_cases hc : allOKL kids = true ∧ (kids = [] ∨ d + 1 + deepL kids ≤ 5)
        · rw [if_pos hc]
          simp only
          rw [if_pos ⟨by simp [hc.1], by
            rcases hc.2 with h | h
            · rw [h]; simp [deepL]; omega
            · omega⟩]
        · rw [if_neg hc]
          simp only
          rw [if_neg (fun h => hc ⟨by simpa using h.1, .inr (by omega)⟩)]
theorem sizeL_law : ∀ (l : List Goal) (d : Int), sizeL l d = if allOKL l = true ∧ (l = [] ∨ d + deepL l ≤ 5) then some (manyL l) else none
  | [], d => by simp [sizeL, allOKL, manyL]
  | k :: l, d => by
    have h1 := size_law k d
    have h2 := sizeL_law l d
    have hk := deepG_one k
    rw [sizeL, h1, allOKL, deepL, manyL, h2]
    by_cases ha : allOK k = true ∧ d + deepG k ≤ 5
    · rw [if_pos ha]
      simp only
      by_cases hb : allOKL l = true ∧ (l = [] ∨ d + deepL l ≤ 5)
      · rw [if_pos hb]
        simp only
        rw [if_pos ⟨by simp [ha.1, hb.1], .inr (by
          have : maxI (deepG k) (deepL l) ≤ 5 - d := (maxI_le _ _ _).2 ⟨by omega, by
            rcases hb.2 with h | h
            · rw [h]; simp [deepL]; omega
            · omega⟩
          omega)⟩]
      · rw [if_neg hb]
        simp only
        rw [if_neg (fun h => hb ⟨by have := h.1; simp at this; exact this.2, .inr (by
          have h3 := h.2
          simp at h3
          have : maxI (deepG k) (deepL l) ≤ 5 - d := by omega
          have := (maxI_le _ _ _).1 this
          omega)⟩)]
    · rw [if_neg ha]
      simp only
      rw [if_neg (fun h => ha ⟨by have := h.1; simp at this; exact this.1, by
        have h3 := h.2
        simp at h3
        have : maxI (deepG k) (deepL l) ≤ 5 - d := by omega
        have := (maxI_le _ _ _).1 this
        omega⟩)]
end
theorem valid_law (g : Goal) : validG g = true ↔ allOK g = true ∧ deepG g ≤ 4 ∧ manyG g ≤ 12 := by
 unfold validG
 rw [size_law]
 by_cases h : allOK g = true ∧ 1 + deepG g ≤ 5
 ·rw [if_pos h]
  simp only [decide_eq_true_eq]
  constructor
  ·intro h2; exact ⟨h.1, by omega, h2⟩
  ·intro h2; exact h2.2.2
 ·rw [if_neg h]
  simp only
  constructor
  ·intro h2; cases h2
  ·intro h2; exact absurd ⟨h2.1, by omega⟩ h
/-- the goals of the law -/
def allOf (a b : Goal) : Goal := ⟨5, [], 0, 0, 0, 0, false, 0, 0, 0, [], [a, b]⟩
def anyOf (a b : Goal) : Goal := ⟨6, [], 0, 0, 0, 0, false, 0, 0, 0, [0, 1], [b, a]⟩
theorem okB_kind2 {g : Goal} (h : okB g = true) : 1 ≤ g.kind ∧ g.kind ≤ 6 := by
 unfold okB at h
 simp only [Bool.and_eq_true, inB_iff] at h
 exact h.1.1.1
theorem okB_two (k : Int) (c : List Int) (hc : (k = 5 ∧ c = []) ∨ (k = 6 ∧ c = [0, 1])) {a b : Goal} (ha : okB a = true) (hb : okB b = true) : okB ⟨k, [], 0, 0, 0, 0, false, 0, 0, 0, c, [a, b]⟩ = true := by
 have h1 := okB_kind2 ha
 have h2 := okB_kind2 hb
 rcases hc with ⟨rfl, rfl⟩ | ⟨rfl, rfl⟩
 ·simp [okB, inB, plainB, restG, limB, partsB, manyB, centsB, lastK]
  omega
 ·simp [okB, inB, plainB, restG, limB, partsB, manyB, centsB, lastK]
  omega
theorem room_law (a b : Goal) (ha : validG a = true) (hb : validG b = true) :
  validG (allOf a b) = (decide (manyG a + manyG b ≤ 11) && decide (max (deepG a) (deepG b) ≤ 3)) ∧ validG (anyOf a b) = (decide (manyG a + manyG b ≤ 11) && decide (max (deepG a) (deepG b) ≤ 3)) := by
 obtain ⟨a1, a2, a3⟩ := (valid_law a).1 ha
 obtain ⟨b1, b2, b3⟩ := (valid_law b).1 hb
 have oa := a1
 have ob := b1
 rw [allOK_eq] at oa ob
 simp only [Bool.and_eq_true] at oa ob
 have pa := deepG_one a
 have pb := deepG_one b
 constructor
 ·rw [Bool.eq_iff_iff, valid_law]
  unfold allOf
  rw [allOK_eq, deepG_eq, manyG_eq, okB_two 5 [] (.inl ⟨rfl, rfl⟩) oa.1 ob.1]
  simp only [allOKL, a1, b1, Bool.and_self, true_and, deepL, manyL, Bool.and_eq_true, decide_eq_true_eq]
  unfold maxI
  split <;> split <;> omega
 ·rw [Bool.eq_iff_iff, valid_law]
  unfold anyOf
  rw [allOK_eq, deepG_eq, manyG_eq, okB_two 6 [0, 1] (.inr ⟨rfl, rfl⟩) ob.1 oa.1]
  simp only [allOKL, a1, b1, Bool.and_self, true_and, deepL, manyL, Bool.and_eq_true, decide_eq_true_eq]
  unfold maxI
  split <;> split <;> omega
end Go.SX

/-
 Plain: the chapter's examples.
-/
namespace Go.SX
set_option maxRecDepth 100000
def seeEx : Goal := ⟨1, [0, 0, 0, 0, 0, 14, 0, 0, 0, 0, 0, 0, 0, 0, 0, 0, 0, 0, 0, 0, 0, 0, 0, 0], 100, 2000, 20, 90, true, 0, 0, 0, [], []⟩
def oEx : Order := ⟨3, 2, seeEx, 500, -1, false, 0, 9000⟩
def wantW : Wd := [111, 114, 100, 101, 114, 32, 51, 32, 98, 121, 32, 50, 32, 102, 111, 114, 32, 53, 48, 48, 32, 103, 114, 111, 117, 112, 32, 110, 111, 110, 101, 32, 112, 108, 97, 105, 110, 32, 107, 110, 111, 119, 110, 32, 48, 32, 100, 117, 101, 32, 57, 48, 48, 48, 32, 58, 32, 115, 101, 101, 32, 97, 116, 32, 53, 32, 49, 32, 51, 32, 102, 114, 111, 109, 32, 49, 48, 48, 32, 116, 111, 32, 50, 48, 48, 48, 32, 115, 117, 110, 32, 50, 48, 32, 116, 111, 32, 57, 48, 32, 99, 108, 101, 97, 114, 32, 46]
def bad1 : Wd := [111, 114, 100, 101, 114, 32, 51, 32, 98, 121, 32, 49, 54]
def bad2 : Wd := [111, 114, 100, 101, 114, 32, 51, 32, 98, 121, 32, 50, 32, 102, 111, 114, 32, 53, 48, 48, 32, 103, 114, 111, 117, 112, 32, 110, 111, 110, 101, 32, 112, 108, 97, 105, 110, 32, 107, 110, 111, 119, 110, 32, 57, 32, 100, 117, 101, 32, 57]
def bad3 : Wd := [111, 114, 100, 101, 114, 32, 51, 32, 98, 121, 32, 50]
theorem ex_print : printS oEx = (wantW, 0) := by kernel_rfl
theorem ex_parse : parseS wantW = (oEx, 29, 0) := by kernel_rfl
theorem ex_bad1 : parseS bad1 = (zeroO, 3, 130) := by kernel_rfl
theorem ex_bad2 : parseS bad2 = (zeroO, 12, 130) := by kernel_rfl
theorem ex_bad3 : parseS bad3 = (zeroO, 4, 130) := by kernel_rfl
theorem ex_tok : (tokensW wantW).length = 29 := by kernel_rfl
theorem ex_valid : validG seeEx = true := by kernel_rfl
theorem ex_ord : ordB oEx = true := by kernel_rfl
theorem ex_ord0 : ordB zeroO = false := by kernel_rfl
theorem ex_goal0 : validG (U.dflt .goal) = false := by kernel_rfl
theorem ex_same : sameO oEx oEx = true := by kernel_rfl
theorem ex_same0 : sameO oEx zeroO = false := by kernel_rfl
end Go.SX

namespace Go.SX
open Go.Proofs
set_option maxHeartbeats 4000000
set_option maxRecDepth 100000
theorem ints13 (a b : List Int) (ha : (a.length : Int) ≤ 9223372036854775807) (hb : (b.length : Int) ≤ 9223372036854775807) : Meets Tryz.prog Dc 50 [lS a, lS b] [] (bS (decide (a = b))) [] := by
 by_cases hlen : a.length = b.length
 rotate_left
 ·rw [decide_eq_false (fun e => hlen (by rw [e]))]
  refine meets_of_gx Ax tab_ok Tryz.func50 (c := _) rfl Tryz.call50 100 ?_
  (repeat' ((conv => whnf); first | refine x0C (eB ?_ rfl) | (exfalso; omega) | refine x0C ?_ | refine spC (fun hb => ?_) fun hb => ?_ | refine nilC (fun hb => ?_) ?_ | refine taC ?_ | refine saC ?_ | exact sdV | refine side_and ?_ ?_ | refine drawX_of mixed ?_))
  all_goals rfl
 ·refine meets_of_gx Ax tab_ok Tryz.func50 (c := _) rfl Tryz.call50 100 ?_
  (repeat' ((conv => whnf); first | (exfalso; omega) | refine x0C ?_ | refine spC (fun hb => ?_) fun hb => ?_ | refine nilC (fun hb => ?_) ?_ | refine taC ?_ | refine saC ?_ | exact sdV | refine side_and ?_ ?_ | refine drawX_of mixed ?_))
  refine loop_up (fun i : Nat => [(5, iS i)]) (fun _ => []) (fun i => i ≤ a.length ∧ a.take i = b.take i) (fun i => a.length - i) 0 ⟨Nat.zero_le _, by simp⟩ (by exact bkI) ?_
  rintro i ⟨hi, he⟩ K hK
  rcases Nat.lt_or_ge i a.length with hlt | hge
  ·have t1 := take_getD (d := Cd.dflt U.int) hlt
   have t2 := take_getD (d := Cd.dflt U.int) (show i < b.length by omega)
   have hs : a.getD (i : Int).toNat (Cd.dflt U.int) = b.getD (i : Int).toNat (Cd.dflt U.int) → a.take (i + 1) = b.take (i + 1) := fun h => by
    rw [t1, t2, he, show a.getD i (Cd.dflt U.int) = b.getD i (Cd.dflt U.int) from h]
   have hn : ¬ a.getD (i : Int).toNat (Cd.dflt U.int) = b.getD (i : Int).toNat (Cd.dflt U.int) → decide (a = b) = false := fun h => decide_eq_false fun e => h (by rw [e])
   (repeat' ((conv => whnf); first | refine x0C (eB ?_ rfl) | (exfalso; omega) | refine hK (i + 1) [] _ _ ⟨⟨by omega, hs (by assumption)⟩⟩ ⟨by omega⟩ (by exact bkI) | refine x0C ?_ | refine spC (fun hb => ?_) fun hb => ?_ | refine nilC (fun hb => ?_) ?_ | refine taC ?_ | refine saC ?_ | exact sdV | refine side_and ?_ ?_ | refine drawX_of mixed ?_))
   all_goals exact (hn (by assumption)).symm
  ·rw [List.take_of_length_le hge, List.take_of_length_le (by omega)] at he
   rw [decide_eq_true he]
   (repeat' ((conv => whnf); first | refine x0C (eB ?_ rfl) | (exfalso; omega) | refine x0C ?_ | refine spC (fun hb => ?_) fun hb => ?_ | refine nilC (fun hb => ?_) ?_ | refine taC ?_ | refine saC ?_ | exact sdV | refine side_and ?_ ?_ | refine drawX_of mixed ?_))
   all_goals rfl
theorem same13 : ∀ (n : Nat) (a b : Goal), SizeOf.sizeOf a ≤ n → GAll a → GAll b → Meets Tryz.prog Dc 24 [goalA a, goalA b] [] (bS (sameG a b)) []
 | 0, a, b, hn, _, _ => by cases a; simp at hn
 | n + 1, a, b, hn, hG, hH => by
  have hG' := (GAll_iff a).1 hG
  have hH' := (GAll_iff b).1 hH
  have hk : ∀ x ∈ a.kids, SizeOf.sizeOf x ≤ n := fun x hx => by
   have h1 := List.sizeOf_lt_of_mem hx
   have h2 : SizeOf.sizeOf a.kids < SizeOf.sizeOf a := by cases a; simp; omega
   omega
  have h1 := bare_meets a b true true
  have h2 := ints13 a.rows b.rows hG'.1.rows hH'.1.rows
  have h3 := ints13 a.cents b.cents hG'.1.cents hH'.1.cents
  have h4 : ∀ x ∈ a.kids, ∀ y ∈ b.kids, Meets Tryz.prog Dc 24 [goalA x, goalA y] [] (bS (sameG x y)) [] := fun x hx y hy => same13 n x y (hk x hx) (GAllL_mem hG'.2 hx) (GAllL_mem hH'.2 hy)
  have hal := hG'.1.kids
  have hbl := hH'.1.kids
  clear hG hH hG' hH' hk hn
  refine meets_of_gx Ax tab_ok Tryz.func24 (c := _) rfl Tryz.call24 300 ?_
  (repeat' ((conv => whnf); first | refine x0C (eB ?_ rfl) | (exfalso; omega) | refine cpC (h1) ?_ | refine dpC (h1) ?_ | refine cpC (h2) ?_ | refine dpC (h2) ?_ | refine cpC (h3) ?_ | refine dpC (h3) ?_ | refine x0C ?_ | refine spC (fun hb => ?_) fun hb => ?_ | refine nilC (fun hb => ?_) ?_ | refine taC ?_ | refine saC ?_ | exact sdV | refine side_and ?_ ?_ | refine drawX_of mixed ?_))
  case refine_1 => clear h1 h2 h3 h4; rw [sameG_eq]; simp [plainB, hb]
  case refine_2.refine_1 => clear h1 h2 h3 h4; rw [sameG_eq]; simp only [bareB, Bool.true_or, Bool.and_true] at hb; simp_all [plainB]
  case refine_2.refine_2.refine_1 => clear h1 h2 h3 h4; rw [sameG_eq]; simp [hb]
  case refine_2.refine_2.refine_2.refine_1 => clear h1 h2 h3 h4; rw [sameG_eq]; simp [hb]
  case refine_2.refine_2.refine_2.refine_2.refine_1 => clear h1 h2 h3 h4; rw [sameG_eq, sameL_len (by omega)]; simp
  clear h1 h2 h3
  rename_i e1 e2 e3 e4
  have hlen : a.kids.length = b.kids.length := by omega
  have hsp : sameG a b = sameL a.kids b.kids := by
   rw [sameG_eq]
   simp only [bareB, Bool.true_or, Bool.and_true] at e2
   simp_all [plainB]
  rw [hsp]
  clear hsp e1 e2 e3 e4 hb
  conv => whnf
  refine loop_up (fun i : Nat => [(5, iS i)]) (fun _ => []) (fun i => i ≤ a.kids.length ∧ ∀ j, j < i → sameG (a.kids.getD j (U.dflt .goal)) (b.kids.getD j (U.dflt .goal)) = true) (fun i => a.kids.length - i) 0 ⟨Nat.zero_le _, fun j hj => absurd hj (Nat.not_lt_zero _)⟩ (by exact bkI) ?_
  rintro i ⟨hi, he⟩ K hK
  rcases Nat.lt_or_ge i a.kids.length with hlt | hge
  ·have hm : a.kids.getD (i : Int).toNat (Cd.dflt U.goal) ∈ a.kids := List.mem_of_getElem? (getD_some (d := Cd.dflt U.goal) hlt)
   have hm2 : b.kids.getD (i : Int).toNat (Cd.dflt U.goal) ∈ b.kids := List.mem_of_getElem? (getD_some (d := Cd.dflt U.goal) (by omega))
   have hx := h4 _ hm _ hm2
   clear h4
   cases hs : sameG (a.kids.getD (i : Int).toNat (Cd.dflt U.goal)) (b.kids.getD (i : Int).toNat (Cd.dflt U.goal)) with
   | true =>
    rw [hs] at hx
    have he' : ∀ j, j < i + 1 → sameG (a.kids.getD j (U.dflt .goal)) (b.kids.getD j (U.dflt .goal)) = true := fun j hj => by
     rcases Nat.lt_or_ge j i with h1 | h1
     ·exact he j h1
     ·obtain rfl : j = i := by omega
      exact hs
    (repeat' ((conv => whnf); first | refine x0C (eB ?_ rfl) | (exfalso; omega) | refine cpC (hx) ?_ | refine dpC (hx) ?_ | refine hK (i + 1) [some 0, some 1] _ _ ⟨⟨by omega, he'⟩⟩ ⟨by omega⟩ (by exact bkI) | refine x0C ?_ | refine spC (fun hb => ?_) fun hb => ?_ | refine nilC (fun hb => ?_) ?_ | refine taC ?_ | refine saC ?_ | exact sdV | refine side_and ?_ ?_ | refine drawX_of mixed ?_))
   | false =>
    rw [hs] at hx
    rw [sameL_at (d := U.dflt .goal) hlen hlt hs]
    (repeat' ((conv => whnf); first | refine x0C (eB ?_ rfl) | (exfalso; omega) | refine cpC (hx) ?_ | refine dpC (hx) ?_ | refine x0C ?_ | refine spC (fun hb => ?_) fun hb => ?_ | refine nilC (fun hb => ?_) ?_ | refine taC ?_ | refine saC ?_ | exact sdV | refine side_and ?_ ?_ | refine drawX_of mixed ?_))
    all_goals rfl
  ·rw [sameL_all (d := U.dflt .goal) hlen fun j hj => he j (by omega)]
   (repeat' ((conv => whnf); first | refine x0C (eB ?_ rfl) | (exfalso; omega) | refine x0C ?_ | refine spC (fun hb => ?_) fun hb => ?_ | refine nilC (fun hb => ?_) ?_ | refine taC ?_ | refine saC ?_ | exact sdV | refine side_and ?_ ?_ | refine drawX_of mixed ?_))
   all_goals rfl
theorem rsameO (a b : Order) (hG : GAll a.goal) (hH : GAll b.goal) : Meets Tryz.prog Dc 21 [ordA a, ordA b] [] (bS (sameO a b)) [] := by
 have h := same13 _ a.goal b.goal (Nat.le_refl _) hG hH
 refine meets_of_gx Ax tab_ok Tryz.func21 (c := _) rfl Tryz.call21 300 ?_
 (repeat' ((conv => whnf); first | refine x0C (eB ?_ rfl) | (exfalso; omega) | refine cpC (h) ?_ | refine dpC (h) ?_ | refine x0C ?_ | refine spC (fun hb => ?_) fun hb => ?_ | refine nilC (fun hb => ?_) ?_ | refine taC ?_ | refine saC ?_ | exact sdV | refine side_and ?_ ?_ | refine drawX_of mixed ?_))
 all_goals clear h
 all_goals (first | (simp_all [sameO]; done) | (simp_all [sameO]; omega) | (simp_all [sameO]; grind))
/-! the law's own -/

theorem lsee : Meets Tryz.prog Dc 35 [] [] (goalA seeEx) [] := by
 refine meets_of_gx Ax tab_ok Tryz.func35 (c := _) rfl Tryz.call35 200 ?_
 (repeat' ((conv => whnf); first | (exfalso; omega) | (refine end_fn [] (.inr rfl) ?_ ?_ rfl rfl; (focus exact vwV); exact hsV) | refine x0C ?_ | refine spC (fun hb => ?_) fun hb => ?_ | refine nilC (fun hb => ?_) ?_ | refine taC ?_ | refine saC ?_ | exact sdV | refine side_and ?_ ?_ | refine drawX_of mixed ?_))
theorem cloneI (l : List Int) (hl : (l.length : Int) ≤ 1000000) : Meets Tryz.prog Dc 47 [lS l] [] (.slice 0 0 1 0 l.length) [.rows U.int l] := by
 refine meets_of_gx Ax tab_ok Tryz.func47 (c := _) rfl Tryz.call47 60 ?_
 (repeat' ((conv => whnf); first | (exfalso; omega) | (subst hb; (refine end_fn [none] (.inr rfl) ?_ ?_ rfl rfl; (focus exact vwV); exact hsV)) | (refine end_fn [some 1] (.inr rfl) ?_ ?_ rfl rfl; (focus exact vwV); exact hsV) | refine x0C ?_ | refine spC (fun hb => ?_) fun hb => ?_ | refine nilC (fun hb => ?_) ?_ | refine taC ?_ | refine saC ?_ | exact sdV | refine side_and ?_ ?_ | refine drawX_of mixed ?_))
end Go.SX
