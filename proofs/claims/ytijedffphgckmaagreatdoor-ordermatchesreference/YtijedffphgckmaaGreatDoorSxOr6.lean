/-
  Plain: orders are read as they are written; what is read is written so.
-/
import Derived.Test.YtijedffphgckmaaGreatDoorSxUj1
import Derived.Test.YtijedffphgckmaaGreatDoorSxUd4
import Derived.Test.YtijedffphgckmaaGreatDoorSxUb9
import Derived.Test.YtijedffphgckmaaGreatDoorSxTq0
import Derived.Test.YtijedffphgckmaaGreatDoorSxUf0
set_option linter.unusedVariables false
set_option linter.unusedSimpArgs false
namespace Go.SX
theorem y0y {ws : List Wd} {a m a' m' n : Int} (h0 : 0 ≤ a) (h1 : a ≤ ws.length) (h : q91 ws a m = .ok n a' m') : q5g ws a [if n < 0 then q36 else q0a n] a' ∧ m' = m ∧ -1 ≤ n ∧ n ≤ 15 := by
 unfold q91 at h
 split at h
 ·rename_i e
  injection h with e1 e2 e3
  subst e1 e2 e3
  exact ⟨.one h0 h1 e (by decide), rfl, by omega, by omega⟩
 ·obtain ⟨r, e, b1, b2⟩ := q4i h0 h1 h
  rw [if_neg (by omega)]
  exact ⟨r, e, by omega, b2⟩
theorem y02 {ws : List Wd} {o : q2c} {a' m' : Int} (h : q9h ws 0 11 = .ok o a' m') : ws = q4k o ∧ z73 o = true ∧ a' = ws.length := by
 unfold q9h at h
 replace h := q0l h
 obtain ⟨_, a1, m1, h2, h⟩ := h
 obtain ⟨r1, rfl⟩ := q2e [q0w] (by decide) (by omega) (by omega) h2
 replace h := q0l h
 obtain ⟨id, a2, m2, h2, h⟩ := h
 obtain ⟨r2, rfl, b1, b2⟩ := q4i r1.lo' r1.hi h2
 replace h := q0l h
 obtain ⟨_, a3, m3, h2, h⟩ := h
 obtain ⟨r3, rfl⟩ := q2e [q6s] (by decide) r2.lo' r2.hi h2
 replace h := q0l h
 obtain ⟨ow, a4, m4, h2, h⟩ := h
 obtain ⟨r4, rfl, b3, b4⟩ := q4i r3.lo' r3.hi h2
 replace h := q0l h
 obtain ⟨_, a5, m5, h2, h⟩ := h
 obtain ⟨r5, rfl⟩ := q2e [q2n] (by decide) r4.lo' r4.hi h2
 replace h := q0l h
 obtain ⟨pr, a6, m6, h2, h⟩ := h
 obtain ⟨r6, rfl, b5, b6⟩ := q4i r5.lo' r5.hi h2
 replace h := q0l h
 obtain ⟨_, a7, m7, h2, h⟩ := h
 obtain ⟨r7, rfl⟩ := q2e [q0x] (by decide) r6.lo' r6.hi h2
 replace h := q0l h
 obtain ⟨gr, a8, m8, h2, h⟩ := h
 obtain ⟨r8, rfl, b7, b8⟩ := y0y r7.lo' r7.hi h2
 replace h := q0l h
 obtain ⟨ur, a9, m9, h2, h⟩ := h
 obtain ⟨r9, rfl⟩ := zr2 (by decide) (by decide) r8.lo' r8.hi h2
 replace h := q0l h
 obtain ⟨_, a10, m10, h2, h⟩ := h
 obtain ⟨r10, rfl⟩ := q2e [q19] (by decide) r9.lo' r9.hi h2
 replace h := q0l h
 obtain ⟨kn, a11, m11, h2, h⟩ := h
 obtain ⟨r11, rfl, b9, b10⟩ := q4i r10.lo' r10.hi h2
 replace h := q0l h
 obtain ⟨_, a12, m12, h2, h⟩ := h
 obtain ⟨r12, rfl⟩ := q2e [q2w] (by decide) r11.lo' r11.hi h2
 replace h := q0l h
 obtain ⟨du, a13, m13, h2, h⟩ := h
 obtain ⟨r13, rfl, b11, b12⟩ := q4i r12.lo' r12.hi h2
 replace h := q0l h
 obtain ⟨_, a14, m14, h2, h⟩ := h
 obtain ⟨r14, rfl⟩ := q2e [q1a] (by decide) r13.lo' r13.hi h2
 replace h := q0l h
 obtain ⟨g, a15, m15, h2, h⟩ := h
 obtain ⟨r15, hk, hm15, hs⟩ := zk9 ws 4 5 1 (by omega) _ _ _ _ _ r14.lo' r14.hi (by omega) h2
 replace h := q0l h
 obtain ⟨_, a16, m16, h2, h⟩ := h
 obtain ⟨r16, rfl⟩ := q2e [q3z] (by decide) r15.lo' r15.hi h2
 split at h
 ·cases h
 ·rename_i hlt
  injection h with e1 e2 e3
  subst e1 e2 e3
  have hend : a16 = ws.length := by have := r16.hi; omega
  have r := r1.app (r2.app (r3.app (r4.app (r5.app (r6.app (r7.app (r8.app (r9.app (r10.app (r11.app (r12.app (r13.app (r14.app (r15.app r16))))))))))))))
  have hd := r.eq
  rw [hend, show ((ws.length : Nat) : Int).toNat = ws.length from rfl, List.drop_length, List.append_nil] at hd
  refine ⟨?_, ?_, hend⟩
  ·rw [show ws = ws.drop (0 : Int).toNat from rfl, hd, zx7]
   rfl
  ·simp only [z73, Bool.and_eq_true, q0f]
   refine ⟨⟨⟨⟨⟨⟨⟨b1, b2⟩, ⟨b3, b4⟩⟩, ⟨b5, b6⟩⟩, ⟨b7, b8⟩⟩, ⟨b9, by omega⟩⟩, ⟨b11, b12⟩⟩, ?_⟩
   unfold q2r
   rw [hs]
   simp; omega
theorem z8a {s : Wd} {o : q2c} {n e : Int} (h : q39 s = (o, n, e)) (he : e = 0) : z73 o = true ∧ q4y o = (s, 0) ∧ n = (q0j s).length := by
 subst he
 unfold q39 at h
 split at h
 ·simp at h
 ·split at h
  ·rename_i o' a m hp
   injection h with e1 e2
   injection e2 with e2 _
   subst e1 e2
   obtain ⟨h1, h2, h3⟩ := y02 hp
   refine ⟨h2, ?_, h3⟩
   unfold q4y
   rw [if_pos h2, ← h1, z8e]
  ·simp at h
theorem zw2 {s : Wd} {o : q2c} {n e : Int} (h : q39 s = (o, n, e)) (he : e ≠ 0) : o = q70 ∧ e = 130 := by
 unfold q39 at h
 split at h
 ·injection h with e1 e2; injection e2 with e2 e3; exact ⟨e1.symm, e3.symm⟩
 ·split at h
  ·injection h with e1 e2; injection e2 with e2 e3; exact absurd e3.symm he
  ·injection h with e1 e2; injection e2 with e2 e3; exact ⟨e1.symm, e3.symm⟩
end Go.SX
namespace Go.SX
def endR {α : Type} : Rs α → Int
 | .ok _ a _ => a
 | .no a _ => a
structure y7n (ws ws' : List Wd) (n : Int) : Prop where
 below : ∀ i : Int, 0 ≤ i → i < n → q0y ws' i = q0y ws i
 here : q0y ws' n = q0y ws n ∨ q0y ws' n = [32]
theorem y7n.cases {ws ws' : List Wd} {n a : Int} (h : y7n ws ws' n) (h0 : 0 ≤ a) (h1 : a ≤ n) : q0y ws' a = q0y ws a ∨ (a = n ∧ q0y ws' a = [32]) := by
 rcases Int.lt_or_eq_of_le h1 with h2 | h2
 ·exact .inl (h.below a h0 h2)
 ·subst h2
  rcases h.here with h3 | h3
  ·exact .inl h3
  ·exact .inr ⟨rfl, h3⟩
theorem z99 {ws : List Wd} {lo hi a m n b k : Int} (h : q76 ws lo hi a m = .ok n b k) : lo ≤ n ∧ n ≤ hi := by
 unfold q76 at h
 split at h
 ·split at h
  ·rename_i hb; injection h with h; subst h; exact hb
  ·cases h
 ·cases h
def qo5 (ws : List Wd) (T : q2c → Int → Int → Rs q2c) (a m : Int) : Rs q2c :=
 (q1t ws [q0w] a m).bind fun _ a m => (q76 ws 0 63 a m).bind fun id a m =>
 (q1t ws [q6s] a m).bind fun _ a m => (q76 ws 0 15 a m).bind fun owner a m =>
 (q1t ws [q2n] a m).bind fun _ a m => (q76 ws 0 1000000000 a m).bind fun price a m =>
 (q1t ws [q0x] a m).bind fun _ a m => (q91 ws a m).bind fun group a m =>
 (qm1 ws q1j q23 a m).bind fun urgent a m =>
 (q1t ws [q19] a m).bind fun _ a m => (q76 ws 0 999999 a m).bind fun known a m =>
 (q1t ws [q2w] a m).bind fun _ a m => (q76 ws (known + 1) 1000000 a m).bind fun due a m =>
 (q1t ws [q1a] a m).bind fun _ a m => (q50 ws 4 5 1 a m).bind fun goal a m =>
 (q1t ws [q3z] a m).bind fun _ a m => T ⟨id, owner, goal, price, group, urgent, known, due⟩ a m
def yd7 (ws : List Wd) (o : q2c) (a m : Int) : Rs q2c := if a < ws.length then .no a m else .ok o a m
theorem zw8 (ws : List Wd) (a m : Int) : q9h ws a m = qo5 ws (yd7 ws) a m := rfl
theorem zj5 {α β γ : Type} (x : Rs α) (f : α → Int → Int → Rs β) (g : β → Int → Int → Rs γ) : (x.bind f).bind g = x.bind fun y a m => (f y a m).bind g := by cases x <;> rfl
theorem z8s (ws : List Wd) (T : q2c → Int → Int → Rs q2c) (a m : Int) : qo5 ws T a m = (qo5 ws (fun o a m => .ok o a m) a m).bind T := by
 simp only [qo5, zj5]
end Go.SX
namespace Go.SX
def q6g (Q : Wd → Prop) (l : List Wd) : Prop := ∀ w ∈ l, Q w
theorem q6g.nil {Q : Wd → Prop} : q6g Q [] := fun w h => by cases h
theorem q6g.cons {Q : Wd → Prop} {w : Wd} {l : List Wd} (h : Q w) (hl : q6g Q l) : q6g Q (w :: l) := fun x hx => by
 rcases List.mem_cons.1 hx with rfl | hx
 ·exact h
 ·exact hl x hx
theorem q6g.app {Q : Wd → Prop} {a b : List Wd} (h : q6g Q a) (h' : q6g Q b) : q6g Q (a ++ b) := fun x hx => by
 rcases List.mem_append.1 hx with hx | hx
 ·exact h x hx
 ·exact h' x hx
theorem z5p (a b : List Wd) : Go.Lib.joinTail [32] (a ++ b) = Go.Lib.joinTail [32] a ++ Go.Lib.joinTail [32] b := by
 unfold Go.Lib.joinTail
 rw [List.map_append, List.flatten_append]
end Go.SX
namespace Go.SX
open Go.Proofs
set_option maxHeartbeats 400000000
set_option maxRecDepth 100000
theorem zh0 (l : List Wd) (i : Nat) (h : i < l.length) : q6c (l.take (i + 1)) = q6c (l.take i) ++ (if i = 0 then [] else [32]) ++ l.getD (i : Int).toNat (Cd.dflt U.str) := by
 rw [q2g (d := Cd.dflt U.str) h]
 show q6c (l.take i ++ [l.getD i (Cd.dflt U.str)]) = q6c (l.take i) ++ _ ++ l.getD i (Cd.dflt U.str)
 cases i with
 | zero =>
  rw [List.take_zero, List.nil_append, if_pos rfl]
  unfold q6c
  rw [Go.Lib.join_nil, Go.Lib.join_cons]
  show _ ++ Go.Lib.joinTail [32] [] = _
  unfold Go.Lib.joinTail
  simp
 | succ i =>
  rw [if_neg (by omega)]
  cases l with
  | nil => simp at h
  | cons w l =>
   rw [List.take_succ_cons]
   unfold q6c
   rw [List.cons_append, Go.Lib.join_cons, Go.Lib.join_cons, z5p, List.append_assoc, List.append_assoc]
   congr 2
   unfold Go.Lib.joinTail
   simp
theorem y71 (l : List Wd) (hsh : Sh l) (hl : l.length ≤ 70000) : q07 Tryz.prog Dc 31 [wsS l] [] (wS (q6c l)) [] := by
 have hlen : ∀ i, (q6c (l.take i)).length ≤ 1540000 := fun i => by
  have := qj2 (l := l.take i) (fun w hw => hsh w (List.mem_of_mem_take hw))
  rw [List.length_take] at this
  omega
 have hs := zh0 l
 have h0 : q6c (l.take 0) = [] := by rw [List.take_zero]; exact Go.Lib.join_nil _
 have hw : ∀ i, i < l.length → (l.getD (i : Int).toNat (Cd.dflt U.str)).length ≤ 21 := fun i h => hsh _ (List.mem_of_getElem? (getD_some (d := Cd.dflt U.str) h))
 generalize hJ : (fun i => q6c (l.take i)) = J
 have e : ∀ i, q6c (l.take i) = J i := fun i => by rw [← hJ]
 have hall : q6c l = J l.length := by rw [← e, List.take_length]
 simp only [e] at hlen hs h0
 rw [hall]
 clear hall e hJ hsh
 refine q00 Ax q03 Tryz.func31 (c := _) rfl Tryz.call31 100 ?_
 (repeat' ((conv => whnf); first | fail))
 refine q0u (fun q : Nat × Wd => [(3, wS q.2), (4, iS q.1)]) (fun _ => []) (fun q => q.1 ≤ l.length ∧ q.2 = J q.1) (fun q => l.length - q.1) (0, []) ⟨Nat.zero_le _, h0.symm⟩ (by exact bkI) ?_
 rintro ⟨i, B⟩ ⟨hi, hB⟩ K hK
 dsimp only at hi hB hK ⊢
 have hBl := hlen i
 rw [← hB] at hBl
 rcases Nat.lt_or_ge i l.length with hlt | hge
 ·have hsi := hs i hlt
  have hwi := hw i hlt
  rw [← hB] at hsi
  clear hs hw hlen
  rcases Nat.eq_zero_or_pos i with hi0 | hi0
  ·rw [if_pos hi0, List.append_nil] at hsi
   (repeat' ((conv => whnf); first | (exfalso; omega) | refine hK (i + 1, B ++ l.getD (i : Int).toNat (Cd.dflt U.str)) [] _ _ ⟨⟨by dsimp only; omega, hsi.symm⟩⟩ ⟨by dsimp only; omega⟩ (by exact bkI) | refine spC (fun hb => ?_) fun hb => ?_ | refine saC ?_))
  ·rw [if_neg (by omega)] at hsi
   have hX : (B ++ (⟨#[32]⟩ : ByteArray).data.toList).length = B.length + 1 := by simp
   (repeat' ((conv => whnf); first | (exfalso; omega) | refine hK (i + 1, B ++ [32] ++ l.getD (i : Int).toNat (Cd.dflt U.str)) [] _ _ ⟨⟨by dsimp only; omega, hsi.symm⟩⟩ ⟨by dsimp only; omega⟩ (by exact bkI) | refine spC (fun hb => ?_) fun hb => ?_ | refine saC ?_))
 ·have hil : i = l.length := by omega
  rw [← hil, ← hB]
  (repeat' ((conv => whnf); first | (exfalso; omega) | (refine q08 [] (.inr rfl) ?_ ?_ rfl rfl; (focus exact vwV); exact hsV) | refine spC (fun hb => ?_) fun hb => ?_))
theorem z2r (o : q2c) (hG : q4d o.goal) : q07 Tryz.prog Dc 17 [qb4 o] [] (bS (z73 o)) [] := by
 have h := z6z
 have h1 := qt4 o.goal hG
 refine q00 Ax q03 Tryz.func17 (c := _) rfl Tryz.call17 200 ?_
 (repeat' ((conv => whnf); first | refine x0C (eB ?_ rfl) | (exfalso; omega) | refine cpC (h _ _ _) ?_ | refine dpC (h _ _ _) ?_ | refine cpC (h1) ?_ | refine dpC (h1) ?_ | refine x0C ?_ | refine spC (fun hb => ?_) fun hb => ?_ | refine q52 (fun hb => ?_) ?_ | refine taC ?_ | refine saC ?_ | exact sdV | refine q0b ?_ ?_ | refine q02 mixed ?_))
 all_goals clear h h1
 all_goals unfold z73
 all_goals first | (simp_all [inB]; done) | (simp_all [inB]; omega) | (simp_all [inB]; grind)
theorem zt3 (o : q2c) (hG : q4d o.goal) : q07 Tryz.prog Dc 15 [qb4 o] [] (.tuple [wS (q4y o).1, iS (q4y o).2]) [] := by
 have hv := z2r o hG
 cases hb : z73 o with
 | false =>
  rw [hb] at hv
  have e : q4y o = ([], 130) := by unfold q4y; rw [hb]; rfl
  rw [e]
  refine q00 Ax q03 Tryz.func15 (c := _) rfl Tryz.call15 300 ?_
  (repeat' ((conv => whnf); first | (exfalso; omega) | refine cpC (hv) ?_ | refine dpC (hv) ?_ | (refine q08 [] (.inr rfl) ?_ ?_ rfl rfl; (focus exact vwV); exact hsV) | refine x0C ?_ | refine spC (fun hb => ?_) fun hb => ?_ | refine q52 (fun hb => ?_) ?_ | refine taC ?_ | refine saC ?_ | exact sdV | refine q0b ?_ ?_ | refine q02 mixed ?_))
 | true =>
  rw [hb] at hv
  have e : q4y o = (q6c (q4k o), 0) := by unfold q4y; rw [hb]; rfl
  rw [e]
  obtain ⟨_, _, _, _, _, _, b7⟩ := (q6j o).1 hb
  have hgl := q5p b7
  have hL := q6l o
  have hwd := y3u o hb
  have hj := y71 (q4k o) (qh0 o) (by omega)
  generalize q4k o = W at *
  refine q00 Ax q03 Tryz.func15 (c := _) rfl Tryz.call15 300 ?_
  (repeat' ((conv => whnf); first | (exfalso; omega) | refine cpC (hv) ?_ | refine dpC (hv) ?_ | (refine q01 [] hwd rfl rfl trivial ?_) | (refine rdC hj ?_) | (refine q08 [] (.inr rfl) ?_ ?_ rfl rfl; (focus exact vwV); exact hsV) | refine x0C ?_ | refine spC (fun hb => ?_) fun hb => ?_ | refine q52 (fun hb => ?_) ?_ | refine taC ?_ | refine saC ?_ | exact sdV | refine q0b ?_ ?_ | refine q02 mixed ?_))
theorem z8i (g : q06) (hG : q4d g) : q07 Tryz.prog Dc 22 [q0m g] [] (gsS (q7h g)) [] := by
 unfold q7h
 cases hv : q2r g with
 | true => exact y3v g hv
 | false =>
  have h1 := q3o g hG
  rw [hv] at h1
  show q07 Tryz.prog Dc 22 [q0m g] [] (gsS []) []
  refine q00 Ax q03 Tryz.func22 (c := _) rfl Tryz.call22 100 ?_
  (repeat' ((conv => whnf); first | (exfalso; omega) | refine cpC (h1) ?_ | refine dpC (h1) ?_ | refine x0C ?_ | refine spC (fun hb => ?_) fun hb => ?_ | refine q52 (fun hb => ?_) ?_ | refine taC ?_ | refine saC ?_ | exact sdV | refine q0b ?_ ?_ | refine q02 mixed ?_))
  all_goals exact vwV
theorem y3q : ∀ (d : Nat) (g : q06), d ≤ 4 → q4d g → q07 Tryz.prog Dc 12 [q0m g, iS (d + 1)] [] (q0m (z0h d g)) []
 | 0, g, hd, hG => by
  obtain ⟨hg1, hg2, hg3⟩ := ((q1y g).1 hG).1
  rw [z0h]
  refine q00 Ax q03 Tryz.func12 (c := _) rfl Tryz.call12 300 ?_
  (repeat' ((conv => whnf); first | (exfalso; omega) | refine x0C ?_ | refine spC (fun hb => ?_) fun hb => ?_ | refine q52 (fun hb => ?_) ?_ | refine taC ?_ | refine saC ?_ | exact sdV | refine q0b ?_ ?_ | refine q02 mixed ?_))
  (conv => whnf)
  refine q0u (fun _ : Unit => [(6, iS 0)]) (fun _ => []) (fun _ => True) (fun _ => 0) () trivial (by exact bkI) ?_
  intro _ _ K hK
  (repeat' ((conv => whnf); first | (exfalso; omega) | refine x0C ?_ | refine spC (fun hb => ?_) fun hb => ?_ | refine q52 (fun hb => ?_) ?_ | refine taC ?_ | refine saC ?_ | exact sdV | refine q0b ?_ ?_ | refine q02 mixed ?_))
  all_goals exact vwV
 | d + 1, g, hd, hG => by
  obtain ⟨hg1, hg2, hg3⟩ := ((q1y g).1 hG).1
  have ih := fun x hx => y3q d x (by omega) (q3p ((q1y g).1 hG).2 (z9l (n := 5) (l := g.kids) hx))
  have hkl := qa2 5 g.kids
  rw [z0h]
  unfold z7s at ih hkl ⊢
  refine q00 Ax q03 Tryz.func12 (c := _) rfl Tryz.call12 300 ?_
  (repeat' ((conv => whnf); first | (exfalso; omega) | refine x0C ?_ | refine spC (fun hb => ?_) fun hb => ?_ | refine q52 (fun hb => ?_) ?_ | refine taC ?_ | refine saC ?_ | exact sdV | refine q0b ?_ ?_ | refine q02 mixed ?_))
  (conv => whnf)
  generalize hW : List.drop (Int.toNat 0) (List.take (min (g.kids.length : Int) 5).toNat g.kids) = w at *
  refine q57 [some 0, some 1, none] (fun q : Nat × List q06 => [(6, iS q.1)]) (fun q => [(0, .vart none [iS g.kind, lS (List.drop (Int.toNat 0) (List.take (min (g.rows.length : Int) 25).toNat g.rows)), iS g.from_, iS g.to_, iS g.low, iS g.high, bS g.clear, iS g.days, iS g.times, iS g.within, lS (List.drop (Int.toNat 0) (List.take (min (g.cents.length : Int) 5).toNat g.cents)), .slice 2 0 12 0 q.2.length]), (2, .rows U.goal q.2)]) (fun q => q.1 ≤ w.length ∧ q.2 = (w.take q.1).map (z0h d)) (fun q => w.length - q.1) (0, []) ⟨Nat.zero_le _, by simp⟩ (by exact bkI) ?_
  rintro ⟨i, J⟩ ⟨hi, hJ⟩ K hK
  dsimp only at hi hJ hK ⊢
  have hJl : J.length = i := by rw [hJ, List.length_map, List.length_take]; omega
  rcases Nat.lt_or_ge i w.length with hlt | hge
  ·have hx := ih (w.getD (i : Int).toNat (Cd.dflt U.goal)) (List.mem_of_getElem? (getD_some (d := Cd.dflt U.goal) hlt))
   rw [show (d : Int) + 1 = ((d + 1 : Nat) : Int) + 1 - 1 by omega] at hx
   have hV : List.take J.length J ++ List.take 1 (List.drop 0 [zk4 (z0h d (w.getD (i : Int).toNat (Cd.dflt U.goal)))]) = (w.take (i + 1)).map (z0h d) := by
    rw [List.take_length, q6t, hJ, q2g (d := Cd.dflt U.goal) hlt, List.map_append]; rfl
   (repeat' ((conv => whnf); first | (exfalso; omega) | refine cpC (hx) ?_ | refine dpC (hx) ?_ | refine hK (i + 1, _) [some 0, some 1, some 4] _ _ ⟨⟨by dsimp only; omega, hV⟩⟩ ⟨by dsimp only; omega⟩ (by exact bkI) | refine x0C ?_ | refine spC (fun hb => ?_) fun hb => ?_ | refine q52 (fun hb => ?_) ?_ | refine taC ?_ | refine saC ?_ | exact sdV | refine q0b ?_ ?_ | refine q02 mixed ?_))
  ·rw [List.take_of_length_le hge] at hJ
   rw [← hJ]
   (repeat' ((conv => whnf); first | (exfalso; omega) | refine x0C ?_ | refine spC (fun hb => ?_) fun hb => ?_ | refine q52 (fun hb => ?_) ?_ | refine taC ?_ | refine saC ?_ | exact sdV | refine q0b ?_ ?_ | refine q02 mixed ?_))
   all_goals exact vwV
theorem qd3 (s : Wd) : (q0j s).length ≤ s.length + 1 := by
 unfold q0j
 split
 ·simp
 ·exact ql9 s
theorem ya3 {b : Bool} (h : (b == b) = false) : False := by cases b <;> cases h
theorem y66 (c : Int) (h : I64 c) : q07 Tryz.prog Dc 13 [iS c, iS 3] [] (iS (q0e c 3)) [] := by
 have := y8l c 3 h (by omega)
 exact this
theorem y4y (hrp : ∀ s : Wd, s.length ≤ 2000000 → q07 Tryz.prog Dc 26 [wS s] [] (z4c s) []) (hxt : ∀ s : Wd, s.length ≤ 2000000 → q07 Tryz.prog Dc 29 [wS s] [] (wsS (q0j s)) []) (hpg : ∀ s : Wd, q4d (q39 s).1.goal)
  (l : List Int) (hl : l.length = 7) (hz : ∀ z ∈ l, I64 z) (y : List A5) (hy : ∀ z ∈ y, z41 z) (hyl : (y.length : Int) ≤ 9223372036854775807) (raw : q2c) (hraw : q4d raw.goal) (odd : q06) (hodd : q4d odd) (at_ : Int) (hat : I64 at_) (s : Wd) (hsl : (s.length : Int) ≤ 9223372036854775807)
  (hc : (q9q y).kids.length = 0) : q07 Tryz.prog Dc 3 [a7A l, a5S y, qb4 raw, q0m odd, iS at_, wS s] [] (bS true) [] := by
 have hs := y3k
 have hm := y4b l hl hz y hy hyl
 have ho := z34 l y
 have hgo : (ql0 l y).goal = q9q y := rfl
 rw [← hgo] at hc
 generalize ql0 l y = o at *
 have hoG : q4d o.goal := q89 ((q6j o).1 ho).goal
 have hkl := ((q1y o.goal).1 hoG).1.kids
 have hf1 : q07 Tryz.prog Dc 12 [q0m raw.goal, iS 5] [] (q0m (z0h 4 raw.goal)) [] := y3q 4 raw.goal (by omega) hraw
 have hf2 : q07 Tryz.prog Dc 12 [q0m odd, iS 5] [] (q0m (z0h 4 odd)) [] := y3q 4 odd (by omega) hodd
 have hg1 := q8w 4 raw.goal hraw
 have hg2 := q8w 4 odd hodd
 generalize z0h 4 raw.goal = u at *
 generalize z0h 4 odd = v at *
 have hpk := y66 at_ hat
 have hs0 : (List.drop (Int.toNat 0) (List.take (min (s.length : Int) 400).toNat s)).length ≤ 1400000 := by rw [List.length_drop, List.length_take]; omega
 obtain ⟨L, hL⟩ : ∃ L : List q2c, [⟨o.id, o.owner, ⟨o.goal.kind, o.goal.rows, o.goal.from_, o.goal.to_, o.goal.low, o.goal.high, o.goal.clear, o.goal.days, o.goal.times, o.goal.within, o.goal.cents, o.goal.kids⟩, o.price, o.group, o.urgent, o.known, o.due⟩, ⟨o.id, o.owner, ⟨v.kind, v.rows, v.from_, v.to_, v.low, v.high, v.clear, v.days, v.times, v.within, v.cents, v.kids⟩, o.price, o.group, o.urgent, o.known, o.due⟩, ⟨raw.id, raw.owner, ⟨u.kind, u.rows, u.from_, u.to_, u.low, u.high, u.clear, u.days, u.times, u.within, u.cents, u.kids⟩, raw.price, raw.group, raw.urgent, raw.known, raw.due⟩] = L := ⟨_, rfl⟩
 have hLG : ∀ k, k < 3 → q4d (L.getD k (Cd.dflt U.order)).goal := fun k hk => by
  rw [← hL]
  match k, hk with
  | 0, _ => show q4d (zk4 o.goal); rw [q6t]; exact hoG
  | 1, _ => show q4d (zk4 v); rw [q6t]; exact hg2
  | 2, _ => show q4d (zk4 u); rw [q6t]; exact hg1
 have hLl : L.length = 3 := by rw [← hL]; rfl
 refine q00 Ax q03 Tryz.func3 (c := _) rfl Tryz.call3 900 ?_
 (repeat' ((conv => whnf); first | (exfalso; omega) | refine cpC (hs) ?_ | refine dpC (hs) ?_ | refine cpC (hm) ?_ | refine dpC (hm) ?_ | refine cpC (hf1) ?_ | refine dpC (hf1) ?_ | refine cpC (hf2) ?_ | refine dpC (hf2) ?_ | refine cpC (hpk) ?_ | refine dpC (hpk) ?_ | refine x0C ?_ | refine spC (fun hb => ?_) fun hb => ?_ | refine q52 (fun hb => ?_) ?_ | refine taC ?_ | refine saC ?_ | exact sdV | refine q0b ?_ ?_ | refine q02 mixed ?_))
 clear hs hm hf1 hf2 hpk
 generalize hT : List.drop (Int.toNat 0) (List.take (min (s.length : Int) 400).toNat s) = t0 at *
 (conv => whnf)
 rw [hL]
 clear hL
 conv => whnf
 refine q0u (fun q : Nat × List Wd => [(15, .slice 5 0 1 0 q.2.length), (74, .any), (80, iS q.1)]) (fun q => [(5, .rows U.str q.2)]) (fun q => q.1 ≤ 3 ∧ q.2.length = q.1 + 1 ∧ ∀ t ∈ q.2, t.length ≤ 1400000) (fun q => 3 - q.1) (0, [t0]) ⟨by omega, rfl, fun t h => by rw [List.mem_singleton.1 h]; exact hs0⟩ (by exact bkI) ?_
 rintro ⟨i, J⟩ ⟨hi, hJl, hJ⟩ K hK
 dsimp only at hi hJl hJ hK ⊢
 rcases Nat.lt_or_ge i 3 with hlt | hge
 ·have hG := hLG (0 + (i : Int).toNat) (by omega)
  have c1 := zc8 _ hG
  have c2 := zt3 _ hG
  have c3 := z1f _ hG
  have c4 := z2r _ hG
  have c5 := q3o _ hG
  have c6 := qt4 _ hG
  have c7 := zo9 _ o hG
  have c8 := qs0 _ o hG hoG
  have c9 := z8i _ hG
  have c10 := zr8 _ hG
  have hSG := qk2 hG
  have hSl := z40 hG
  have htl := z09 (L.getD (0 + (i : Int).toNat) (Cd.dflt U.order))
  generalize q7h (L.getD (0 + (i : Int).toNat) (Cd.dflt U.order)).goal = S at *
  generalize q4y (L.getD (0 + (i : Int).toNat) (Cd.dflt U.order)) = q at *
  obtain ⟨t, e⟩ := q
  dsimp only at c1 c2 htl
  (repeat' ((conv => whnf); first | (exfalso; omega) | refine cpC (c1) ?_ | refine dpC (c1) ?_ | refine cpC (c2) ?_ | refine dpC (c2) ?_ | refine cpC (c3) ?_ | refine dpC (c3) ?_ | refine cpC (c4) ?_ | refine dpC (c4) ?_ | refine cpC (c5) ?_ | refine dpC (c5) ?_ | refine cpC (c6) ?_ | refine dpC (c6) ?_ | refine cpC (c7) ?_ | refine dpC (c7) ?_ | refine cpC (c8) ?_ | refine dpC (c8) ?_ | refine cpC (c9) ?_ | refine dpC (c9) ?_ | refine cpC (c10) ?_ | refine dpC (c10) ?_ | (exact absurd rfl hb) | (exact (ya3 hb).elim) | refine x0C ?_ | refine spC (fun hb => ?_) fun hb => ?_ | refine q52 (fun hb => ?_) ?_ | refine taC ?_ | refine saC ?_ | exact sdV | refine q0b ?_ ?_ | refine q02 mixed ?_))
  (conv => whnf)
  have hJ2l : (List.take J.length J ++ List.take 1 (List.drop 0 [t])).length = i + 2 := by simp; omega
  have hJ2 : ∀ w ∈ List.take J.length J ++ List.take 1 (List.drop 0 [t]), w.length ≤ 1400000 := fun w hw => by
   rw [List.take_length] at hw
   rcases List.mem_append.1 hw with h | h
   ·exact hJ w h
   ·rw [List.mem_singleton.1 h]; exact htl
  generalize List.take J.length J ++ List.take 1 (List.drop 0 [t]) = J2 at *
  clear c1 c2 c3 c4 c5 c6 c7 c8 c9 c10
  refine q0u (fun k : Nat => [(24, iS k)]) (fun _ => []) (fun k => k ≤ S.length) (fun k => S.length - k) 0 (Nat.zero_le _) (by exact bkI) ?_
  rintro k hk K2 hK2
  rcases Nat.lt_or_ge k S.length with h1 | h2
  ·have hs1 := hSG (S.getD (k : Int).toNat (Cd.dflt U.goal)) (List.mem_of_getElem? (getD_some (d := Cd.dflt U.goal) h1))
   have hx := z4u _ (S.getD (k : Int).toNat (Cd.dflt U.goal)) (S.getD (k : Int).toNat (Cd.dflt U.goal)) (Nat.le_refl _) hs1 hs1
   rw [(q6w _ _).2 rfl] at hx
   (repeat' ((conv => whnf); first | (exfalso; omega) | refine cpC (hx) ?_ | refine dpC (hx) ?_ | refine hK2 (k + 1) [some 0, some 1, some 2, some 3, some 4, some 5, some 6, some 7, some 8, some 9] _ _ ⟨by omega⟩ ⟨by omega⟩ (by exact bkI) | refine x0C ?_ | refine spC (fun hb => ?_) fun hb => ?_ | refine q52 (fun hb => ?_) ?_ | refine taC ?_ | refine saC ?_ | exact sdV | refine q0b ?_ ?_ | refine q02 mixed ?_))
  ·(repeat' ((conv => whnf); first | (exfalso; omega) | refine hK (i + 1, J2) [some 0, some 1, some 2, some 3, some 4, some 9, some 6] _ _ ⟨⟨by dsimp only; omega, by dsimp only; omega, hJ2⟩⟩ ⟨by dsimp only; omega⟩ (by exact bkI) | refine x0C ?_ | refine spC (fun hb => ?_) fun hb => ?_ | refine q52 (fun hb => ?_) ?_ | refine taC ?_ | refine saC ?_ | exact sdV | refine q0b ?_ ?_ | refine q02 mixed ?_))
 ·clear hK hLG
  (repeat' ((conv => whnf); first | (exfalso; omega) | refine x0C ?_ | refine spC (fun hb => ?_) fun hb => ?_ | refine q52 (fun hb => ?_) ?_ | refine taC ?_ | refine saC ?_ | exact sdV | refine q0b ?_ ?_ | refine q02 mixed ?_))
  (conv => whnf)
  refine q0u (fun k : Nat => [(25, iS k)]) (fun _ => []) (fun k => k ≤ J.length) (fun k => J.length - k) 0 (Nat.zero_le _) (by exact bkI) ?_
  rintro k hk K2 hK2
  rcases Nat.lt_or_ge k J.length with h1 | h2
  ·have ht := hJ (J.getD (0 + (k : Int).toNat) (Cd.dflt U.str)) (List.mem_of_getElem? (getD_some (d := Cd.dflt U.str) (show 0 + (k : Int).toNat < J.length by omega)))
   have a1 := z0a (J.getD (0 + (k : Int).toNat) (Cd.dflt U.str)) (by omega)
   have a2 := hrp (J.getD (0 + (k : Int).toNat) (Cd.dflt U.str)) (by omega)
   unfold z4c at a1 a2
   have hg := hpg (J.getD (0 + (k : Int).toNat) (Cd.dflt U.str))
   have a3 := qs0 _ _ hg hg
   rw [(qu7 _ _).2 rfl] at a3
   have a4 := z47 (J.getD (0 + (k : Int).toNat) (Cd.dflt U.str)) (by omega)
   have a5 := hxt (J.getD (0 + (k : Int).toNat) (Cd.dflt U.str)) (by omega)
   have htk := qd3 (J.getD (0 + (k : Int).toNat) (Cd.dflt U.str))
   have a6 := z3n (q0j (J.getD (0 + (k : Int).toNat) (Cd.dflt U.str))) (q0j (J.getD (0 + (k : Int).toNat) (Cd.dflt U.str))) (by omega) (by omega)
   rw [decide_eq_true rfl] at a6
   clear hg htk hrp hxt hpg
   generalize q39 (J.getD (0 + (k : Int).toNat) (Cd.dflt U.str)) = x at *
   generalize q0j (J.getD (0 + (k : Int).toNat) (Cd.dflt U.str)) = tk at *
   obtain ⟨q, n, e⟩ := x
   dsimp only at a1 a2 a3
   (repeat' ((conv => whnf); first | (exfalso; omega) | refine cpC (a1) ?_ | refine dpC (a1) ?_ | refine cpC (a2) ?_ | refine dpC (a2) ?_ | refine cpC (a3) ?_ | refine dpC (a3) ?_ | refine cpC (a4) ?_ | refine dpC (a4) ?_ | refine cpC (a5) ?_ | refine dpC (a5) ?_ | refine cpC (a6) ?_ | refine dpC (a6) ?_ | (exact absurd rfl hb) | refine hK2 (k + 1) [some 0, some 1, some 2, some 3, some 4, some 5, some 6] _ _ ⟨by omega⟩ ⟨by omega⟩ (by exact bkI) | refine x0C ?_ | refine spC (fun hb => ?_) fun hb => ?_ | refine q52 (fun hb => ?_) ?_ | refine taC ?_ | refine saC ?_ | exact sdV | refine q0b ?_ ?_ | refine q02 mixed ?_))
  ·(repeat' ((conv => whnf); first | (exfalso; omega) | (refine q08 [] (.inr rfl) ?_ ?_ rfl rfl; (focus exact vwV); exact hsV) | refine x0C ?_ | refine spC (fun hb => ?_) fun hb => ?_ | refine q52 (fun hb => ?_) ?_ | refine taC ?_ | refine saC ?_ | exact sdV | refine q0b ?_ ?_ | refine q02 mixed ?_))
theorem y6w {o : Op} {vals : List (SV Cd)} {hs : List (Nat × HS Cd)} {Y Z : Prop} (h : q93 o vals hs Y) : q93 o vals hs (Y ∨ Z) := ⟨.inl h.h⟩
theorem y53 (hrp : ∀ s : Wd, s.length ≤ 2000000 → q07 Tryz.prog Dc 26 [wS s] [] (z4c s) []) (hxt : ∀ s : Wd, s.length ≤ 2000000 → q07 Tryz.prog Dc 29 [wS s] [] (wsS (q0j s)) []) (hpg : ∀ s : Wd, q4d (q39 s).1.goal)
  (l : List Int) (hl : l.length = 7) (hz : ∀ z ∈ l, I64 z) (y : List A5) (hy : ∀ z ∈ y, z41 z) (hyl : (y.length : Int) ≤ 9223372036854775807) (raw : q2c) (hraw : q4d raw.goal) (odd : q06) (hodd : q4d odd) (at_ : Int) (hat : I64 at_) (s : Wd) (hsl : (s.length : Int) ≤ 9223372036854775807)
  (hc : (q9q y).kids.length ≠ 0) (hc2 : q0e at_ 3 ≠ 0) : q07 Tryz.prog Dc 3 [a7A l, a5S y, qb4 raw, q0m odd, iS at_, wS s] [] (bS true) [] := by
 have hs := y3k
 have hm := y4b l hl hz y hy hyl
 have ho := z34 l y
 have hmk := y89 l hl hz y hy hyl (fun h => hc (by rw [h]; rfl))
 have hgo : (ql0 l y).goal = q9q y := rfl
 rw [← hgo] at hc
 generalize ql0 l y = o at *
 have hoG : q4d o.goal := q89 ((q6j o).1 ho).goal
 have hkl := ((q1y o.goal).1 hoG).1.kids
 have hf1 : q07 Tryz.prog Dc 12 [q0m raw.goal, iS 5] [] (q0m (z0h 4 raw.goal)) [] := y3q 4 raw.goal (by omega) hraw
 have hf2 : q07 Tryz.prog Dc 12 [q0m odd, iS 5] [] (q0m (z0h 4 odd)) [] := y3q 4 odd (by omega) hodd
 have hg1 := q8w 4 raw.goal hraw
 have hg2 := q8w 4 odd hodd
 generalize z0h 4 raw.goal = u at *
 generalize z0h 4 odd = v at *
 have hpk := y66 at_ hat
 have hs0 : (List.drop (Int.toNat 0) (List.take (min (s.length : Int) 400).toNat s)).length ≤ 1400000 := by rw [List.length_drop, List.length_take]; omega
 have hpk2 := y8l at_ o.goal.kids.length hat (by omega)
 have hpb := q0g (c := at_) (n := o.goal.kids.length) (by omega)
 refine q00 Ax q03 Tryz.func3 (c := _) rfl Tryz.call3 900 ?_
 (repeat' ((conv => whnf); first | (exfalso; omega) | refine cpC (hs) ?_ | refine dpC (hs) ?_ | refine cpC (hf1) ?_ | refine dpC (hf1) ?_ | refine cpC (hf2) ?_ | refine dpC (hf2) ?_ | refine cpC (hpk) ?_ | refine dpC (hpk) ?_ | refine cpC (hpk2) ?_ | refine dpC (hpk2) ?_ | refine x0C ?_ | refine spC (fun hb => ?_) fun hb => ?_ | refine q52 (fun hb => ?_) ?_ | refine taC ?_ | refine saC ?_ | exact sdV | refine q0b ?_ ?_ | refine q02 mixed ?_))
 refine cpC hm ?_
 (repeat' ((conv => whnf); first | (exfalso; omega) | refine cpC (hs) ?_ | refine dpC (hs) ?_ | refine cpC (hf1) ?_ | refine dpC (hf1) ?_ | refine cpC (hf2) ?_ | refine dpC (hf2) ?_ | refine cpC (hpk) ?_ | refine dpC (hpk) ?_ | refine cpC (hpk2) ?_ | refine dpC (hpk2) ?_ | refine x0C ?_ | refine spC (fun hb => ?_) fun hb => ?_ | refine q52 (fun hb => ?_) ?_ | refine taC ?_ | refine saC ?_ | exact sdV | refine q0b ?_ ?_ | refine q02 mixed ?_))
 refine q01 [] hmk rfl rfl trivial ?_
 clear hs hm hmk hf1
 (repeat' ((conv => whnf); first | (exfalso; omega) | refine cpC (hf2) ?_ | refine dpC (hf2) ?_ | refine cpC (hpk) ?_ | refine dpC (hpk) ?_ | refine cpC (hpk2) ?_ | refine dpC (hpk2) ?_ | refine x0C ?_ | refine spC (fun hb => ?_) fun hb => ?_ | refine q52 (fun hb => ?_) ?_ | refine taC ?_ | refine saC ?_ | exact sdV | refine q0b ?_ ?_ | refine q02 mixed ?_))
 all_goals (conv => whnf)
 refine y6w (y8r [some 0, some 1, some 2, some 3, none, some 5, some 6] [(43, .any), (46, .any), (59, .any), (63, .any), (68, .any), (76, .agg [iS o.id, iS o.owner, iS o.goal.kind, lS o.goal.rows, iS o.goal.from_, iS o.goal.to_, iS o.goal.low, iS o.goal.high, bS o.goal.clear, iS o.goal.days, iS o.goal.times, iS o.goal.within, lS o.goal.cents, .p (.dsl U.goal (o.goal.kids.set (0 + (q0e at_ o.goal.kids.length).toNat) ⟨v.kind, v.rows, v.from_, v.to_, v.low, v.high, v.clear, v.days, v.times, v.within, v.cents, v.kids⟩)), iS o.price, iS o.group, bS o.urgent, iS o.known, iS o.due])] [(4, .rows U.goal []), (5, .vart none [iS o.id, iS o.owner, iS o.goal.kind, lS o.goal.rows, iS o.goal.from_, iS o.goal.to_, iS o.goal.low, iS o.goal.high, bS o.goal.clear, iS o.goal.days, iS o.goal.times, iS o.goal.within, lS o.goal.cents, .p (.dsl U.goal (o.goal.kids.set (0 + (q0e at_ o.goal.kids.length).toNat) ⟨v.kind, v.rows, v.from_, v.to_, v.low, v.high, v.clear, v.days, v.times, v.within, v.cents, v.kids⟩)), iS o.price, iS o.group, bS o.urgent, iS o.known, iS o.due])] (by exact bkV) ?_)
 clear hf2 hpk hpk2
 obtain ⟨L, hL⟩ : ∃ L : List q2c, [⟨o.id, o.owner, ⟨o.goal.kind, o.goal.rows, o.goal.from_, o.goal.to_, o.goal.low, o.goal.high, o.goal.clear, o.goal.days, o.goal.times, o.goal.within, o.goal.cents, o.goal.kids⟩, o.price, o.group, o.urgent, o.known, o.due⟩, ⟨o.id, o.owner, ⟨o.goal.kind, o.goal.rows, o.goal.from_, o.goal.to_, o.goal.low, o.goal.high, o.goal.clear, o.goal.days, o.goal.times, o.goal.within, o.goal.cents, (o.goal.kids.set (0 + (q0e at_ o.goal.kids.length).toNat) ⟨v.kind, v.rows, v.from_, v.to_, v.low, v.high, v.clear, v.days, v.times, v.within, v.cents, v.kids⟩)⟩, o.price, o.group, o.urgent, o.known, o.due⟩, ⟨raw.id, raw.owner, ⟨u.kind, u.rows, u.from_, u.to_, u.low, u.high, u.clear, u.days, u.times, u.within, u.cents, u.kids⟩, raw.price, raw.group, raw.urgent, raw.known, raw.due⟩] = L := ⟨_, rfl⟩
 have hBG : q4d (zk4 ⟨o.goal.kind, o.goal.rows, o.goal.from_, o.goal.to_, o.goal.low, o.goal.high, o.goal.clear, o.goal.days, o.goal.times, o.goal.within, o.goal.cents, (o.goal.kids.set (0 + (q0e at_ o.goal.kids.length).toNat) ⟨v.kind, v.rows, v.from_, v.to_, v.low, v.high, v.clear, v.days, v.times, v.within, v.cents, v.kids⟩)⟩) := by
  rw [q6t, q1y]
  obtain ⟨⟨g1, g2, g3⟩, g4⟩ := (q1y o.goal).1 hoG
  refine ⟨⟨g1, g2, by dsimp only; rw [List.length_set]; exact g3⟩, qi1 fun x hx => ?_⟩
  rcases List.mem_or_eq_of_mem_set hx with h | h
  ·exact q3p g4 h
  ·rw [h]; show q4d (zk4 v); rw [q6t]; exact hg2
 have hLG : ∀ k, k < 3 → q4d (L.getD k (Cd.dflt U.order)).goal := fun k hk => by
  rw [← hL]
  match k, hk with
  | 0, _ => show q4d (zk4 o.goal); rw [q6t]; exact hoG
  | 1, _ => exact hBG
  | 2, _ => show q4d (zk4 u); rw [q6t]; exact hg1
 have hLl : L.length = 3 := by rw [← hL]; rfl
 (repeat' ((conv => whnf); first | (exfalso; omega) | refine x0C ?_ | refine spC (fun hb => ?_) fun hb => ?_ | refine q52 (fun hb => ?_) ?_ | refine taC ?_ | refine saC ?_ | exact sdV | refine q0b ?_ ?_ | refine q02 mixed ?_))
 generalize hT : List.drop (Int.toNat 0) (List.take (min (s.length : Int) 400).toNat s) = t0 at *
 (conv => whnf)
 rw [hL]
 clear hL hBG
 conv => whnf
 refine q0u (fun q : Nat × List Wd => [(15, .slice 6 0 1 0 q.2.length), (74, .any), (80, iS q.1)]) (fun q => [(6, .rows U.str q.2)]) (fun q => q.1 ≤ 3 ∧ q.2.length = q.1 + 1 ∧ ∀ t ∈ q.2, t.length ≤ 1400000) (fun q => 3 - q.1) (0, [t0]) ⟨by omega, rfl, fun t h => by rw [List.mem_singleton.1 h]; exact hs0⟩ (by exact bkI) ?_
 rintro ⟨i, J⟩ ⟨hi, hJl, hJ⟩ K hK
 dsimp only at hi hJl hJ hK ⊢
 rcases Nat.lt_or_ge i 3 with hlt | hge
 ·have hG := hLG (0 + (i : Int).toNat) (by omega)
  have c1 := zc8 _ hG
  have c2 := zt3 _ hG
  have c3 := z1f _ hG
  have c4 := z2r _ hG
  have c5 := q3o _ hG
  have c6 := qt4 _ hG
  have c7 := zo9 _ o hG
  have c8 := qs0 _ o hG hoG
  have c9 := z8i _ hG
  have c10 := zr8 _ hG
  have hSG := qk2 hG
  have hSl := z40 hG
  have htl := z09 (L.getD (0 + (i : Int).toNat) (Cd.dflt U.order))
  generalize q7h (L.getD (0 + (i : Int).toNat) (Cd.dflt U.order)).goal = S at *
  generalize q4y (L.getD (0 + (i : Int).toNat) (Cd.dflt U.order)) = q at *
  obtain ⟨t, e⟩ := q
  dsimp only at c1 c2 htl
  (repeat' ((conv => whnf); first | (exfalso; omega) | refine cpC (c1) ?_ | refine dpC (c1) ?_ | refine cpC (c2) ?_ | refine dpC (c2) ?_ | refine cpC (c3) ?_ | refine dpC (c3) ?_ | refine cpC (c4) ?_ | refine dpC (c4) ?_ | refine cpC (c5) ?_ | refine dpC (c5) ?_ | refine cpC (c6) ?_ | refine dpC (c6) ?_ | refine cpC (c7) ?_ | refine dpC (c7) ?_ | refine cpC (c8) ?_ | refine dpC (c8) ?_ | refine cpC (c9) ?_ | refine dpC (c9) ?_ | refine cpC (c10) ?_ | refine dpC (c10) ?_ | (exact absurd rfl hb) | (exact (ya3 hb).elim) | refine x0C ?_ | refine spC (fun hb => ?_) fun hb => ?_ | refine q52 (fun hb => ?_) ?_ | refine taC ?_ | refine saC ?_ | exact sdV | refine q0b ?_ ?_ | refine q02 mixed ?_))
  (conv => whnf)
  have hJ2l : (List.take J.length J ++ List.take 1 (List.drop 0 [t])).length = i + 2 := by simp; omega
  have hJ2 : ∀ w ∈ List.take J.length J ++ List.take 1 (List.drop 0 [t]), w.length ≤ 1400000 := fun w hw => by
   rw [List.take_length] at hw
   rcases List.mem_append.1 hw with h | h
   ·exact hJ w h
   ·rw [List.mem_singleton.1 h]; exact htl
  generalize List.take J.length J ++ List.take 1 (List.drop 0 [t]) = J2 at *
  clear c1 c2 c3 c4 c5 c6 c7 c8 c9 c10
  refine q0u (fun k : Nat => [(24, iS k)]) (fun _ => []) (fun k => k ≤ S.length) (fun k => S.length - k) 0 (Nat.zero_le _) (by exact bkI) ?_
  rintro k hk K2 hK2
  rcases Nat.lt_or_ge k S.length with h1 | h2
  ·have hs1 := hSG (S.getD (k : Int).toNat (Cd.dflt U.goal)) (List.mem_of_getElem? (getD_some (d := Cd.dflt U.goal) h1))
   have hx := z4u _ (S.getD (k : Int).toNat (Cd.dflt U.goal)) (S.getD (k : Int).toNat (Cd.dflt U.goal)) (Nat.le_refl _) hs1 hs1
   rw [(q6w _ _).2 rfl] at hx
   (repeat' ((conv => whnf); first | (exfalso; omega) | refine cpC (hx) ?_ | refine dpC (hx) ?_ | refine hK2 (k + 1) [some 0, some 1, some 2, some 3, some 4, some 5, some 6, some 7, some 8, some 9, some 10] _ _ ⟨by omega⟩ ⟨by omega⟩ (by exact bkI) | refine x0C ?_ | refine spC (fun hb => ?_) fun hb => ?_ | refine q52 (fun hb => ?_) ?_ | refine taC ?_ | refine saC ?_ | exact sdV | refine q0b ?_ ?_ | refine q02 mixed ?_))
  ·(repeat' ((conv => whnf); first | (exfalso; omega) | refine hK (i + 1, J2) [some 0, some 1, some 2, some 3, some 4, some 5, some 10, some 7] _ _ ⟨⟨by dsimp only; omega, by dsimp only; omega, hJ2⟩⟩ ⟨by dsimp only; omega⟩ (by exact bkI) | refine x0C ?_ | refine spC (fun hb => ?_) fun hb => ?_ | refine q52 (fun hb => ?_) ?_ | refine taC ?_ | refine saC ?_ | exact sdV | refine q0b ?_ ?_ | refine q02 mixed ?_))
 ·clear hK hLG
  (repeat' ((conv => whnf); first | (exfalso; omega) | refine x0C ?_ | refine spC (fun hb => ?_) fun hb => ?_ | refine q52 (fun hb => ?_) ?_ | refine taC ?_ | refine saC ?_ | exact sdV | refine q0b ?_ ?_ | refine q02 mixed ?_))
  (conv => whnf)
  refine q0u (fun k : Nat => [(25, iS k)]) (fun _ => []) (fun k => k ≤ J.length) (fun k => J.length - k) 0 (Nat.zero_le _) (by exact bkI) ?_
  rintro k hk K2 hK2
  rcases Nat.lt_or_ge k J.length with h1 | h2
  ·have ht := hJ (J.getD (0 + (k : Int).toNat) (Cd.dflt U.str)) (List.mem_of_getElem? (getD_some (d := Cd.dflt U.str) (show 0 + (k : Int).toNat < J.length by omega)))
   have a1 := z0a (J.getD (0 + (k : Int).toNat) (Cd.dflt U.str)) (by omega)
   have a2 := hrp (J.getD (0 + (k : Int).toNat) (Cd.dflt U.str)) (by omega)
   unfold z4c at a1 a2
   have hg := hpg (J.getD (0 + (k : Int).toNat) (Cd.dflt U.str))
   have a3 := qs0 _ _ hg hg
   rw [(qu7 _ _).2 rfl] at a3
   have a4 := z47 (J.getD (0 + (k : Int).toNat) (Cd.dflt U.str)) (by omega)
   have a5 := hxt (J.getD (0 + (k : Int).toNat) (Cd.dflt U.str)) (by omega)
   have htk := qd3 (J.getD (0 + (k : Int).toNat) (Cd.dflt U.str))
   have a6 := z3n (q0j (J.getD (0 + (k : Int).toNat) (Cd.dflt U.str))) (q0j (J.getD (0 + (k : Int).toNat) (Cd.dflt U.str))) (by omega) (by omega)
   rw [decide_eq_true rfl] at a6
   clear hg htk hrp hxt hpg
   generalize q39 (J.getD (0 + (k : Int).toNat) (Cd.dflt U.str)) = x at *
   generalize q0j (J.getD (0 + (k : Int).toNat) (Cd.dflt U.str)) = tk at *
   obtain ⟨q, n, e⟩ := x
   dsimp only at a1 a2 a3
   (repeat' ((conv => whnf); first | (exfalso; omega) | refine cpC (a1) ?_ | refine dpC (a1) ?_ | refine cpC (a2) ?_ | refine dpC (a2) ?_ | refine cpC (a3) ?_ | refine dpC (a3) ?_ | refine cpC (a4) ?_ | refine dpC (a4) ?_ | refine cpC (a5) ?_ | refine dpC (a5) ?_ | refine cpC (a6) ?_ | refine dpC (a6) ?_ | (exact absurd rfl hb) | refine hK2 (k + 1) [some 0, some 1, some 2, some 3, some 4, some 5, some 6, some 7] _ _ ⟨by omega⟩ ⟨by omega⟩ (by exact bkI) | refine x0C ?_ | refine spC (fun hb => ?_) fun hb => ?_ | refine q52 (fun hb => ?_) ?_ | refine taC ?_ | refine saC ?_ | exact sdV | refine q0b ?_ ?_ | refine q02 mixed ?_))
  ·(repeat' ((conv => whnf); first | (exfalso; omega) | (refine q08 [] (.inr rfl) ?_ ?_ rfl rfl; (focus exact vwV); exact hsV) | refine x0C ?_ | refine spC (fun hb => ?_) fun hb => ?_ | refine q52 (fun hb => ?_) ?_ | refine taC ?_ | refine saC ?_ | exact sdV | refine q0b ?_ ?_ | refine q02 mixed ?_))
theorem y51 (hrp : ∀ s : Wd, s.length ≤ 2000000 → q07 Tryz.prog Dc 26 [wS s] [] (z4c s) []) (hxt : ∀ s : Wd, s.length ≤ 2000000 → q07 Tryz.prog Dc 29 [wS s] [] (wsS (q0j s)) []) (hpg : ∀ s : Wd, q4d (q39 s).1.goal)
  (l : List Int) (hl : l.length = 7) (hz : ∀ z ∈ l, I64 z) (y : List A5) (hy : ∀ z ∈ y, z41 z) (hyl : (y.length : Int) ≤ 9223372036854775807) (raw : q2c) (hraw : q4d raw.goal) (odd : q06) (hodd : q4d odd) (at_ : Int) (hat : I64 at_) (s : Wd) (hsl : (s.length : Int) ≤ 9223372036854775807)
  (hc0 : (q9q y).kids.length ≠ 0) (hc : q0e at_ 3 = 0) : q07 Tryz.prog Dc 3 [a7A l, a5S y, qb4 raw, q0m odd, iS at_, wS s] [] (bS true) [] := by
 have hs := y3k
 have hm := y4b l hl hz y hy hyl
 have ho := z34 l y
 have hgo : (ql0 l y).goal = q9q y := rfl
 rw [← hgo] at hc0
 generalize ql0 l y = o at *
 have hoG : q4d o.goal := q89 ((q6j o).1 ho).goal
 have hkl := ((q1y o.goal).1 hoG).1.kids
 have hf1 : q07 Tryz.prog Dc 12 [q0m raw.goal, iS 5] [] (q0m (z0h 4 raw.goal)) [] := y3q 4 raw.goal (by omega) hraw
 have hf2 : q07 Tryz.prog Dc 12 [q0m odd, iS 5] [] (q0m (z0h 4 odd)) [] := y3q 4 odd (by omega) hodd
 have hg1 := q8w 4 raw.goal hraw
 have hg2 := q8w 4 odd hodd
 generalize z0h 4 raw.goal = u at *
 generalize z0h 4 odd = v at *
 have hpk := y66 at_ hat
 have hs0 : (List.drop (Int.toNat 0) (List.take (min (s.length : Int) 400).toNat s)).length ≤ 1400000 := by rw [List.length_drop, List.length_take]; omega
 obtain ⟨L, hL⟩ : ∃ L : List q2c, [⟨o.id, o.owner, ⟨o.goal.kind, o.goal.rows, o.goal.from_, o.goal.to_, o.goal.low, o.goal.high, o.goal.clear, o.goal.days, o.goal.times, o.goal.within, o.goal.cents, o.goal.kids⟩, o.price, o.group, o.urgent, o.known, o.due⟩, ⟨o.id, o.owner, ⟨v.kind, v.rows, v.from_, v.to_, v.low, v.high, v.clear, v.days, v.times, v.within, v.cents, v.kids⟩, o.price, o.group, o.urgent, o.known, o.due⟩, ⟨raw.id, raw.owner, ⟨u.kind, u.rows, u.from_, u.to_, u.low, u.high, u.clear, u.days, u.times, u.within, u.cents, u.kids⟩, raw.price, raw.group, raw.urgent, raw.known, raw.due⟩] = L := ⟨_, rfl⟩
 have hLG : ∀ k, k < 3 → q4d (L.getD k (Cd.dflt U.order)).goal := fun k hk => by
  rw [← hL]
  match k, hk with
  | 0, _ => show q4d (zk4 o.goal); rw [q6t]; exact hoG
  | 1, _ => show q4d (zk4 v); rw [q6t]; exact hg2
  | 2, _ => show q4d (zk4 u); rw [q6t]; exact hg1
 have hLl : L.length = 3 := by rw [← hL]; rfl
 refine q00 Ax q03 Tryz.func3 (c := _) rfl Tryz.call3 900 ?_
 (repeat' ((conv => whnf); first | (exfalso; omega) | refine cpC (hs) ?_ | refine dpC (hs) ?_ | refine cpC (hm) ?_ | refine dpC (hm) ?_ | refine cpC (hf1) ?_ | refine dpC (hf1) ?_ | refine cpC (hf2) ?_ | refine dpC (hf2) ?_ | refine cpC (hpk) ?_ | refine dpC (hpk) ?_ | refine x0C ?_ | refine spC (fun hb => ?_) fun hb => ?_ | refine q52 (fun hb => ?_) ?_ | refine taC ?_ | refine saC ?_ | exact sdV | refine q0b ?_ ?_ | refine q02 mixed ?_))
 clear hs hm hf1 hf2 hpk
 generalize hT : List.drop (Int.toNat 0) (List.take (min (s.length : Int) 400).toNat s) = t0 at *
 (conv => whnf)
 rw [hL]
 clear hL
 conv => whnf
 refine q0u (fun q : Nat × List Wd => [(15, .slice 5 0 1 0 q.2.length), (74, .any), (80, iS q.1)]) (fun q => [(5, .rows U.str q.2)]) (fun q => q.1 ≤ 3 ∧ q.2.length = q.1 + 1 ∧ ∀ t ∈ q.2, t.length ≤ 1400000) (fun q => 3 - q.1) (0, [t0]) ⟨by omega, rfl, fun t h => by rw [List.mem_singleton.1 h]; exact hs0⟩ (by exact bkI) ?_
 rintro ⟨i, J⟩ ⟨hi, hJl, hJ⟩ K hK
 dsimp only at hi hJl hJ hK ⊢
 rcases Nat.lt_or_ge i 3 with hlt | hge
 ·have hG := hLG (0 + (i : Int).toNat) (by omega)
  have c1 := zc8 _ hG
  have c2 := zt3 _ hG
  have c3 := z1f _ hG
  have c4 := z2r _ hG
  have c5 := q3o _ hG
  have c6 := qt4 _ hG
  have c7 := zo9 _ o hG
  have c8 := qs0 _ o hG hoG
  have c9 := z8i _ hG
  have c10 := zr8 _ hG
  have hSG := qk2 hG
  have hSl := z40 hG
  have htl := z09 (L.getD (0 + (i : Int).toNat) (Cd.dflt U.order))
  generalize q7h (L.getD (0 + (i : Int).toNat) (Cd.dflt U.order)).goal = S at *
  generalize q4y (L.getD (0 + (i : Int).toNat) (Cd.dflt U.order)) = q at *
  obtain ⟨t, e⟩ := q
  dsimp only at c1 c2 htl
  (repeat' ((conv => whnf); first | (exfalso; omega) | refine cpC (c1) ?_ | refine dpC (c1) ?_ | refine cpC (c2) ?_ | refine dpC (c2) ?_ | refine cpC (c3) ?_ | refine dpC (c3) ?_ | refine cpC (c4) ?_ | refine dpC (c4) ?_ | refine cpC (c5) ?_ | refine dpC (c5) ?_ | refine cpC (c6) ?_ | refine dpC (c6) ?_ | refine cpC (c7) ?_ | refine dpC (c7) ?_ | refine cpC (c8) ?_ | refine dpC (c8) ?_ | refine cpC (c9) ?_ | refine dpC (c9) ?_ | refine cpC (c10) ?_ | refine dpC (c10) ?_ | (exact absurd rfl hb) | (exact (ya3 hb).elim) | refine x0C ?_ | refine spC (fun hb => ?_) fun hb => ?_ | refine q52 (fun hb => ?_) ?_ | refine taC ?_ | refine saC ?_ | exact sdV | refine q0b ?_ ?_ | refine q02 mixed ?_))
  (conv => whnf)
  have hJ2l : (List.take J.length J ++ List.take 1 (List.drop 0 [t])).length = i + 2 := by simp; omega
  have hJ2 : ∀ w ∈ List.take J.length J ++ List.take 1 (List.drop 0 [t]), w.length ≤ 1400000 := fun w hw => by
   rw [List.take_length] at hw
   rcases List.mem_append.1 hw with h | h
   ·exact hJ w h
   ·rw [List.mem_singleton.1 h]; exact htl
  generalize List.take J.length J ++ List.take 1 (List.drop 0 [t]) = J2 at *
  clear c1 c2 c3 c4 c5 c6 c7 c8 c9 c10
  refine q0u (fun k : Nat => [(24, iS k)]) (fun _ => []) (fun k => k ≤ S.length) (fun k => S.length - k) 0 (Nat.zero_le _) (by exact bkI) ?_
  rintro k hk K2 hK2
  rcases Nat.lt_or_ge k S.length with h1 | h2
  ·have hs1 := hSG (S.getD (k : Int).toNat (Cd.dflt U.goal)) (List.mem_of_getElem? (getD_some (d := Cd.dflt U.goal) h1))
   have hx := z4u _ (S.getD (k : Int).toNat (Cd.dflt U.goal)) (S.getD (k : Int).toNat (Cd.dflt U.goal)) (Nat.le_refl _) hs1 hs1
   rw [(q6w _ _).2 rfl] at hx
   (repeat' ((conv => whnf); first | (exfalso; omega) | refine cpC (hx) ?_ | refine dpC (hx) ?_ | refine hK2 (k + 1) [some 0, some 1, some 2, some 3, some 4, some 5, some 6, some 7, some 8, some 9] _ _ ⟨by omega⟩ ⟨by omega⟩ (by exact bkI) | refine x0C ?_ | refine spC (fun hb => ?_) fun hb => ?_ | refine q52 (fun hb => ?_) ?_ | refine taC ?_ | refine saC ?_ | exact sdV | refine q0b ?_ ?_ | refine q02 mixed ?_))
  ·(repeat' ((conv => whnf); first | (exfalso; omega) | refine hK (i + 1, J2) [some 0, some 1, some 2, some 3, some 4, some 9, some 6] _ _ ⟨⟨by dsimp only; omega, by dsimp only; omega, hJ2⟩⟩ ⟨by dsimp only; omega⟩ (by exact bkI) | refine x0C ?_ | refine spC (fun hb => ?_) fun hb => ?_ | refine q52 (fun hb => ?_) ?_ | refine taC ?_ | refine saC ?_ | exact sdV | refine q0b ?_ ?_ | refine q02 mixed ?_))
 ·clear hK hLG
  (repeat' ((conv => whnf); first | (exfalso; omega) | refine x0C ?_ | refine spC (fun hb => ?_) fun hb => ?_ | refine q52 (fun hb => ?_) ?_ | refine taC ?_ | refine saC ?_ | exact sdV | refine q0b ?_ ?_ | refine q02 mixed ?_))
  (conv => whnf)
  refine q0u (fun k : Nat => [(25, iS k)]) (fun _ => []) (fun k => k ≤ J.length) (fun k => J.length - k) 0 (Nat.zero_le _) (by exact bkI) ?_
  rintro k hk K2 hK2
  rcases Nat.lt_or_ge k J.length with h1 | h2
  ·have ht := hJ (J.getD (0 + (k : Int).toNat) (Cd.dflt U.str)) (List.mem_of_getElem? (getD_some (d := Cd.dflt U.str) (show 0 + (k : Int).toNat < J.length by omega)))
   have a1 := z0a (J.getD (0 + (k : Int).toNat) (Cd.dflt U.str)) (by omega)
   have a2 := hrp (J.getD (0 + (k : Int).toNat) (Cd.dflt U.str)) (by omega)
   unfold z4c at a1 a2
   have hg := hpg (J.getD (0 + (k : Int).toNat) (Cd.dflt U.str))
   have a3 := qs0 _ _ hg hg
   rw [(qu7 _ _).2 rfl] at a3
   have a4 := z47 (J.getD (0 + (k : Int).toNat) (Cd.dflt U.str)) (by omega)
   have a5 := hxt (J.getD (0 + (k : Int).toNat) (Cd.dflt U.str)) (by omega)
   have htk := qd3 (J.getD (0 + (k : Int).toNat) (Cd.dflt U.str))
   have a6 := z3n (q0j (J.getD (0 + (k : Int).toNat) (Cd.dflt U.str))) (q0j (J.getD (0 + (k : Int).toNat) (Cd.dflt U.str))) (by omega) (by omega)
   rw [decide_eq_true rfl] at a6
   clear hg htk hrp hxt hpg
   generalize q39 (J.getD (0 + (k : Int).toNat) (Cd.dflt U.str)) = x at *
   generalize q0j (J.getD (0 + (k : Int).toNat) (Cd.dflt U.str)) = tk at *
   obtain ⟨q, n, e⟩ := x
   dsimp only at a1 a2 a3
   (repeat' ((conv => whnf); first | (exfalso; omega) | refine cpC (a1) ?_ | refine dpC (a1) ?_ | refine cpC (a2) ?_ | refine dpC (a2) ?_ | refine cpC (a3) ?_ | refine dpC (a3) ?_ | refine cpC (a4) ?_ | refine dpC (a4) ?_ | refine cpC (a5) ?_ | refine dpC (a5) ?_ | refine cpC (a6) ?_ | refine dpC (a6) ?_ | (exact absurd rfl hb) | refine hK2 (k + 1) [some 0, some 1, some 2, some 3, some 4, some 5, some 6] _ _ ⟨by omega⟩ ⟨by omega⟩ (by exact bkI) | refine x0C ?_ | refine spC (fun hb => ?_) fun hb => ?_ | refine q52 (fun hb => ?_) ?_ | refine taC ?_ | refine saC ?_ | exact sdV | refine q0b ?_ ?_ | refine q02 mixed ?_))
  ·(repeat' ((conv => whnf); first | (exfalso; omega) | (refine q08 [] (.inr rfl) ?_ ?_ rfl rfl; (focus exact vwV); exact hsV) | refine x0C ?_ | refine spC (fun hb => ?_) fun hb => ?_ | refine q52 (fun hb => ?_) ?_ | refine taC ?_ | refine saC ?_ | exact sdV | refine q0b ?_ ?_ | refine q02 mixed ?_))
end Go.SX
