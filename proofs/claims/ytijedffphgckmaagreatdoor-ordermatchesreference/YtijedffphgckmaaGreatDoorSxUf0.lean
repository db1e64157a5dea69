/-
  Walks: Uf0, Ud2, Ud3, Oq8, Ue0, Uf2, Uf5, Uj0, Uk0: what single functions of the program compute.
-/
import Derived.Test.YtijedffphgckmaaGreatDoorSxTa6
import Derived.LaidMore
import Derived.ChangeMaps5
import Derived.Lay
import Derived.SevenTiedAt
import Derived.Stop.Joined
import Derived.Test.YtijedffphgckmaaGreatDoorTie
import Derived.Test.YtijedffphgckmaaGreatDoorCards
import Derived.Test.YtijedffphgckmaaGreatDoorSxUa5
import Derived.ChangeMaps
import Derived.Test.YtijedffphgckmaaGreatDoorSxTa2
set_option linter.unusedVariables false
set_option linter.unusedSimpArgs false
namespace Go.SX
open Go.Proofs Go.Proofs.YtijedffphgckmaaGreatDoor Go.ChangeShapes Go.WideShapes Go.ChangeAt Go.RowKit
set_option maxHeartbeats 400000000
set_option maxRecDepth 100000
theorem yf3 : ownKnob Tryz.prog.godebug = none := by kernel_rfl
theorem zj2 : laidOutB Tryz.prog = true := by kernel_rfl
abbrev zp6 : List (String × DataW Unit) := [("math/bits.deBruijn32tab", Rows.laid_math_bits_deBruijn32tab), ("math/bits.deBruijn64tab", Rows.laid_math_bits_deBruijn64tab), ("internal/strconv.uint64pow10", Rows.laid_internal_strconv_uint64pow10), ("unicode/utf8.acceptRanges", Rows.laid_unicode_utf8_acceptRanges), ("strconv.ErrRange", Rows.laid_strconv_ErrRange), ("strconv.ErrSyntax", Rows.laid_strconv_ErrSyntax), ("unicode/utf8.first", Rows.laid_unicode_utf8_first)]
def zc5 (l : List Value) : List Int := l.map fun v => match v with | .int _ n => n | _ => 0
theorem y23 : U.glob 1 = (zc5 (U.glob 1)).map (Value.int .u8) := by kernel_rfl
theorem y2q : U.glob 3 = (zc5 (U.glob 3)).map (Value.int .u64) := by kernel_rfl
theorem y8q : (Rows.laid_math_bits_deBruijn64tab : DataW Unit) = .agg ((zc5 (U.glob 1)).map fun n => .lit (.int .u8 n)) := by kernel_rfl
theorem y99 : (Rows.laid_internal_strconv_uint64pow10 : DataW Unit) = .agg ((zc5 (U.glob 3)).map fun n => .lit (.int .u64 n)) := by kernel_rfl
theorem z4v {P : Program} {W : World} {t e : TypeId} {n : Nat} {k : IntKind} {cs : List Value} {fuel : Nat} {p : List MemPlace} {L : List Int} (ut : P.underlying t = some (.array n e)) (ue : P.underlying e = some (.int k)) (ce : P.cellsOf e = 1) (ct : P.cellsOf t = n) (hlen : L.length = n)
  (hd : DataW.trod (fun _ => ()) P W 0 (fun _ => true) false fuel t cs = some (.agg (L.map fun z => .lit (.int k z)), p)) : cs = L.map (Value.int k) := by
 obtain ⟨xs, m, _, ex, hcl, hl, hel⟩ := DataW.trod_array ut hd
 rw [ct] at hcl
 have e3 : (xs.map (·.1)) = L.map fun n => (.lit (.int k n) : DataW Unit) := (DataW.agg.inj (Prod.mk.inj ex).1).symm
 refine List.ext_getElem (by rw [hcl, List.length_map, hlen]) fun r h1 h2 => ?_
 have hr : r < n := by omega
 have hE := hel r hr
 rw [ce, Nat.mul_one, List.getElem?_eq_getElem (by omega)] at hE
 obtain ⟨z, e1, e2, _⟩ := DataW.trod_int ue hE
 have e4 : (xs.map (·.1))[r]? = (L.map fun n => (DataW.lit (.int k n) : DataW Unit))[r]? := by rw [e3]
 rw [List.getElem?_map, List.getElem?_map, List.getElem?_eq_getElem (by omega : r < xs.length), List.getElem?_eq_getElem (by omega : r < L.length), e2] at e4
 simp only [Option.map_some, Option.some.injEq, DataW.lit.injEq, Lit.int.injEq, true_and] at e4
 have e4 : z = L[r] := by first | exact e4 | exact e4.2
 have : cs[r]? = some (.int k z) := by
  have h0 : ((cs.drop r).take 1)[0]? = some (.int k z) := by rw [e1]; rfl
  simpa using h0
 rw [List.getElem?_eq_getElem h1] at this
 rw [Option.some.inj this, List.getElem_map]
 exact congrArg _ e4
theorem z4h {P : Program} {W : World} {t : TypeId} {ms : Array (String × TypeId)} {cs : List Value} {fuel : Nat} {x : DataW Unit × List MemPlace} (ut : P.underlying t = some (.interface ms)) (hd : DataW.trod (fun _ => ()) P W 0 (fun _ => true) false fuel t cs = some x) : ∃ v, cs = [v] ∧ (v = .nilIface ∨ ∃ te pe, v = .iface te pe) := by
 cases fuel with
 | zero => simp [DataW.trod] at hd
 | succ n =>
  unfold DataW.trod at hd
  rw [ut] at hd
  split at hd <;> first | (rename_i h; cases h; done) | (exact ⟨_, rfl, .inl rfl⟩) | (exact ⟨_, rfl, .inr ⟨_, _, rfl⟩⟩) | (cases hd; done) | skip
  all_goals simp_all
theorem q8h {P : Program} {W : World} {name : String} {g : Nat} {cs : Array Value} (hg : P.globalNamed name = some g) (hv : W.var? P name = some cs) : (∃ T z, W.heap[g]? = some (.cells cs T z)) ∧ g < W.heap.size := by
 unfold World.var? at hv
 rw [hg] at hv
 simp only [Option.bind_some] at hv
 split at hv
 ·rename_i c T z hh
  obtain rfl := Option.some.inj hv
  refine ⟨⟨T, z, hh⟩, ?_⟩
  rcases Nat.lt_or_ge g W.heap.size with h' | h'
  ·exact h'
  ·rw [Array.getElem?_eq_none h'] at hh; cases hh
 ·cases hv
theorem y58 {W : World} (h : laidMetH Tryz.prog zp6 W) : q9m Cd W ⟨Old W, fun _ => .fresh⟩ := by
 rw [MakeChecks.laidMetH_plain _ _ _ (by kernel_rfl)] at h
 obtain ⟨ps, ⟨_, _, _, _, _, _, _, _, _, _, ⟨g1, t1, cs1, fu1, p1, q1, hg1, ht1, hv1, hd1, ⟨g3, t3, cs3, fu3, p3, q3, hg3, ht3, hv3, hd3, ⟨_, _, _, _, _, _, _, _, _, _, ⟨g5, t5, cs5, fu5, p5, q5, hg5, ht5, hv5, hd5, ⟨g4, t4, cs4, fu4, p4, q4, hg4, ht4, hv4, hd4, _, _⟩, _⟩, _⟩, _⟩, _⟩, _⟩, _, _⟩ := h
 obtain rfl := Option.some.inj ((show Tryz.prog.globalNamed "math/bits.deBruijn64tab" = some 1 by kernel_rfl).symm.trans hg1)
 obtain rfl := Option.some.inj ((show (Tryz.prog.globals[1]?).map (·.type) = some 170 by kernel_rfl).symm.trans ht1)
 obtain rfl := Option.some.inj ((show Tryz.prog.globalNamed "internal/strconv.uint64pow10" = some 3 by kernel_rfl).symm.trans hg3)
 obtain rfl := Option.some.inj ((show (Tryz.prog.globals[3]?).map (·.type) = some 180 by kernel_rfl).symm.trans ht3)
 obtain rfl := Option.some.inj ((show Tryz.prog.globalNamed "strconv.ErrRange" = some 5 by kernel_rfl).symm.trans hg5)
 obtain rfl := Option.some.inj ((show (Tryz.prog.globals[5]?).map (·.type) = some 107 by kernel_rfl).symm.trans ht5)
 obtain rfl := Option.some.inj ((show Tryz.prog.globalNamed "strconv.ErrSyntax" = some 4 by kernel_rfl).symm.trans hg4)
 obtain rfl := Option.some.inj ((show (Tryz.prog.globals[4]?).map (·.type) = some 107 by kernel_rfl).symm.trans ht4)
 rw [y8q] at hd1
 rw [y99] at hd3
 have k1 := z4v (Tryz.underlying170) Tryz.underlying5 (by kernel_rfl) (by kernel_rfl) (by kernel_rfl) hd1
 have k3 := z4v (Tryz.underlying180) Tryz.underlying12 (by kernel_rfl) (by kernel_rfl) (by kernel_rfl) hd3
 obtain ⟨v5, e5, k5⟩ := z4h Tryz.underlying107 hd5
 obtain ⟨v4, e4, k4⟩ := z4h Tryz.underlying107 hd4
 obtain ⟨⟨T1, z1, a1⟩, b1⟩ := q8h (by kernel_rfl) hv1
 obtain ⟨⟨T3, z3, a3⟩, b3⟩ := q8h (by kernel_rfl) hv3
 obtain ⟨⟨T5, z5, a5⟩, b5⟩ := q8h (by kernel_rfl) hv5
 obtain ⟨⟨T4, z4, a4⟩, b4⟩ := q8h (by kernel_rfl) hv4
 refine ⟨fun g hgl => ?_, fun g hgl => ?_⟩
 ·match g, hgl with
  | 0, h => exact absurd rfl h
  | 1, _ =>
   refine ⟨b1, ⟨_, _, _, a1, k1.trans y23.symm⟩, fun v hv => ?_⟩
   have hv3 : v ∈ U.glob 1 := hv
   rw [y23] at hv3
   obtain ⟨n, _, rfl⟩ := List.mem_map.1 hv3
   rfl
  | 2, h => exact absurd rfl h
  | 3, _ =>
   refine ⟨b3, ⟨_, _, _, a3, k3.trans y2q.symm⟩, fun v hv => ?_⟩
   have hv3 : v ∈ U.glob 3 := hv
   rw [y2q] at hv3
   obtain ⟨n, _, rfl⟩ := List.mem_map.1 hv3
   rfl
  | g + 4, h => exact absurd rfl h
 ·have one : ∀ {cs : Array Value} {v : Value}, cs.toList = [v] → cs = #[v] := fun h => Array.toList_inj.1 h
  match g, hgl with
  | 0, h => cases h
  | 1, h => cases h
  | 2, h => cases h
  | 3, h => cases h
  | 4, _ => rw [one e4] at a4; exact ⟨b4, v4, _, _, a4, k4⟩
  | 5, _ => rw [one e5] at a5; exact ⟨b5, v5, _, _, a5, k5⟩
  | g + 6, h => cases h
variable {H : Type} {enc : TypeId × Value → H} {W : World}
theorem yb5 : z33 (C := Cd) Dc enc Tryz.prog W 121 U.arr5 z41 := by
 refine ⟨by kernel_rfl, fun fuel cs x h => ?_⟩
 obtain ⟨zs, hlen, rfl, hz⟩ := q9g Tryz.underlying121 (by kernel_rfl) (by kernel_rfl) h
 match zs, hlen, hz with
 | [a, b, c, d, e], _, hz => exact ⟨⟨a, b, c, d, e⟩, ql2 Dc W (Old W) [a, b, c, d, e], ⟨(hz a (by simp)).h, (hz b (by simp)).h, (hz c (by simp)).h, (hz d (by simp)).h, (hz e (by simp)).h⟩⟩
end Go.SX
namespace Go.SX
open Go.Proofs
set_option maxHeartbeats 400000000
set_option maxRecDepth 100000
@[reducible] def shF : SV Cd := .fn (.func 46) [] [.ptr 0 0, .ptr 1 0]
@[reducible] def gsS (l : List q06) : SV Cd := .p (.dsl U.goal l)
theorem y2o (r : List Int) (f t lo hi : Int) (c : Bool) (dy tm wi : Int) (ce : List Int) (hr : (r.length : Int) ≤ 1000) : q07 Tryz.prog Dc 46 [q0m ⟨1, r, f, t, lo, hi, c, dy, tm, wi, ce, []⟩, .ptr 0 0, .ptr 1 0] [.vart none [zz2], .vart none [shF]] (.tuple []) [.vart none [.slice 2 0 12 0 1], .vart none [shF], .rows U.goal [⟨1, r, f, t, lo, hi, c, dy, tm, wi, ce, []⟩]] := by
 have hc := y34 r (by omega)
 refine q00 Ax q03 Tryz.func46 (c := _) rfl Tryz.call46 300 ?_
 (repeat' ((conv => whnf); first | (refine q01 [] hc rfl rfl trivial ?_)))
 conv => whnf
 refine zc1 [some 0, some 1, some 2, none] [(0, .any), (12, .any)] [(2, .vart none [iS 1, lS r, iS f, iS t, iS lo, iS hi, bS c, iS dy, iS tm, iS wi, lS ce, gsS []]), (3, .rows U.int [])] (by exact bkV) ?_
 conv => whnf
 refine q02 mixed ?_
 (repeat' ((conv => whnf); first | refine taC ?_ | refine saC ?_))
 conv => whnf
 refine q0u (fun _ : Unit => [(24, iS 0)]) (fun _ => []) (fun _ => True) (fun _ => 0) () trivial (by exact bkW) ?_
 intro _ _ K hK
 (repeat' ((conv => whnf); first | (refine q08 [some 0, some 1, some 5] (.inl rfl) ?_ ?_ rfl rfl; (focus exact vwV); exact hsW)))
theorem y7z (r : List Int) (f t lo hi : Int) (c : Bool) (dy tm wi : Int) (ce : List Int) (hr : (r.length : Int) ≤ 1000) (hv : q07 Tryz.prog Dc 18 [q0m ⟨1, r, f, t, lo, hi, c, dy, tm, wi, ce, []⟩] [] (bS true) []) : q07 Tryz.prog Dc 22 [q0m ⟨1, r, f, t, lo, hi, c, dy, tm, wi, ce, []⟩] [] (gsS [⟨1, r, f, t, lo, hi, c, dy, tm, wi, ce, []⟩]) [] := by
 have h1 := y2o r f t lo hi c dy tm wi ce hr
 refine q00 Ax q03 Tryz.func22 (c := _) rfl Tryz.call22 300 ?_
 (repeat' ((conv => whnf); first | refine cpC (hv) ?_ | (refine q01 [some 1, some 2] h1 rfl rfl ⟨rfl, rfl, trivial⟩ ?_) | (refine q08 [] (.inr rfl) ?_ ?_ rfl rfl; (focus exact vwV); exact hsV)))
theorem q7d : q4d qq3 := by
 rw [q1y]; exact ⟨⟨by decide, by decide, by decide⟩, by simp [qq3, GAllL]⟩
theorem qz4 : q4d q70.goal := by
 rw [q1y]; exact ⟨⟨by decide, by decide, by decide⟩, by show GAllL []; simp [GAllL]⟩
theorem y0n : q07 Tryz.prog Dc 22 [q0m qq3] [] (gsS [qq3]) [] :=
 y7z _ _ _ _ _ _ _ _ _ _ (by decide) (by have := q3o qq3 q7d; rw [zd1] at this; exact this)
theorem y3k : q07 Tryz.prog Dc 10 [] [] (bS true) [] := by
 have h1 : q07 Tryz.prog Dc 14 [qb4 oEx] [] (.tuple [wS z6c, iS 0]) [] := by have := zc8 oEx q7d; rw [y0e] at this; exact this
 have h2 : q07 Tryz.prog Dc 25 [wS z6c] [] (.tuple [qb4 oEx, iS 29, iS 0]) [] := by have := z0a z6c (by decide); unfold z4c at this; rw [y0t] at this; exact this
 have h3 : q07 Tryz.prog Dc 25 [wS yb7] [] (.tuple [qb4 q70, iS 3, iS 130]) [] := by have := z0a yb7 (by decide); unfold z4c at this; rw [y4w] at this; exact this
 have h4 : q07 Tryz.prog Dc 25 [wS yc3] [] (.tuple [qb4 q70, iS 12, iS 130]) [] := by have := z0a yc3 (by decide); unfold z4c at this; rw [y3z] at this; exact this
 have h5 : q07 Tryz.prog Dc 25 [wS yb3] [] (.tuple [qb4 q70, iS 4, iS 130]) [] := by have := z0a yb3 (by decide); unfold z4c at this; rw [y68] at this; exact this
 have h6 : q07 Tryz.prog Dc 21 [qb4 oEx, qb4 oEx] [] (bS true) [] := by have := qs0 oEx oEx q7d q7d; rw [zq2] at this; exact this
 have h7 := yd1 z6c (by decide)
 have h7l := y6r
 have h8 : q07 Tryz.prog Dc 22 [q0m qq3] [] (gsS [qq3]) [] := y0n
 have h9 : q07 Tryz.prog Dc 16 [qb4 oEx] [] (bS true) [] := by have := z1f oEx q7d; rw [y7j] at this; exact this
 have h10 : q07 Tryz.prog Dc 16 [qb4 q70] [] (bS false) [] := by have := z1f q70 qz4; rw [y63] at this; exact this
 have h11 : q07 Tryz.prog Dc 18 [q0m qq3] [] (bS true) [] := by have := q3o qq3 q7d; rw [zd1] at this; exact this
 have h12 : q07 Tryz.prog Dc 18 [q0m q70.goal] [] (bS false) [] := by have := q3o q70.goal qz4; rw [show q2r q70.goal = false from y12] at this; exact this
 have h13 : q07 Tryz.prog Dc 20 [qb4 oEx, qb4 oEx] [] (bS true) [] := by have := zo9 oEx oEx q7d; rw [zq2] at this; exact this
 have h14 : q07 Tryz.prog Dc 20 [qb4 oEx, qb4 q70] [] (bS false) [] := by have := zo9 oEx q70 q7d; rw [y1b] at this; exact this
 have z10 : q07 Tryz.prog Dc 16 [.agg zj8] [] (bS false) [] := zt7 h10 (by exact snV)
 have z12 : q07 Tryz.prog Dc 18 [y45 0] [] (bS false) [] := zt7 h12 (by exact snV)
 have z14 : q07 Tryz.prog Dc 20 [qb4 oEx, .agg zj8] [] (bS false) [] := zt7 h14 (by exact snV)
 generalize q0j z6c = tk at *
 refine q00 Ax q03 Tryz.func10 (c := _) rfl Tryz.call10 900 ?_
 (repeat' ((conv => whnf); first | refine cpC (yf8) ?_ | refine cpC (h1) ?_ | refine cpC (h2) ?_ | refine cpC (h3) ?_ | refine cpC (h4) ?_ | refine cpC (h5) ?_ | refine cpC (h6) ?_ | refine cpC (h7) ?_ | refine cpC (h8) ?_ | refine cpC (h9) ?_ | refine cpC (z10) ?_ | refine cpC (h11) ?_ | refine cpC (z12) ?_ | refine cpC (h13) ?_ | refine cpC (z14) ?_ | (exfalso; omega) | (refine q08 [] (.inr rfl) ?_ ?_ rfl rfl; (focus exact vwV); exact hsV) | refine spC (fun hb => ?_) fun hb => ?_))
end Go.SX
namespace Go.SX
def NB (l : List Wd) : Prop := ∀ w ∈ l, (32 : UInt8) ∉ w
theorem NB.nil : NB [] := fun w h => by cases h
theorem NB.cons {w : Wd} {l : List Wd} (h : (32 : UInt8) ∉ w) (hl : NB l) : NB (w :: l) := fun x hx => by
 rcases List.mem_cons.1 hx with rfl | hx
 ·exact h
 ·exact hl x hx
theorem NB.app {a b : List Wd} (h : NB a) (h' : NB b) : NB (a ++ b) := fun x hx => by
 rcases List.mem_append.1 hx with hx | hx
 ·exact h x hx
 ·exact h' x hx
theorem z0x : ∀ (w t : Wd), (32 : UInt8) ∉ w → q1b (w ++ 32 :: t) = w :: q1b t
 | [], t, _ => by rw [List.nil_append, q1b, if_pos rfl]
 | c :: w, t, h => by
  have hc : c ≠ 32 := fun e => h (by simp [e])
  rw [List.cons_append, q1b, if_neg hc, z0x w t (fun h2 => h (List.mem_cons_of_mem _ h2))]
theorem qv0 : ∀ w : Wd, (32 : UInt8) ∉ w → q1b w = [w]
 | [], _ => rfl
 | c :: w, h => by
  have hc : c ≠ 32 := fun e => h (by simp [e])
  rw [q1b, if_neg hc, qv0 w (fun h2 => h (List.mem_cons_of_mem _ h2))]
theorem z3y : ∀ f n : Nat, (32 : UInt8) ∉ q5c f n
 | 0, n => by simp [q5c]
 | f + 1, n => by
  have hd : ∀ k : Nat, k < 10 → (32 : UInt8) ≠ UInt8.ofNat (48 + k) := by decide
  unfold q5c
  split
  ·rename_i h
   simp only [List.mem_singleton]
   exact hd n h
  ·simp only [List.mem_append, List.mem_singleton, not_or]
   exact ⟨z3y f _, hd _ (Nat.mod_lt _ (by omega))⟩
theorem y1s (n : Int) : (32 : UInt8) ∉ q0a n := by
 unfold q0a
 split
 ·simp only [List.mem_cons, not_or]; exact ⟨by decide, z3y _ _⟩
 ·exact z3y _ _
def y6t (o : q2c) : List Wd := [q0w, q0a o.id, q6s, q0a o.owner, q2n, q0a o.price, q0x, if o.group < 0 then q36 else q0a o.group, if o.urgent then q1j else q23, q19, q0a o.known, q2w, q0a o.due, q1a]
theorem zx7 (o : q2c) : q4k o = y6t o ++ q0o o.goal ++ [q3z] := rfl
end Go.SX
namespace Go.SX
open Go.Proofs
set_option maxHeartbeats 400000000
set_option maxRecDepth 100000
theorem z3n (a b : List Wd) (ha : (a.length : Int) ≤ 3000000) (hb : (b.length : Int) ≤ 3000000) : q07 Tryz.prog Dc 27 [wsS a, wsS b] [] (bS (decide (a = b))) [] := by
 by_cases hlen : a.length = b.length
 rotate_left
 ·rw [decide_eq_false (fun e => hlen (by rw [e]))]
  refine q00 Ax q03 Tryz.func27 (c := _) rfl Tryz.call27 100 ?_
  (repeat' ((conv => whnf); first | refine x0C (eB ?_ rfl) | (exfalso; omega) | refine spC (fun hb => ?_) fun hb => ?_))
  all_goals rfl
 ·refine q00 Ax q03 Tryz.func27 (c := _) rfl Tryz.call27 100 ?_
  (repeat' ((conv => whnf); first | (exfalso; omega) | refine spC (fun hb => ?_) fun hb => ?_))
  refine q0u (fun i : Nat => [(5, iS i)]) (fun _ => []) (fun i => i ≤ a.length ∧ a.take i = b.take i) (fun i => a.length - i) 0 ⟨Nat.zero_le _, by simp⟩ (by exact bkI) ?_
  rintro i ⟨hi, he⟩ K hK
  rcases Nat.lt_or_ge i a.length with hlt | hge
  ·have t1 := q2g (d := Cd.dflt U.str) hlt
   have t2 := q2g (d := Cd.dflt U.str) (show i < b.length by omega)
   have hs : a.getD (i : Int).toNat (Cd.dflt U.str) = b.getD (i : Int).toNat (Cd.dflt U.str) → a.take (i + 1) = b.take (i + 1) := fun h => by
    rw [t1, t2, he, show a.getD i (Cd.dflt U.str) = b.getD i (Cd.dflt U.str) from h]
   have hn : ¬ a.getD (i : Int).toNat (Cd.dflt U.str) = b.getD (i : Int).toNat (Cd.dflt U.str) → decide (a = b) = false := fun h => decide_eq_false fun e => h (by rw [e])
   (repeat' ((conv => whnf); first | refine x0C (eB ?_ rfl) | (exfalso; omega) | refine hK (i + 1) [] _ _ ⟨⟨by omega, hs (by assumption)⟩⟩ ⟨by omega⟩ (by exact bkI) | refine spC (fun hb => ?_) fun hb => ?_ | refine taC ?_ | refine saC ?_ | refine q02 mixed ?_))
   all_goals exact (hn (by assumption)).symm
  ·rw [List.take_of_length_le hge, List.take_of_length_le (by omega)] at he
   rw [decide_eq_true he]
   (repeat' ((conv => whnf); first | refine x0C (eB ?_ rfl) | (exfalso; omega) | refine spC (fun hb => ?_) fun hb => ?_))
   all_goals rfl
def ql0 (l : List Int) (y : List A5) : q2c := ⟨q0e (l.getD 0 0) 20, q0e (l.getD 1 0) 5, q9q y, q0e (l.getD 2 0) 100000, q0e (l.getD 3 0) 5 - 1, decide (q0e (l.getD 4 0) 3 = 0), q0e (l.getD 5 0) 3000, q0e (l.getD 5 0) 3000 + 1 + q0e (l.getD 6 0) 9000⟩
theorem z34 (l : List Int) (y : List A5) : z73 (ql0 l y) = true := by
 rw [q6j]
 have h := zg9 y
 have h0 := q0g (c := l.getD 0 0) (n := 20) (by omega)
 have h1 := q0g (c := l.getD 1 0) (n := 5) (by omega)
 have h2 := q0g (c := l.getD 2 0) (n := 100000) (by omega)
 have h3 := q0g (c := l.getD 3 0) (n := 5) (by omega)
 have h5 := q0g (c := l.getD 5 0) (n := 3000) (by omega)
 have h6 := q0g (c := l.getD 6 0) (n := 9000) (by omega)
 unfold ql0
 exact ⟨by dsimp only; omega, by dsimp only; omega, by dsimp only; omega, by dsimp only; omega, by dsimp only; omega, by dsimp only; omega, h⟩
@[reducible] def a7A (l : List Int) : SV Cd := .agg [.arr U.int 7 l]
theorem y4b (l : List Int) (hl : l.length = 7) (hz : ∀ z ∈ l, I64 z) (y : List A5) (hy : ∀ z ∈ y, z41 z) (hyl : (y.length : Int) ≤ 9223372036854775807) : q07 Tryz.prog Dc 11 [a7A l, a5S y] [] (qb4 (ql0 l y)) [] := by
 have hg := y9y y hy hyl
 have hI : ∀ k, k < 7 → I64 (l.getD k 0) := fun k hk => hz _ (List.mem_of_getElem? (getD_some (d := (0 : Int)) (by omega)))
 have p0 := q25 (l.getD 0 0) 20 (hI 0 (by omega)) (by omega)
 have p1 := q25 (l.getD 1 0) 5 (hI 1 (by omega)) (by omega)
 have p2 := q25 (l.getD 2 0) 100000 (hI 2 (by omega)) (by omega)
 have p3 := q25 (l.getD 3 0) 5 (hI 3 (by omega)) (by omega)
 have p4 := q25 (l.getD 4 0) 3 (hI 4 (by omega)) (by omega)
 have p5 := q25 (l.getD 5 0) 3000 (hI 5 (by omega)) (by omega)
 have p6 := q25 (l.getD 6 0) 9000 (hI 6 (by omega)) (by omega)
 have h3 := q0g (c := l.getD 3 0) (n := 5) (by omega)
 have h5 := q0g (c := l.getD 5 0) (n := 3000) (by omega)
 have h6 := q0g (c := l.getD 6 0) (n := 9000) (by omega)
 unfold ql0
 clear hI hz
 refine q00 Ax q03 Tryz.func11 (c := _) rfl Tryz.call11 300 ?_
 (repeat' ((conv => whnf); first | refine dpC (p0) ?_ | refine dpC (p1) ?_ | refine dpC (p2) ?_ | refine dpC (p3) ?_ | refine dpC (p4) ?_ | refine dpC (p5) ?_ | refine dpC (p6) ?_ | refine dpC (hg) ?_ | (refine q08 [] (.inr rfl) ?_ ?_ rfl rfl; (focus exact vwV); exact hsV) | refine taC ?_ | refine saC ?_ | refine q02 mixed ?_))
end Go.SX
namespace Go.SX
open Go.Proofs Go.Proofs.YtijedffphgckmaaGreatDoor Go.ChangeShapes Go.WideShapes Go.ChangeAt Go.RowKit
set_option maxHeartbeats 400000000
set_option maxRecDepth 100000
variable {H : Type} {enc : TypeId × Value → H} {W : World} {r : Reach} {b0' : Nat} {v : Value} {d : DataW H} {ps : List MemPlace}
theorem yf9 (ho : Value.okWide Tryz.prog W r b0' 22 v) (h : DataW.Trod enc Tryz.prog W 0 (fun _ => true) true 22 v d ps) : ∃ l : List Int, Den Dc W (En W) (a7A l) v ∧ l.length = 7 ∧ ∀ z ∈ l, I64 z := by
 have hut := Tryz.underlying22
 simp only [Value.okWide, hut] at ho
 obtain ⟨cs, rfl, _⟩ := ho
 obtain ⟨fuel, hx⟩ := h
 obtain ⟨zs, hlen, hcs, hz⟩ := q9g Tryz.underlying22 (by kernel_rfl) (by kernel_rfl) hx
 have hcs : cs.toList = zs.map (Value.int .i64) := hcs
 refine ⟨zs, ?_, hlen, fun z h => (hz z h).h⟩
 simp only [a7A, Den]
 refine ⟨cs, rfl, ?_⟩
 simp only [DenC]
 have e : ∀ l : List Int, l.flatMap (Dc.enc U.int) = l.map (PV.int .i64) := fun l => by
  induction l with
  | nil => rfl
  | cons a l ih => rw [List.flatMap_cons, ih]; rfl
 exact ⟨hlen, cs.toList, [], by simp, by rw [hcs, e]; exact ql2 Dc W (En W).F zs, rfl⟩
end Go.SX
namespace Go.SX
open Go.Proofs Go.Proofs.YtijedffphgckmaaGreatDoor Go.ChangeShapes Go.WideShapes Go.ChangeAt Go.RowKit
set_option maxHeartbeats 400000000
set_option maxRecDepth 100000
variable {H : Type} {enc : TypeId × Value → H} {W : World} {r : Reach} {b0' : Nat} {v : Value} {d : DataW H} {ps : List MemPlace}
theorem y7m (ho : Value.okWide Tryz.prog W r b0' 9 v) (h : DataW.Trod enc Tryz.prog W 0 (fun _ => true) true 9 v d ps) : ∃ s : Wd, Den Dc W (En W) (wS s) v ∧ (s.length : Int) ≤ 9223372036854775807 := by
 obtain ⟨s, rfl, _, _, hs⟩ := Go.ChangeMaps.open_string Tryz.underlying9 ho h
 have hm : maxLen = 9223372036854775807 := rfl
 refine ⟨s.data.toList, by simp only [wS, Den]; exact .str _, ?_⟩
 have : s.data.toList.length = s.size := Array.length_toList
 omega
end Go.SX
namespace Go.SX
open Go.Proofs
set_option maxHeartbeats 400000000
set_option maxRecDepth 100000
@[reducible] def z7s {α : Type} (n : Int) (l : List α) : List α := List.drop (Int.toNat 0) (List.take (min (l.length : Int) n).toNat l)
theorem qa2 {α : Type} (n : Int) (l : List α) : ((z7s n l).length : Int) ≤ max n 0 := by
 unfold z7s; rw [List.length_drop, List.length_take]; omega
theorem z9l {α : Type} {n : Int} {l : List α} {x : α} (h : x ∈ z7s n l) : x ∈ l := List.mem_of_mem_take (List.mem_of_mem_drop h)
@[reducible] def zk4 (g : q06) : q06 := ⟨g.kind, g.rows, g.from_, g.to_, g.low, g.high, g.clear, g.days, g.times, g.within, g.cents, g.kids⟩
theorem q6t (g : q06) : zk4 g = g := by cases g; rfl
def z0h : Nat → q06 → q06
 | 0, g => ⟨g.kind, z7s 25 g.rows, g.from_, g.to_, g.low, g.high, g.clear, g.days, g.times, g.within, z7s 5 g.cents, []⟩
 | d + 1, g => ⟨g.kind, z7s 25 g.rows, g.from_, g.to_, g.low, g.high, g.clear, g.days, g.times, g.within, z7s 5 g.cents, (z7s 5 g.kids).map (z0h d)⟩
theorem qi1 : ∀ {l : List q06}, (∀ x ∈ l, q4d x) → GAllL l
 | [], _ => by rw [GAllL]; trivial
 | k :: l, h => by rw [GAllL]; exact ⟨h k (List.mem_cons_self ..), qi1 fun x hx => h x (List.mem_cons_of_mem _ hx)⟩
theorem q8w : ∀ (d : Nat) (g : q06), q4d g → q4d (z0h d g)
 | 0, g, h => by
  have h1 := qa2 25 g.rows
  have h2 := qa2 5 g.cents
  rw [q1y]
  exact ⟨⟨by show ((z7s 25 g.rows).length : Int) ≤ _; omega, by show ((z7s 5 g.cents).length : Int) ≤ _; omega, by show (([] : List q06).length : Int) ≤ _; simp⟩, qi1 (l := []) fun x hx => by cases hx⟩
 | d + 1, g, h => by
  have h1 := qa2 25 g.rows
  have h2 := qa2 5 g.cents
  have h3 := qa2 5 g.kids
  rw [q1y] at h ⊢
  refine ⟨⟨by show ((z7s 25 g.rows).length : Int) ≤ _; omega, by show ((z7s 5 g.cents).length : Int) ≤ _; omega, by show (((z7s 5 g.kids).map (z0h d)).length : Int) ≤ _; rw [List.length_map]; omega⟩, qi1 fun x hx => ?_⟩
  obtain ⟨y, hy, rfl⟩ := List.mem_map.1 (show x ∈ (z7s 5 g.kids).map (z0h d) from hx)
  exact q8w d y (q3p h.2 (z9l hy))
end Go.SX
namespace Go.SX
open Go.Proofs Go.Proofs.YtijedffphgckmaaGreatDoor Go.ChangeShapes Go.WideShapes Go.ChangeAt Go.RowKit Go.Deep
set_option maxHeartbeats 400000000
set_option maxRecDepth 100000
variable {H : Type} {enc : TypeId × Value → H} {W : World}
structure zq7 (e : TypeId) (u : U) (Ok : u.El → Prop) (enc : TypeId × Value → H) (W : World) (N : Nat) : Prop where
 n : Tryz.prog.cellsOf e = u.n
 el : ∀ fuel, fuel < N → ∀ cs x, DataW.trod enc Tryz.prog W 0 (fun _ => true) true fuel e cs = some x → ∃ y : u.El, q1v Dc W (Old W) (Dc.enc u y) cs ∧ Ok y
theorem z95 {t e : TypeId} {u : U} {Ok : u.El → Prop} {N : Nat} (R : zq7 e u Ok enc W N) (ht : Tryz.prog.underlying t = some (.slice e)) {fuel : Nat} (hN : fuel ≤ N) {cs : List Value} {x : DataW H × List MemPlace}
  (h : DataW.trod enc Tryz.prog W 0 (fun _ => true) true fuel t cs = some x) :
  ∃ (v : Value) (l : List u.El), cs = [v] ∧ q4a Dc W (Old W) (.dsl u l) v ∧ (∀ y ∈ l, Ok y) ∧ l.length ≤ maxLen := by
 rcases DataW.trod_slice ht h with ⟨rfl, _⟩ | ⟨a, len, cap, elems, rest, n, hfu, rfl, _, _, hl, hmm, hlen, hel, _, _⟩
 ·exact ⟨_, [], rfl, .dslNil (C := Cd) u none 0, by simp, by simp⟩
 ·by_cases h0 : len = 0
  ·subst h0; exact ⟨_, [], rfl, .dslNil (C := Cd) u (some a) cap, by simp, by simp⟩
  haveI : Inhabited u.El := ⟨u.dflt⟩
  obtain ⟨f, hf⟩ := choose_lt (n := len) (p := fun i (y : u.El) => ∃ cs', W.cells? 0 (a.add (i * Tryz.prog.cellsOf e)) (Tryz.prog.cellsOf e) = some cs' ∧ q1v Dc W (Old W) (Dc.enc u y) cs' ∧ Ok y) (fun i hi => by
   have h1 := hel i hi
   rw [List.getElem?_eq_getElem (by omega)] at h1
   obtain ⟨cs', h1, h2⟩ := Option.bind_eq_some_iff.1 h1
   obtain ⟨y, h3, h4⟩ := R.el n (by omega) cs' _ h2
   exact ⟨y, cs', h1, h3, h4⟩)
  have hn := R.n
  have hnp : 0 < u.n := Dc.n_pos u
  have hspot : a.spot = none := by
   obtain ⟨cs', h1, h2, _⟩ := hf 0 (by omega)
   obtain ⟨_, hlen, hc⟩ := World.cells?_some h1
   have := hc 0 (by omega)
   have hv : ∃ v, cs'[0]? = some v := ⟨cs'[0]'(by omega), by rw [List.getElem?_eq_getElem]⟩
   obtain ⟨v, hv⟩ := hv
   rw [hv] at this
   have hs := World.cell?_spot this
   simpa [Addr.add] using hs
  obtain ⟨b, o, sp⟩ := a
  simp only at hspot
  subst hspot
  have hcell : ∀ i, i < len → ∀ j, j < u.n → ∃ v, W.cell? ⟨b, o + i * u.n + j, none⟩ = some v ∧ ∀ pv, (Dc.enc u (f i))[j]? = some pv → q4a Dc W (Old W) pv v := by
   intro i hi j hj
   obtain ⟨cs', h1, h2, _⟩ := hf i hi
   rw [hn, qr5] at h1
   obtain ⟨_, hlen, hc⟩ := World.cells?_some h1
   have := hc j hj
   rw [qr5] at this
   have hv : cs'[j]? = some (cs'[j]'(by omega)) := by rw [List.getElem?_eq_getElem]
   rw [hv] at this
   exact ⟨_, this, fun pv hp => h2.2 j pv _ hp hv⟩
  have hen : ∀ y, (Dc.enc u y).length = u.n := Dc.enc_len u
  refine ⟨_, (List.range len).map f, rfl, ?_, ?_, ?_⟩
  ·have key := q4a.dsl (D := Dc) (w := W) (F := Old W) u ((List.range len).map f) b o cap (fun i j => (W.cell? ⟨b, o + i * u.n + j, none⟩).getD (.bool false)) ?_ (by simpa using hl) ?_ ?_
   ·simpa using key
   ·intro _
    obtain ⟨v, hv, _⟩ := hcell 0 (by omega) 0 hnp
    exact za3 hv
   ·intro i x hx j pv hp
    have hi : i < len := by
     rcases Nat.lt_or_ge i len with h' | h'
     ·exact h'
     ·rw [List.getElem?_eq_none (by simpa using h')] at hx; cases hx
    have hxe : x = f i := by simpa [hi] using hx.symm
    subst hxe
    have hj : j < u.n := by
     rw [← hen (f i)]
     rcases Nat.lt_or_ge j (Dc.enc u (f i)).length with h' | h'
     ·exact h'
     ·rw [List.getElem?_eq_none h'] at hp; cases hp
    obtain ⟨v, hv, _⟩ := hcell i hi j hj
    show W.cell? ⟨b, o + i * u.n + j, none⟩ = some ((W.cell? ⟨b, o + i * u.n + j, none⟩).getD (.bool false))
    rw [hv]; rfl
   ·intro i x hx j pv hp
    have hi : i < len := by
     rcases Nat.lt_or_ge i len with h' | h'
     ·exact h'
     ·rw [List.getElem?_eq_none (by simpa using h')] at hx; cases hx
    have hxe : x = f i := by simpa [hi] using hx.symm
    subst hxe
    have hj : j < u.n := by
     rw [← hen (f i)]
     rcases Nat.lt_or_ge j (Dc.enc u (f i)).length with h' | h'
     ·exact h'
     ·rw [List.getElem?_eq_none h'] at hp; cases hp
    obtain ⟨v, hv, hd⟩ := hcell i hi j hj
    show q4a Dc W (Old W) pv ((W.cell? ⟨b, o + i * u.n + j, none⟩).getD (.bool false))
    rw [hv]; exact hd pv hp
  ·intro y hy
   obtain ⟨i, hi, rfl⟩ := List.mem_map.1 hy
   obtain ⟨_, _, _, hok⟩ := hf i (List.mem_range.1 hi)
   exact hok
  ·simp only [List.length_map, List.length_range]; omega
theorem y9n : z33 (C := Cd) Dc enc Tryz.prog W 3 U.int (fun _ => True) := by
 refine ⟨by kernel_rfl, fun fuel cs x h => ?_⟩
 obtain ⟨z, rfl, _, _⟩ := DataW.trod_int Tryz.underlying3 h
 exact ⟨z, ql2 Dc W (Old W) [z], trivial⟩
theorem yf1 : q1v Dc W (Old W) [] [] := ⟨rfl, fun j pv v h => by cases h⟩
theorem zj9 {p : PV Cd} {v : Value} {ps : List (PV Cd)} {vs : List Value} (h : q4a Dc W (Old W) p v) (h2 : q1v Dc W (Old W) ps vs) : q1v Dc W (Old W) (p :: ps) (v :: vs) := by
 refine ⟨by simp [h2.1], fun j pv w h3 h4 => ?_⟩
 match j, h3, h4 with
 | 0, h3, h4 =>
  injection h3 with h3; injection h4 with h4
  subst h3 h4; exact h
 | j + 1, h3, h4 => exact h2.2 j pv w h3 h4
theorem z3u {t : TypeId} {fs : Array Field} (ht : Tryz.prog.underlying t = some (.struct fs)) {fuel : Nat} {cs : List Value} {x : DataW H × List MemPlace} (h : DataW.trod enc Tryz.prog W 0 (fun _ => true) true fuel t cs = some x) :
  ∃ n, fuel = n + 1 ∧ cs.length = Tryz.prog.cellsOf t ∧ ∀ (i : Nat) (f : Field), fs[i]? = some f → ∃ y, DataW.trod enc Tryz.prog W 0 (fun _ => true) true n f.type ((cs.drop f.offset).take (Tryz.prog.cellsOf f.type)) = some y := by
 obtain ⟨xs, n, hf, _, hlen, hxs, hel⟩ := DataW.trod_struct ht h
 refine ⟨n, hf, hlen, fun i f hi => ?_⟩
 have h1 := hel i f hi
 have h2 : i < fs.size := by
  rcases Nat.lt_or_ge i fs.size with h' | h'
  ·exact h'
  ·rw [Array.getElem?_eq_none h'] at hi; cases hi
 rw [List.getElem?_eq_getElem (by omega)] at h1
 exact ⟨_, h1⟩
theorem k3 : Tryz.prog.cellsOf 3 = 1 := by kernel_rfl
theorem k4 : Tryz.prog.cellsOf 4 = 1 := by kernel_rfl
theorem k24 : Tryz.prog.cellsOf 24 = 1 := by kernel_rfl
theorem k26 : Tryz.prog.cellsOf 26 = 1 := by kernel_rfl
theorem k28 : Tryz.prog.cellsOf 28 = 2 := by kernel_rfl
theorem k29 : Tryz.prog.cellsOf 29 = 1 := by kernel_rfl
theorem k31 : Tryz.prog.cellsOf 31 = 12 := by kernel_rfl
theorem k33 : Tryz.prog.cellsOf 33 = 19 := by kernel_rfl
abbrev Tr (enc : TypeId × Value → H) (W : World) (n : Nat) (t : TypeId) (cs : List Value) : Prop := ∃ y, DataW.trod enc Tryz.prog W 0 (fun _ => true) true n t cs = some y
theorem q7j {n : Nat} {c : Value} (h : Tr enc W n 3 [c]) : ∃ z, q4a Dc W (Old W) (.int .i64 z) c := by
 obtain ⟨y, h⟩ := h
 obtain ⟨z, e, _, _⟩ := DataW.trod_int Tryz.underlying3 h
 injection e with e
 subst e
 exact ⟨z, .int _ _⟩
theorem zv7 {n : Nat} {c : Value} (h : Tr enc W n 4 [c]) : ∃ z, q4a Dc W (Old W) (.bool z) c := by
 obtain ⟨y, h⟩ := h
 obtain ⟨z, e, _⟩ := DataW.trod_bool Tryz.underlying4 h
 injection e with e
 subst e
 exact ⟨z, .bool _⟩
theorem zp1 {n : Nat} {c : Value} (h : Tr enc W n 24 [c]) : ∃ l : List Int, q4a Dc W (Old W) (.dsl U.int l) c ∧ (l.length : Int) ≤ 9223372036854775807 := by
 obtain ⟨y, h⟩ := h
 obtain ⟨v, l, e, h2, _, h3⟩ := z4k y9n Tryz.underlying24 h
 injection e with e
 subst e
 have hm : maxLen = 9223372036854775807 := rfl
 exact ⟨l, h2, by omega⟩
theorem y57 {n : Nat} {c : Value} (h : Tr enc W n 26 [c]) : ∃ l : List Int, q4a Dc W (Old W) (.dsl U.int l) c ∧ (l.length : Int) ≤ 9223372036854775807 := by
 obtain ⟨y, h⟩ := h
 obtain ⟨m, _, _, hf⟩ := z3u Tryz.underlying26 h
 have e : Tr enc W m 24 (([c].drop 0).take (Tryz.prog.cellsOf 24)) := hf 0 _ rfl
 rw [k24] at e
 exact zp1 e
theorem y09 {n : Nat} {c d : Value} (h : Tr enc W n 28 [c, d]) : (∃ z, q4a Dc W (Old W) (.int .i64 z) c) ∧ ∃ z, q4a Dc W (Old W) (.int .i64 z) d := by
 obtain ⟨y, h⟩ := h
 obtain ⟨m, _, _, hf⟩ := z3u Tryz.underlying28 h
 have e0 : Tr enc W m 3 (([c, d].drop 0).take (Tryz.prog.cellsOf 3)) := hf 0 _ rfl
 have e1 : Tr enc W m 3 (([c, d].drop 1).take (Tryz.prog.cellsOf 3)) := hf 1 _ rfl
 rw [k3] at e0 e1
 exact ⟨q7j e0, q7j e1⟩
theorem z90 : ∀ N : Nat, zq7 31 U.goal q4d enc W N
 | 0 => ⟨k31, fun fuel h => absurd h (Nat.not_lt_zero _)⟩
 | N + 1 => by
  have ih := z90 N
  refine ⟨k31, fun fuel hN cs x h => ?_⟩
  obtain ⟨m, hm, hl, hf⟩ := z3u Tryz.underlying31 h
  rw [k31] at hl
  match cs, hl with
  | [c0, c1, c2, c3, c4, c5, c6, c7, c8, c9, c10, c11], _ =>
   have e0 : Tr enc W m 3 (([c0, c1, c2, c3, c4, c5, c6, c7, c8, c9, c10, c11].drop 0).take (Tryz.prog.cellsOf 3)) := hf 0 _ rfl
   have e1 : Tr enc W m 26 (([c0, c1, c2, c3, c4, c5, c6, c7, c8, c9, c10, c11].drop 1).take (Tryz.prog.cellsOf 26)) := hf 1 _ rfl
   have e2 : Tr enc W m 28 (([c0, c1, c2, c3, c4, c5, c6, c7, c8, c9, c10, c11].drop 2).take (Tryz.prog.cellsOf 28)) := hf 2 _ rfl
   have e4 : Tr enc W m 3 (([c0, c1, c2, c3, c4, c5, c6, c7, c8, c9, c10, c11].drop 4).take (Tryz.prog.cellsOf 3)) := hf 3 _ rfl
   have e5 : Tr enc W m 3 (([c0, c1, c2, c3, c4, c5, c6, c7, c8, c9, c10, c11].drop 5).take (Tryz.prog.cellsOf 3)) := hf 4 _ rfl
   have e6 : Tr enc W m 4 (([c0, c1, c2, c3, c4, c5, c6, c7, c8, c9, c10, c11].drop 6).take (Tryz.prog.cellsOf 4)) := hf 5 _ rfl
   have e7 : Tr enc W m 3 (([c0, c1, c2, c3, c4, c5, c6, c7, c8, c9, c10, c11].drop 7).take (Tryz.prog.cellsOf 3)) := hf 6 _ rfl
   have e8 : Tr enc W m 3 (([c0, c1, c2, c3, c4, c5, c6, c7, c8, c9, c10, c11].drop 8).take (Tryz.prog.cellsOf 3)) := hf 7 _ rfl
   have e9 : Tr enc W m 3 (([c0, c1, c2, c3, c4, c5, c6, c7, c8, c9, c10, c11].drop 9).take (Tryz.prog.cellsOf 3)) := hf 8 _ rfl
   have e10 : Tr enc W m 24 (([c0, c1, c2, c3, c4, c5, c6, c7, c8, c9, c10, c11].drop 10).take (Tryz.prog.cellsOf 24)) := hf 9 _ rfl
   have e11 : Tr enc W m 29 (([c0, c1, c2, c3, c4, c5, c6, c7, c8, c9, c10, c11].drop 11).take (Tryz.prog.cellsOf 29)) := hf 10 _ rfl
   rw [k3] at e0 e4 e5 e7 e8 e9
   rw [k26] at e1
   rw [k28] at e2
   rw [k4] at e6
   rw [k24] at e10
   rw [k29] at e11
   obtain ⟨z0, d0⟩ := q7j e0
   obtain ⟨z1, d1, b1⟩ := y57 e1
   obtain ⟨⟨z2, d2⟩, ⟨z3, d3⟩⟩ := y09 e2
   obtain ⟨z4, d4⟩ := q7j e4
   obtain ⟨z5, d5⟩ := q7j e5
   obtain ⟨z6, d6⟩ := zv7 e6
   obtain ⟨z7, d7⟩ := q7j e7
   obtain ⟨z8, d8⟩ := q7j e8
   obtain ⟨z9, d9⟩ := q7j e9
   obtain ⟨z10, d10, b10⟩ := zp1 e10
   obtain ⟨y11, h11⟩ := e11
   obtain ⟨v, z11, e, d11, a11, b11⟩ := z95 ih Tryz.underlying29 (by omega) h11
   have e' : c11 = v := by injection e
   subst e'
   have hm : maxLen = 9223372036854775807 := rfl
   exact ⟨⟨z0, z1, z2, z3, z4, z5, z6, z7, z8, z9, z10, z11⟩, zj9 d0 (zj9 d1 (zj9 d2 (zj9 d3 (zj9 d4 (zj9 d5 (zj9 d6 (zj9 d7 (zj9 d8 (zj9 d9 (zj9 d10 (zj9 d11 yf1))))))))))), (q1y _).2 ⟨⟨b1, b10, by show (z11.length : Int) ≤ _; omega⟩, qi1 a11⟩⟩
variable {r : Reach} {b0' : Nat} {v : Value} {d : DataW H} {ps : List MemPlace}
theorem y62 (ho : Value.okWide Tryz.prog W r b0' 31 v) (h : DataW.Trod enc Tryz.prog W 0 (fun _ => true) true 31 v d ps) : ∃ g : q06, Den Dc W (En W) (q0m g) v ∧ q4d g := by
 obtain ⟨cs, rfl, hsz⟩ := okWide_struct Tryz.underlying31 ho
 obtain ⟨fuel, hx⟩ := h
 obtain ⟨g, h1, h2⟩ := (z90 (enc := enc) (W := W) (fuel + 1)).el fuel (Nat.lt_succ_self _) _ _ hx
 refine ⟨g, ?_, h2⟩
 obtain ⟨l⟩ := cs
 have hl := h1.1
 match l, hl with
 | [c0, c1, c2, c3, c4, c5, c6, c7, c8, c9, c10, c11], _ =>
  have q : ∀ (j : Nat) (pv : PV Cd) (w : Value), (y4u g)[j]? = some pv → [c0, c1, c2, c3, c4, c5, c6, c7, c8, c9, c10, c11][j]? = some w → q4a Dc W (Old W) pv w := h1.2
  simp only [q0m, Den]
  refine ⟨_, rfl, ?_⟩
  have one : ∀ {p : PV Cd} {w : Value} {xs : List (SV Cd)} {vs : List Value}, q4a Dc W (Old W) p w → DenC Dc W (En W) xs vs → DenC Dc W (En W) (.p p :: xs) (w :: vs) := fun hp hd => by
   simp only [DenC]
   exact ⟨_, _, rfl, hp.oneCell, by simp only [Den]; exact hp, hd⟩
  exact one (q 0 _ _ rfl rfl) (one (q 1 _ _ rfl rfl) (one (q 2 _ _ rfl rfl) (one (q 3 _ _ rfl rfl) (one (q 4 _ _ rfl rfl) (one (q 5 _ _ rfl rfl) (one (q 6 _ _ rfl rfl) (one (q 7 _ _ rfl rfl) (one (q 8 _ _ rfl rfl) (one (q 9 _ _ rfl rfl) (one (q 10 _ _ rfl rfl) (one (q 11 _ _ rfl rfl) z98)))))))))))
theorem q3f {p : PV Cd} {w : Value} {xs : List (SV Cd)} {vs : List Value} (hp : q4a Dc W (Old W) p w) (hd : DenC Dc W (En W) xs vs) : DenC Dc W (En W) (.p p :: xs) (w :: vs) := by
 simp only [DenC]
 exact ⟨_, _, rfl, hp.oneCell, by simp only [Den]; exact hp, hd⟩
theorem y1n (ho : Value.okWide Tryz.prog W r b0' 33 v) (h : DataW.Trod enc Tryz.prog W 0 (fun _ => true) true 33 v d ps) : ∃ o : q2c, Den Dc W (En W) (qb4 o) v ∧ q4d o.goal := by
 obtain ⟨cs, rfl, hsz⟩ := okWide_struct Tryz.underlying33 ho
 obtain ⟨fuel, hx⟩ := h
 obtain ⟨m, _, hl, hf⟩ := z3u Tryz.underlying33 hx
 rw [k33] at hl
 obtain ⟨l⟩ := cs
 match l, hl with
 | [c0, c1, c2, c3, c4, c5, c6, c7, c8, c9, c10, c11, c12, c13, c14, c15, c16, c17, c18], _ =>
  have e0 : Tr enc W m 3 (([c0, c1, c2, c3, c4, c5, c6, c7, c8, c9, c10, c11, c12, c13, c14, c15, c16, c17, c18].drop 0).take (Tryz.prog.cellsOf 3)) := hf 0 _ rfl
  have e1 : Tr enc W m 3 (([c0, c1, c2, c3, c4, c5, c6, c7, c8, c9, c10, c11, c12, c13, c14, c15, c16, c17, c18].drop 1).take (Tryz.prog.cellsOf 3)) := hf 1 _ rfl
  have e2 : Tr enc W m 31 (([c0, c1, c2, c3, c4, c5, c6, c7, c8, c9, c10, c11, c12, c13, c14, c15, c16, c17, c18].drop 2).take (Tryz.prog.cellsOf 31)) := hf 2 _ rfl
  have e14 : Tr enc W m 3 (([c0, c1, c2, c3, c4, c5, c6, c7, c8, c9, c10, c11, c12, c13, c14, c15, c16, c17, c18].drop 14).take (Tryz.prog.cellsOf 3)) := hf 3 _ rfl
  have e15 : Tr enc W m 3 (([c0, c1, c2, c3, c4, c5, c6, c7, c8, c9, c10, c11, c12, c13, c14, c15, c16, c17, c18].drop 15).take (Tryz.prog.cellsOf 3)) := hf 4 _ rfl
  have e16 : Tr enc W m 4 (([c0, c1, c2, c3, c4, c5, c6, c7, c8, c9, c10, c11, c12, c13, c14, c15, c16, c17, c18].drop 16).take (Tryz.prog.cellsOf 4)) := hf 5 _ rfl
  have e17 : Tr enc W m 3 (([c0, c1, c2, c3, c4, c5, c6, c7, c8, c9, c10, c11, c12, c13, c14, c15, c16, c17, c18].drop 17).take (Tryz.prog.cellsOf 3)) := hf 6 _ rfl
  have e18 : Tr enc W m 3 (([c0, c1, c2, c3, c4, c5, c6, c7, c8, c9, c10, c11, c12, c13, c14, c15, c16, c17, c18].drop 18).take (Tryz.prog.cellsOf 3)) := hf 7 _ rfl
  rw [k3] at e0 e1 e14 e15 e17 e18
  rw [k4] at e16
  rw [k31] at e2
  obtain ⟨z0, d0⟩ := q7j e0
  obtain ⟨z1, d1⟩ := q7j e1
  obtain ⟨z14, d14⟩ := q7j e14
  obtain ⟨z15, d15⟩ := q7j e15
  obtain ⟨z17, d17⟩ := q7j e17
  obtain ⟨z18, d18⟩ := q7j e18
  obtain ⟨z16, d16⟩ := zv7 e16
  obtain ⟨y2, h2⟩ := e2
  obtain ⟨g, h1, hG⟩ := (z90 (enc := enc) (W := W) (m + 1)).el m (Nat.lt_succ_self _) _ _ h2
  have q : ∀ (j : Nat) (pv : PV Cd) (w : Value), (y4u g)[j]? = some pv → [c2, c3, c4, c5, c6, c7, c8, c9, c10, c11, c12, c13][j]? = some w → q4a Dc W (Old W) pv w := h1.2
  refine ⟨⟨z0, z1, g, z14, z15, z16, z17, z18⟩, ?_, hG⟩
  simp only [qb4, Den]
  refine ⟨_, rfl, ?_⟩
  exact q3f d0 (q3f d1 (q3f (q 0 _ _ rfl rfl) (q3f (q 1 _ _ rfl rfl) (q3f (q 2 _ _ rfl rfl) (q3f (q 3 _ _ rfl rfl) (q3f (q 4 _ _ rfl rfl) (q3f (q 5 _ _ rfl rfl) (q3f (q 6 _ _ rfl rfl) (q3f (q 7 _ _ rfl rfl) (q3f (q 8 _ _ rfl rfl) (q3f (q 9 _ _ rfl rfl) (q3f (q 10 _ _ rfl rfl) (q3f (q 11 _ _ rfl rfl) (q3f d14 (q3f d15 (q3f d16 (q3f d17 (q3f d18 z98))))))))))))))))))
end Go.SX
