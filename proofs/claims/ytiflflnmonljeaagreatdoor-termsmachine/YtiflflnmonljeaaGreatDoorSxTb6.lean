/-
  Walks: Tb6, Tb7, Tb8, Tb9, Tc1, Tc0, Tc2, Tc3, Tc4: what single functions of the program compute.
-/
import Derived.Test.YtiflflnmonljeaaGreatDoorSxMb9
import Derived.Shelf.Sort.Plain
import Derived.Shelf.Slices.CompactI
import Derived.Test.YtiflflnmonljeaaGreatDoorSxTa6
import Derived.Test.YtiflflnmonljeaaGreatDoorSxV6
set_option linter.unusedVariables false
set_option linter.unusedSimpArgs false
namespace Go.SX
open Go.Proofs
set_option maxHeartbeats 400000000
set_option maxRecDepth 100000
def Q7 (e : aD) : Prop := -4611686018427387904 ≤ e.at_ ∧ e.at_ ≤ 4611686018427387903
@[reducible] def evC (e : aD) : List (PV Cd) := [.int .i64 e.kind, .int .i64 e.at_, .int .i64 e.image, .dsl U.int e.rows, .int .i64 e.sun, .int .i64 e.look, .bool e.clear]
@[reducible] def Hd (l : List aD) (now : Int) : List (PV Cd) := [.dsl U.event l, .int .i64 now]
theorem Zt (d e : aD) (within : Int) (h1 : Q7 d) (h2 : Q7 e) : aG Tryz.prog Dc 128 [evA d, .dptr (evC e) 0, .dptr [.int .i64 within] 0] [] (bS (decide (d.kind = 2) && decide (d.image = e.image) && inB (d.at_ - e.at_) 0 within)) [] := by
 have h := tin (d.at_ - e.at_) 0 within
 unfold Q7 at h1 h2
 refine aC Ax aF Tryz.func128 (c := _) rfl Tryz.call128 100 ?_
 (repeat' ((conv => whnf); first | refine x0C (eB ?_ rfl) | (exfalso; omega) | refine cpC (h) ?_ | refine dpC (h) ?_ | refine x0C ?_ | refine spC (fun hb => ?_) fun hb => ?_ | refine aJ (fun hb => ?_) ?_ | refine taC ?_ | refine saC ?_ | exact sdV | refine aA ?_ ?_ | refine aB mixed ?_))
 all_goals clear h
 all_goals (first | (simp_all []; done) | (simp_all []; omega) | (simp_all []; grind))
theorem Cy (l : List aD) (now : Int) (e : aD) (within : Int) (hl : (l.length : Int) ≤ 1000000) (hE : ∀ e ∈ l, Q7 e) (he : Q7 e) : aG Tryz.prog Dc 97 [bU l now, evA e, iS within] [] (bS (Qt l e within)) [] := by
 have h := Yw (f := 128) (.c3 (evC e) [.int .i64 within]) l (by omega) fun d hd => Zt d e within (hE d hd) he
 change aG _ _ _ _ _ (bS (Qt l e within)) _ at h
 refine aC Ax aF Tryz.func97 (c := _) rfl Tryz.call97 100 ?_
 (repeat' ((conv => whnf); first | refine x0C (eB ?_ rfl) | (exfalso; omega) | refine rdC (h) ?_ | refine x0C ?_ | refine spC (fun hb => ?_) fun hb => ?_ | refine aJ (fun hb => ?_) ?_ | refine taC ?_ | refine saC ?_ | exact sdV | refine aA ?_ ?_ | refine aB mixed ?_))
 all_goals rfl
theorem Wo (l : List aD) (now : Int) (e : aD) (within : Int) (hl : (l.length : Int) ≤ 1000000) (hE : ∀ e ∈ l, Q7 e) (he : Q7 e) : aG Tryz.prog Dc 129 [evA e, .dptr (Hd l now) 0, .dptr [.int .i64 within] 0] [] (bS (decide (e.kind = 1) && !Qt l e within)) [] := by
 have h := Cy l now e within hl hE he
 refine aC Ax aF Tryz.func129 (c := _) rfl Tryz.call129 100 ?_
 (repeat' ((conv => whnf); first | refine x0C (eB ?_ rfl) | (exfalso; omega) | refine cpC (h) ?_ | refine dpC (h) ?_ | refine x0C ?_ | refine spC (fun hb => ?_) fun hb => ?_ | refine aJ (fun hb => ?_) ?_ | refine taC ?_ | refine saC ?_ | exact sdV | refine aA ?_ ?_ | refine aB mixed ?_))
 all_goals clear h
 all_goals (first | (simp_all []; done) | (simp_all []; omega) | (simp_all []; grind))
theorem R1 (l : List aD) (now within : Int) (hl : (l.length : Int) ≤ 1000000) (hE : ∀ e ∈ l, Q7 e) : aG Tryz.prog Dc 98 [bU l now, iS within] [] (bU (G8 l within) now) [] := by
 have h1 := Gr l hl
 have h2 := xC (f := 129) (.c3 (Hd l now) [.int .i64 within]) l hl fun e he => Wo l now e within hl hE (hE e he)
 rw [show jP (fun e => decide (e.kind = 1) && !Qt l e within) l = G8 l within from rfl] at h2
 refine aC Ax aF Tryz.func98 (c := _) rfl Tryz.call98 100 ?_
 (repeat' ((conv => whnf); first | (exfalso; omega) | (refine Mm [none, none, some 2] [(2, .dptr (Hd l now) 0), (3, .dptr [.int .i64 within] 0)] [(0, .rows U.int []), (1, .rows U.int [])] (by exact bkV) ?_; (conv => whnf); refine aB mixed ?_) | (refine bZ [] h1 rfl rfl trivial ?_) | (refine bZ [some 3] h2 rfl rfl ⟨rfl, trivial⟩ ?_) | refine x0C ?_ | refine spC (fun hb => ?_) fun hb => ?_ | refine aJ (fun hb => ?_) ?_ | refine taC ?_ | refine saC ?_ | exact sdV | refine aA ?_ ?_))
 all_goals exact vwV
end Go.SX
namespace Go.SX
open Go.Proofs Go.Shelf
set_option maxRecDepth 100000
set_option maxHeartbeats 400000000
def Hb (l : List (Nat × Nat)) (x : Nat) : Nat := match l with
 | [] => x
 | (a, b) :: l => if a = x then b else Hb l x
def Cl : Ren := ⟨Hb [(189, 155), (125, 162), (257, 161), (128, 174), (129, 175), (294, 165), (295, 166), (296, 167), (297, 168), (298, 169), (299, 170), (216, 171), (300, 172), (301, 173), (328, 176), (329, 177), (330, 178), (331, 179), (332, 180), (215, 107), (343, 181)], Hb [(28, 26), (3, 3), (46, 180), (0, 0), (51, 185), (53, 187), (4, 4), (183, 194), (182, 193), (131, 98), (5, 5), (9, 9), (218, 200), (222, 204), (228, 206), (229, 207)], fun x => x⟩
theorem Ir : Lays.n189 Tryz.prog Cl := by
 constructor <;> first | kernel_rfl | (intro w; kernel_rfl) | (decide; done) | (constructor <;> first | kernel_rfl | (intro w; kernel_rfl) | (constructor <;> first | kernel_rfl | (intro w; kernel_rfl)))
def D8 : Ren := ⟨Hb [(20, 156)], Hb [(22, 26), (3, 3), (4, 4), (0, 0)], fun x => x⟩
theorem P3 : Lays2.n20 Tryz.prog D8 := by
 constructor <;> first | kernel_rfl | (intro w; kernel_rfl) | (decide; done) | (constructor <;> first | kernel_rfl | (intro w; kernel_rfl) | (constructor <;> first | kernel_rfl | (intro w; kernel_rfl)))
end Go.SX
namespace Go.SX
open Go.Proofs Go.Shelf Go.RowKit Go.Sort
set_option maxHeartbeats 400000000
set_option maxRecDepth 100000
theorem Y6 (zs : List Int) : zs.flatMap (Dc.enc U.int) = zs.map (PV.int (C := Cd) .i64) := by
 rw [List.map_eq_flatMap]; rfl
theorem xM {f : FuncId} {zs zs' : List Int} {ret : SV Cd} (h0 : zs ≠ []) (hl : zs'.length = zs.length) (henter : ∀ args w, (callFunc f args).run Tryz.prog w = .ok (.enter f args) w) (rv : Nat → Nat → Nat → Value)
    (hc : ∀ blk off cap w, Holds (Value.int .i64) w blk off zs.toArray → blk < w.heap.size → zs.length ≤ cap → Calls Tryz.prog f #[.slice (some ⟨blk, off, none⟩) zs.length cap] w fun e w' => e = .returned (rv blk off cap) ∧ ∃ n os, w' = grow (putRow (Value.int .i64) (Sort.ahead w n) blk off zs'.toArray) os)
    (hr : ∀ w E b cs T cap, E.β 0 = .loc b → Row w b cs T → zs.length ≤ cap → cap ≤ cs.size → Den Dc w E ret (rv b 0 cap)) : aG Tryz.prog Dc f [.slice 0 0 1 0 zs.length] [.rows U.int zs] ret [.rows U.int zs'] := by
  refine ⟨henter, fun w E hm vs hs hd => ?_⟩
  simp only [DenA] at hd
  obtain ⟨v, v2, rfl, hv, rfl⟩ := hd
  have hlen0 : zs.length ≠ 0 := fun e => h0 (List.length_eq_zero_iff.1 e)
  have hok := hs.ok 0
  simp only [Den] at hv
  cases hb : E.β 0 with
  | fresh => rw [hb] at hv; exact hv.elim
  | dead => rw [hb] at hok; simp [HS.ok, aS] at hok
  | virt => rw [hb] at hv; obtain ⟨a, _, h⟩ := hv; exact absurd h hlen0
  | loc b =>
    rw [hb] at hv hok
    rcases hv with ⟨h, _⟩ | ⟨cap, cs, T, rfl, hcap, hrow, hsz⟩
    · exact absurd h hlen0
    · obtain ⟨cs2, T2, hrow2, hle, hden⟩ := hok
      obtain ⟨rfl, rfl⟩ := hrow.inj hrow2.1
      have hrow' := hrow
      obtain ⟨z, hheap, hthaw⟩ := hrow
      have hn : Cod.n Cd U.int = 1 := rfl
      rw [hn, Nat.mul_one] at hle hden
      rw [Y6] at hden
      have hcell : ∀ j, j < zs.length → cs[j]? = some (Value.int .i64 zs[j]!) := by
        intro j hj
        have h1 : (zs.map (PV.int (C := Cd) .i64))[j]? = some (.int .i64 zs[j]!) := by
          rw [List.getElem?_map, List.getElem?_eq_getElem hj, getElem!_pos zs j hj]; rfl
        have h2 : (cs.toList.take zs.length)[j]? = some cs[j] := by
          rw [List.getElem?_take, if_pos hj, Array.getElem?_toList, Array.getElem?_eq_getElem (by omega)]
        have := hden.2 j _ _ h1 h2
        generalize hcj : cs[j] = x at this
        cases this
        rw [Array.getElem?_eq_getElem (by omega), hcj]
      have hH : Holds (Value.int .i64) w b (0 + 0 * 1) zs.toArray := by
        intro j hj
        have hj' : j < zs.length := by simpa using hj
        refine ⟨?_, ?_⟩
        · simp only [World.cell?, hheap, Nat.zero_mul, Nat.zero_add]
          simpa using hcell j hj'
        · simp only [World.frozen?, hheap, Nat.zero_mul, Nat.zero_add]
          have := hthaw j (by omega)
          simpa using this
      have hlt : b < w.heap.size := (hs.own 0 b hb).1
      have h := hc b (0 + 0 * 1) cap w hH hlt hcap
      have h2 : CallsIn (Fc none) 0 Tryz.prog f #[.slice (some ⟨b, 0 + 0 * 1, none⟩) zs.length cap] w _ := callsIn_wide.2 h
      refine h2.mono ?_
      rintro e w' ⟨rfl, n, os, hw'⟩
      simp only [Nat.zero_mul, Nat.add_zero] at hw'
      let B0 := dZ.here w E 1 hm
      have hrel : Rel Dc B0 E (fun _ => .any) (aS [HS.rows (C := Cd) U.int zs]) [] { tmps := #[], defers := [] } w := ⟨fun i => trivial, hs, Fr.here, rfl, uD.nil⟩
      let cs' := putCells (Value.int .i64) 0 zs'.toArray cs
      have hsz' : cs'.size = cs.size := by simp [cs', putCells]
      have hlist : cs'.toList.take zs'.length = zs'.map (Value.int .i64) := by
        refine List.ext_getElem? fun j => ?_
        rw [List.getElem?_take]
        by_cases hj : j < zs'.length
        · rw [if_pos hj, Array.getElem?_toList, List.getElem?_map, List.getElem?_eq_getElem hj, Array.getElem?_eq_getElem (by rw [hsz']; omega)]
          simp [cs', putCells, hj]
        · rw [if_neg hj, List.getElem?_eq_none (by simp; omega)]
      have hden' : ∀ w1 E1, bE Dc w1 E1 (zs'.map (PV.int (C := Cd) .i64)) (zs'.map (Value.int .i64)) := by
        intro w1 E1
        refine ⟨by simp, fun j pv v h1 h2 => ?_⟩
        rw [List.getElem?_map] at h1 h2
        cases hz : zs'[j]? with
        | none => rw [hz] at h1; cases h1
        | some x => rw [hz] at h1 h2; cases h1; cases h2; exact .int _ _
      have hset := hrel.setRow (c := 0) hb hrow' hsz' (hs := HS.rows (C := Cd) U.int zs') fun hL => ⟨cs', T, ⟨hrow'.set hsz', hrow2.2⟩, by rw [hn, Nat.mul_one, hsz']; omega, by
        rw [hn, Nat.mul_one, Y6, hlist]; exact hden' _ _⟩
      have hH1 : upH (aS [HS.rows (C := Cd) U.int zs]) 0 (.rows U.int zs') = aS [.rows U.int zs'] := by
        funext i
        cases i with
        | zero => rfl
        | succ i => rfl
      rw [hH1] at hset
      have hmap : ∀ k, k < w.heap.size → w'.heap[k]? = (w.setRow b cs').heap[k]? := by
        intro k hk
        rw [hw', heap_grow_old _ _ (by simp [putRow, mapBlock, Sort.ahead]; exact hk)]
        by_cases hkb : k = b
        · subst hkb
          rw [setRow_heap w k cs cs' T z hheap]
          simp only [putRow, mapBlock, Sort.ahead, Array.getElem?_modify, hheap, if_true, Option.map_some, onCells]
          rfl
        · rw [setRow_other w b k cs' hkb]
          simp only [putRow, mapBlock, Sort.ahead, Array.getElem?_modify, if_neg (Ne.symm hkb)]
      have hz1 : (w.setRow b cs').heap.size = w.heap.size := by simp
      have hz2 : w.heap.size ≤ w'.heap.size := by rw [hw']; simp [grow, putRow, mapBlock, Sort.ahead]
      have hrow3 : Row w' b cs' T := Row.of (hmap b hlt) (hrow'.set hsz')
      refine ⟨_, E, rfl, ?_, hset.sat.same (fun k hk => hmap k (by omega)) (by omega), hset.fr.on hset.sat.F (fun k hk => hmap k (by omega)) (by omega) (by rw [hw']; rfl) (by rw [hw']; rfl) (by rw [hw']; rfl)⟩
      have := hr w' E b cs' T cap hb hrow3 hcap (by rw [hsz']; omega)
      simpa using this
theorem Dv {zs : List Int} (h0 : zs ≠ []) (hl : (zs.length : Int) ≤ 1000000) : aG Tryz.prog Dc 155 [.slice 0 0 1 0 zs.length] [.rows U.int zs] (.tuple []) [.rows U.int (zs.mergeSort fun x y => decide (x ≤ y))] :=
 xM h0 (List.length_mergeSort _) Tryz.call155 (fun _ _ _ => .tuple #[]) (fun blk off cap w hH hb _ => Any.slices_Sort_int Ir blk off cap zs w hH hb (by omega)) (fun _ _ _ _ _ _ _ _ _ _ => ⟨#[], rfl, rfl⟩)
theorem Rf (d : Array Int) (m : Nat) : (Lib.compactUpTo d m).length ≤ m := by
 unfold Lib.compactUpTo
 rw [List.length_map]
 exact Nat.le_trans (List.length_filter_le _ _) (by simp)
theorem zR {zs : List Int} (h0 : zs ≠ []) (hl : (zs.length : Int) ≤ 1000000) : aG Tryz.prog Dc 156 [.slice 0 0 1 0 zs.length] [.rows U.int zs] (.slice 0 0 1 0 (Lib.compact zs).length) [.rows U.int (Lib.compact zs ++ List.replicate (zs.length - (Lib.compact zs).length) 0)] := by
 have hc := Rf zs.toArray zs.length
 refine xM h0 (by simp only [Lib.compact, List.length_append, List.length_replicate]; omega) Tryz.call156 (fun b o c => .slice (some ⟨b, o, none⟩) (Lib.compact zs).length c) (fun blk off cap w hH hb hcap => ?_) (fun w E b cs T cap hb hr h1 h2 => ?_)
 ·refine (Any.slices_Compact_int_arr P3 blk off cap zs.toArray w hH (by simp; omega) (by simpa using hcap)).mono ?_
  rintro e w' ⟨rfl, q, hw⟩
  exact ⟨rfl, q, #[], by rw [hw, grow_empty]; rfl⟩
 ·simp only [Den, hb]
  exact .inr ⟨cap, cs, T, by simp, by unfold Lib.compact; omega, hr, by simpa using h2⟩
theorem Gi (d : Array Int) (hs : ∀ i j : Nat, i ≤ j → j < d.size → d[i]! ≤ d[j]!) : ∀ m : Nat, m ≤ d.size → Asc (Lib.compactUpTo d m) ∧ (∀ j, j < m → d[j]! ∈ Lib.compactUpTo d m) ∧ ∀ x ∈ Lib.compactUpTo d m, ∃ j, j < m ∧ x = d[j]!
 | 0, _ => ⟨trivial, fun j h => by omega, fun x h => by simp [Lib.compactUpTo] at h⟩
 | m + 1, h => by
  obtain ⟨h1, h2, h3⟩ := Gi d hs m (by omega)
  rw [Lib.compactUpTo_succ]
  by_cases hk : Lib.keeps d m = true
  ·rw [if_pos hk]
   refine ⟨?_, fun j hj => ?_, fun x hx => ?_⟩
   ·have : ∀ l : List Int, Asc l → (∀ x ∈ l, x < d[m]!) → Asc (l ++ [d[m]!]) := by
     intro l
     induction l with
     | nil => intro _ _; exact ⟨fun b hb => (by cases hb), trivial⟩
     | cons a l ih =>
      intro ha hb
      exact ⟨fun b hb' => by
       rcases List.mem_append.1 hb' with h | h
       ·exact ha.1 b h
       ·rw [List.mem_singleton.1 h]; exact hb a (by simp), ih ha.2 fun x hx => hb x (by simp [hx])⟩
    refine this _ h1 fun x hx => ?_
    obtain ⟨j, hj, rfl⟩ := h3 x hx
    have e1 := hs j (m - 1) (by omega) (by omega)
    have e2 := hs (m - 1) m (by omega) (by omega)
    have e3 : d[m]! ≠ d[m - 1]! := by
     simp only [Lib.keeps, decide_eq_true_eq] at hk
     exact hk.resolve_left (by omega)
    omega
   ·rcases Nat.lt_or_ge j m with hj' | hj'
    ·exact List.mem_append.2 (.inl (h2 j hj'))
    ·rw [show j = m by omega]; exact List.mem_append.2 (.inr (by simp))
   ·rcases List.mem_append.1 hx with hx | hx
    ·obtain ⟨j, hj, e⟩ := h3 x hx; exact ⟨j, by omega, e⟩
    ·exact ⟨m, by omega, by simpa using hx⟩
  ·rw [if_neg hk, List.append_nil]
   refine ⟨h1, fun j hj => ?_, fun x hx => ?_⟩
   ·rcases Nat.lt_or_ge j m with hj' | hj'
    ·exact h2 j hj'
    ·have : ¬ (m = 0 ∨ d[m]! ≠ d[m - 1]!) := by simpa [Lib.keeps] using hk
     have e : d[m]! = d[m - 1]! := by
      by_cases e : d[m]! = d[m - 1]!
      ·exact e
      ·exact absurd (.inr e) this
     rw [show j = m by omega, e]
     exact h2 (m - 1) (by omega)
   ·obtain ⟨j, hj, e⟩ := h3 x hx; exact ⟨j, by omega, e⟩
theorem O6 (l : List Int) : Lib.compact (l.mergeSort fun x y => decide (x ≤ y)) = L7 l := by
 have hp := List.pairwise_mergeSort (le := fun x y : Int => decide (x ≤ y)) (by intro a b c; simp; omega) (by intro a b; simp; omega) l
 generalize hm : l.mergeSort (fun x y => decide (x ≤ y)) = m at hp
 have hmem : ∀ x, x ∈ m ↔ x ∈ l := fun x => by rw [← hm]; exact List.mem_mergeSort
 have hs : ∀ i j : Nat, i ≤ j → j < m.toArray.size → m.toArray[i]! ≤ m.toArray[j]! := by
  intro i j hij hj
  have hj' : j < m.length := by simpa using hj
  rcases Nat.lt_or_ge i j with h | h
  ·have := List.pairwise_iff_getElem.1 hp i j (by omega) hj' h
   rw [getElem!_pos _ i (by simp; omega), getElem!_pos _ j (by simp; omega)]
   simpa using this
  ·rw [show i = j by omega]; exact Int.le_refl _
 obtain ⟨h1, h2, h3⟩ := Gi m.toArray hs m.length (by simp)
 refine He h1 Li fun x => ?_
 rw [Ah, ← hmem]
 constructor
 ·intro hx
  obtain ⟨j, hj, rfl⟩ := h3 x hx
  rw [getElem!_pos _ j (by simpa using hj)]
  simp
 ·intro hx
  obtain ⟨j, hj, rfl⟩ := List.getElem_of_mem hx
  have := h2 j hj
  rwa [getElem!_pos _ j (by simpa using hj), List.getElem_toArray] at this
theorem iL {l : List Int} (h0 : l ≠ []) (hl : (l.length : Int) ≤ 1000000) : aG Tryz.prog Dc 140 [lS l] [] (.slice 0 0 1 0 (L7 l).length) [.rows U.int (L7 l ++ List.replicate (l.length - (L7 l).length) 0)] := by
 have h1 := Z2 l hl
 have h2 := Dv h0 hl
 have hm0 : (l.mergeSort fun x y => decide (x ≤ y)) ≠ [] := fun e => h0 (List.length_eq_zero_iff.1 (by rw [← List.length_mergeSort (le := fun x y => decide (x ≤ y)), e]; rfl))
 have h3 := zR hm0 (by rw [List.length_mergeSort]; exact hl)
 rw [O6, List.length_mergeSort] at h3
 refine aC Ax aF Tryz.func140 (c := _) rfl Tryz.call140 100 ?_
 (repeat' ((conv => whnf); first | (exfalso; omega) | refine chC [] h1 ?_ | refine chC [some 0] h2 ?_ | refine chC [some 0] h3 ?_ | exact enC [some 0] | refine x0C ?_ | refine spC (fun hb => ?_) fun hb => ?_ | refine aJ (fun hb => ?_) ?_ | refine taC ?_ | refine saC ?_ | exact sdV | refine aA ?_ ?_ | refine aB mixed ?_))
end Go.SX
namespace Go.SX
open Go.Proofs
set_option maxHeartbeats 400000000
set_option maxRecDepth 100000
@[reducible] def Zg (p : Int) (im : List Int) : SV Cd := .agg [.p (.int .i64 p), .p (.dsl U.int im)]
@[reducible] def rI (s : Sen) : SV Cd := match s with
 | none => .tuple [Zg 0 [], bS false]
 | some (p, im) => .tuple [Zg p im, bS true]
structure nY (l : List aD) : Prop where
 len : (l.length : Int) ≤ 1000000
 el : ∀ e ∈ l, jM e
 i64 : ∀ e ∈ l, Q7 e
 look : ∀ e ∈ l, -1000 ≤ e.look ∧ e.look ≤ 1000
theorem q1g (a b : Int) (h1 : -4611686018427387904 ≤ a ∧ a ≤ 4611686018427387903) (h2 : -4611686018427387904 ≤ b ∧ b ≤ 4611686018427387903) : aG Tryz.prog Dc 141 [iS a, iS b] [] (iS (Da a b)) [] := by
 refine aC Ax aF Tryz.func141 (c := _) rfl Tryz.call141 60 ?_
 (repeat' ((conv => whnf); first | refine x0C (eI ?_ rfl) | (exfalso; omega) | refine x0C ?_ | refine spC (fun hb => ?_) fun hb => ?_ | refine aJ (fun hb => ?_) ?_ | refine taC ?_ | refine saC ?_ | exact sdV | refine aA ?_ ?_ | refine aB mixed ?_))
 all_goals rfl
theorem q1p (g : aK) (hg : Fu g) (l : List aD) (now : Int) (h : nY l) : aG Tryz.prog Dc 118 [bU l now, aP g] [] (rI (Pp g l)) [] := by
 have h1 := nG g hg l now h.len h.el
 unfold Pp
 cases hs : kU g l with
 | nil =>
  rw [hs] at h1
  refine aC Ax aF Tryz.func118 (c := _) rfl Tryz.call118 100 ?_
  (repeat' ((conv => whnf); first | (exfalso; omega) | refine cpC (h1) ?_ | refine dpC (h1) ?_ | refine x0C ?_ | refine spC (fun hb => ?_) fun hb => ?_ | refine aJ (fun hb => ?_) ?_ | refine taC ?_ | refine saC ?_ | exact sdV | refine aA ?_ ?_ | refine aB mixed ?_))
  all_goals exact vwV
 | cons a m =>
  rw [hs] at h1
  have h2 := iL (l := [a.image]) (by simp) (by simp)
  rw [show L7 [a.image] = [a.image] from rfl] at h2
  refine aC Ax aF Tryz.func118 (c := _) rfl Tryz.call118 100 ?_
  (repeat' ((conv => whnf); first | (exfalso; omega) | refine cpC (h1) ?_ | refine dpC (h1) ?_ | (refine Q8 [some 0, some 1, some 2, none] [(18, .any)] [(3, .rows U.int [])] [lS [a.image]] (by exact bkV) (by exact snV) ?_; (conv => whnf); refine wQ [] h2 rfl rfl trivial ?_) | refine x0C ?_ | refine spC (fun hb => ?_) fun hb => ?_ | refine aJ (fun hb => ?_) ?_ | refine taC ?_ | refine saC ?_ | exact sdV | refine aA ?_ ?_ | refine aB mixed ?_))
  all_goals exact vwV
theorem Ig (g : aK) (a b : aD) (ha : Q7 a) (hb : Q7 b) (hd : 0 ≤ g.days ∧ g.days ≤ 60) : aG Tryz.prog Dc 96 [aP g, evA a, evA b] [] (bS (bG g a b)) [] := by
 have h := tin (b.at_ - a.at_) g.within (1440 * g.days)
 unfold Q7 at ha hb
 refine aC Ax aF Tryz.func96 (c := _) rfl Tryz.call96 60 ?_
 (repeat' ((conv => whnf); first | refine x0C (eB ?_ rfl) | (exfalso; omega) | refine cpC (h) ?_ | refine dpC (h) ?_ | refine x0C ?_ | refine spC (fun hb => ?_) fun hb => ?_ | refine aJ (fun hb => ?_) ?_ | refine taC ?_ | refine saC ?_ | exact sdV | refine aA ?_ ?_ | refine aB mixed ?_))
 all_goals rfl
theorem Za (g : aK) (a : aD) (hf : 0 ≤ g.from_ ∧ g.from_ ≤ 1000000) (hd : 0 ≤ g.days ∧ g.days ≤ 60) : aG Tryz.prog Dc 95 [aP g, evA a] [] (bS (jW g a)) [] := by
 refine aC Ax aF Tryz.func95 (c := _) rfl Tryz.call95 60 ?_
 (repeat' ((conv => whnf); first | refine x0C (eB ?_ rfl) | (exfalso; omega) | refine x0C ?_ | refine spC (fun hb => ?_) fun hb => ?_ | refine aJ (fun hb => ?_) ?_ | refine taC ?_ | refine saC ?_ | exact sdV | refine aA ?_ ?_ | refine aB mixed ?_))
 all_goals rfl
theorem q0m (g : aK) (hk : (g.kids.length : Int) = 1) (hg : Fu (eC g.kids)) (l : List aD) (now : Int) (h : nY l) : aG Tryz.prog Dc 119 [bU l now, aP g] [] (rI (A6 g l)) [] := by
 have h1 := nG (eC g.kids) hg l now h.len h.el
 have hE : nY (kU (eC g.kids) l) := ⟨Int.le_trans (Int.ofNat_le.2 (List.length_filter_le _ _)) h.len, fun e he => h.el e (List.mem_filter.1 he).1, fun e he => h.i64 e (List.mem_filter.1 he).1, fun e he => h.look e (List.mem_filter.1 he).1⟩
 unfold A6
 generalize kU (eC g.kids) l = m at h1 hE ⊢
 have hl := hE.len
 refine aC Ax aF Tryz.func119 (c := _) rfl Tryz.call119 200 ?_
 (repeat' ((conv => whnf); first | (exfalso; omega) | refine cpC (h1) ?_ | refine dpC (h1) ?_ | refine x0C ?_ | refine spC (fun hb => ?_) fun hb => ?_ | refine aJ (fun hb => ?_) ?_ | refine taC ?_ | refine saC ?_ | exact sdV | refine aA ?_ ?_ | refine aB mixed ?_))
 refine bW (fun i : Nat => [(5, bS false), (19, iS i)]) (fun _ => []) (fun i => i ≤ m.length ∧ rZ g m = rZ g (m.drop i)) (fun i => m.length - i) 0 ⟨Nat.zero_le _, by simp⟩ (by exact bkV) ?_
 rintro i ⟨hi, he⟩ K hK
 rcases Nat.lt_or_ge i m.length with hlt | hge
 ·have hgi := getD_some (d := Cd.dflt U.event) hlt
  have hd := jK (d := Cd.dflt U.event) hlt
  rw [hd, yE] at he
  have ha1 := hE.i64 _ (List.mem_of_getElem? hgi)
  have ha2 := hE.look _ (List.mem_of_getElem? hgi)
  (repeat' ((conv => whnf); first | (exfalso; omega) | refine x0C ?_ | refine spC (fun hb => ?_) fun hb => ?_ | refine aJ (fun hb => ?_) ?_ | refine taC ?_ | refine saC ?_ | exact sdV | refine aA ?_ ?_ | refine aB mixed ?_))
  generalize hq : List.drop ((i : Int) + 1).toNat (List.take ((m.length : Nat) : Int).toNat m) = q
  have hq' : q = m.drop (i + 1) := by rw [← hq, show ((i : Int) + 1).toNat = i + 1 by omega, Int.toNat_natCast, List.take_length]
  rw [← hq'] at he
  have hql : q.length ≤ m.length := by rw [hq']; simp
  have hqm : ∀ b ∈ q, b ∈ m := fun b hb => by rw [hq'] at hb; exact List.mem_of_mem_drop hb
  refine bW (fun k : Nat => [(5, bS false), (29, iS k)]) (fun _ => []) (fun k => k ≤ q.length ∧ (q.take k).any (pfB g (m.getD i (Cd.dflt U.event))) = false) (fun k => q.length - k) 0 ⟨Nat.zero_le _, by simp⟩ (by exact bkV) ?_
  rintro k ⟨hk1, hk2⟩ K2 hK2
  rcases Nat.lt_or_ge k q.length with hlt2 | hge2
  ·have hgk := getD_some (d := Cd.dflt U.event) hlt2
   have hb1 := hE.i64 _ (hqm _ (List.mem_of_getElem? hgk))
   have hb2 := hE.look _ (hqm _ (List.mem_of_getElem? hgk))
   unfold Q7 at ha1 hb1
   have hp : pfB g (m.getD i (Cd.dflt U.event)) (q.getD (k : Int).toNat (Cd.dflt U.event)) = (decide (g.low ≤ Da (m.getD (i : Int).toNat (Cd.dflt U.event)).look (q.getD (k : Int).toNat (Cd.dflt U.event)).look) && decide (Da (m.getD (i : Int).toNat (Cd.dflt U.event)).at_ (q.getD (k : Int).toNat (Cd.dflt U.event)).at_ ≤ g.within)) := rfl
   have hg1 := q1g (m.getD (i : Int).toNat (Cd.dflt U.event)).look (q.getD (k : Int).toNat (Cd.dflt U.event)).look (by omega) (by omega)
   have hg2 := q1g (m.getD (i : Int).toNat (Cd.dflt U.event)).at_ (q.getD (k : Int).toNat (Cd.dflt U.event)).at_ (by omega) (by omega)
   have hi2 := iL (l := [(m.getD (i : Int).toNat (Cd.dflt U.event)).image, (q.getD (k : Int).toNat (Cd.dflt U.event)).image]) (by simp) (by simp)
   have n1 : ¬ (g.low ≤ Da (m.getD (i : Int).toNat (Cd.dflt U.event)).look (q.getD (k : Int).toNat (Cd.dflt U.event)).look) → pfB g (m.getD i (Cd.dflt U.event)) (q.getD (k : Int).toNat (Cd.dflt U.event)) = false := fun h => by rw [hp, decide_eq_false h]; rfl
   have n2 : ¬ (Da (m.getD (i : Int).toNat (Cd.dflt U.event)).at_ (q.getD (k : Int).toNat (Cd.dflt U.event)).at_ ≤ g.within) → pfB g (m.getD i (Cd.dflt U.event)) (q.getD (k : Int).toNat (Cd.dflt U.event)) = false := fun h => by rw [hp, decide_eq_false h, Bool.and_false]
   have hx : pfB g (m.getD i (Cd.dflt U.event)) (q.getD (k : Int).toNat (Cd.dflt U.event)) = true → rZ g m = some (m.getD (i : Int).toNat (Cd.dflt U.event), q.getD (k : Int).toNat (Cd.dflt U.event)) := fun h => by rw [he, Ls hgk h hk2]; rfl
   (repeat' ((conv => whnf); first | (exfalso; omega) | refine cpC (hg1) ?_ | refine dpC (hg1) ?_ | refine cpC (hg2) ?_ | refine dpC (hg2) ?_ | (refine Q8 [some 0, some 1, some 2, some 3, some 4, none] [(55, .any)] [(5, .rows U.int [])] [lS [(m.getD (i : Int).toNat (Cd.dflt U.event)).image, (q.getD (k : Int).toNat (Cd.dflt U.event)).image]] (by exact bkV) (by exact snV) ?_; (conv => whnf); refine wQ [] hi2 rfl rfl trivial ?_) | refine hK2 (k + 1) [some 0, some 1, some 2, some 3] _ _ ⟨⟨by omega, fY hgk (by first | exact n1 (by assumption) | exact n2 (by assumption)) hk2⟩⟩ ⟨by omega⟩ (by exact bkV) | refine x0C ?_ | refine spC (fun hb => ?_) fun hb => ?_ | refine aJ (fun hb => ?_) ?_ | refine taC ?_ | refine saC ?_ | exact sdV | refine aA ?_ ?_ | refine aB mixed ?_))
   all_goals (rw [hx (by rw [hp, decide_eq_true (by assumption), decide_eq_true (by assumption)]; rfl)]; exact vwV)
  ·have hn := Iq (iN hge2 hk2)
   rw [hn] at he
   (repeat' ((conv => whnf); first | (exfalso; omega) | refine hK (i + 1) [some 0, some 1, some 2] _ _ ⟨⟨by omega, by rw [he, hq']⟩⟩ ⟨by omega⟩ (by exact bkV) | refine x0C ?_ | refine spC (fun hb => ?_) fun hb => ?_ | refine aJ (fun hb => ?_) ?_ | refine taC ?_ | refine saC ?_ | exact sdV | refine aA ?_ ?_ | refine aB mixed ?_))
 ·rw [he, List.drop_of_length_le hge, rZ]
  (repeat' ((conv => whnf); first | (exfalso; omega) | refine x0C ?_ | refine spC (fun hb => ?_) fun hb => ?_ | refine aJ (fun hb => ?_) ?_ | refine taC ?_ | refine saC ?_ | exact sdV | refine aA ?_ ?_ | refine aB mixed ?_))
  all_goals exact vwV
@[reducible] def gY (g : aK) : List (PV Cd) := [.int .i64 g.kind, .dsl U.int g.rows, .int .i64 g.from_, .int .i64 g.to_, .int .i64 g.low, .int .i64 g.high, .bool g.clear, .int .i64 g.days, .int .i64 g.times, .int .i64 g.within, .dsl U.int g.cents, .dsl U.goal g.kids]
@[reducible] def Gt (g : aK) (m : List aD) : List (SV Cd) := [.dptr [.dsl U.event m] 0, .dptr [.dsl U.int (bD g m)] 0, .ptr 0 0, .ptr 1 0, .dptr (gY g) 0]
@[reducible] def Vy (g : aK) (m : List aD) (acc : List Int) : List (HS Cd) := [.vart none [.slice 2 0 1 0 acc.length], .vart none [.fn (.func 142) [] (Gt g m)], .rows U.int acc]
@[reducible] def Sm (g : aK) (m : List aD) (acc : List Int) : List (HS Cd) := [.vart none [.slice 3 0 1 0 acc.length], .vart none [.fn (.func 142) [] (Gt g m)], .dead, .rows U.int acc]
@[reducible] def Sh (g : aK) (m : List aD) (acc r : List Int) : List (HS Cd) := match r with
 | [] => Vy g m acc
 | x :: r => Sm g m (acc ++ x :: r)
inductive q11 (g : aK) (m : List aD) : List (SV Cd) → Prop
 | c0 : q11 g m [.dptr (gY g) 0]
 | c1 (i : Int) : q11 g m [.dptr (gY g) 0, .dptr [.dsl U.event m] 0, .dptr [.int .i64 i] 0]
theorem Xm (g : aK) (hf : 0 ≤ g.from_ ∧ g.from_ ≤ 1000000) (hd : 0 ≤ g.days ∧ g.days ≤ 60) (e : aD) : aG Tryz.prog Dc 144 [evA e, .dptr (gY g) 0] [] (bS (mG g none e)) [] := by
 have h := Za g e hf hd
 refine aC Ax aF Tryz.func144 (c := _) rfl Tryz.call144 60 ?_
 (repeat' ((conv => whnf); first | refine x0C (eB ?_ rfl) | (exfalso; omega) | refine cpC (h) ?_ | refine dpC (h) ?_ | refine x0C ?_ | refine spC (fun hb => ?_) fun hb => ?_ | refine aJ (fun hb => ?_) ?_ | refine taC ?_ | refine saC ?_ | exact sdV | refine aA ?_ ?_ | refine aB mixed ?_))
 all_goals rfl
theorem Xo (g : aK) (hd : 0 ≤ g.days ∧ g.days ≤ 60) (m : List aD) (hE : nY m) (i : Nat) (hi : i < m.length) (e : aD) (he : Q7 e) : aG Tryz.prog Dc 143 [evA e, .dptr (gY g) 0, .dptr [.dsl U.event m] 0, .dptr [.int .i64 i] 0] [] (bS (mG g (some (m.getD i (U.dflt .event))) e)) [] := by
 have hgi := getD_some (d := Cd.dflt U.event) hi
 have h := Ig g (m.getD (i : Int).toNat (Cd.dflt U.event)) e (hE.i64 _ (List.mem_of_getElem? hgi)) he hd
 have hl := hE.len
 refine aC Ax aF Tryz.func143 (c := _) rfl Tryz.call143 60 ?_
 (repeat' ((conv => whnf); first | refine x0C (eB ?_ rfl) | (exfalso; omega) | refine cpC (h) ?_ | refine dpC (h) ?_ | refine x0C ?_ | refine spC (fun hb => ?_) fun hb => ?_ | refine aJ (fun hb => ?_) ?_ | refine taC ?_ | refine saC ?_ | exact sdV | refine aA ?_ ?_ | refine aB mixed ?_))
 all_goals rfl
theorem q0v (g : aK) (hd : 0 ≤ g.days ∧ g.days ≤ 60) (m : List aD) (hE : nY m) : ∀ (n from_ : Nat), from_ ≤ m.length → m.length - from_ = n → ∀ (need : Int) (f : FuncId) (caps : List (SV Cd)) (last : Option aD) (acc : List Int), 0 ≤ need → need ≤ 6 → q11 g m caps → (acc.length : Int) + (m.length - from_) ≤ 2000000 →
  (∀ x ∈ m, aG Tryz.prog Dc f (evA x :: caps) [] (bS (mG g last x)) []) →
  aG Tryz.prog Dc 142 ([iS from_, iS need, .fn (.func f) [] caps] ++ Gt g m) (Vy g m acc) (bS (cZ g (m.drop from_) need last).2) (Sh g m acc (cZ g (m.drop from_) need last).1) := by
 intro n
 induction n using Nat.strongRecOn with
 | ind n ih =>
  intro from_ hfr hn need f caps last acc hn0 hn6 hc hacc hf
  have hl := hE.len
  rcases Int.lt_or_eq_of_le hn0 with hpos | rfl
  rotate_left
  ·rw [qH]
   cases hc <;>
   ·refine aC Ax aF Tryz.func142 (c := _) rfl Tryz.call142 200 ?_
    (repeat' ((conv => whnf); first | (exfalso; omega) | exact enC [some 0, some 1, some 2] | refine x0C ?_ | refine spC (fun hb => ?_) fun hb => ?_ | refine aJ (fun hb => ?_) ?_ | refine taC ?_ | refine saC ?_ | exact sdV | refine aA ?_ ?_ | refine aB mixed ?_))
  ·cases hc <;>
   ·refine aC Ax aF Tryz.func142 (c := _) rfl Tryz.call142 200 ?_
    (repeat' ((conv => whnf); first | (exfalso; omega) | refine x0C ?_ | refine spC (fun hb => ?_) fun hb => ?_ | refine aJ (fun hb => ?_) ?_ | refine taC ?_ | refine saC ?_ | exact sdV | refine aA ?_ ?_ | refine aB mixed ?_))
    refine bW (fun i : Nat => [(11, bS false), (12, .ptr 3 0)]) (fun i => [(3, .vart none [iS i])]) (fun i => from_ ≤ i ∧ i ≤ m.length ∧ cZ g (m.drop from_) need last = cZ g (m.drop i) need last) (fun i => m.length - i) from_ ⟨Nat.le_refl _, hfr, rfl⟩ (by exact bkI) ?_
    rintro i ⟨hfi, hi, he⟩ K hK
    rw [he]
    have hll : (bD g m).length = m.length := dO g m
    rcases Nat.lt_or_ge i m.length with hlt | hge
    ·have hgi := getD_some (d := Cd.dflt U.event) hlt
     have hx := hf _ (List.mem_of_getElem? hgi)
     have hdr := jK (d := Cd.dflt U.event) hlt
     have hhd := qY g m i
     have hmiss := fun h => pP g (a := m.getD i (Cd.dflt U.event)) (l := m.drop (i + 1)) (need := need) (last := last) (by omega) h
     have hhit := fun h1 h2 => uS g (a := m.getD i (Cd.dflt U.event)) (l := m.drop (i + 1)) (need := need) (last := last) (by omega) h1 h2
     rw [← hdr] at hmiss hhit
     rw [hhd] at hmiss hhit
     cases hp : mG g last (m.getD (i : Int).toNat (Cd.dflt U.event)) with
     | false =>
      rw [hp] at hx
      rw [hmiss (.inr hp)]
      rw [hmiss (.inr hp)] at he
      (repeat' ((conv => whnf); first | (exfalso; omega) | refine cpC (hx) ?_ | refine dpC (hx) ?_ | refine hK (i + 1) [some 0, some 1, some 2, some 4] _ _ ⟨⟨by omega, by omega, he⟩⟩ ⟨by omega⟩ (by exact bkI) | refine x0C ?_ | refine spC (fun hb => ?_) fun hb => ?_ | refine aJ (fun hb => ?_) ?_ | refine taC ?_ | refine saC ?_ | exact sdV | refine aA ?_ ?_ | refine aB mixed ?_))
     | true =>
      rw [hp] at hx
      by_cases hlo : need ≤ (bD g m).getD (i : Int).toNat (Cd.dflt U.int)
      ·have hW : List.take acc.length acc ++ List.take 1 (List.drop 0 [(m.getD (i : Int).toNat (Cd.dflt U.event)).image]) = acc ++ [(m.getD i (Cd.dflt U.event)).image] := by simp
       have hWl : (List.take acc.length acc ++ List.take 1 (List.drop 0 [(m.getD (i : Int).toNat (Cd.dflt U.event)).image])).length = acc.length + 1 := by rw [hW]; simp
       have hih := ih (m.length - (i + 1)) (by omega) (i + 1) (by omega) rfl (need - 1) 143 _ (some (m.getD i (U.dflt .event))) (List.take acc.length acc ++ List.take 1 (List.drop 0 [(m.getD (i : Int).toNat (Cd.dflt U.event)).image])) (by omega) (by omega) (.c1 i) (by omega) fun x hx => Xo g hd m hE i hlt x (hE.i64 x hx)
       rw [show ((i + 1 : Nat) : Int) = (i : Int) + 1 from rfl] at hih
       have hh := hhit hlo hp
       cases hT : cZ g (m.drop (i + 1)) (need - 1) (some (m.getD i (U.dflt .event))) with
       | mk r ok =>
       have hh2 : cZ g (m.drop i) need last = ((m.getD i (Cd.dflt U.event)).image :: r, ok) := hh.trans (by rw [show cZ g (m.drop (i + 1)) (need - 1) (some (m.getD i (Cd.dflt U.event))) = (r, ok) from hT])
       rw [hT] at hih
       rw [hh2]
       cases r with
       | nil =>
        have hg : Sh g m acc ([(m.getD i (Cd.dflt U.event)).image], ok).1 = Sm g m (List.take acc.length acc ++ List.take 1 (List.drop 0 [(m.getD (i : Int).toNat (Cd.dflt U.event)).image])) := by rw [hW]
        rw [hg]
        (repeat' ((conv => whnf); first | (exfalso; omega) | refine cpC (hx) ?_ | refine dpC (hx) ?_ | (refine Q8 [some 0, some 1, some 2, none, some 4, some 5] [(12, .any), (49, .any)] [(3, .rows U.int [])] ([iS ((i : Int) + 1), iS (need - 1), .fn (.func 143) [] [.dptr (gY g) 0, .dptr [.dsl U.event m] 0, .dptr [.int .i64 i] 0]] ++ Gt g m) (by exact bkV) (by exact snV) ?_; (conv => whnf); refine wQ [some 0, some 1, some 5] hih rfl rfl ⟨rfl, rfl, rfl, trivial⟩ ?_) | exact enC [some 0, some 1, some 2, some 5] | refine x0C ?_ | refine spC (fun hb => ?_) fun hb => ?_ | refine aJ (fun hb => ?_) ?_ | refine taC ?_ | refine saC ?_ | exact sdV | refine aA ?_ ?_ | refine aB mixed ?_))
       | cons y r =>
        have hg : Sh g m acc ((m.getD i (Cd.dflt U.event)).image :: y :: r, ok).1 = Sm g m ((List.take acc.length acc ++ List.take 1 (List.drop 0 [(m.getD (i : Int).toNat (Cd.dflt U.event)).image])) ++ y :: r) := by rw [hW, List.append_assoc]; rfl
        rw [hg]
        (repeat' ((conv => whnf); first | (exfalso; omega) | refine cpC (hx) ?_ | refine dpC (hx) ?_ | (refine Q8 [some 0, some 1, some 2, none, some 4, some 5] [(12, .any), (49, .any)] [(3, .rows U.int [])] ([iS ((i : Int) + 1), iS (need - 1), .fn (.func 143) [] [.dptr (gY g) 0, .dptr [.dsl U.event m] 0, .dptr [.int .i64 i] 0]] ++ Gt g m) (by exact bkV) (by exact snV) ?_; (conv => whnf); refine wQ [some 0, some 1, some 5] hih rfl rfl ⟨rfl, rfl, rfl, trivial⟩ ?_) | exact enC [some 0, some 1, some 2, some 6] | refine x0C ?_ | refine spC (fun hb => ?_) fun hb => ?_ | refine aJ (fun hb => ?_) ?_ | refine taC ?_ | refine saC ?_ | exact sdV | refine aA ?_ ?_ | refine aB mixed ?_))
      ·have hm := hmiss (.inl hlo)
       rw [hm] at he ⊢
       (repeat' ((conv => whnf); first | (exfalso; omega) | refine cpC (hx) ?_ | refine dpC (hx) ?_ | refine hK (i + 1) [some 0, some 1, some 2, some 4] _ _ ⟨⟨by omega, by omega, he⟩⟩ ⟨by omega⟩ (by exact bkI) | refine x0C ?_ | refine spC (fun hb => ?_) fun hb => ?_ | refine aJ (fun hb => ?_) ?_ | refine taC ?_ | refine saC ?_ | exact sdV | refine aA ?_ ?_ | refine aB mixed ?_))
    ·rw [List.drop_of_length_le hge, I7 g last (by omega)]
     (repeat' ((conv => whnf); first | (exfalso; omega) | exact enC [some 0, some 1, some 2] | refine x0C ?_ | refine spC (fun hb => ?_) fun hb => ?_ | refine aJ (fun hb => ?_) ?_ | refine taC ?_ | refine saC ?_ | exact sdV | refine aA ?_ ?_ | refine aB mixed ?_))
theorem Yz (g : aK) (hk : (g.kids.length : Int) = 1) (hdy : 0 ≤ g.days ∧ g.days ≤ 60) (hfr : 0 ≤ g.from_ ∧ g.from_ ≤ 1000000) (hti : 1 ≤ g.times ∧ g.times ≤ 6) (hg : Fu (eC g.kids)) (l : List aD) (now : Int) (h : nY l) : aG Tryz.prog Dc 120 [bU l now, aP g] [] (rI (oY g l)) [] := by
 have h1 := nG (eC g.kids) hg l now h.len h.el
 have hE : nY (kU (eC g.kids) l) := ⟨Int.le_trans (Int.ofNat_le.2 (List.length_filter_le _ _)) h.len, fun e he => h.el e (List.mem_filter.1 he).1, fun e he => h.i64 e (List.mem_filter.1 he).1, fun e he => h.look e (List.mem_filter.1 he).1⟩
 unfold oY
 generalize kU (eC g.kids) l = m at h1 hE ⊢
 have hl := hE.len
 rw [tE]
 have htk := q0v g hdy m hE m.length 0 (Nat.zero_le _) (Nat.sub_zero _) g.times 144 _ none [] (by omega) (by omega) .c0 (by simp; omega) fun x hx => Xm g hfr hdy x
 rw [List.drop_zero] at htk
 have htl := sY g m g.times none
 have hts := wD g m g.times none
 rw [tE] at hts
 cases hT : cZ g m g.times none with
 | mk r ok =>
 rw [hT] at htk htl hts
 have hr0 : ok = true → r ≠ [] := fun e h => by
  subst e; subst h
  have := hts [] (by omega) rfl
  simp at this; omega
 have hst : List.replicate ((m.length : Nat) : Int).toNat (Cd.dflt U.int) = qI g m m.length := by rw [R3, Int.toNat_natCast]; rfl
 refine aC Ax aF Tryz.func120 (c := _) rfl Tryz.call120 400 ?_
 (repeat' ((conv => whnf); first | (exfalso; omega) | refine cpC (h1) ?_ | refine dpC (h1) ?_ | refine x0C ?_ | refine spC (fun hb => ?_) fun hb => ?_ | refine aJ (fun hb => ?_) ?_ | refine taC ?_ | refine saC ?_ | exact sdV | refine aA ?_ ?_ | refine aB mixed ?_))
 refine bW (fun j : Nat => [(8, iS ((j : Int) - 1))]) (fun j => [(4, .rows U.int (qI g m j))]) (fun j => j ≤ m.length) (fun j => j) m.length (Nat.le_refl _) (by exact bkI) ?_
 intro j hj K hK
 have hlr := Fa g m hj
 match j with
 | 0 =>
  rw [Hv]
  rw [show ((0 : Nat) : Int) = 0 from rfl] at htk
  cases ok with
  | false =>
   cases r <;>
   ·(repeat' ((conv => whnf); first | (exfalso; omega) | refine x0C ?_ | refine spC (fun hb => ?_) fun hb => ?_ | refine aJ (fun hb => ?_) ?_ | refine taC ?_ | refine saC ?_ | exact sdV | refine aA ?_ ?_ | refine aB mixed ?_))
    refine Q8 [none, none, some 2, none, none, none, some 6, some 7, none] [(2, .any), (3, .dptr (gY g) 0), (6, .dptr [.dsl U.event m] 0), (7, .dptr [.dsl U.int (bD g m)] 0), (13, .any), (20, .any), (62, .any), (63, .any), (64, .any), (66, .any)] [(0, .rows U.int []), (1, .rows U.int []), (3, .rows U.int []), (4, .rows U.int []), (5, .rows U.int []), (6, .vart none [.slice 8 0 1 0 0]), (7, .vart none [.fn (.func 142) [] [.dptr [.dsl U.event m] 0, .dptr [.dsl U.int (bD g m)] 0, .ptr 6 0, .ptr 7 0, .dptr (gY g) 0]]), (8, .rows U.int [])] [iS 0, iS g.times, .fn (.func 144) [] [.dptr (gY g) 0], .dptr [.dsl U.event m] 0, .dptr [.dsl U.int (bD g m)] 0, .ptr 6 0, .ptr 7 0, .dptr (gY g) 0] (by exact bkV) (by exact snV) ?_
    (conv => whnf)
    refine wQ [some 6, some 7, some 8] htk rfl rfl ⟨rfl, rfl, rfl, trivial⟩ ?_
    (repeat' ((conv => whnf); first | (exfalso; omega) | refine x0C ?_ | refine spC (fun hb => ?_) fun hb => ?_ | refine aJ (fun hb => ?_) ?_ | refine taC ?_ | refine saC ?_ | exact sdV | refine aA ?_ ?_ | refine aB mixed ?_))
    all_goals exact vwV
  | true =>
   cases r with
   | nil => exact absurd rfl (hr0 rfl)
   | cons x r =>
    have him := iL (l := x :: r) (by simp) (by simp; simp at htl; omega)
    (repeat' ((conv => whnf); first | (exfalso; omega) | refine x0C ?_ | refine spC (fun hb => ?_) fun hb => ?_ | refine aJ (fun hb => ?_) ?_ | refine taC ?_ | refine saC ?_ | exact sdV | refine aA ?_ ?_ | refine aB mixed ?_))
    refine Q8 [none, none, some 2, none, none, none, some 6, some 7, none] [(2, .any), (3, .dptr (gY g) 0), (6, .dptr [.dsl U.event m] 0), (7, .dptr [.dsl U.int (bD g m)] 0), (13, .any), (20, .any), (62, .any), (63, .any), (64, .any), (66, .any)] [(0, .rows U.int []), (1, .rows U.int []), (3, .rows U.int []), (4, .rows U.int []), (5, .rows U.int []), (6, .vart none [.slice 8 0 1 0 0]), (7, .vart none [.fn (.func 142) [] [.dptr [.dsl U.event m] 0, .dptr [.dsl U.int (bD g m)] 0, .ptr 6 0, .ptr 7 0, .dptr (gY g) 0]]), (8, .rows U.int [])] [iS 0, iS g.times, .fn (.func 144) [] [.dptr (gY g) 0], .dptr [.dsl U.event m] 0, .dptr [.dsl U.int (bD g m)] 0, .ptr 6 0, .ptr 7 0, .dptr (gY g) 0] (by exact bkV) (by exact snV) ?_
    (conv => whnf)
    refine wQ [some 6, some 7, some 8] htk rfl rfl ⟨rfl, rfl, rfl, trivial⟩ ?_
    (repeat' ((conv => whnf); first | (exfalso; omega) | refine x0C ?_ | refine spC (fun hb => ?_) fun hb => ?_ | refine aJ (fun hb => ?_) ?_ | refine taC ?_ | refine saC ?_ | exact sdV | refine aA ?_ ?_ | refine aB mixed ?_))
    refine Q8 [none, none, some 2, none, none, none, none, none, none, none] [(10, .any), (11, .any), (70, .any)] [(6, .rows U.int []), (7, .rows U.int []), (8, .rows U.int []), (9, .rows U.int [])] [lS (x :: r)] (by exact bkV) (by exact snV) ?_
    (conv => whnf)
    refine wQ [] him rfl rfl trivial ?_
    (repeat' ((conv => whnf); first | (exfalso; omega) | refine x0C ?_ | refine spC (fun hb => ?_) fun hb => ?_ | refine aJ (fun hb => ?_) ?_ | refine taC ?_ | refine saC ?_ | exact sdV | refine aA ?_ ?_ | refine aB mixed ?_))
    all_goals exact vwV
 | i + 1 =>
  have e1 : (qI g m (i + 1)).set (0 + (((i + 1 : Nat) : Int) - 1).toNat) 1 = cU g m i 0 := by
   rw [← S0 g m hj, show 0 + (((i + 1 : Nat) : Int) - 1).toNat = i by omega]
  have e2 := Gw g m (i := i) (t := m.length - (i + 1)) (by omega) rfl
  (repeat' ((conv => whnf); first | (exfalso; omega) | refine x0C ?_ | refine spC (fun hb => ?_) fun hb => ?_ | refine aJ (fun hb => ?_) ?_ | refine taC ?_ | refine saC ?_ | exact sdV | refine aA ?_ ?_ | refine aB mixed ?_))
  refine bW (fun t : Nat => [(9, iS ((i : Int) + 1 + t))]) (fun t => [(4, .rows U.int (cU g m i t))]) (fun t => t ≤ m.length - (i + 1)) (fun t => m.length - (i + 1) - t) 0 (Nat.zero_le _) (by exact bkI) ?_
  intro t ht K2 hK2
  have hql := Hk g m (i := i) (t := t) (by omega)
  rcases Nat.lt_or_ge t (m.length - (i + 1)) with hlt | hge
  ·have hgi := getD_some (d := Cd.dflt U.event) (show i < m.length by omega)
   have hgk := getD_some (d := Cd.dflt U.event) (show i + 1 + t < m.length by omega)
   have ei : (((i + 1 : Nat) : Int) - 1).toNat = i := by omega
   have ek : ((i : Int) + 1 + t).toNat = i + 1 + t := by omega
   have hfo := Ig g (m.getD (((i + 1 : Nat) : Int) - 1).toNat (Cd.dflt U.event)) (m.getD ((i : Int) + 1 + t).toNat (Cd.dflt U.event)) (by rw [ei]; exact hE.i64 _ (List.mem_of_getElem? hgi)) (by rw [ek]; exact hE.i64 _ (List.mem_of_getElem? hgk)) hdy
   have hqb := V6 g m (i := i) (t := t) (by omega)
   have hb1 : 1 ≤ (cU g m i t).getD (0 + (((i + 1 : Nat) : Int) - 1).toNat) (Cd.dflt U.int) ∧ (cU g m i t).getD (0 + (((i + 1 : Nat) : Int) - 1).toNat) (Cd.dflt U.int) ≤ m.length := by rw [ei, Nat.zero_add]; exact hqb.1
   have hb2 : (cU g m i t).getD (0 + ((i : Int) + 1 + t).toNat) (Cd.dflt U.int) ≤ m.length ∧ 0 ≤ (cU g m i t).getD (0 + ((i : Int) + 1 + t).toNat) (Cd.dflt U.int) := by rw [ek, Nat.zero_add]; exact hqb.2
   cases hF : bG g (m.getD (((i + 1 : Nat) : Int) - 1).toNat (Cd.dflt U.event)) (m.getD ((i : Int) + 1 + t).toNat (Cd.dflt U.event)) with
   | false =>
    rw [hF] at hfo
    have e3 := Dk g m (i := i) (t := t) (by omega) (by rw [ei, ek] at hF; exact hF)
    (repeat' ((conv => whnf); first | (exfalso; omega) | refine cpC (hfo) ?_ | refine dpC (hfo) ?_ | refine hK2 (t + 1) [some 0, some 1, some 2, some 3, some 4, some 5] _ _ ⟨by omega⟩ ⟨by omega⟩ (by (dsimp only; rw [e3]; exact bkI)) | refine x0C ?_ | refine spC (fun hb => ?_) fun hb => ?_ | refine aJ (fun hb => ?_) ?_ | refine taC ?_ | refine saC ?_ | exact sdV | refine aA ?_ ?_ | refine aB mixed ?_))
   | true =>
    rw [hF] at hfo
    have e4 : (cU g m i t).set (0 + (((i + 1 : Nat) : Int) - 1).toNat) (max ((cU g m i t).getD (0 + (((i + 1 : Nat) : Int) - 1).toNat) (Cd.dflt U.int)) (1 + (cU g m i t).getD (0 + ((i : Int) + 1 + t).toNat) (Cd.dflt U.int))) = cU g m i (t + 1) := by
     rw [ei, ek, Nat.zero_add, Nat.zero_add]
     exact Fj g m (i := i) (t := t) (by omega) (by rw [ei, ek] at hF; exact hF)
    (repeat' ((conv => whnf); first | (exfalso; omega) | refine cpC (hfo) ?_ | refine dpC (hfo) ?_ | refine hK2 (t + 1) [some 0, some 1, some 2, some 3, some 4, some 5] _ _ ⟨by omega⟩ ⟨by omega⟩ (by exact bkI) | refine x0C ?_ | refine spC (fun hb => ?_) fun hb => ?_ | refine aJ (fun hb => ?_) ?_ | refine taC ?_ | refine saC ?_ | exact sdV | refine aA ?_ ?_ | refine aB mixed ?_))
  ·obtain rfl : t = m.length - (i + 1) := by omega
   rw [e2]
   (repeat' ((conv => whnf); first | (exfalso; omega) | refine hK i [some 0, some 1, some 2, some 3, some 4, some 5] _ _ ⟨by omega⟩ ⟨by omega⟩ (by exact bkI) | refine x0C ?_ | refine spC (fun hb => ?_) fun hb => ?_ | refine aJ (fun hb => ?_) ?_ | refine taC ?_ | refine saC ?_ | exact sdV | refine aA ?_ ?_ | refine aB mixed ?_))
def Cz (k : Int) (f : Nat) (i : Nat) : MapEntry := ⟨.int .i64 k, .func (.func f) #[] #[], i⟩
def Vt : Obj := .map #[Cz 1 118 0, Cz 2 119 1, Cz 3 120 2, Cz 4 121 3, Cz 5 122 4, Cz 6 123 5] 6
theorem jL : aG Tryz.prog Dc 89 [] [] (.mapp 0) [.obj Vt] := by
 refine aC Ax aF Tryz.func89 (c := _) rfl Tryz.call89 200 ?_
 (repeat' ((conv => whnf); first | (exfalso; omega) | refine bM rfl ?_ | exact enC [some 0] | refine x0C ?_ | refine spC (fun hb => ?_) fun hb => ?_ | refine aJ (fun hb => ?_) ?_ | refine taC ?_ | refine saC ?_ | exact sdV | refine aA ?_ ?_ | refine aB mixed ?_))
theorem eY (s : Sen) : ∃ p im b, rI s = .tuple [Zg p im, bS b] := by
 cases s with
 | none => exact ⟨_, _, _, rfl⟩
 | some x => exact ⟨_, _, _, rfl⟩
theorem Ua (g : aK) (hk : g.kind = 1) (l : List aD) (now : Int) (s : Sen) (h : aG Tryz.prog Dc 118 [bU l now, aP g] [] (rI s) []) : aG Tryz.prog Dc 61 [bU l now, aP g] [] (rI s) [] := by
 cases g with
 | mk kind rows from_ to_ low high clear days times within cents kids =>
 dsimp only at hk
 subst hk
 obtain ⟨p, im, b, e⟩ := eY s
 rw [e] at h ⊢
 refine aC Ax aF Tryz.func61 (c := _) rfl Tryz.call61 100 ?_
 (repeat' ((conv => whnf); first | (exfalso; omega) | (refine bZ [] jL rfl rfl trivial ?_) | refine bM rfl ?_ | refine cpC (h) ?_ | refine dpC (h) ?_ | refine x0C ?_ | refine spC (fun hb => ?_) fun hb => ?_ | refine aJ (fun hb => ?_) ?_ | refine taC ?_ | refine saC ?_ | exact sdV | refine aA ?_ ?_ | refine aB mixed ?_))
 all_goals exact vwV
theorem Sb (g : aK) (hk : g.kind = 2) (l : List aD) (now : Int) (s : Sen) (h : aG Tryz.prog Dc 119 [bU l now, aP g] [] (rI s) []) : aG Tryz.prog Dc 61 [bU l now, aP g] [] (rI s) [] := by
 cases g with
 | mk kind rows from_ to_ low high clear days times within cents kids =>
 dsimp only at hk
 subst hk
 obtain ⟨p, im, b, e⟩ := eY s
 rw [e] at h ⊢
 refine aC Ax aF Tryz.func61 (c := _) rfl Tryz.call61 100 ?_
 (repeat' ((conv => whnf); first | (exfalso; omega) | (refine bZ [] jL rfl rfl trivial ?_) | refine bM rfl ?_ | refine cpC (h) ?_ | refine dpC (h) ?_ | refine x0C ?_ | refine spC (fun hb => ?_) fun hb => ?_ | refine aJ (fun hb => ?_) ?_ | refine taC ?_ | refine saC ?_ | exact sdV | refine aA ?_ ?_ | refine aB mixed ?_))
 all_goals exact vwV
theorem Ux (g : aK) (hk : g.kind = 3) (l : List aD) (now : Int) (s : Sen) (h : aG Tryz.prog Dc 120 [bU l now, aP g] [] (rI s) []) : aG Tryz.prog Dc 61 [bU l now, aP g] [] (rI s) [] := by
 cases g with
 | mk kind rows from_ to_ low high clear days times within cents kids =>
 dsimp only at hk
 subst hk
 obtain ⟨p, im, b, e⟩ := eY s
 rw [e] at h ⊢
 refine aC Ax aF Tryz.func61 (c := _) rfl Tryz.call61 100 ?_
 (repeat' ((conv => whnf); first | (exfalso; omega) | (refine bZ [] jL rfl rfl trivial ?_) | refine bM rfl ?_ | refine cpC (h) ?_ | refine dpC (h) ?_ | refine x0C ?_ | refine spC (fun hb => ?_) fun hb => ?_ | refine aJ (fun hb => ?_) ?_ | refine taC ?_ | refine saC ?_ | exact sdV | refine aA ?_ ?_ | refine aB mixed ?_))
 all_goals exact vwV
theorem Sp (g : aK) (hk : g.kind = 4) (l : List aD) (now : Int) (s : Sen) (h : aG Tryz.prog Dc 121 [bU l now, aP g] [] (rI s) []) : aG Tryz.prog Dc 61 [bU l now, aP g] [] (rI s) [] := by
 cases g with
 | mk kind rows from_ to_ low high clear days times within cents kids =>
 dsimp only at hk
 subst hk
 obtain ⟨p, im, b, e⟩ := eY s
 rw [e] at h ⊢
 refine aC Ax aF Tryz.func61 (c := _) rfl Tryz.call61 100 ?_
 (repeat' ((conv => whnf); first | (exfalso; omega) | (refine bZ [] jL rfl rfl trivial ?_) | refine bM rfl ?_ | refine cpC (h) ?_ | refine dpC (h) ?_ | refine x0C ?_ | refine spC (fun hb => ?_) fun hb => ?_ | refine aJ (fun hb => ?_) ?_ | refine taC ?_ | refine saC ?_ | exact sdV | refine aA ?_ ?_ | refine aB mixed ?_))
 all_goals exact vwV
theorem Rg (g : aK) (hk : g.kind = 5) (l : List aD) (now : Int) (s : Sen) (h : aG Tryz.prog Dc 122 [bU l now, aP g] [] (rI s) []) : aG Tryz.prog Dc 61 [bU l now, aP g] [] (rI s) [] := by
 cases g with
 | mk kind rows from_ to_ low high clear days times within cents kids =>
 dsimp only at hk
 subst hk
 obtain ⟨p, im, b, e⟩ := eY s
 rw [e] at h ⊢
 refine aC Ax aF Tryz.func61 (c := _) rfl Tryz.call61 100 ?_
 (repeat' ((conv => whnf); first | (exfalso; omega) | (refine bZ [] jL rfl rfl trivial ?_) | refine bM rfl ?_ | refine cpC (h) ?_ | refine dpC (h) ?_ | refine x0C ?_ | refine spC (fun hb => ?_) fun hb => ?_ | refine aJ (fun hb => ?_) ?_ | refine taC ?_ | refine saC ?_ | exact sdV | refine aA ?_ ?_ | refine aB mixed ?_))
 all_goals exact vwV
theorem Se (g : aK) (hk : g.kind = 6) (l : List aD) (now : Int) (s : Sen) (h : aG Tryz.prog Dc 123 [bU l now, aP g] [] (rI s) []) : aG Tryz.prog Dc 61 [bU l now, aP g] [] (rI s) [] := by
 cases g with
 | mk kind rows from_ to_ low high clear days times within cents kids =>
 dsimp only at hk
 subst hk
 obtain ⟨p, im, b, e⟩ := eY s
 rw [e] at h ⊢
 refine aC Ax aF Tryz.func61 (c := _) rfl Tryz.call61 100 ?_
 (repeat' ((conv => whnf); first | (exfalso; omega) | (refine bZ [] jL rfl rfl trivial ?_) | refine bM rfl ?_ | refine cpC (h) ?_ | refine dpC (h) ?_ | refine x0C ?_ | refine spC (fun hb => ?_) fun hb => ?_ | refine aJ (fun hb => ?_) ?_ | refine taC ?_ | refine saC ?_ | exact sdV | refine aA ?_ ?_ | refine aB mixed ?_))
 all_goals exact vwV
theorem Kf (g : aK) (hk : (g.kids.length : Int) = 1) (l : List aD) (now : Int) (h : nY l) (s : Sen) (hs : aG Tryz.prog Dc 61 [bU (G8 l g.within) now, aP (eC g.kids)] [] (rI s) []) : aG Tryz.prog Dc 121 [bU l now, aP g] [] (rI s) [] := by
 have h1 := R1 l now g.within h.len h.i64
 obtain ⟨p, im, b, e⟩ := eY s
 rw [e] at hs ⊢
 refine aC Ax aF Tryz.func121 (c := _) rfl Tryz.call121 100 ?_
 (repeat' ((conv => whnf); first | (exfalso; omega) | refine cpC (h1) ?_ | refine dpC (h1) ?_ | refine cpC (hs) ?_ | refine dpC (hs) ?_ | refine x0C ?_ | refine spC (fun hb => ?_) fun hb => ?_ | refine aJ (fun hb => ?_) ?_ | refine taC ?_ | refine saC ?_ | exact sdV | refine aA ?_ ?_ | refine aB mixed ?_))
 all_goals exact vwV
theorem q1l (g : aK) (d n : Int) (l : List aD) (now : Int) (hsz : sizeL g.kids d = some n) (hn : n ≤ 1000) (hkl : (g.kids.length : Int) ≤ 1000000) (hs : ∀ k ∈ g.kids, aG Tryz.prog Dc 61 [bU l now, aP k] [] (rI (dD k l)) []) : aG Tryz.prog Dc 122 [bU l now, aP g] [] (rI (meanAll g.kids l 0 [])) [] := by
 refine aC Ax aF Tryz.func122 (c := _) rfl Tryz.call122 400 ?_
 (repeat' ((conv => whnf); first | (exfalso; omega) | refine x0C ?_ | refine spC (fun hb => ?_) fun hb => ?_ | refine aJ (fun hb => ?_) ?_ | refine taC ?_ | refine saC ?_ | exact sdV | refine aA ?_ ?_ | refine aB mixed ?_))
 refine aT [some 0, some 1, some 2, none] (fun q : Nat × Int × List Int × Nat => [(5, bS false), (13, iS q.1)]) (fun q => [(2, .vart none [iS q.2.1, .slice 3 0 1 0 q.2.2.1.length]), (3, .rows U.int (q.2.2.1 ++ List.replicate q.2.2.2 0))]) (fun q => q.1 ≤ g.kids.length ∧ meanAll (g.kids.take q.1) l 0 [] = some (q.2.1, q.2.2.1)) (fun q => g.kids.length - q.1) (0, 0, [], 0) ⟨Nat.zero_le _, by rw [List.take_zero, meanAll]⟩ (by exact bkI) ?_
 rintro ⟨i, p, im, z⟩ ⟨hi, hm⟩ K hK
 dsimp only at hi hm hK ⊢
 rcases Nat.lt_or_ge i g.kids.length with hlt | hge
 ·have hgi := getD_some (d := Cd.dflt U.goal) hlt
  have hkm := List.mem_of_getElem? hgi
  have hx := hs _ hkm
  obtain ⟨k0, hk1, hk2⟩ := bX hsz hkm
  obtain ⟨n0, hn1, hn2⟩ := mC i hsz
  have hb0 := all_bound _ _ _ _ _ _ _ _ hn1 hm
  have hsn := F8 (g.kids.take i) (g.kids.getD (i : Int).toNat (Cd.dflt U.goal)) l 0 []
  rw [show g.kids.take i ++ [g.kids.getD (i : Int).toNat (Cd.dflt U.goal)] = g.kids.take (i + 1) from (dW hlt).symm, hm] at hsn
  dsimp only at hsn
  cases hr : dD (g.kids.getD (i : Int).toNat (Cd.dflt U.goal)) l with
  | none =>
   rw [hr] at hx
   rw [T4 ⟨_, hkm, hr⟩]
   (repeat' ((conv => whnf); first | (exfalso; omega) | refine cpC (hx) ?_ | refine dpC (hx) ?_ | refine x0C ?_ | refine spC (fun hb => ?_) fun hb => ?_ | refine aJ (fun hb => ?_) ?_ | refine taC ?_ | refine saC ?_ | exact sdV | refine aA ?_ ?_ | refine aB mixed ?_))
   all_goals exact vwV
  | some w =>
   obtain ⟨r, jm⟩ := w
   rw [hr] at hx hsn
   dsimp only at hsn
   have hb1 := jF _ _ _ _ _ _ hk1 hr
   have hne := D7 _ _ _ _ _ _ hk1 hr
   simp only [List.length_nil] at hb0
   have hW : List.take im.length (im ++ List.replicate z 0) ++ jm = im ++ jm := by simp
   have hWl := congrArg List.length hW
   simp only [List.length_append (bs := jm)] at hWl
   have him := iL (l := List.take im.length (im ++ List.replicate z 0) ++ jm) (by rw [hW]; simp [hne]) (by rw [hW, List.length_append]; omega)
   rw [← hW] at hsn
   (repeat' ((conv => whnf); first | (exfalso; omega) | refine cpC (hx) ?_ | refine dpC (hx) ?_ | (refine Q8 [some 0, some 1, some 2, none, some 4, some 5, none] [(33, .any), (36, .any)] [(2, .vart none [iS (p + r), .any]), (3, .rows U.int []), (6, .rows U.int [])] [lS (List.take im.length (im ++ List.replicate z 0) ++ jm)] (by exact bkV) (by exact snV) ?_; (conv => whnf); refine wQ [] him rfl rfl trivial ?_) | refine hK (i + 1, p + r, L7 (List.take im.length (im ++ List.replicate z 0) ++ jm), (List.take im.length (im ++ List.replicate z 0) ++ jm).length - (L7 (List.take im.length (im ++ List.replicate z 0) ++ jm)).length) [some 0, some 1, some 2, some 7] _ _ ⟨⟨by dsimp only; omega, hsn⟩⟩ ⟨by dsimp only; omega⟩ (by exact bkI) | refine x0C ?_ | refine spC (fun hb => ?_) fun hb => ?_ | refine aJ (fun hb => ?_) ?_ | refine taC ?_ | refine saC ?_ | exact sdV | refine aA ?_ ?_ | refine aB mixed ?_))
 ·rw [List.take_of_length_le hge] at hm
  rw [hm]
  (repeat' ((conv => whnf); first | (exfalso; omega) | refine x0C ?_ | refine spC (fun hb => ?_) fun hb => ?_ | refine aJ (fun hb => ?_) ?_ | refine taC ?_ | refine saC ?_ | exact sdV | refine aA ?_ ?_ | refine aB mixed ?_))
  all_goals exact vwV
def Vq (b : Bool) (p : Int) (im : List Int) : Sen := if b then some (p, im) else none
theorem q1i (g : aK) (d n : Int) (l : List aD) (now : Int) (hsz : sizeL g.kids d = some n) (hn : n ≤ 1000) (hkl : (g.kids.length : Int) ≤ 1000000) (hcl : g.cents.length = g.kids.length) (hcb : ∀ c ∈ g.cents, 0 ≤ c ∧ c ≤ 1000000000) (hs : ∀ k ∈ g.kids, aG Tryz.prog Dc 61 [bU l now, aP k] [] (rI (dD k l)) []) : aG Tryz.prog Dc 123 [bU l now, aP g] [] (rI (meanAny g.kids g.cents l none)) [] := by
 refine aC Ax aF Tryz.func123 (c := _) rfl Tryz.call123 400 ?_
 (repeat' ((conv => whnf); first | (exfalso; omega) | refine x0C ?_ | refine spC (fun hb => ?_) fun hb => ?_ | refine aJ (fun hb => ?_) ?_ | refine taC ?_ | refine saC ?_ | exact sdV | refine aA ?_ ?_ | refine aB mixed ?_))
 refine aT [some 0, some 1, some 2] (fun q : Nat × Int × List Int × Bool => [(5, bS q.2.2.2), (13, iS q.1)]) (fun q => [(2, .vart none [iS q.2.1, lS q.2.2.1])]) (fun q => q.1 ≤ g.kids.length ∧ meanAny (g.kids.take q.1) g.cents l none = Vq q.2.2.2 q.2.1 q.2.2.1 ∧ (q.2.2.2 = false → q.2.1 = 0 ∧ q.2.2.1 = [])) (fun q => g.kids.length - q.1) (0, 0, [], false) ⟨Nat.zero_le _, by rw [List.take_zero, meanAny]; rfl, fun _ => ⟨rfl, rfl⟩⟩ (by exact bkI) ?_
 rintro ⟨i, p, im, b⟩ ⟨hi, hm, h0⟩ K hK
 dsimp only at hi hm h0 hK ⊢
 rcases Nat.lt_or_ge i g.kids.length with hlt | hge
 ·have hgi := getD_some (d := Cd.dflt U.goal) hlt
  have hkm := List.mem_of_getElem? hgi
  have hx := hs _ hkm
  obtain ⟨k0, hk1, hk2⟩ := bX hsz hkm
  obtain ⟨n0, hn1, hn2⟩ := mC i hsz
  have hsn := G7 (g.kids.take i) (g.kids.getD (i : Int).toNat (Cd.dflt U.goal)) l g.cents none
  rw [show g.kids.take i ++ [g.kids.getD (i : Int).toNat (Cd.dflt U.goal)] = g.kids.take (i + 1) from (dW hlt).symm, hm, List.length_take, Nat.min_eq_left hi] at hsn
  have hci := hcb _ (List.mem_of_getElem? (getD_some (d := Cd.dflt U.int) (show i < g.cents.length by omega)))
  have hcg : g.cents.getD (i : Int).toNat (Cd.dflt U.int) = g.cents.getD i 0 := rfl
  have hpb : 0 ≤ p ∧ p ≤ 2000000000000 := by
   cases b with
   | false => have := h0 rfl; omega
   | true =>
    rcases any_bound _ _ _ _ _ _ _ _ hn1 hcb (hm.trans (by unfold Vq; rw [if_pos rfl])) with h | h
    ·cases h
    ·omega
  cases hr : dD (g.kids.getD (i : Int).toNat (Cd.dflt U.goal)) l with
  | none =>
   rw [hr] at hx hsn
   (repeat' ((conv => whnf); first | (exfalso; omega) | refine cpC (hx) ?_ | refine dpC (hx) ?_ | refine hK (i + 1, p, im, b) [some 0, some 1, some 2] _ _ ⟨⟨by dsimp only; omega, hsn, h0⟩⟩ ⟨by dsimp only; omega⟩ (by exact bkI) | refine x0C ?_ | refine spC (fun hb => ?_) fun hb => ?_ | refine aJ (fun hb => ?_) ?_ | refine taC ?_ | refine saC ?_ | exact sdV | refine aA ?_ ?_ | refine aB mixed ?_))
  | some w =>
   obtain ⟨r, jm⟩ := w
   rw [hr] at hx hsn
   have hb1 := jF _ _ _ _ _ _ hk1 hr
   cases b with
   | false =>
    obtain ⟨rfl, rfl⟩ := h0 rfl
    (repeat' ((conv => whnf); first | (exfalso; omega) | refine cpC (hx) ?_ | refine dpC (hx) ?_ | refine hK (i + 1, r + g.cents.getD (i : Int).toNat (Cd.dflt U.int), jm, true) [some 0, some 1, some 2] _ _ ⟨⟨by dsimp only; omega, hsn, fun h => by cases h⟩⟩ ⟨by dsimp only; omega⟩ (by exact bkI) | refine x0C ?_ | refine spC (fun hb => ?_) fun hb => ?_ | refine aJ (fun hb => ?_) ?_ | refine taC ?_ | refine saC ?_ | exact sdV | refine aA ?_ ?_ | refine aB mixed ?_))
   | true =>
    by_cases hlt2 : r + g.cents.getD (i : Int).toNat (Cd.dflt U.int) < p
    ·have hsn2 : meanAny (g.kids.take (i + 1)) g.cents l none = Vq true (r + g.cents.getD (i : Int).toNat (Cd.dflt U.int)) jm := by rw [hsn]; unfold kW Vq; simp only [if_true]; exact if_pos hlt2
     (repeat' ((conv => whnf); first | (exfalso; omega) | refine cpC (hx) ?_ | refine dpC (hx) ?_ | refine hK (i + 1, r + g.cents.getD (i : Int).toNat (Cd.dflt U.int), jm, true) [some 0, some 1, some 2] _ _ ⟨⟨by dsimp only; omega, hsn2, fun h => by cases h⟩⟩ ⟨by dsimp only; omega⟩ (by exact bkI) | refine x0C ?_ | refine spC (fun hb => ?_) fun hb => ?_ | refine aJ (fun hb => ?_) ?_ | refine taC ?_ | refine saC ?_ | exact sdV | refine aA ?_ ?_ | refine aB mixed ?_))
    ·have hsn2 : meanAny (g.kids.take (i + 1)) g.cents l none = Vq true p im := by rw [hsn]; unfold kW Vq; simp only [if_true]; exact if_neg hlt2
     (repeat' ((conv => whnf); first | (exfalso; omega) | refine cpC (hx) ?_ | refine dpC (hx) ?_ | refine hK (i + 1, p, im, true) [some 0, some 1, some 2] _ _ ⟨⟨by dsimp only; omega, hsn2, fun h => by cases h⟩⟩ ⟨by dsimp only; omega⟩ (by exact bkI) | refine x0C ?_ | refine spC (fun hb => ?_) fun hb => ?_ | refine aJ (fun hb => ?_) ?_ | refine taC ?_ | refine saC ?_ | exact sdV | refine aA ?_ ?_ | refine aB mixed ?_))
 ·rw [List.take_of_length_le hge] at hm
  rw [hm]
  cases b with
  | false =>
   obtain ⟨rfl, rfl⟩ := h0 rfl
   (repeat' ((conv => whnf); first | (exfalso; omega) | refine x0C ?_ | refine spC (fun hb => ?_) fun hb => ?_ | refine aJ (fun hb => ?_) ?_ | refine taC ?_ | refine saC ?_ | exact sdV | refine aA ?_ ?_ | refine aB mixed ?_))
   all_goals exact vwV
  | true =>
   (repeat' ((conv => whnf); first | (exfalso; omega) | refine x0C ?_ | refine spC (fun hb => ?_) fun hb => ?_ | refine aJ (fun hb => ?_) ?_ | refine taC ?_ | refine saC ?_ | exact sdV | refine aA ?_ ?_ | refine aB mixed ?_))
   all_goals exact vwV
theorem Tv {l m : List aD} (h : nY l) (hs : ∀ e ∈ m, e ∈ l) (hl : m.length ≤ l.length) : nY m :=
 ⟨by have := h.len; omega, fun e he => h.el e (hs e he), fun e he => h.i64 e (hs e he), fun e he => h.look e (hs e he)⟩
theorem Mp {l : List aD} (h : nY l) (n : Int) : nY (G8 l n) := Tv h (fun e he => (List.mem_filter.1 he).1) (List.length_filter_le _ _)
theorem sC {ks : List aK} (h : (ks.length : Int) = 1) : eC ks ∈ ks := by
 match ks with
 | [] => simp at h
 | k :: _ => exact List.mem_cons_self
theorem H7 : ∀ (j : Nat) (g : aK) (d n : Int), 5 - d ≤ j → 1 ≤ d → cB g d = some n → oN g → ∀ (l : List aD) (now : Int), nY l → aG Tryz.prog Dc 61 [bU l now, aP g] [] (rI (dD g l)) [] := by
 intro j
 induction j with
 | zero =>
  intro g d n h1 h2 hs
  have := (cR hs).2.1
  omega
 | succ j ih =>
  intro g d n h1 h2 hs hG l now hE
  obtain ⟨hok, hd, m, hL, rfl⟩ := cR hs
  have hsz := jZ 4 g d (1 + m) (by omega) hs
  rw [show (5 : Int) ^ 4 = 625 by decide] at hsz
  obtain ⟨hgl, hgk⟩ := (dF g).1 hG
  have hkids : ∀ k ∈ g.kids, aG Tryz.prog Dc 61 [bU l now, aP k] [] (rI (dD k l)) [] := fun k hk => by
   obtain ⟨x, hx, _⟩ := bX hL hk
   exact ih k (d + 1) x (by omega) (by omega) hx (fM hgk hk) l now hE
  have hkk := (bP hok).1
  rw [oZ]
  have hkb : g.kind = 1 ∨ g.kind = 2 ∨ g.kind = 3 ∨ g.kind = 4 ∨ g.kind = 5 ∨ g.kind = 6 := by omega
  rcases hkb with e | e | e | e | e | e
  ·rw [if_pos e]
   exact Ua g e l now _ (q1p g hgl l now hE)
  ·rw [if_neg (by omega), if_pos e]
   have h1 := uA hok (by omega) (by omega) (by omega)
   exact Sb g e l now _ (q0m g h1 ((dF _).1 (fM hgk (sC h1))).1 l now hE)
  ·rw [if_neg (by omega), if_neg (by omega), if_pos e]
   have h1 := uA hok (by omega) (by omega) (by omega)
   have h3 := Tj hok e
   exact Ux g e l now _ (Yz g h1 (by omega) (by omega) (lT hok e) ((dF _).1 (fM hgk (sC h1))).1 l now hE)
  ·rw [if_neg (by omega), if_neg (by omega), if_neg (by omega), if_pos e]
   have h1 := uA hok (by omega) (by omega) (by omega)
   rw [Y0 _ _ h1]
   obtain ⟨x, hx, _⟩ := bX hL (sC h1)
   exact Sp g e l now _ (Kf g h1 l now hE _ (ih _ (d + 1) x (by omega) (by omega) hx (fM hgk (sC h1)) _ now (Mp hE _)))
  ·rw [if_neg (by omega), if_neg (by omega), if_neg (by omega), if_neg (by omega), if_pos e]
   have h2 := E4 hok (.inl e)
   exact Rg g e l now _ (q1l g (d + 1) m l now hL (by omega) (by omega) hkids)
  ·rw [if_neg (by omega), if_neg (by omega), if_neg (by omega), if_neg (by omega), if_neg (by omega)]
   have h2 := E4 hok (.inr e)
   have hc : g.cents.length = g.kids.length := by
    have := (bP hok).2.2.2
    unfold fW at this
    rw [if_pos e] at this
    simp only [Bool.and_eq_true, decide_eq_true_eq] at this
    omega
   exact Se g e l now _ (q1i g (d + 1) m l now hL (by omega) (by omega) hc (Av hok) hkids)
theorem P8 {l : List aD} (h : aX l = true) (hel : ∀ e ∈ l, jM e) : nY l ∧ (l.length : Int) ≤ 120 ∧ ∀ e ∈ l, eJ e = true := by
 unfold aX at h
 simp only [Bool.and_eq_true, decide_eq_true_eq] at h
 obtain ⟨h1, h2⟩ := h
 have hf : ∀ e ∈ l, eJ e = true := by
  intro e he
  obtain ⟨i, hi, rfl⟩ := List.getElem_of_mem he
  unfold uY at h2
  rw [List.all_eq_true] at h2
  have := h2 i (List.mem_range.2 hi)
  unfold oM at this
  simp only [Bool.and_eq_true] at this
  have h3 := this.1.1
  unfold evt at h3
  rwa [List.getD_eq_getElem?_getD, List.getElem?_eq_getElem hi] at h3
 refine ⟨⟨by omega, hel, fun e he => ?_, fun e he => ?_⟩, h1, hf⟩
 ·have := hf e he
  unfold eJ at this
  simp only [Bool.and_eq_true, aM] at this
  unfold Q7
  omega
 ·have := hf e he
  unfold eJ at this
  simp only [Bool.and_eq_true, aM] at this
  have h3 := this.2
  split at h3
  ·simp only [Bool.and_eq_true, aM] at h3; omega
  ·split at h3
   ·simp only [Bool.and_eq_true, decide_eq_true_eq] at h3; omega
   ·cases h3
def sB (g : aK) (l : List aD) : Int × List Int × Bool × Int :=
 if cA g && aX l then (match dD g l with | some (p, im) => (p, im, true, 0) | none => (0, [], false, 0)) else (0, [], false, 150)
theorem rO {g : aK} (hG : oN g) (hv : cA g = true) {l : List aD} (now : Int) (hE : nY l) : aG Tryz.prog Dc 61 [bU l now, aP g] [] (rI (dD g l)) [] := by
 unfold cA at hv
 split at hv
 ·cases hv
 ·rename_i n hn
  exact H7 4 g 1 n (by omega) (by omega) hn hG l now hE
theorem Gy (g : aK) (hG : oN g) (l : List aD) (hl : (l.length : Int) ≤ 9223372036854775807) (hE : ∀ e ∈ l, jM e) : aG Tryz.prog Dc 28 [aP g, eS l] [] (.tuple [Zg (sB g l).1 (sB g l).2.1, bS (sB g l).2.2.1, iS (sB g l).2.2.2]) [] := by
 have h1 := jV g hG
 have h2 := iC l hl hE
 unfold sB
 cases hv : cA g with
 | false =>
  rw [hv] at h1
  refine aC Ax aF Tryz.func28 (c := _) rfl Tryz.call28 100 ?_
  (repeat' ((conv => whnf); first | (exfalso; omega) | refine cpC (h1) ?_ | refine dpC (h1) ?_ | refine cpC (h2) ?_ | refine dpC (h2) ?_ | refine x0C ?_ | refine spC (fun hb => ?_) fun hb => ?_ | refine aJ (fun hb => ?_) ?_ | refine taC ?_ | refine saC ?_ | exact sdV | refine aA ?_ ?_ | refine aB mixed ?_))
  all_goals exact vwV
 | true =>
  cases hw : aX l with
  | false =>
   rw [hv] at h1
   rw [hw] at h2
   refine aC Ax aF Tryz.func28 (c := _) rfl Tryz.call28 100 ?_
   (repeat' ((conv => whnf); first | (exfalso; omega) | refine cpC (h1) ?_ | refine dpC (h1) ?_ | refine cpC (h2) ?_ | refine dpC (h2) ?_ | refine x0C ?_ | refine spC (fun hb => ?_) fun hb => ?_ | refine aJ (fun hb => ?_) ?_ | refine taC ?_ | refine saC ?_ | exact sdV | refine aA ?_ ?_ | refine aB mixed ?_))
   all_goals exact vwV
  | true =>
   rw [hv] at h1
   rw [hw] at h2
   have h3 := rO hG hv 0 (P8 hw hE).1
   cases hm : dD g l with
   | none =>
    rw [hm] at h3
    refine aC Ax aF Tryz.func28 (c := _) rfl Tryz.call28 100 ?_
    (repeat' ((conv => whnf); first | (exfalso; omega) | refine cpC (h1) ?_ | refine dpC (h1) ?_ | refine cpC (h2) ?_ | refine dpC (h2) ?_ | refine cpC (h3) ?_ | refine dpC (h3) ?_ | refine x0C ?_ | refine spC (fun hb => ?_) fun hb => ?_ | refine aJ (fun hb => ?_) ?_ | refine taC ?_ | refine saC ?_ | exact sdV | refine aA ?_ ?_ | refine aB mixed ?_))
    all_goals exact vwV
   | some w =>
    obtain ⟨r, jm⟩ := w
    rw [hm] at h3
    refine aC Ax aF Tryz.func28 (c := _) rfl Tryz.call28 100 ?_
    (repeat' ((conv => whnf); first | (exfalso; omega) | refine cpC (h1) ?_ | refine dpC (h1) ?_ | refine cpC (h2) ?_ | refine dpC (h2) ?_ | refine cpC (h3) ?_ | refine dpC (h3) ?_ | refine x0C ?_ | refine spC (fun hb => ?_) fun hb => ?_ | refine aJ (fun hb => ?_) ?_ | refine taC ?_ | refine saC ?_ | exact sdV | refine aA ?_ ?_ | refine aB mixed ?_))
    all_goals exact vwV
theorem Zv (g : aK) (hG : oN g) (l : List aD) (hl : (l.length : Int) ≤ 9223372036854775807) (hE : ∀ e ∈ l, jM e) : aG Tryz.prog Dc 8 [aP g, eS l] [] (.tuple [bS (sB g l).2.2.1, iS (sB g l).2.2.2]) [] := by
 have h := Gy g hG l hl hE
 generalize sB g l = q at h ⊢
 refine aC Ax aF Tryz.func8 (c := _) rfl Tryz.call8 100 ?_
 (repeat' ((conv => whnf); first | (exfalso; omega) | refine cpC (h) ?_ | refine dpC (h) ?_ | refine x0C ?_ | refine spC (fun hb => ?_) fun hb => ?_ | refine aJ (fun hb => ?_) ?_ | refine taC ?_ | refine saC ?_ | exact sdV | refine aA ?_ ?_ | refine aB mixed ?_))
 all_goals exact vwV
theorem Wa (g : aK) (hG : oN g) (l : List aD) (hl : (l.length : Int) ≤ 9223372036854775807) (hE : ∀ e ∈ l, jM e) : aG Tryz.prog Dc 34 [aP g, eS l] [] (.tuple [iS (sB g l).1, bS (sB g l).2.2.1, iS (sB g l).2.2.2]) [] := by
 have h := Gy g hG l hl hE
 generalize sB g l = q at h ⊢
 refine aC Ax aF Tryz.func34 (c := _) rfl Tryz.call34 100 ?_
 (repeat' ((conv => whnf); first | (exfalso; omega) | refine cpC (h) ?_ | refine dpC (h) ?_ | refine x0C ?_ | refine spC (fun hb => ?_) fun hb => ?_ | refine aJ (fun hb => ?_) ?_ | refine taC ?_ | refine saC ?_ | exact sdV | refine aA ?_ ?_ | refine aB mixed ?_))
 all_goals exact vwV
theorem q0e (g : aK) (hG : oN g) (l : List aD) (hl : (l.length : Int) ≤ 9223372036854775807) (hE : ∀ e ∈ l, jM e) : aG Tryz.prog Dc 12 [aP g, eS l] [] (.tuple [lS (sB g l).2.1, iS (sB g l).2.2.2]) [] := by
 have h := Gy g hG l hl hE
 generalize sB g l = q at h ⊢
 refine aC Ax aF Tryz.func12 (c := _) rfl Tryz.call12 100 ?_
 (repeat' ((conv => whnf); first | (exfalso; omega) | refine cpC (h) ?_ | refine dpC (h) ?_ | refine x0C ?_ | refine spC (fun hb => ?_) fun hb => ?_ | refine aJ (fun hb => ?_) ?_ | refine taC ?_ | refine saC ?_ | exact sdV | refine aA ?_ ?_ | refine aB mixed ?_))
 all_goals exact vwV
end Go.SX
