/-
  SX, part J: composite values.
-/
import Derived.Test.YtdaghncicimipaaGreatDoorSxE
import Derived.Great.FillDense
set_option linter.unusedVariables false
set_option linter.unusedSimpArgs false
namespace Go.SX
open Go.RowKit
variable {C : Cod}
section
variable {P : Program} {D : Codec C} {tab : Tab C} {B : Base} {E : Env} {σ : Nat → SV C} {H : Nat → HS C} {df : List Deferred} {a : Act} {w : World} {o : Oper}

theorem zipIx_eq : ∀ (ps : List (Nat × Operand)), zipIx ps ((ps.map (·.2)).map (ev σ)) = ps.map fun q => (q.1, ev σ q.2)
 | [] => rfl
 | (i, x) :: l => by simp only [List.map_cons, zipIx, zipIx_eq l]

theorem foldl_splice (off : Nat) (l : List Value) (cs : Array Value) (h : off + l.length ≤ cs.size) :
  ((l.zipIdx).foldl (fun cs (x : Value × Nat) => cs.setIfInBounds (off + x.2) x.1) cs).toList = cs.toList.take off ++ l ++ cs.toList.drop (off + l.length) := by
 obtain ⟨h1, h2⟩ := Great.foldl_set off l 0 cs
 apply List.ext_getElem?
 intro k
 have := h2 k
 simp only [Nat.add_zero] at this
 rw [Array.getElem?_toList, this]
 by_cases hk : k < off
 ·rw [if_neg (by omega), List.append_assoc, List.getElem?_append_left (by simp; omega), List.getElem?_take, if_pos hk, Array.getElem?_toList]
 ·have hto : (cs.toList.take off).length = off := by simp; omega
  by_cases hk2 : k < off + l.length
  ·rw [if_pos (by omega), List.append_assoc, List.getElem?_append_right (by omega), List.getElem?_append_left (by omega), hto]
  ·rw [if_neg (by omega), List.getElem?_append_right (by simp; omega), List.getElem?_drop]
   simp only [List.length_append, hto]
   rw [show off + l.length + (k - (off + l.length)) = k by omega, Array.getElem?_toList]

theorem fillW_spec {place : Nat → Option (Nat × Nat)} : ∀ (ps : List (Nat × Operand)) (vs vs' : List (SV C)) (cs : Array Value),
  (∀ x, Den D w E (ev σ x) (a.eval x)) → fillW place vs (ps.map fun q => (q.1, ev σ q.2)) = some vs' → DenC D w E vs cs.toList →
  ∃ cs', Instr.fill place cs (ps.map fun q => (q.1, a.eval q.2)) = some cs' ∧ DenC D w E vs' cs'.toList
 | [], vs, vs', cs, _, h, hd => by
  simp only [List.map_nil, fillW, Option.some.injEq] at h
  subst h
  exact ⟨cs, rfl, hd⟩
 | (i, x) :: ps, vs, vs', cs, he, h, hd => by
  simp only [List.map_cons, fillW] at h
  cases hp : place i with
  | none => simp [hp] at h
  | some p =>
   obtain ⟨off, size⟩ := p
   simp only [hp] at h
   cases hc : cellsOf (ev σ x) with
   | none => simp [hc] at h
   | some l =>
    simp only [hc] at h
    cases htk : takeW l size with
    | none => simp [htk] at h
    | some l' =>
     simp only [htk] at h
     split at h
     ·rename_i hdr
      cases hsp : spliceW vs off size l' with
      | none => simp [hsp] at h
      | some vs1 =>
       simp only [hsp] at h
       have hcd := cellsOf_den hc (he x)
       obtain ⟨h3, h4⟩ := exact_cells htk hdr hcd
       obtain ⟨h5, h6⟩ := spliceW_spec hsp hd h4
       have hsz : (a.eval x).cells.size = size := by simpa using h3
       have hfit : off + size ≤ cs.size := by simpa using h6
       have hfold := foldl_splice off (a.eval x).cells.toList cs (by simp [hsz]; omega)
       simp only [Array.length_toList, hsz] at hfold
       obtain ⟨cs', h7, h8⟩ := fillW_spec ps vs1 vs' _ he h (hfold ▸ h5)
       refine ⟨cs', ?_, h8⟩
       simp only [List.map_cons, Instr.fill, hp, hsz]
       rw [if_neg (by simp; omega), ← h7]
       congr 1
       rw [← Array.foldl_toList]
       congr 1
       simp
     ·cases h

theorem decParts_spec {u : C.U} : ∀ (ps : List (Nat × Operand)) (k : Nat) (xs : List (C.El u)), (∀ x, Den D w E (ev σ x) (a.eval x)) →
  decParts D u k (ps.map fun q => (q.1, ev σ q.2)) = some xs →
  ps.map (fun q => (q.1, a.eval q.2)) = ((ps.map fun q => a.eval q.2).zipIdx k).map (fun x => (x.2, x.1)) ∧ (∀ v ∈ ps.map (fun q => a.eval q.2), v.cells.size = C.n u) ∧
   xs.length = ps.length ∧ PDenL D w E.F (xs.flatMap (D.enc u)) ((ps.map fun q => a.eval q.2).flatMap fun v => v.cells.toList)
 | [], k, xs, _, h => by
  simp only [List.map_nil, decParts, Option.some.injEq] at h
  subst h
  exact ⟨rfl, by simp, rfl, ⟨rfl, fun j pv v hp _ => by simp at hp⟩⟩
 | (i, x) :: ps, k, xs, he, h => by
  simp only [List.map_cons, decParts] at h
  split at h
  ·rename_i hik
   subst hik
   cases hc : cellsOf (ev σ x) with
   | none => simp [hc] at h
   | some l =>
    simp only [hc] at h
    cases hp : toPVs l with
    | none => simp [hp] at h
    | some pl =>
     simp only [hp] at h
     cases hd : D.dec u pl with
     | none => simp [hd] at h
     | some y =>
      simp only [hd] at h
      cases hr : decParts D u (i + 1) (ps.map fun q => (q.1, ev σ q.2)) with
      | none => simp [hr] at h
      | some r =>
       simp [hr] at h
       subst h
       obtain ⟨h1, h2, h3, h4⟩ := decParts_spec ps (i + 1) r he hr
       have hy := D.dec_ok u pl y hd
       have hpl := toPVs_den _ _ _ hp (cellsOf_den hc (he x))
       have hn : (a.eval x).cells.size = C.n u := by
        rw [← Array.length_toList, ← hpl.1, ← hy, D.enc_len]
       refine ⟨by simp only [List.map_cons, List.zipIdx_cons, h1], fun v hv => ?_, by simp [h3], ?_⟩
       ·simp only [List.map_cons, List.mem_cons] at hv
        rcases hv with rfl | hv
        ·exact hn
        ·exact h2 v hv
       ·simp only [List.flatMap_cons, List.map_cons, hy]
        exact hpl.append h4
  ·cases h

theorem build_ok (hT : TabOK P D tab) (hR : Rel D B E σ H df a w) {t : TypeId} {ps : Array (Nat × Operand)} (ho : o.op = .build t ps) :
  OutOK P D B σ H df a w o (doBuild D tab t (zipIx ps.toList ((ps.toList.map (·.2)).map (ev σ)))) := by
 rw [zipIx_eq]
 unfold doBuild
 cases htab : tab t with
 | none => trivial
 | some i =>
  have ht := hT t i htab
  obtain ⟨info, z, h1, h2, h3, h4, h5, h6⟩ := ht.info
  have heq : (ps.map fun (i, x) => (i, a.eval x)).toList = ps.toList.map fun q => (q.1, a.eval q.2) := by simp
  simp only
  split
  ·rename_i fs hk
   have hkk := ht.und
   rw [hk] at hkk
   obtain ⟨d, hu, F, rfl, hF, hfi⟩ := hkk
   split
   ·rename_i vs' hfw
    -- the places
    have hpl : ∃ places, F.toList.mapM (fun f => (P.info? f.type).map fun i => (f.offset, i.size)) = some places ∧ ∀ k off size, placeOf tab fs k = some (off, size) → places[k]? = some (off, size) := by
     clear hfw
     have gen : ∀ (L : List Field) (G : List (Nat × TypeId)), L.map (fun f => (f.offset, f.type)) = G → (∀ f ∈ G, (P.info? f.2).isSome = true) →
       ∃ places, L.mapM (fun f => (P.info? f.type).map fun i => (f.offset, i.size)) = some places ∧ ∀ k off size, placeOf tab G k = some (off, size) → places[k]? = some (off, size) := by
      intro L
      induction L with
      | nil => intro G hG _; subst hG; exact ⟨[], rfl, fun k off size h => by simp [placeOf, ixL] at h⟩
      | cons f L ih =>
       intro G hG hin
       subst hG
       obtain ⟨places, hp1, hp2⟩ := ih _ rfl (fun q hq => hin q (by simp at hq ⊢; exact .inr hq))
       obtain ⟨fi, hfi'⟩ := Option.isSome_iff_exists.1 (hin (f.offset, f.type) (by simp))
       refine ⟨(f.offset, fi.size) :: places, by simp [List.mapM_cons, hfi', hp1], fun k off size hk' => ?_⟩
       cases k with
       | zero =>
        simp only [placeOf, List.map_cons, ixL] at hk'
        cases htf : tab f.type with
        | none => simp [htf] at hk'
        | some j =>
         simp [htf] at hk'
         obtain ⟨rfl, rfl⟩ := hk'
         obtain ⟨info', z', g1, g2, _⟩ := (hT _ _ htf).info
         simp only at hfi'
         rw [g1] at hfi'; cases hfi'
         simp [g2]
       | succ k =>
        simp only [List.getElem?_cons_succ]
        exact hp2 k off size (by simpa [placeOf, ixL] using hk')
     exact gen F.toList fs hF hfi
    obtain ⟨places, hp1, hp2⟩ := hpl
    obtain ⟨cs', h7, h8⟩ := fillW_spec ps.toList i.zero vs' z.cells (fun x => ev_den hR x) hfw (h6 w E)
    have hfill : Instr.fill (fun x => places[x]?) z.cells (ps.toList.map fun q => (q.1, a.eval q.2)) = some cs' := by
     -- where placeOf says a place, the places say it too
     have gen : ∀ (l : List (Nat × Value)) (c c' : Array Value), Instr.fill (placeOf tab fs) c l = some c' → Instr.fill (fun x => places[x]?) c l = some c' := by
      intro l
      induction l with
      | nil => intro c c' h; exact h
      | cons q l ih =>
       intro c c' h
       obtain ⟨k, v⟩ := q
       simp only [Instr.fill] at h ⊢
       cases hpo : placeOf tab fs k with
       | none => simp [hpo] at h
       | some p =>
        obtain ⟨off, size⟩ := p
        rw [hp2 k off size hpo]
        simp only [hpo] at h
        simp only
        split
        ·rename_i hc; rw [if_pos hc] at h; cases h
        ·rename_i hc; rw [if_neg hc] at h; exact ih _ _ h
     exact gen _ _ _ h7
    have hb : P.built t (ps.map fun (i, x) => (i, a.eval x)).toList = some cs' := by
     rw [heq]
     simp only [Program.built, h1, hu, h4, hp1]
     simpa using hfill
    refine runOK_of hR (u := .agg cs') ?_ (by simp only [Den]; exact ⟨cs', rfl, h8⟩)
    simp only [execOp, ho, Sem.run_bind, run_build w t _ cs' hb, Result.andThen_ok, Sem.run_pure]
   ·trivial
  ·rename_i len e hk
   have hu := arr_of ht hk
   obtain ⟨ie, hie, hsize⟩ := arr_size ht hk
   split
   ·rename_i hps
    have hps' : ps.toList = [] := by simpa using hps
    have hps'' : ps = #[] := by simpa using hps'
    refine runOK_of hR (u := .agg z.cells) ?_ (by simp only [Den]; exact ⟨_, rfl, h6 w E⟩)
    have hb : P.built t (ps.map fun (i, x) => (i, a.eval x)).toList = some z.cells := by
     rw [heq, hps']
     simp [Program.built, h1, hu, h4, hie, Instr.fill]
    simp only [execOp, ho, Sem.run_bind, run_build w t _ _ hb, Result.andThen_ok, Sem.run_pure]
   ·rename_i q0 rest hps
    cases hte : tab e with
    | none => trivial
    | some j =>
     simp only
     cases hcode : j.code with
     | none => trivial
     | some u =>
      simp only
      cases hdp : decParts D u 0 (ps.toList.map fun q => (q.1, ev σ q.2)) with
      | none => trivial
      | some xs =>
       simp only
       split
       ·rename_i hlen
        have hj := hT e j hte
        obtain ⟨g1, g2, g3, g4⟩ := decParts_spec ps.toList 0 xs (fun x => ev_den hR x) hdp
        have hn := hj.code u hcode
        obtain ⟨ie', z', f1, f2, _⟩ := hj.info
        rw [hie] at f1; cases f1
        have hfill := Great.fill_whole (D.n_pos u) (ps.toList.map fun q => a.eval q.2) z.cells g2 (by simp only [List.length_map]; rw [← g3, hlen, hn, ← f2, h5, hsize])
        have hb : P.built t (ps.map fun (i, x) => (i, a.eval x)).toList = some ((ps.toList.map fun q => a.eval q.2).flatMap fun v => v.cells.toList).toArray := by
         rw [heq, g1]
         simp only [Program.built, h1, hu, h4, hie]
         rw [show ie.size = C.n u by rw [f2, hn]]
         exact hfill
        refine runOK_of hR (u := .agg ((ps.toList.map fun q => a.eval q.2).flatMap fun v => v.cells.toList).toArray) ?_ ?_
        ·simp only [execOp, ho, Sem.run_bind, run_build w t _ _ hb, Result.andThen_ok, Sem.run_pure]
        ·simp only [Den]
         refine ⟨_, rfl, ?_⟩
         simp only [DenC]
         exact ⟨hlen, _, [], by simp, g4, rfl⟩
       ·trivial
  ·trivial

theorem ownTwo_spec {f : Operand → SV C} {ps : List (Nat × Operand)} {vs : List (SV C)} (h : ownTwo (ps.map fun q => (q.1, f q.2)) = some vs) : ∃ ox oy, ps = [(0, ox), (1, oy)] ∧ vs = [f ox, f oy] ∧ (f ox).one = true ∧ (f oy).one = true := by
 match ps, h with
 | [], h => simp [ownTwo] at h
 | [(i, x)], h => simp [ownTwo] at h
 | [(i, x), (j, y)], h =>
  unfold ownTwo at h
  split at h
  ·rename_i u v e
   simp only [List.map_cons, List.map_nil, List.cons.injEq, Prod.mk.injEq, and_true] at e
   obtain ⟨⟨rfl, rfl⟩, rfl, rfl⟩ := e
   split at h
   ·rename_i h1 h2
    injection h with h
    exact ⟨x, y, rfl, h.symm, h1, h2⟩
   ·cases h
  ·cases h
 | (i, x) :: (j, y) :: z :: ps, h =>
  unfold ownTwo at h
  split at h
  ·rename_i u v e
   simp at e
  ·cases h
theorem buildSlice_ok (hT : TabOK P D tab) (hR : Rel D B E σ H df a w) {m : Nat} (hm : H m = .fresh) {t : TypeId} {len : Nat} {ps : Array (Nat × Operand)} (ho : o.op = .buildSlice t len ps) :
    OutOK P D B σ H df a w o (doBuildSlice D tab t len (zipIx ps.toList ((ps.toList.map (·.2)).map (ev σ))) m) := by
  rw [zipIx_eq]
  unfold doBuildSlice
  cases htab : tab t with
  | none => trivial
  | some i =>
    have ht := hT t i htab
    have heq : (ps.map fun (i, x) => (i, a.eval x)).toList = ps.toList.map fun q => (q.1, a.eval q.2) := by simp
    simp only
    split
    · rename_i e hk
      have hu := slice_of ht hk
      cases hte : tab e with
      | none => trivial
      | some j =>
        simp only
        cases hcode : j.code with
        | none => trivial
        | some u =>
          simp only
          cases hdp : decParts D u 0 (ps.toList.map fun q => (q.1, ev σ q.2)) with
          | none =>
            simp only
            split
            · rename_i hs1
              split
              · rename_i vs hvs
                obtain ⟨ox, oy, hps, rfl, h1, h2⟩ := ownTwo_spec hvs
                have hj := hT e j hte
                obtain ⟨ie, z, f1, f2, f3, f4, f5, f6⟩ := hj.info
                have dx := ev_den hR ox
                have dy := ev_den hR oy
                have cx := cells_one (Den.one_of h1 dx)
                have cy := cells_one (Den.one_of h2 dy)
                have hpa : ps = #[(0, ox), (1, oy)] := by
                  apply Array.ext'
                  simpa using hps
                subst hpa
                have hk := Great.fill_whole (s := 1) (by omega) [a.eval ox, a.eval oy] ((Array.range (2 * 1)).map (z.cells[· % z.cells.size]!)) (by
                  intro v hv
                  rcases List.mem_cons.1 hv with rfl | hv
                  · rw [cx]; rfl
                  · rw [List.mem_singleton.1 hv, cy]; rfl) (by simp)
                have hcl : (([a.eval ox, a.eval oy]).flatMap fun v => v.cells.toList).toArray = #[a.eval ox, a.eval oy] := by simp [cx, cy]
                rw [hcl] at hk
                have hrun : (execOp a.eval o).run P w = .ok (.value (.slice (some ⟨w.heap.size, 0, none⟩) 2 2)) (w.alloc (.cells #[a.eval ox, a.eval oy] e)) := by
                  have hk' : Instr.fill (fun i => some (i * j.size, j.size)) ((Array.range (2 * j.size)).map (z.cells[· % z.cells.size]!)) ((#[(0, ox), (1, oy)] : Array (Nat × Operand)).map fun (i, x) => (i, a.eval x)).toList = some #[a.eval ox, a.eval oy] := by rw [hs1, heq]; exact hk
                  have hsmall : ¬ (2 ^ 24 < 2 * j.size) := by omega
                  have h0 : ¬ (2 * j.size = 0) := by omega
                  simp only [execOp, ho, Instr.buildSlice, run_underlying hu, Sem.run_bind, Result.andThen_ok, run_sizeOf hj, gt_iff_lt, if_neg hsmall, if_neg h0, Sem.run_pure, zeroValue, typeInfo, run_program, f1, f4, hk']
                  simp [newRow]
                refine ⟨_, _, E.up m (.loc w.heap.size), .inl hrun, ?_, ?_⟩
                · rw [upHs_one]
                  refine hR.alloc hm _ e ⟨_, e, ⟨Row.new (heap_alloc_new w _), fun t h => by cases h⟩, ?_⟩
                  refine DenC.mono (later_alloc (fresh_β hR.sat hm) _ hR.sat.F) _ _ ?_
                  rw [DenC_cons (one_notArr h1)]
                  refine ⟨_, _, rfl, Den.one_of h1 dx, dx, ?_⟩
                  rw [DenC_cons (one_notArr h2)]
                  exact ⟨_, _, rfl, Den.one_of h2 dy, dy, by simp [DenC]⟩
                · simp only [Den, Env.up_same]
                  exact .inr ⟨2, _, e, by simp, by omega, Row.new (heap_alloc_new w _), by simp⟩
              · trivial
            · trivial
          | some xs =>
            simp only
            rintro ⟨hlen, h24⟩
            · have hj := hT e j hte
              obtain ⟨g1, g2, g3, g4⟩ := decParts_spec ps.toList 0 xs (fun x => ev_den hR x) hdp
              have hn := hj.code u hcode
              obtain ⟨ie, z, f1, f2, f3, f4, f5, f6⟩ := hj.info
              simp only [List.length_map] at hlen
              have hsmall : ¬ (2 ^ 24 < len * j.size) := by omega
              have key : ∀ (start : Array Value), start.size = len * j.size →
                  Instr.fill (fun i => some (i * j.size, j.size)) start (ps.map fun (i, x) => (i, a.eval x)).toList = some ((ps.toList.map fun q => a.eval q.2).flatMap fun v => v.cells.toList).toArray := fun start hs => by
                rw [heq, g1, show j.size = C.n u from hn.symm]
                exact Great.fill_whole (D.n_pos u) (ps.toList.map fun q => a.eval q.2) start g2 (by simp only [List.length_map]; rw [hlen, hn, hs])
              generalize hcells : ((ps.toList.map fun q => a.eval q.2).flatMap fun v => v.cells.toList).toArray = cells at *
              have hcl : PDenL D w E.F (xs.flatMap (D.enc u)) cells.toList := by rw [← hcells]; simpa using g4
              have hrun : (execOp a.eval o).run P w = .ok (.value (.slice (some ⟨w.heap.size, 0, none⟩) len len)) (w.alloc (.cells cells e)) := by
                by_cases h0 : len * j.size = 0
                · have hl0 : len = 0 := by
                    rcases Nat.eq_zero_or_pos len with h | h
                    · exact h
                    · have := Nat.mul_pos h hj.pos; omega
                  have hps0 : ps.toList = [] := List.eq_nil_of_length_eq_zero (by rw [hlen, hl0])
                  have hps1 : ps = #[] := by simpa using hps0
                  subst hl0
                  subst hps1
                  have hc0 : cells = #[] := by rw [← hcells]; rfl
                  subst hc0
                  simp [execOp, ho, Instr.buildSlice, run_underlying hu, run_sizeOf hj, newRow, Instr.fill]
                  rw [show (Array.map (fun _ => (default : Value)) (Array.range 0)) = #[] from Array.eq_empty_of_size_eq_zero (by simp)]
                · have hk := key ((Array.range (len * j.size)).map (z.cells[· % z.cells.size]!)) (by simp)
                  simp only [execOp, ho, Instr.buildSlice, run_underlying hu, Sem.run_bind, Result.andThen_ok, run_sizeOf hj, gt_iff_lt, if_neg hsmall, if_neg h0, Sem.run_pure, zeroValue, typeInfo, run_program, f1, f4, hk]
                  simp [newRow]
              refine ⟨_, _, E.up m (.loc w.heap.size), .inl hrun, ?_, ?_⟩
              · rw [upHs_one]
                refine hR.alloc hm cells e ⟨cells, e, ⟨Row.new (heap_alloc_new w _), fun t h => (hj.ctype u t hcode h).symm⟩, ?_, ?_⟩
                · rw [← Array.length_toList, ← hcl.1, flatMap_length]; exact Nat.le_refl _
                · rw [List.take_of_length_le (by rw [← hcl.1, flatMap_length]; exact Nat.le_refl _)]
                  exact hcl.mono (later_alloc (fresh_β hR.sat hm) _ hR.sat.F).F
              · simp only [Den, Env.up_same]
                refine .inr ⟨len, cells, e, by simp, Nat.le_refl _, Row.new (heap_alloc_new w _), ?_⟩
                rw [← Array.length_toList, ← hcl.1, flatMap_length, g3, hlen, hn]
                simp
    · trivial

end
end Go.SX

/-
 SX, part K: make, append, slice expressions, len, min and max, conversions.
-/
namespace Go.SX
open Go.RowKit
variable {C : Cod}
section
variable {P : Program} {D : Codec C} {tab : Tab C} {B : Base} {E : Env} {σ : Nat → SV C} {H : Nat → HS C} {df : List Deferred} {a : Act} {w : World} {o : Oper}

theorem flatMap_replicate (u : C.U) (x : C.El u) : ∀ (n : Nat) (k : Nat), k < n * C.n u → ((List.replicate n x).flatMap (D.enc u))[k]? = (D.enc u x)[k % C.n u]? := by
 intro n k hk
 have hd : k / C.n u < n := (Nat.div_lt_iff_lt_mul (D.n_pos u)).2 hk
 have hm : k % C.n u < C.n u := Nat.mod_lt _ (D.n_pos u)
 have := flatMap_get (D := D) u (List.replicate n x) (k / C.n u) (k % C.n u) x (by simp [hd]) hm
 rw [show k / C.n u * C.n u + k % C.n u = k by rw [Nat.mul_comm]; exact Nat.div_add_mod k _] at this
 exact this

theorem makeSlice_ok (hT : TabOK P D tab) (hR : Rel D B E σ H df a w) {m : Nat} (hm : H m = .fresh) {t : TypeId} {ol oc : Operand} (ho : o.op = .makeSlice t ol oc) :
  OutOK P D B σ H df a w o (doMakeSlice D tab t (ev σ ol) (ev σ oc) m) := by
 have hl := ev_den hR ol
 have hc := ev_den hR oc
 generalize ev σ ol = sl at *
 generalize ev σ oc = sc at *
 unfold doMakeSlice
 cases htab : tab t with
 | none => trivial
 | some i =>
  have ht := hT t i htab
  simp only
  split
  ·rename_i e l k hk
   have hu := slice_of ht hk
   have el := den_int hl
   have ek := den_int hc
   cases hte : tab e with
   | none => trivial
   | some j =>
    simp only
    cases hcode : j.code with
    | none => trivial
    | some u =>
     rintro ⟨h0, h1, h2, h3, h4⟩
     have hj := hT e j hte
     have hn := hj.code u hcode
     obtain ⟨ie, z, f1, f2, f3, f4, f5, f6⟩ := hj.info
     have wl : IntKind.i64.wrap l = l := IntWalk.i64_in _ (by omega)
     have wk : IntKind.i64.wrap k = k := IntWalk.i64_in _ (by omega)
     have hb : ¬ ((281474976710656 : Int) < (j.bytes : Int) * k) := by rw [Int.mul_comm]; omega
     have hb2 : ¬ ((281474976710656 : Int) < (j.bytes : Int) * l) := by
      have : (j.bytes : Int) * l ≤ (j.bytes : Int) * k := Int.mul_le_mul_of_nonneg_left h1 (by omega)
      omega
     have hneg : ¬ l < 0 := by omega
     have hnegk : ¬ k < 0 := by omega
     have hlk : ¬ k < l := by omega
     let cells : Array Value := (Array.range (k.toNat * j.size)).map (z.cells[· % z.cells.size]!)
     have hrun : (execOp a.eval o).run P w = .ok (.value (.slice (some ⟨w.heap.size, 0, none⟩) l.toNat k.toNat)) (w.alloc (.cells cells e)) := by
      by_cases hz : k.toNat * j.size = 0
      ·have hc0 : cells = #[] := Array.eq_empty_of_size_eq_zero (by simp [cells, hz])
       rw [hc0]
       have hc1 : ∀ (g : Nat → Value), (Array.range (k.toNat * j.size)).map g = #[] := fun g => Array.eq_empty_of_size_eq_zero (by simp [hz])
       simp [execOp, ho, Instr.makeSlice, run_underlying hu, el, ek, asInt, asIntOf, typeInfo, f1, wl, wk, hneg, hnegk, hlk, f3, hb, run_sizeOf hj, newRow, hc1]
       exact fun h => absurd hz h
      ·simp [execOp, ho, Instr.makeSlice, run_underlying hu, el, ek, asInt, asIntOf, typeInfo, f1, wl, wk, hneg, hnegk, hlk, f3, hb, run_sizeOf hj, newRow, zeroValue, f4, hz]
       rfl
     have hsz : cells.size = k.toNat * C.n u := by simp [cells, hn]
     have hden : PDenL D w E.F ((List.replicate l.toNat (C.dflt u)).flatMap (D.enc u)) (cells.toList.take (l.toNat * C.n u)) := by
      have hz := f6 w E
      rw [h4] at hz
      have hle : l.toNat * C.n u ≤ k.toNat * C.n u := Nat.mul_le_mul_right _ (by omega)
      refine ⟨by rw [flatMap_length, List.length_take, show cells.toList.length = k.toNat * C.n u from by rw [Array.length_toList, hsz], Nat.min_eq_left hle, List.length_replicate], fun q pv v hp hv => ?_⟩
      have hq : q < l.toNat * C.n u := by
       have := (List.getElem?_eq_some_iff.1 hp).1
       rw [flatMap_length] at this
       simpa using this
      rw [flatMap_replicate u _ _ _ hq] at hp
      rw [List.getElem?_take, if_pos hq] at hv
      have hzs : z.cells.size = C.n u := by rw [f5, hn]
      have hmod : q % C.n u < z.cells.size := by rw [hzs]; exact Nat.mod_lt _ (D.n_pos u)
      have hv' : v = z.cells[q % C.n u] := by
       have hqk : q < k.toNat * j.size := by rw [← hn]; omega
       simp [cells, hqk, hzs] at hv
       rw [← hv]
       rw [getElem!_pos z.cells (q % C.n u) hmod]
      subst hv'
      have gen : ∀ (l : List (PV C)) (vs : List Value), DenC D w E (pcells l) vs → ∀ (j : Nat) (pv : PV C) (v : Value), l[j]? = some pv → vs[j]? = some v → PDen D w E.F pv v := by
       intro l
       induction l with
       | nil => intro vs _ j pv v h; simp at h
       | cons x l ih =>
        intro vs h j pv v h1 h2
        simp only [pcells, List.map_cons, DenC, Den] at h
        obtain ⟨v0, v2, rfl, _, h3, h4⟩ := h
        cases j with
        | zero => simp at h1 h2; subst h1; subst h2; exact h3
        | succ j => exact ih v2 h4 j pv v (by simpa using h1) (by simpa using h2)
      exact gen _ _ hz _ _ _ hp (by simp [hmod])
     refine ⟨_, _, E.up m (.loc w.heap.size), .inl hrun, ?_, ?_⟩
     ·rw [upHs_one]
      refine hR.alloc hm cells e ⟨cells, e, ⟨Row.new (heap_alloc_new w _), fun t h => (hj.ctype u t hcode h).symm⟩, ?_, ?_⟩
      ·simp only [List.length_replicate, hsz]; exact Nat.mul_le_mul_right _ (by omega)
      ·simp only [List.length_replicate]
       exact hden.mono (later_alloc (fresh_β hR.sat hm) _ hR.sat.F).F
     ·simp only [Den, Env.up_same]
      refine .inr ⟨k.toNat, cells, e, by simp, by omega, Row.new (heap_alloc_new w _), ?_⟩
      rw [hsz, hn]; simp
  ·trivial


theorem len_ok (hT : TabOK P D tab) (hR : Rel D B E σ H df a w) {tys : Array TypeId} {ox : Operand} (ho : o.op = .call { callee := .builtin .len, args := #[ox], argTypes := tys }) {hs : List (Nat × HS C)}
  (hhs : ∀ c, (ev σ ox).topId = some c → lk hs c = H c) (hty : 0 < tys.size) :
  OutOK P D B σ H df a w o (doLen tab (tys.getD 0 0) (ev σ ox) hs) := by
 have hx := ev_den hR ox
 generalize ev σ ox = sx at *
 have ht0 : tys[0]? = some (tys.getD 0 0) := by simp [Array.getD_eq_getD_getElem?, Array.getElem?_eq_getElem hty]
 generalize tys.getD 0 0 = t at *
 have key : ∀ n : Nat, (Builtin.len_ tys o.type #[a.eval ox]).run P w = .ok (.int .i64 n) w → OutOK P D B σ H df a w o (.val (.p (.int .i64 n))) := fun n h =>
  runOK_of hR (u := .int .i64 n) (by simp [execOp, ho, resolve, invoke, builtin, h]) (mk_int _ _)
 unfold doLen
 cases htab : tab t with
 | none => trivial
 | some i =>
  have ht := hT t i htab
  simp only
  split
  ·rename_i l hk
   have e := den_str hx
   exact key _ (by simp [Builtin.len_, ht0, run_underlying (str_of ht hk), e, goInt, size_mk])
  ·rename_i u xs hk
   have hu := slice_of ht hk
   simp only [Den] at hx
   generalize hxx : a.eval ox = vx at hx
   cases hx with
   | dslNil => exact key 0 (by simp [Builtin.len_, ht0, run_underlying hu, hxx, goInt])
   | dsl => exact key _ (by simp [Builtin.len_, ht0, run_underlying hu, hxx, goInt])
  ·rename_i hk
   have hu := slice_of ht hk
   have e := den_lit hx
   exact key 0 (by simp [Builtin.len_, ht0, run_underlying hu, e, goInt])
  ·rename_i e c o' n' off len hk
   have hu := slice_of ht hk
   refine ifLive_ok fun hl => ?_
   rw [hhs c rfl] at hl
   rcases slice_live hR.sat hl hx with ⟨rfl, ⟨ad, e, _⟩ | ⟨ad, b, e, _⟩⟩ | ⟨b, cap, cs, T, _, e, _⟩
   ·exact key 0 (by simp [Builtin.len_, ht0, run_underlying hu, e, goInt])
   ·exact key 0 (by simp [Builtin.len_, ht0, run_underlying hu, e, goInt])
   ·exact key _ (by simp [Builtin.len_, ht0, run_underlying hu, e, goInt])
  ·rename_i n e hk
   have hu := arr_of ht hk
   exact key _ (by simp [Builtin.len_, ht0, run_underlying hu, goInt])
  ·trivial

theorem minmax_ok (hR : Rel D B E σ H df a w) {tys : Array TypeId} {ox oy : Operand} (mx : Bool) (ho : o.op = .call { callee := .builtin (match mx with | true => .max | false => .min), args := #[ox, oy], argTypes := tys }) :
  OutOK P D B σ H df a w o (minmax mx (ev σ ox) (ev σ oy)) := by
 have hx := ev_den hR ox
 have hy := ev_den hR oy
 generalize ev σ ox = sx at *
 generalize ev σ oy = sy at *
 unfold minmax
 split
 ·rename_i k x k' y
  have ex := den_int hx
  have ey := den_int hy
  split
  ·rename_i hk
   subst hk
   cases mx with
   | true =>
    refine runOK_of hR (u := .int k (max x y)) ?_ (mk_int _ _)
    have : (if y > x then y else x) = max x y := by rw [Int.max_def]; split <;> split <;> omega
    simp [execOp, ho, resolve, invoke, builtin, ex, ey, Builtin.max_, Builtin.max2, List.foldlM]
    simpa using this
   | false =>
    refine runOK_of hR (u := .int k (min x y)) ?_ (mk_int _ _)
    have : (if y < x then y else x) = min x y := by rw [Int.min_def]; split <;> split <;> omega
    simp [execOp, ho, resolve, invoke, builtin, ex, ey, Builtin.min_, Builtin.min2, List.foldlM]
    simpa using this
  ·trivial
 ·trivial

/-- the bounds of a slice expression, of a Go slice or string of length len and capacity cap -/
theorem bounds_run {isSl : Bool} {len cap : Nat} {olo ohi : Option Operand} {x y : Int} (hlo : boundOr 0 (olo.map (ev σ)) = some x) (hhi : boundOr len (ohi.map (ev σ)) = some y)
  (hR : Rel D B E σ H df a w) (h0 : 0 ≤ x) (h1 : x ≤ y) (h2 : y ≤ len) (hc : len ≤ cap) :
  (Instr.sliceBounds isSl len cap (olo.map a.eval) (ohi.map a.eval) none).run P w = .ok (x.toNat, y.toNat, cap) w := by
 have elo : ∀ (q : Operand), olo = some q → ∃ k, a.eval q = .int k x := fun q hq => by
  subst hq
  have hd := ev_den hR q
  simp only [Option.map_some] at hlo
  cases hs : ev σ q with
  | p pv =>
   rw [hs] at hlo hd
   cases pv with
   | int k n => simp [boundOr] at hlo; subst hlo; exact ⟨k, den_int hd⟩
   | _ => simp [boundOr] at hlo
  | _ => rw [hs] at hlo; simp [boundOr] at hlo
 have ehi : ∀ (q : Operand), ohi = some q → ∃ k, a.eval q = .int k y := fun q hq => by
  subst hq
  have hd := ev_den hR q
  simp only [Option.map_some] at hhi
  cases hs : ev σ q with
  | p pv =>
   rw [hs] at hhi hd
   cases pv with
   | int k n => simp [boundOr] at hhi; subst hhi; exact ⟨k, den_int hd⟩
   | _ => simp [boundOr] at hhi
  | _ => rw [hs] at hhi; simp [boundOr] at hhi
 cases olo with
 | none =>
  simp [boundOr] at hlo; subst hlo
  cases ohi with
  | none => simp [boundOr] at hhi; subst hhi; simp [Instr.sliceBounds]
  | some q =>
   obtain ⟨k, e⟩ := ehi q rfl
   have : 0 ≤ y ∧ y ≤ (cap : Int) := by omega
   simp [Instr.sliceBounds, Instr.sliceBound, e, asIntOf, this]
 | some p =>
  obtain ⟨k, e⟩ := elo p rfl
  cases ohi with
  | none =>
   simp [boundOr] at hhi; subst hhi
   have : 0 ≤ x ∧ x ≤ (len : Int) := by omega
   simp [Instr.sliceBounds, Instr.sliceBound, e, asIntOf, this]
  | some q =>
   obtain ⟨k', e'⟩ := ehi q rfl
   have h3 : 0 ≤ y ∧ y ≤ (cap : Int) := by omega
   have h4 : 0 ≤ x ∧ x ≤ (y.toNat : Int) := by omega
   have h5 : ¬ max y 0 < x := by omega
   simp [Instr.sliceBounds, Instr.sliceBound, e, e', asIntOf, h3, h0]
   omega

theorem slice_ok (hT : TabOK P D tab) (hR : Rel D B E σ H df a w) {t : TypeId} {ox : Operand} {olo ohi : Option Operand} (ho : o.op = .slice t ox olo ohi none) {hs : List (Nat × HS C)} (hhs : ∀ c, (ev σ ox).topId = some c → lk hs c = H c) :
  OutOK P D B σ H df a w o (doSlice tab t (ev σ ox) (olo.map (ev σ)) (ohi.map (ev σ)) hs) := by
 have hx := ev_den hR ox
 generalize hsx : ev σ ox = sx at *
 unfold doSlice
 cases htab : tab t with
 | none => trivial
 | some i =>
  have ht := hT t i htab
  simp only
  split
  ·rename_i l hk
   have hu := str_of ht hk
   have e := den_str hx
   split
   ·rename_i x y hx' hy'
    rintro ⟨h0, h1, h2⟩
    refine runOK_of hR (u := .string ⟨⟨(l.take y.toNat).drop x.toNat⟩⟩) ?_ (mk_str _)
    have hb := bounds_run (P := P) (isSl := false) (len := l.length) (cap := l.length) hx' hy' hR h0 h1 h2 (Nat.le_refl _)
    have hex : (⟨⟨l⟩⟩ : ByteArray).extract x.toNat y.toNat = ⟨⟨(l.take y.toNat).drop x.toNat⟩⟩ := by
     apply ByteArray.ext
     simp [List.extract_eq_take_drop, List.drop_take]
    simp [execOp, ho, Instr.sliceAt, run_underlying hu, Instr.slice, e, size_mk, hb, hex]
   ·trivial
  ·rename_i e u xs hk
   have hu := slice_of ht hk
   cases hte : tab e with
   | none => trivial
   | some j =>
    have hj := hT e j hte
    simp only
    split
    ·rename_i x y hx' hy'
     rintro ⟨h0, h1, h2, h3⟩
     simp only [Den] at hx
     have hlen : ((xs.take y.toNat).drop x.toNat).length = y.toNat - x.toNat := by simp; omega
     generalize hxx : a.eval ox = vx at hx
     cases hx with
     | dslNil _ ad cap =>
      have hb := bounds_run (P := P) (isSl := true) (len := 0) (cap := cap) hx' hy' hR h0 h1 h2 (Nat.zero_le _)
      have hx0 : x.toNat = 0 := by simp at h2; omega
      have hy0 : y.toNat = 0 := by simp at h2; omega
      refine runOK_of hR (u := .slice (if cap = 0 then ad else ad.map (·.add 0)) 0 cap) ?_ ?_
      ·simp [execOp, ho, Instr.sliceAt, run_underlying hu, Instr.slice, hxx, hb, run_sizeOf hj, hx0, hy0]
      ·simp only [Den, List.take_nil, List.drop_nil]
       exact .dslNil _ _ _
     | dsl _ _ b o' cap cv hF hc hcell hden =>
      have hb := bounds_run (P := P) (isSl := true) (len := xs.length) (cap := cap) hx' hy' hR h0 h1 h2 hc
      refine runOK_of hR (u := .slice (if cap = x.toNat then some ⟨b, o', none⟩ else some ⟨b, o' + x.toNat * j.size, none⟩) (y.toNat - x.toNat) (cap - x.toNat)) ?_ ?_
      ·simp [execOp, ho, Instr.sliceAt, run_underlying hu, Instr.slice, hxx, hb, run_sizeOf hj, Addr.add_lit]
      ·simp only [Den]
       by_cases hcx : cap = x.toNat
       ·have hnil : (xs.take y.toNat).drop x.toNat = [] := List.eq_nil_of_length_eq_zero (by rw [hlen]; omega)
        have hz : y.toNat - x.toNat = 0 := by omega
        rw [hnil, hz]
        exact .dslNil _ _ _
       ·rw [if_neg hcx, ← hlen]
        refine .dsl u _ b _ _ (fun i j => cv (x.toNat + i) j) (fun hne => hF (fun e => by rw [e] at hne; simp at hne)) (by rw [hlen]; omega) ?_ ?_
        ·intro i y' hy'' jj pv hp
         have hxi : xs[x.toNat + i]? = some y' := by
          rw [List.getElem?_drop, List.getElem?_take] at hy''
          split at hy''
          ·exact hy''
          ·cases hy''
         have := hcell _ _ hxi _ _ hp
         rw [h3]
         rw [show o' + x.toNat * C.n u + i * C.n u + jj = o' + (x.toNat + i) * C.n u + jj by rw [Nat.add_mul]; omega]
         exact this
        ·intro i y' hy'' jj pv hp
         have hxi : xs[x.toNat + i]? = some y' := by
          rw [List.getElem?_drop, List.getElem?_take] at hy''
          split at hy''
          ·exact hy''
          ·cases hy''
         exact hden _ _ hxi _ _ hp
    ·trivial
  ·rename_i e c o' n off len hk
   have hu := slice_of ht hk
   cases hte : tab e with
   | none => trivial
   | some j =>
    have hj := hT e j hte
    simp only
    split
    ·rename_i x y hx' hy'
     refine ifLive_ok fun hl => ?_
     rw [hhs c rfl] at hl
     rintro ⟨h0, h1, h2, h3⟩
     rcases slice_live hR.sat hl hx with ⟨rfl, hn⟩ | ⟨b, cap, cs, T, hb, e, hlc, hcs, hsz⟩
     ·have hb := bounds_run (P := P) (isSl := true) (len := 0) (cap := 0) hx' hy' hR h0 h1 h2 (Nat.zero_le _)
      have hx0 : x.toNat = 0 := by omega
      have hy0 : y.toNat = 0 := by omega
      rcases hn with ⟨ad, e, hβ⟩ | ⟨ad, b, e, hβ⟩
      ·refine runOK_of hR (u := .slice ad 0 0) ?_ ?_
       ·simp [execOp, ho, Instr.sliceAt, run_underlying hu, Instr.slice, e, hb, run_sizeOf hj, hx0, hy0]
       ·simp only [Den, hβ]; exact ⟨ad, by first | rfl | trivial, by omega⟩
      ·refine runOK_of hR (u := .slice ad 0 0) ?_ ?_
       ·simp [execOp, ho, Instr.sliceAt, run_underlying hu, Instr.slice, e, hb, run_sizeOf hj, hx0, hy0]
       ·simp only [Den, hβ]; exact .inl ⟨by omega, ad, rfl⟩
     ·have hbr := bounds_run (P := P) (isSl := true) (len := len) (cap := cap) hx' hy' hR h0 h1 h2 hlc
      refine runOK_of hR (u := .slice (if cap = x.toNat then some ⟨b, o' + off * n, none⟩ else some ⟨b, o' + off * n + x.toNat * j.size, none⟩) (y.toNat - x.toNat) (cap - x.toNat)) ?_ ?_
      ·simp [execOp, ho, Instr.sliceAt, run_underlying hu, Instr.slice, e, hbr, run_sizeOf hj, Addr.add_lit]
      ·simp only [Den, hb]
       by_cases hcx : cap = x.toNat
       ·exact .inl ⟨by omega, _, by rw [show y.toNat - x.toNat = 0 by omega, show cap - x.toNat = 0 by omega]⟩
       ·refine .inr ⟨cap - x.toNat, cs, T, ?_, by omega, hcs, ?_⟩
        ·rw [if_neg hcx, h3, Nat.add_mul, Nat.add_assoc]
        ·rw [show off + x.toNat + (cap - x.toNat) = off + cap by omega]; exact hsz
    ·trivial
  ·rename_i len e c o' hk
   have hu := arr_of ht hk
   cases hte : tab e with
   | none => trivial
   | some j =>
    have hj := hT e j hte
    simp only
    split
    ·rename_i u xs hsq
     split
     ·rename_i x y hx' hy'
      rintro ⟨h0, h1, h2, h3, h4⟩
      rw [hhs c rfl] at hsq
      have hl : (H c).live = true := by cases hH : H c <;> rw [hH] at hsq <;> first | rfl | (simp [seqAt] at hsq)
      obtain ⟨b, hb⟩ := ptr_live hR.sat hl hx
      have e := ptr_den hx hb
      have hn := live_ne hl
      have hat : (H c).at D w E b := by
       rcases live_at hR.sat hn.1 hn.2 with ⟨hv, _⟩ | ⟨b', hb', h⟩
       ·rw [hb] at hv; cases hv
       ·rw [hb] at hb'; cases hb'; exact h
      have hq := seqAt_spec (o := o') hat
      rw [hsq] at hq
      obtain ⟨cs, T, hcs, hsz, _⟩ := hq
      have hbr := bounds_run (P := P) (isSl := false) (len := len) (cap := len) hx' hy' hR h0 h1 h2 (Nat.le_refl _)
      refine runOK_of hR (u := .slice (if len = x.toNat then some ⟨b, o', none⟩ else some ⟨b, o' + x.toNat * j.size, none⟩) (y.toNat - x.toNat) (len - x.toNat)) ?_ ?_
      ·simp [execOp, ho, Instr.sliceAt, run_underlying hu, Instr.sureAddr, e, hbr, run_sizeOf hj, Addr.add_lit]
       split <;> simp_all
      ·simp only [Den, hb]
       by_cases hcx : len = x.toNat
       ·exact .inl ⟨by omega, _, by rw [show y.toNat - x.toNat = 0 by omega, show len - x.toNat = 0 by omega]⟩
       ·refine .inr ⟨len - x.toNat, cs, T, ?_, by omega, hcs, ?_⟩
        ·rw [if_neg hcx, h3]
        ·have : len * C.n u ≤ xs.length * C.n u := Nat.mul_le_mul_right _ h4
         rw [show x.toNat + (len - x.toNat) = len by omega]
         omega
     ·trivial
    ·trivial
  ·trivial

end
end Go.SX

/-
 SX, part L: append.
-/
namespace Go.SX
open Go.RowKit
variable {C : Cod}
section
variable {P : Program} {D : Codec C} {tab : Tab C} {B : Base} {E : Env} {σ : Nat → SV C} {H : Nat → HS C} {df : List Deferred} {a : Act} {w : World} {o : Oper}

theorem flatMap_drop (u : C.U) : ∀ (xs : List (C.El u)) (k : Nat), (xs.drop k).flatMap (D.enc u) = (xs.flatMap (D.enc u)).drop (k * C.n u)
 | [], k => by simp
 | x :: xs, 0 => by simp
 | x :: xs, k + 1 => by
  rw [List.drop_succ_cons, flatMap_drop u xs k, List.flatMap_cons, Nat.add_mul, Nat.one_mul, Nat.add_comm, ← List.drop_drop, List.drop_left' (D.enc_len u x)]
theorem flatMap_take (u : C.U) : ∀ (xs : List (C.El u)) (k : Nat), (xs.take k).flatMap (D.enc u) = (xs.flatMap (D.enc u)).take (k * C.n u)
 | [], k => by simp
 | x :: xs, 0 => by simp
 | x :: xs, k + 1 => by
  rw [List.take_succ_cons, List.flatMap_cons, List.flatMap_cons, flatMap_take u xs k, Nat.add_mul, Nat.one_mul, Nat.add_comm, List.take_add, List.take_left' (D.enc_len u x), List.drop_left' (D.enc_len u x)]

theorem flatMap_take' (u : C.U) (xs : List (C.El u)) (k : Nat) : (xs.flatMap (D.enc u)).take ((xs.take k).length * C.n u) = (xs.take k).flatMap (D.enc u) := by
 rw [flatMap_take]
 by_cases h : k ≤ xs.length
 ·rw [List.length_take, Nat.min_eq_left h]
 ·rw [List.length_take, Nat.min_eq_right (by omega), List.take_of_length_le (by rw [flatMap_length]; exact Nat.le_refl _), List.take_of_length_le (by rw [flatMap_length]; exact Nat.mul_le_mul_right _ (by omega))]

/-- a fresh number for a slice that is still nil -/
theorem Rel.virt (h : Rel D B E σ H df a w) {m : Nat} (hm : H m = .fresh) (u : C.U) : Rel D B (E.up m .virt) σ (upH H m (.rows u [])) df a w := by
 have hβ := fresh_β h.sat hm
 have hL : Later w E w (E.up m .virt) := ⟨fun b hb => ⟨hb, rfl⟩, fun i => by
  by_cases hi : i = m
  ·subst hi; exact .inr (.inr hβ)
  ·exact .inl (Env.up_other E _ hi), fun _ _ _ _ cs T hc => ⟨cs, T, hc, rfl⟩⟩
 have key : ∀ i b, (E.up m .virt).β i = .loc b → E.β i = .loc b := fun i b e => by
  by_cases hi : i = m
  ·subst hi; rw [Env.up_same] at e; cases e
  ·rwa [Env.up_other E _ hi] at e
 refine h.later hL ⟨fun i => ?_, fun i b e => h.sat.own i b (key i b e), fun i i' b e e' => h.sat.inj i i' b (key i b e) (key i' b e'), h.sat.F, h.sat.glob.mono hL.F⟩
  ⟨h.fr.os, h.fr.tape, h.fr.output, h.fr.size, h.fr.same, h.fr.late.trans hL, h.fr.newF, fun i b e => h.fr.newO i b (key i b e)⟩
 by_cases hi : i = m
 ·subst hi; rw [Env.up_same]; simp [upH, HS.ok]
 ·rw [Env.up_other E _ hi]; simp only [upH, if_neg hi]
  exact HS.ok_mono hL (h.sat.ok i) (fun _ _ => rfl)

/-- of an owned slice's elements the first ones alone are spoken of -/
theorem Rel.cut (h : Rel D B E σ H df a w) {c : Nat} {u : C.U} {xs : List (C.El u)} (hc : H c = .rows u xs) (k : Nat) : Rel D B E σ (upH H c (.rows u (xs.take k))) df a w := by
 refine h.later (Later.refl w E) ⟨fun i => ?_, h.sat.own, h.sat.inj, h.sat.F, h.sat.glob⟩ h.fr
 by_cases hi : i = c
 ·subst hi
  simp only [upH, if_true]
  have := h.sat.ok i
  rw [hc] at this
  cases hb : E.β i with
  | fresh => rw [hb] at this; simp [HS.ok] at this
  | dead => rw [hb] at this; simp [HS.ok] at this
  | virt =>
   rw [hb] at this
   obtain ⟨u', hu'⟩ := this
   cases hu'
   exact ⟨u, by simp⟩
  | loc b =>
   rw [hb] at this
   obtain ⟨cs, T, h1, h2, h3⟩ := this
   have hle : (xs.take k).length * C.n u ≤ xs.length * C.n u := Nat.mul_le_mul_right _ (by simp; omega)
   refine ⟨cs, T, h1, by omega, ?_⟩
   have h4 := h3.take ((xs.take k).length * C.n u)
   rw [List.take_take, Nat.min_eq_left hle] at h4
   have : (xs.flatMap (D.enc u)).take ((xs.take k).length * C.n u) = (xs.take k).flatMap (D.enc u) := by
    rw [flatMap_take']
   rw [this] at h4
   exact h4
 ·simp only [upH, if_neg hi]
  exact h.sat.ok i

/-- a chunk goes on under a fresh number -/
theorem Rel.rename (h : Rel D B E σ H df a w) {c m : Nat} (hm : H m = .fresh) (hl : (H c).live = true) :
  Rel D B ((E.up c .dead).up m (E.β c)) σ (upH (upH H c .dead) m (H c)) df a w := by
 have hβ := fresh_β h.sat hm
 have hcm : c ≠ m := fun e => by subst e; rw [hm] at hl; cases hl
 have hE : ∀ i, ((E.up c .dead).up m (E.β c)).β i = if i = m then E.β c else if i = c then .dead else E.β i := fun i => rfl
 have hL : Later w E w ((E.up c .dead).up m (E.β c)) := ⟨fun b hb => ⟨hb, rfl⟩, fun i => by
  rw [hE]
  by_cases hi : i = m
  ·subst hi; exact .inr (.inr hβ)
  ·rw [if_neg hi]
   by_cases hc : i = c
   ·rw [if_pos hc]; exact .inr (.inl rfl)
   ·rw [if_neg hc]; exact .inl rfl, fun _ _ _ _ cs T hc => ⟨cs, T, hc, rfl⟩⟩
 have key : ∀ i b, ((E.up c .dead).up m (E.β c)).β i = .loc b → (i = m ∧ E.β c = .loc b) ∨ (i ≠ m ∧ i ≠ c ∧ E.β i = .loc b) := fun i b e => by
  rw [hE] at e
  by_cases hi : i = m
  ·rw [if_pos hi] at e; exact .inl ⟨hi, e⟩
  ·rw [if_neg hi] at e
   by_cases hc : i = c
   ·rw [if_pos hc] at e; cases e
   ·rw [if_neg hc] at e; exact .inr ⟨hi, hc, e⟩
 refine h.later hL ⟨fun i => ?_, fun i b e => ?_, fun i i' b e e' => ?_, h.sat.F, h.sat.glob.mono hL.F⟩
  ⟨h.fr.os, h.fr.tape, h.fr.output, h.fr.size, h.fr.same, h.fr.late.trans hL, h.fr.newF, fun i b e => ?_⟩
 ·rw [hE]
  by_cases hi : i = m
  ·rw [if_pos hi]; subst hi; simp only [upH, if_true]
   exact HS.ok_mono hL (h.sat.ok c) (fun _ _ => rfl)
  ·rw [if_neg hi]; simp only [upH, if_neg hi]
   by_cases hc : i = c
   ·rw [if_pos hc, if_pos hc]; rfl
   ·rw [if_neg hc, if_neg hc]
    exact HS.ok_mono hL (h.sat.ok i) (fun _ _ => rfl)
 ·rcases key i b e with ⟨_, e⟩ | ⟨_, _, e⟩
  ·exact h.sat.own c b e
  ·exact h.sat.own i b e
 ·rcases key i b e with ⟨h1, e⟩ | ⟨h1, h2, e⟩ <;> rcases key i' b e' with ⟨h3, e'⟩ | ⟨h3, h4, e'⟩
  ·rw [h1, h3]
  ·exact absurd (h.sat.inj i' c b e' e) h4
  ·exact absurd (h.sat.inj i c b e e') h2
  ·exact h.sat.inj i i' b e e'
 ·rcases key i b e with ⟨_, e⟩ | ⟨_, _, e⟩
  ·exact h.fr.newO c b e
  ·exact h.fr.newO i b e

/-- what an append's second operand is -/
def SrcOK (D : Codec C) (w : World) (E : Env) (L : List (PV C)) (n : Nat) (v : Value) : Prop :=
 ∃ ax cap news, v = .slice ax n cap ∧ PDenL D w E.F L news ∧ ((ax = none ∧ news = []) ∨ ∃ ad, ax = some ad ∧ ∀ j u, news[j]? = some u → w.cell? (ad.add j) = some u)

theorem srcOf_ok (hs : Sat D w E H) {x : SV C} {v : Value} (hx : Den D w E x v) {l : List (Nat × HS C)} (hl : ∀ c, x.topId = some c → lk l c = H c) {u : C.U} {ys : List (C.El u)} (h : srcOf l x = .some u ys)
    (hlen : srcSide u ys x) : SrcOK D w E (ys.flatMap (D.enc u)) ys.length v := by
  unfold srcOf at h
  split at h
  · rename_i u' xs
    cases h
    simp only [Den] at hx
    cases hx with
    | dslNil _ ad cap => exact ⟨ad, cap, [], rfl, ⟨rfl, fun j pv v hp _ => by simp at hp⟩, by cases ad with
        | none => exact .inl ⟨rfl, rfl⟩
        | some ad => exact .inr ⟨ad, rfl, fun j u hu => by simp at hu⟩⟩
    | dsl _ _ b o' cap cv hF hc hcell hden =>
      refine ⟨_, cap, (List.range (ys.length * C.n u)).map fun q => cv (q / C.n u) (q % C.n u), rfl, ⟨by rw [flatMap_length]; simp, fun j pv v hp hv => ?_⟩, .inr ⟨_, rfl, fun j v hv => ?_⟩⟩
      · have hj : j < ys.length * C.n u := by
          have := (List.getElem?_eq_some_iff.1 hp).1
          rwa [flatMap_length] at this
        simp [hj] at hv
        subst hv
        have hk : j / C.n u < ys.length := (Nat.div_lt_iff_lt_mul (D.n_pos u)).2 hj
        have hm : j % C.n u < C.n u := Nat.mod_lt _ (D.n_pos u)
        have hy : ys[j / C.n u]? = some ys[j / C.n u] := List.getElem?_eq_getElem hk
        have := flatMap_get (D := D) u ys (j / C.n u) (j % C.n u) _ hy hm
        rw [show j / C.n u * C.n u + j % C.n u = j by rw [Nat.mul_comm]; exact Nat.div_add_mod j _, hp] at this
        exact hden _ _ hy _ _ this.symm
      · have hj : j < ys.length * C.n u := by
          have := (List.getElem?_eq_some_iff.1 hv).1
          simpa using this
        simp [hj] at hv
        subst hv
        have hk : j / C.n u < ys.length := (Nat.div_lt_iff_lt_mul (D.n_pos u)).2 hj
        have hm : j % C.n u < C.n u := Nat.mod_lt _ (D.n_pos u)
        have hy : ys[j / C.n u]? = some ys[j / C.n u] := List.getElem?_eq_getElem hk
        have hq : (D.enc u ys[j / C.n u])[j % C.n u]? = some ((D.enc u ys[j / C.n u])[j % C.n u]'(by rw [D.enc_len]; exact hm)) := List.getElem?_eq_getElem _
        have := hcell _ _ hy _ _ hq
        rw [Addr.add_lit]
        rw [show o' + j / C.n u * C.n u + j % C.n u = o' + j by have := Nat.div_add_mod j (C.n u); rw [Nat.mul_comm] at this; omega] at this
        exact this
  · rename_i c o' n off len
    split at h
    · rename_i u' xs hsq
      cases h
      rw [hl c rfl] at hsq
      have hlive : (H c).live = true := by cases hH : H c <;> rw [hH] at hsq <;> first | rfl | (simp [seqAt] at hsq)
      simp only [srcSide] at hlen
      rcases slice_live hs hlive hx with ⟨rfl, hn⟩ | ⟨b, cap, cs, T, hb, e, hlc, hcs, hsz⟩
      · have hy : (xs.drop off).take 0 = [] := by simp
        rw [hy]
        simp only [List.length_nil]
        rcases hn with ⟨ad, e, _⟩ | ⟨ad, b, e, _⟩
        · exact ⟨ad, 0, [], e, ⟨rfl, fun j pv v hp _ => by simp at hp⟩, by cases ad with
            | none => exact .inl ⟨rfl, rfl⟩
            | some ad => exact .inr ⟨ad, rfl, fun j u hu => by simp at hu⟩⟩
        · exact ⟨ad, 0, [], e, ⟨rfl, fun j pv v hp _ => by simp at hp⟩, by cases ad with
            | none => exact .inl ⟨rfl, rfl⟩
            | some ad => exact .inr ⟨ad, rfl, fun j u hu => by simp at hu⟩⟩
      · obtain ⟨h1, h2⟩ := hlen
        subst h1
        rw [← h2]
        have hn := live_ne hlive
        have hat : (H c).at D w E b := by
          rcases live_at hs hn.1 hn.2 with ⟨hv, _⟩ | ⟨b', hb', h⟩
          · rw [hb] at hv; cases hv
          · rw [hb] at hb'; cases hb'; exact h
        have hq := seqAt_spec (o := o') hat
        rw [hsq] at hq
        obtain ⟨cs', T', hcs', hsz', hp⟩ := hq
        obtain ⟨rfl, rfl⟩ := hcs.inj hcs'
        have hoff : off + len ≤ xs.length ∨ len = 0 := by
          rcases Nat.eq_zero_or_pos len with h0 | h0
          · exact .inr h0
          · left
            simp only [List.length_take, List.length_drop] at h2
            omega
        have hfm : ((xs.drop off).take len).flatMap (D.enc u) = ((xs.flatMap (D.enc u)).drop (off * C.n u)).take (len * C.n u) := by
          rw [flatMap_take, flatMap_drop]
        refine ⟨_, cap, ((cs.toList.drop (o' + off * C.n u)).take (len * C.n u)), e, ?_, .inr ⟨_, rfl, fun j v hv => ?_⟩⟩
        · rw [hfm]
          have h3 := (hp.drop (off * C.n u)).take (len * C.n u)
          have h4 : ((((cs.toList.drop o').take (xs.length * C.n u)).drop (off * C.n u)).take (len * C.n u)) = (cs.toList.drop (o' + off * C.n u)).take (len * C.n u) := by
            rw [List.drop_take, List.take_take, List.drop_drop, Nat.min_eq_left]
            rcases hoff with h | h
            · have := Nat.mul_le_mul_right (C.n u) h
              rw [Nat.add_mul] at this
              omega
            · subst h; simp
          rw [h4] at h3
          exact h3
        · rw [Addr.add_lit, cells_cell hcs]
          rw [List.getElem?_take] at hv
          split at hv
          · rwa [List.getElem?_drop] at hv
          · cases hv
    · cases h
  · cases h

/-- the run of an append, in place or not -/
theorem run_append_any {t ty e : TypeId} {i : TypeInfo} {z : Value} (ht : P.underlying t = some (.slice e)) (hi : P.info? e = some i) (hz : i.zero = some z)
  {base : Option Addr} {sLen sCap : Nat} {vx : Value} {n : Nat} {t2 : TypeId} {olds news : List Value} (ht2 : ∃ d, P.underlying t2 = some d ∧ ∀ k, d ≠ .int k) (hlen : ∀ w' : World, (Builtin.lenOf vx).run P w' = .ok n w')
  (hnews : ∀ w' : World, (∀ a, w'.cell? a = w.cell? a) → (Builtin.firstCells i.size n vx).run P w' = .ok news.toArray w')
  (holds : ∀ w' : World, (∀ a, w'.cell? a = w.cell? a) → (Builtin.firstCells i.size sLen (.slice base sLen sCap)).run P w' = .ok olds.toArray w')
  (h63 : sLen + n ≤ 9223372036854775807) (hb : (sLen + n) * i.bytes ≤ 140737488355328) :
  (sCap < sLen + n ∧ (Builtin.append_ #[t, t2] ty #[.slice base sLen sCap, vx]).run P w =
   .ok (.slice (some ⟨w.heap.size, 0, none⟩) (sLen + n) (grownCap w (sLen + n) sCap e)) (w.drew.alloc (.cells (olds.toArray ++ news.toArray ++ Builtin.zeroCells z.cells (grownCap w (sLen + n) sCap e - (sLen + n))) e))) ∨
  (sLen + n ≤ sCap ∧ (Builtin.append_ #[t, t2] ty #[.slice base sLen sCap, vx]).run P w =
   (do (match base with | some a => storeCells (a.add (sLen * i.size)) news | none => pure ()); pure (Value.slice base (sLen + n) sCap) : Sem Value).run P w) := by
 obtain ⟨d2, hd2, hnd⟩ := ht2
 have hz2 : (match d2 with | .int _ => true | _ => false) = false := by
  cases d2 <;> first | rfl | exact absurd rfl (hnd _)
 rcases Nat.lt_or_ge sCap (sLen + n) with hg | hg
 ·left
  refine ⟨hg, ?_⟩
  have hn : ¬ (sLen + n ≤ sCap) := by omega
  have h63' : ¬ (9223372036854775807 < ((sLen : Int) + (n : Int))) := by omega
  have hfit := growslice_fits (bytes := i.bytes) hg hb
  have h48' : ¬ (281474976710656 < Builtin.nextslicecap (sLen + n) sCap * i.bytes) := by omega
  have hf := hnews w.drew (fun _ => rfl)
  have hfo := holds w.drew (fun _ => rfl)
  simp [Builtin.append_, run_underlying ht, run_underlying hd2, hz2, sizeOf, typeInfo, zeroValue, hi, hz, hlen, hn, h63', h48', Question.forced, hf, hfo, newRow, grownCap]
  congr 2
  apply Array.ext'
  simp [List.append_assoc]
 ·right
  refine ⟨hg, ?_⟩
  have hf := hnews w (fun _ => rfl)
  cases base with
  | none => simp [Builtin.append_, run_underlying ht, run_underlying hd2, hz2, sizeOf, typeInfo, hi, hlen, hg, hf]
  | some b => simp [Builtin.append_, run_underlying ht, run_underlying hd2, hz2, sizeOf, typeInfo, hi, hlen, hg, hf]

theorem flat_of_map {u u' : C.U} {zs : List (C.El u)} {ys : List (C.El u')} (h : zs.map (D.enc u) = ys.map (D.enc u')) : zs.flatMap (D.enc u) = ys.flatMap (D.enc u') := by
 rw [List.flatMap_def, List.flatMap_def, h]

/-- the second operand of an append, as the run sees it -/
structure SrcR (P : Program) (D : Codec C) (w : World) (E : Env) (t2 : TypeId) (u : C.U) (zs : List (C.El u)) (vx : Value) (size : Nat) (news : List Value) : Prop where
 typ : ∃ d, P.underlying t2 = some d ∧ ∀ k, d ≠ .int k
 len : ∀ w' : World, (Builtin.lenOf vx).run P w' = .ok zs.length w'
 firstN : ∀ w' : World, (∀ a, w'.cell? a = w.cell? a) → ∀ k, k ≤ zs.length → (Builtin.firstCells size k vx).run P w' = .ok (news.take (k * size)).toArray w'
 sz : news.length = zs.length * size
 den : PDenL D w E.F (zs.flatMap (D.enc u)) news

theorem SrcR.first {t2 : TypeId} {u : C.U} {zs : List (C.El u)} {vx : Value} {size : Nat} {news : List Value} (h : SrcR P D w E t2 u zs vx size news) (w' : World) (hw : ∀ a, w'.cell? a = w.cell? a) :
  (Builtin.firstCells size zs.length vx).run P w' = .ok news.toArray w' := by
 rw [h.firstN w' hw _ (Nat.le_refl _), List.take_of_length_le (by rw [h.sz]; exact Nat.le_refl _)]
theorem byteCells_den {F : Nat → Prop} (l : List UInt8) : PDenL D w F (l.map fun b => PV.int .u8 b.toNat) (l.map fun b => Value.int .u8 b.toNat) := by
 refine ⟨by simp, fun j pv v hp hv => ?_⟩
 rw [List.getElem?_map] at hp hv
 obtain ⟨b, hb, rfl⟩ := Option.map_eq_some_iff.1 hp
 obtain ⟨b', hb', rfl⟩ := Option.map_eq_some_iff.1 hv
 rw [hb] at hb'; cases hb'
 exact .int _ _
theorem srcZ_ok (A : Aux C D) (hT : TabOK P D tab) (hs : Sat D w E H) {t t2 e : TypeId} (hu : P.underlying t = some (.slice e)) {x : SV C} {v : Value} (hx : Den D w E x v) {l : List (Nat × HS C)} (hl : ∀ c, x.topId = some c → lk l c = H c) {u : C.U} {zs : List (C.El u)} {p : Prop}
  (h : srcZ A tab t t2 u l x = some (p, zs)) (hp : p) {size : Nat} (hsz : size = C.n u) : ∃ news, SrcR P D w E t2 u zs v size news := by
 unfold srcZ at h
 split at h
 ·rename_i bs
  split at h
  ·rename_i i2 hi2
   split at h
   ·rename_i hk
    split at h
    ·rename_i zs1 hz
     cases h
     obtain ⟨h1, h2⟩ := A.ofBytes_ok _ _ _ hz
     have hv := den_str hx
     subst hv
     have hlen : zs.length = bs.length := by
      have := congrArg List.length h2
      rw [flatMap_length, h1] at this
      simpa using this
     refine ⟨bs.map fun b => Value.int .u8 b.toNat, ⟨⟨_, str_of (hT t2 i2 hi2) hk, fun k e => by cases e⟩, fun w' => ?_, fun w' _ k hk => ?_, by rw [hsz, h1]; simp [hlen], ?_⟩⟩
     ·rw [hlen]; rfl
     ·have e1 : ((ByteArray.extract ⟨⟨bs⟩⟩ 0 k).data.toList) = bs.take k := by
       simp [List.extract_eq_take_drop]
      simp only [Builtin.firstCells, Sem.run_pure]
      congr 1
      apply Array.ext'
      rw [hsz, h1]
      simp [e1, List.map_take]
     ·rw [h2]; exact byteCells_den bs
    ·cases h
   ·cases h
  ·cases h
 ·split at h
  ·rename_i i2 hi2
   split at h
   ·rename_i e2 hk
    cases h
    have hv := den_lit hx
    subst hv
    refine ⟨[], ⟨⟨_, slice_of (hT t2 i2 hi2) hk, fun k e => by cases e⟩, fun w' => rfl, fun w' _ k hk => by simp [Builtin.firstCells], by simp, ⟨rfl, fun j pv v hp _ => by simp at hp⟩⟩⟩
   ·cases h
  ·cases h
 ·split at h
  ·rename_i u' ys hsrc
   split at h
   ·rename_i zs' hcast
    cases h
    obtain ⟨e2, hsl⟩ := hp
    obtain ⟨hzy, hnn⟩ := A.castL_ok u u' ys zs hcast
    have hzl : zs.length = ys.length := by simpa using congrArg List.length hzy
    obtain ⟨ax, cap, news, hvx, hpn, hcase⟩ := srcOf_ok hs hx hl hsrc hsl
    have hpn' : PDenL D w E.F (zs.flatMap (D.enc u)) news := by rw [flat_of_map hzy]; exact hpn
    have hnl : news.length = zs.length * size := by rw [hpn'.len, hsz]
    refine ⟨news, ⟨⟨_, e2 ▸ hu, fun k e => by cases e⟩, fun w' => ?_, fun w' hw' k hk => ?_, hnl, hpn'⟩⟩
    ·rw [hvx, hzl]; rfl
    ·subst hvx
     have hkl : (news.take (k * size)).length = k * size := by
      rw [List.length_take, hnl, Nat.min_eq_left (Nat.mul_le_mul_right _ hk)]
     rcases hcase with ⟨rfl, rfl⟩ | ⟨ad, rfl, hc⟩
     ·simp [Builtin.firstCells]
     ·refine run_firstCells_some w' size k ad _ cap _ hkl fun j u hu => (hw' _).trans (hc j u ?_)
      rw [List.getElem?_take] at hu
      split at hu
      ·exact hu
      ·cases hu
   ·cases h
  ·cases h

theorem append_ok (A : Aux C D) (hT : TabOK P D tab) (hR : Rel D B E σ H df a w) {m : Nat} (hm : H m = .fresh) {t t2 : TypeId} {os ox : Operand} (ho : o.op = .call { callee := .builtin .append, args := #[os, ox], argTypes := #[t, t2] }) {hs : List (Nat × HS C)}
  (hhs : ∀ c, (ev σ os).topId = some c → lk hs c = H c) (hhx : ∀ c, (ev σ ox).topId = some c → lk hs c = H c) :
  OutOK P D B σ H df a w o (doAppend A tab t t2 (ev σ os) (ev σ ox) hs m) := by
 have hds := ev_den hR os
 have hdx := ev_den hR ox
 generalize hss : ev σ os = ss at *
 generalize hsx : ev σ ox = sx at *
 unfold doAppend
 cases htab : tab t with
 | none => trivial
 | some i =>
  have ht := hT t i htab
  simp only
  split
  case h_2 => trivial
  rename_i e hk
  have hu := slice_of ht hk
  cases hte : tab e with
  | none => trivial
  | some j =>
   have hj := hT e j hte
   obtain ⟨ie, z, f1, f2, f3, f4, f5, f6⟩ := hj.info
   simp only
   have hex' : ∀ (v : Value) (w' : World), (Builtin.append_ #[t, t2] o.type #[a.eval os, a.eval ox]).run P w = .ok v w' → (execOp a.eval o).run P w = .ok (.value v) w' := fun v w' h => by
    simp [execOp, ho, resolve, invoke, builtin, h]
   -- the grown case, for whatever number
   have grown : ∀ {E2 : Env} {H2 : Nat → HS C} (hR2 : Rel D B E2 σ H2 df a w) (hm2 : H2 m = .fresh) (u : C.U) (xs zs : List (C.El u)) (olds news : List Value) (sCap : Nat), C.n u = j.size →
     PDenL D w E2.F (xs.flatMap (D.enc u)) olds → PDenL D w E2.F (zs.flatMap (D.enc u)) news → (∀ t', C.ty u = some t' → e = t') →
     (Builtin.append_ #[t, t2] o.type #[a.eval os, a.eval ox]).run P w =
      .ok (.slice (some ⟨w.heap.size, 0, none⟩) (xs.length + zs.length) (grownCap w (xs.length + zs.length) sCap e)) (w.drew.alloc (.cells (olds.toArray ++ news.toArray ++ Builtin.zeroCells z.cells (grownCap w (xs.length + zs.length) sCap e - (xs.length + zs.length))) e)) →
     ∃ u' w' E', ((execOp a.eval o).run P w = .ok (.value u') w' ∨ ((execOp a.eval o).run P w = .ok .skip w' ∧ u' = undef)) ∧
      Rel D B E' σ (upH H2 m (.rows u (xs ++ zs))) df a w' ∧ Den D w' E' (.slice m 0 (C.n u) 0 (xs ++ zs).length) u' := by
    intro E2 H2 hR2 hm2 u xs zs olds news sCap hn hol hne hce hrun
    have hR3 := hR2.drew
    have hge := grownCap_ge w (xs.length + zs.length) sCap e
    generalize hcap : grownCap w (xs.length + zs.length) sCap e = cap at *
    have hcells : (olds.toArray ++ news.toArray ++ Builtin.zeroCells z.cells (cap - (xs.length + zs.length))).size = cap * C.n u := by
     simp only [Array.size_append, List.size_toArray, size_zeroCells, f5, hol.len, hne.len, ← hn, ← Nat.add_mul]
     congr 1
     omega
    refine ⟨_, _, E2.up m (.loc w.drew.heap.size), .inl (hex' _ _ hrun), ?_, ?_⟩
    ·refine hR3.alloc hm2 _ e ⟨_, e, ⟨Row.new (heap_alloc_new w.drew _), hce⟩, ?_, ?_⟩
     ·rw [hcells, List.length_append]; exact Nat.mul_le_mul_right _ hge
     ·have happ := (hol.append hne)
      rw [← List.flatMap_append] at happ
      have hlen : (olds ++ news).length = (xs ++ zs).length * C.n u := happ.len
      have hh : (olds.toArray ++ news.toArray ++ Builtin.zeroCells z.cells (cap - (xs.length + zs.length))).toList.take ((xs ++ zs).length * C.n u) = olds ++ news := by
       simp only [Array.toList_append]
       exact List.take_left' hlen
      rw [hh]
      exact happ.mono (later_alloc (fresh_β hR3.sat hm2) _ hR3.sat.F).F
    ·simp only [Den, Env.up_same]
     refine .inr ⟨cap, _, e, by simp, by rw [List.length_append]; exact hge, Row.new (heap_alloc_new w.drew _), ?_⟩
     rw [hcells]; simp
   split
   ·rename_i c o' n off len
    split
    case h_2 => trivial
    rename_i u xs hlk
    have hHc : H c = .rows u xs := by rw [← hhs c rfl]; exact hlk
    cases hfit0 : tyFit (C.ty u) e with
    | false => trivial
    | true =>
    have hce : ∀ t', C.ty u = some t' → e = t' := fun t' h => by
     rw [h] at hfit0; exact Nat.eq_of_beq_eq_true hfit0
    simp only
    split
    case h_2 => trivial
    rename_i p zs hsrc
    rintro ⟨hp, hlx, hn, hju, hby, h63, hne, hcm⟩
    obtain ⟨news, hS⟩ := srcZ_ok A hT hR.sat hu hdx hhx hsrc hp (size := ie.size) (f2.trans hju)
    have hpn' := hS.den
    have hnews := hS.first
    have hnl : news.length = zs.length * ie.size := by rw [hpn'.len, f2, hju]
    have hlive : (H c).live = true := by rw [hHc]; rfl
    have hxt : (xs.take len).length = len := by simp; omega
    rcases slice_live hR.sat hlive hds with ⟨rfl, hnil⟩ | ⟨b, cap', cs, T, hb, es, hlc, hcs, hsz⟩
    ·have hos : ∃ base, a.eval os = .slice base 0 0 := by
      rcases hnil with ⟨ad, e, _⟩ | ⟨ad, _, e, _⟩
      ·exact ⟨_, e⟩
      ·exact ⟨_, e⟩
     obtain ⟨base, es⟩ := hos
     have holds : ∀ w' : World, (∀ a, w'.cell? a = w.cell? a) → (Builtin.firstCells ie.size 0 (.slice base 0 0)).run P w' = .ok ([] : List Value).toArray w' := fun w' _ => by
      cases base with
      | none => simp [Builtin.firstCells]
      | some ad => simp [Builtin.firstCells, loadCells, loadCellsFrom]
     rcases run_append_any (w := w) (ty := o.type) hu f1 f4 hS.typ hS.len hnews holds (by omega) (by rw [f3]; exact hby) with ⟨hg, hrun⟩ | ⟨hg, hrun⟩
     ·rw [← es] at hrun
      have := grown (hR.kill c) (by simp [upH, Ne.symm hcm, hm]) u [] zs [] news 0 hju.symm ⟨rfl, fun j pv v hp _ => by simp at hp⟩ hpn' hce (by simpa using hrun)
      simpa [RunOK, upHs] using this
     ·have hz0 : zs = [] := List.eq_nil_of_length_eq_zero (by omega)
      subst hz0
      have hnews0 : news = [] := List.eq_nil_of_length_eq_zero (by rw [hnl]; simp)
      have hr : (Builtin.append_ #[t, t2] o.type #[a.eval os, a.eval ox]).run P w = .ok (.slice base 0 0) w := by
       rw [es, hrun, hnews0]
       cases base <;> simp [storeCells]
      have hcut := hR.cut hHc 0
      have hm' : upH H c (.rows u (xs.take 0)) m = .fresh := by simp [upH, Ne.symm hcm, hm]
      have hren := hcut.rename (c := c) hm' (by simp [upH, HS.live])
      refine ⟨.slice base 0 0, w, (E.up c .dead).up m (E.β c), .inl (hex' _ _ hr), ?_, ?_⟩
      ·show Rel D B _ σ (upH (upH H c .dead) m (.rows u (xs.take 0 ++ []))) df a w
       have e3 : upH (upH (upH H c (.rows u (xs.take 0))) c .dead) m ((upH H c (.rows u (xs.take 0))) c) = upH (upH H c .dead) m (.rows u (xs.take 0 ++ [])) := by
        funext q
        simp only [upH, if_true, List.append_nil]
        by_cases h1 : q = m
        ·rw [if_pos h1, if_pos h1]
        ·rw [if_neg h1, if_neg h1]
         by_cases h2 : q = c
         ·rw [if_pos h2, if_pos h2]
         ·rw [if_neg h2, if_neg h2, if_neg h2]
       rw [← e3]
       exact hren
      ·simp only [Den, Env.up_same, List.append_nil, List.take_zero, List.length_nil]
       rcases hnil with ⟨ad, e, hβ⟩ | ⟨ad, b, e, hβ⟩
       ·rw [hβ]; exact ⟨_, rfl, by first | rfl | trivial⟩
       ·rw [hβ]; exact .inl ⟨trivial, _, rfl⟩
    ·subst hn
     have hat : (H c).at D w E b := by
      have := hR.sat.ok c
      rw [hb] at this; exact this
     rw [hHc] at hat
     obtain ⟨cs', T', ⟨hcs', hTy⟩, hz1, hz2⟩ := hat
     obtain ⟨rfl, rfl⟩ := hcs.inj hcs'
     simp only [Nat.zero_mul, Nat.zero_add] at es hsz
     have hcl : len * C.n u ≤ cs.size := by
      have := Nat.mul_le_mul_right (C.n u) hlx
      omega
     have holen : (cs.toList.take (len * C.n u)).length = len * ie.size := by
      rw [f2, hju]; simp; omega
     have holds : ∀ w' : World, (∀ a, w'.cell? a = w.cell? a) → (Builtin.firstCells ie.size len (.slice (some ⟨b, 0, none⟩) len cap')).run P w' = .ok (cs.toList.take (len * C.n u)).toArray w' := fun w' hw' =>
      run_firstCells_some w' ie.size len _ len cap' _ holen fun jj v hv => by
       rw [hw', Addr.add_lit, Nat.zero_add, cells_cell hcs]
       rw [List.getElem?_take] at hv
       split at hv
       ·exact hv
       ·cases hv
     have hold : PDenL D w E.F ((xs.take len).flatMap (D.enc u)) (cs.toList.take (len * C.n u)) := by
      have h4 := hz2.take (len * C.n u)
      rw [List.take_take, Nat.min_eq_left (Nat.mul_le_mul_right _ hlx), ← flatMap_take] at h4
      exact h4
     rcases run_append_any (w := w) (ty := o.type) hu f1 f4 hS.typ hS.len hnews holds (by omega) (by rw [f3]; exact hby) with ⟨hg, hrun⟩ | ⟨hg, hrun⟩
     ·rw [← es] at hrun
      have := grown (hR.kill c) (by simp [upH, Ne.symm hcm, hm]) u (xs.take len) zs _ news cap' hju.symm hold hpn' hce (by rw [hxt]; exact hrun)
      simpa [RunOK, upHs] using this
     ·have hfit : (len + zs.length) * C.n u ≤ cs.size := Nat.le_trans (Nat.mul_le_mul_right _ hg) hsz
      have hst := run_storeCells_row (P := P) (o := len * C.n u) news 0 cs w hcs (by rw [hpn'.len, Nat.add_zero, ← Nat.add_mul]; exact hfit) hpn'.oneCell
      simp only [Nat.add_zero] at hst
      generalize hcs2 : (cs.toList.take (len * C.n u) ++ news ++ cs.toList.drop (len * C.n u + news.length)).toArray = cs2 at *
      have hr : (Builtin.append_ #[t, t2] o.type #[a.eval os, a.eval ox]).run P w = .ok (.slice (some ⟨b, 0, none⟩) (len + zs.length) cap') (w.setRow b cs2) := by
       rw [es, hrun]
       simp only [Addr.add_lit, Nat.zero_add, f2, hju, Sem.run_bind, hst, Result.andThen_ok, Sem.run_pure]
      have hsz2 : cs2.size = cs.size := by
       rw [← hcs2]
       simp only [List.size_toArray, List.length_append, List.length_take, List.length_drop, Array.length_toList, hpn'.len]
       rw [Nat.add_mul] at hfit
       omega
      have happ := hold.append hpn'
      rw [← List.flatMap_append] at happ
      have hset := hR.setRow hb hcs hsz2 (hs := .rows u (xs.take len ++ zs)) fun hL => ⟨cs2, T, ⟨hcs.set hsz2, hTy⟩, by
        rw [List.length_append, hxt, hsz2]; exact hfit, by
        have : cs2.toList.take ((xs.take len ++ zs).length * C.n u) = cs.toList.take (len * C.n u) ++ news := by
         rw [← hcs2]
         exact List.take_left' happ.len
        rw [this]
        exact happ.mono hL.F⟩
      have hm' : upH H c (.rows u (xs.take len ++ zs)) m = .fresh := by simp [upH, Ne.symm hcm, hm]
      have hren := hset.rename (c := c) hm' (by simp [upH, HS.live])
      refine ⟨_, w.setRow b cs2, (E.up c .dead).up m (E.β c), .inl (hex' _ _ hr), ?_, ?_⟩
      ·show Rel D B _ σ (upH (upH H c .dead) m (.rows u (xs.take len ++ zs))) df a (w.setRow b cs2)
       have e3 : upH (upH (upH H c (.rows u (xs.take len ++ zs))) c .dead) m ((upH H c (.rows u (xs.take len ++ zs))) c) = upH (upH H c .dead) m (.rows u (xs.take len ++ zs)) := by
        funext q
        simp only [upH, if_true]
        by_cases h1 : q = m
        ·rw [if_pos h1, if_pos h1]
        ·rw [if_neg h1, if_neg h1]
         by_cases h2 : q = c
         ·rw [if_pos h2, if_pos h2]
         ·rw [if_neg h2, if_neg h2, if_neg h2]
       rw [← e3]
       exact hren
      ·simp only [Den, Env.up_same, hb]
       refine .inr ⟨cap', cs2, T, by rw [List.length_append, hxt]; simp, by rw [List.length_append, hxt]; exact hg, hcs.set hsz2, ?_⟩
       rw [hsz2]; simpa using hsz
   ·rename_i u xs
    cases hfit0 : tyFit (C.ty u) e with
    | false => trivial
    | true =>
    have hce : ∀ t', C.ty u = some t' → e = t' := fun t' h => by
     rw [h] at hfit0; exact Nat.eq_of_beq_eq_true hfit0
    simp only
    split
    case h_2 => trivial
    rename_i p zs hsrc
    rintro ⟨hp, hju, hz0, hby, h63⟩
    obtain ⟨news, hS⟩ := srcZ_ok A hT hR.sat hu hdx hhx hsrc hp (size := ie.size) (f2.trans hju)
    have hpn' := hS.den
    have hnews := hS.first
    simp only [Den] at hds
    obtain ⟨ad, hev, hdd⟩ : ∃ ad, a.eval os = .slice ad xs.length xs.length ∧ PDen D w E.F (.dsl u xs) (.slice ad xs.length xs.length) := by
     generalize a.eval os = vs at hds
     cases hds with
     | fds _ _ ad h => exact ⟨ad, rfl, h⟩
    obtain ⟨ax, cap, olds, he, hold, hcells⟩ := srcOf_ok (l := []) (x := .p (.dsl u xs)) hR.sat (by simp only [Den]; exact hdd) (fun c h => by cases h) (u := u) (ys := xs) rfl trivial
    cases he
    have holen : olds.length = xs.length * ie.size := by rw [hold.len, f2, hju]
    have holds : ∀ w' : World, (∀ a, w'.cell? a = w.cell? a) → (Builtin.firstCells ie.size xs.length (.slice ad xs.length xs.length)).run P w' = .ok olds.toArray w' := fun w' hw' => by
     rcases hcells with ⟨rfl, rfl⟩ | ⟨ad', rfl, hc⟩
     ·simp [Builtin.firstCells]
     ·exact run_firstCells_some w' ie.size xs.length ad' xs.length _ olds holen fun j u hu => (hw' _).trans (hc j u hu)
    rcases run_append_any (w := w) (ty := o.type) hu f1 f4 hS.typ hS.len hnews holds h63 (by rw [f3]; exact hby) with ⟨hg, hrun⟩ | ⟨hg, hrun⟩
    ·rw [← hev] at hrun
     have := grown hR hm u xs zs olds news xs.length hju.symm hold hpn' hce hrun
     simpa [RunOK, upHs] using this
    ·omega
   ·cases hcode : j.code with
    | none => trivial
    | some u =>
     simp only
     split
     case h_2 => trivial
     rename_i p zs hsrc
     have key : OutOK P D B σ H df a w o (appRes u m none (p ∧ j.size = C.n u ∧ zs.length * j.bytes ≤ 140737488355328 ∧ zs.length ≤ 9223372036854775807) zs) ∧
       (zs = [] → OutOK P D B σ H df a w o (.side (p ∧ j.size = C.n u ∧ zs.length * j.bytes ≤ 140737488355328 ∧ zs.length ≤ 9223372036854775807) (.p (.lit (.slice none 0 0))))) := ?_
     ·unfold nilApp
      split
      ·exact key.1
      ·split
       ·exact key.2 rfl
       ·exact key.1
     refine ⟨?_, ?_⟩
     rotate_left
     ·rintro rfl ⟨hp, hju, hby, h63⟩
      obtain ⟨news, hS⟩ := srcZ_ok A hT hR.sat hu hdx hhx hsrc hp (size := ie.size) (f2.trans hju)
      have hnews := hS.first
      have es := den_lit hds
      have hn0 : news = [] := List.eq_nil_of_length_eq_zero (by rw [hS.sz]; simp)
      have holds : ∀ w' : World, (∀ a, w'.cell? a = w.cell? a) → (Builtin.firstCells ie.size 0 (.slice none 0 0)).run P w' = .ok ([] : List Value).toArray w' := fun w' _ => by
       simp [Builtin.firstCells]
      rcases run_append_any (w := w) (ty := o.type) (base := none) (sLen := 0) (sCap := 0) hu f1 f4 hS.typ hS.len hnews holds (by simp) (by simp) with ⟨hg, _⟩ | ⟨_, hrun⟩
      ·simp at hg
      ·have hr : (Builtin.append_ #[t, t2] o.type #[a.eval os, a.eval ox]).run P w = .ok (.slice none 0 0) w := by
        rw [es, hrun]; simp
       exact runOK_of hR (hex' _ _ hr) (by simp only [Den]; exact .lit _ rfl)
     rintro ⟨hp, hju, hby, h63⟩
     obtain ⟨news, hS⟩ := srcZ_ok A hT hR.sat hu hdx hhx hsrc hp (size := ie.size) (f2.trans hju)
     have hpn' := hS.den
     have hnews := hS.first
     have hnl : news.length = zs.length * ie.size := by rw [hpn'.len, f2, hju]
     have hce : ∀ t', C.ty u = some t' → e = t' := fun t' h => (hj.ctype u t' hcode h).symm
     have es := den_lit hds
     have holds : ∀ w' : World, (∀ a, w'.cell? a = w.cell? a) → (Builtin.firstCells ie.size 0 (.slice none 0 0)).run P w' = .ok ([] : List Value).toArray w' := fun w' _ => by
      simp [Builtin.firstCells]
     rcases run_append_any (w := w) (ty := o.type) hu f1 f4 hS.typ hS.len hnews holds (by omega) (by rw [f3]; simpa using hby) with ⟨hg, hrun⟩ | ⟨hg, hrun⟩
     ·rw [← es] at hrun
      have := grown hR hm u [] zs [] news 0 hju.symm ⟨rfl, fun j pv v hp _ => by simp at hp⟩ hpn' hce (by simpa using hrun)
      simpa [RunOK, upHs] using this
     ·have hz0 : zs = [] := List.eq_nil_of_length_eq_zero (by omega)
      subst hz0
      have hr : (Builtin.append_ #[t, t2] o.type #[a.eval os, a.eval ox]).run P w = .ok (.slice none 0 0) w := by
       rw [es, hrun]; simp
      refine ⟨_, _, _, .inl (hex' _ _ hr), hR.virt hm u, ?_⟩
      simp only [Den, Env.up_same, List.length_nil]
      exact ⟨none, by first | rfl | trivial, by first | rfl | trivial⟩
   ·trivial

end
end Go.SX
