/-
  SX, part J: composite values.
-/
import Derived.Test.YtdaghncicimipaaGreatDoorSxI
import Derived.Great.FillDense
set_option linter.unusedVariables false
set_option linter.unusedSimpArgs false
namespace Go.SX
open Go.RowKit
variable {C : Cod}
section
variable {P : Program} {D : Codec C} {tab : Tab C} {B : Base} {E : Env} {σ : Nat → SV C} {H : Nat → HS C} {df : List Deferred} {a : Act} {w : World} {o : Oper}

theorem zipIx_eq : ∀ (ps : List (Nat × Operand)), zipIx ps ((ps.map (·.2)).map (ev σ)) = ps.map fun q => (q.1, ev σ q.2)
  | [] => rfl
  | (i, x) :: l => by simp only [List.map_cons, zipIx, zipIx_eq l]

theorem foldl_splice (off : Nat) (l : List Value) (cs : Array Value) (h : off + l.length ≤ cs.size) :
    ((l.zipIdx).foldl (fun cs (x : Value × Nat) => cs.setIfInBounds (off + x.2) x.1) cs).toList = cs.toList.take off ++ l ++ cs.toList.drop (off + l.length) := by
  obtain ⟨h1, h2⟩ := Great.foldl_set off l 0 cs
  apply List.ext_getElem?
  intro k
  have := h2 k
  simp only [Nat.add_zero] at this
  rw [Array.getElem?_toList, this]
  by_cases hk : k < off
  · rw [if_neg (by omega), List.append_assoc, List.getElem?_append_left (by simp; omega), List.getElem?_take, if_pos hk, Array.getElem?_toList]
  · have hto : (cs.toList.take off).length = off := by simp; omega
    by_cases hk2 : k < off + l.length
    · rw [if_pos (by omega), List.append_assoc, List.getElem?_append_right (by omega), List.getElem?_append_left (by omega), hto]
    · rw [if_neg (by omega), List.getElem?_append_right (by simp; omega), List.getElem?_drop]
      simp only [List.length_append, hto]
      rw [show off + l.length + (k - (off + l.length)) = k by omega, Array.getElem?_toList]

theorem fillW_spec {place : Nat → Option (Nat × Nat)} : ∀ (ps : List (Nat × Operand)) (vs vs' : List (SV C)) (cs : Array Value),
    (∀ x, Den D w E (ev σ x) (a.eval x)) → fillW place vs (ps.map fun q => (q.1, ev σ q.2)) = some vs' → DenC D w E vs cs.toList →
    ∃ cs', Instr.fill place cs (ps.map fun q => (q.1, a.eval q.2)) = some cs' ∧ DenC D w E vs' cs'.toList
  | [], vs, vs', cs, _, h, hd => by
    simp only [List.map_nil, fillW, Option.some.injEq] at h
    subst h
    exact ⟨cs, rfl, hd⟩
  | (i, x) :: ps, vs, vs', cs, he, h, hd => by
    simp only [List.map_cons, fillW] at h
    cases hp : place i with
    | none => simp [hp] at h
    | some p =>
      obtain ⟨off, size⟩ := p
      simp only [hp] at h
      cases hc : cellsOf (ev σ x) with
      | none => simp [hc] at h
      | some l =>
        simp only [hc] at h
        cases htk : takeW l size with
        | none => simp [htk] at h
        | some l' =>
          simp only [htk] at h
          split at h
          · rename_i hdr
            cases hsp : spliceW vs off size l' with
            | none => simp [hsp] at h
            | some vs1 =>
              simp only [hsp] at h
              have hcd := cellsOf_den hc (he x)
              obtain ⟨h3, h4⟩ := exact_cells htk hdr hcd
              obtain ⟨h5, h6⟩ := spliceW_spec hsp hd h4
              have hsz : (a.eval x).cells.size = size := by simpa using h3
              have hfit : off + size ≤ cs.size := by simpa using h6
              have hfold := foldl_splice off (a.eval x).cells.toList cs (by simp [hsz]; omega)
              simp only [Array.length_toList, hsz] at hfold
              obtain ⟨cs', h7, h8⟩ := fillW_spec ps vs1 vs' _ he h (hfold ▸ h5)
              refine ⟨cs', ?_, h8⟩
              simp only [List.map_cons, Instr.fill, hp, hsz]
              rw [if_neg (by simp; omega), ← h7]
              congr 1
              rw [← Array.foldl_toList]
              congr 1
              simp
          · cases h

theorem decParts_spec {u : C.U} : ∀ (ps : List (Nat × Operand)) (k : Nat) (xs : List (C.El u)), (∀ x, Den D w E (ev σ x) (a.eval x)) →
    decParts D u k (ps.map fun q => (q.1, ev σ q.2)) = some xs →
    ps.map (fun q => (q.1, a.eval q.2)) = ((ps.map fun q => a.eval q.2).zipIdx k).map (fun x => (x.2, x.1)) ∧ (∀ v ∈ ps.map (fun q => a.eval q.2), v.cells.size = C.n u) ∧
      xs.length = ps.length ∧ PDenL D w E.F (xs.flatMap (D.enc u)) ((ps.map fun q => a.eval q.2).flatMap fun v => v.cells.toList)
  | [], k, xs, _, h => by
    simp only [List.map_nil, decParts, Option.some.injEq] at h
    subst h
    exact ⟨rfl, by simp, rfl, ⟨rfl, fun j pv v hp _ => by simp at hp⟩⟩
  | (i, x) :: ps, k, xs, he, h => by
    simp only [List.map_cons, decParts] at h
    split at h
    · rename_i hik
      subst hik
      cases hc : cellsOf (ev σ x) with
      | none => simp [hc] at h
      | some l =>
        simp only [hc] at h
        cases hp : toPVs l with
        | none => simp [hp] at h
        | some pl =>
          simp only [hp] at h
          cases hd : D.dec u pl with
          | none => simp [hd] at h
          | some y =>
            simp only [hd] at h
            cases hr : decParts D u (i + 1) (ps.map fun q => (q.1, ev σ q.2)) with
            | none => simp [hr] at h
            | some r =>
              simp [hr] at h
              subst h
              obtain ⟨h1, h2, h3, h4⟩ := decParts_spec ps (i + 1) r he hr
              have hy := D.dec_ok u pl y hd
              have hpl := toPVs_den _ _ _ hp (cellsOf_den hc (he x))
              have hn : (a.eval x).cells.size = C.n u := by
                rw [← Array.length_toList, ← hpl.1, ← hy, D.enc_len]
              refine ⟨by simp only [List.map_cons, List.zipIdx_cons, h1], fun v hv => ?_, by simp [h3], ?_⟩
              · simp only [List.map_cons, List.mem_cons] at hv
                rcases hv with rfl | hv
                · exact hn
                · exact h2 v hv
              · simp only [List.flatMap_cons, List.map_cons, hy]
                exact hpl.append h4
    · cases h

theorem build_ok (hT : TabOK P D tab) (hR : Rel D B E σ H df a w) {t : TypeId} {ps : Array (Nat × Operand)} (ho : o.op = .build t ps) :
    OutOK P D B σ H df a w o (doBuild D tab t (zipIx ps.toList ((ps.toList.map (·.2)).map (ev σ)))) := by
  rw [zipIx_eq]
  unfold doBuild
  cases htab : tab t with
  | none => trivial
  | some i =>
    have ht := hT t i htab
    obtain ⟨info, z, h1, h2, h3, h4, h5, h6⟩ := ht.info
    have heq : (ps.map fun (i, x) => (i, a.eval x)).toList = ps.toList.map fun q => (q.1, a.eval q.2) := by simp
    simp only
    split
    · rename_i fs hk
      have hkk := ht.und
      rw [hk] at hkk
      obtain ⟨d, hu, F, rfl, hF, hfi⟩ := hkk
      split
      · rename_i vs' hfw
        -- the places
        have hpl : ∃ places, F.toList.mapM (fun f => (P.info? f.type).map fun i => (f.offset, i.size)) = some places ∧ ∀ k off size, placeOf tab fs k = some (off, size) → places[k]? = some (off, size) := by
          clear hfw
          have gen : ∀ (L : List Field) (G : List (Nat × TypeId)), L.map (fun f => (f.offset, f.type)) = G → (∀ f ∈ G, (P.info? f.2).isSome = true) →
              ∃ places, L.mapM (fun f => (P.info? f.type).map fun i => (f.offset, i.size)) = some places ∧ ∀ k off size, placeOf tab G k = some (off, size) → places[k]? = some (off, size) := by
            intro L
            induction L with
            | nil => intro G hG _; subst hG; exact ⟨[], rfl, fun k off size h => by simp [placeOf, ixL] at h⟩
            | cons f L ih =>
              intro G hG hin
              subst hG
              obtain ⟨places, hp1, hp2⟩ := ih _ rfl (fun q hq => hin q (by simp at hq ⊢; exact .inr hq))
              obtain ⟨fi, hfi'⟩ := Option.isSome_iff_exists.1 (hin (f.offset, f.type) (by simp))
              refine ⟨(f.offset, fi.size) :: places, by simp [List.mapM_cons, hfi', hp1], fun k off size hk' => ?_⟩
              cases k with
              | zero =>
                simp only [placeOf, List.map_cons, ixL] at hk'
                cases htf : tab f.type with
                | none => simp [htf] at hk'
                | some j =>
                  simp [htf] at hk'
                  obtain ⟨rfl, rfl⟩ := hk'
                  obtain ⟨info', z', g1, g2, _⟩ := (hT _ _ htf).info
                  simp only at hfi'
                  rw [g1] at hfi'; cases hfi'
                  simp [g2]
              | succ k =>
                simp only [List.getElem?_cons_succ]
                exact hp2 k off size (by simpa [placeOf, ixL] using hk')
          exact gen F.toList fs hF hfi
        obtain ⟨places, hp1, hp2⟩ := hpl
        obtain ⟨cs', h7, h8⟩ := fillW_spec ps.toList i.zero vs' z.cells (fun x => ev_den hR x) hfw (h6 w E)
        have hfill : Instr.fill (fun x => places[x]?) z.cells (ps.toList.map fun q => (q.1, a.eval q.2)) = some cs' := by
          -- where placeOf says a place, the places say it too
          have gen : ∀ (l : List (Nat × Value)) (c c' : Array Value), Instr.fill (placeOf tab fs) c l = some c' → Instr.fill (fun x => places[x]?) c l = some c' := by
            intro l
            induction l with
            | nil => intro c c' h; exact h
            | cons q l ih =>
              intro c c' h
              obtain ⟨k, v⟩ := q
              simp only [Instr.fill] at h ⊢
              cases hpo : placeOf tab fs k with
              | none => simp [hpo] at h
              | some p =>
                obtain ⟨off, size⟩ := p
                rw [hp2 k off size hpo]
                simp only [hpo] at h
                simp only
                split
                · rename_i hc; rw [if_pos hc] at h; cases h
                · rename_i hc; rw [if_neg hc] at h; exact ih _ _ h
          exact gen _ _ _ h7
        have hb : P.built t (ps.map fun (i, x) => (i, a.eval x)).toList = some cs' := by
          rw [heq]
          simp only [Program.built, h1, hu, h4, hp1]
          simpa using hfill
        refine runOK_of hR (u := .agg cs') ?_ (by simp only [Den]; exact ⟨cs', rfl, h8⟩)
        simp only [execOp, ho, Sem.run_bind, run_build w t _ cs' hb, Result.andThen_ok, Sem.run_pure]
      · trivial
    · rename_i len e hk
      have hu := arr_of ht hk
      obtain ⟨ie, hie, hsize⟩ := arr_size ht hk
      split
      · rename_i hps
        have hps' : ps.toList = [] := by simpa using hps
        have hps'' : ps = #[] := by simpa using hps'
        refine runOK_of hR (u := .agg z.cells) ?_ (by simp only [Den]; exact ⟨_, rfl, h6 w E⟩)
        have hb : P.built t (ps.map fun (i, x) => (i, a.eval x)).toList = some z.cells := by
          rw [heq, hps']
          simp [Program.built, h1, hu, h4, hie, Instr.fill]
        simp only [execOp, ho, Sem.run_bind, run_build w t _ _ hb, Result.andThen_ok, Sem.run_pure]
      · rename_i q0 rest hps
        cases hte : tab e with
        | none => trivial
        | some j =>
          simp only
          cases hcode : j.code with
          | none => trivial
          | some u =>
            simp only
            cases hdp : decParts D u 0 (ps.toList.map fun q => (q.1, ev σ q.2)) with
            | none => trivial
            | some xs =>
              simp only
              split
              · rename_i hlen
                have hj := hT e j hte
                obtain ⟨g1, g2, g3, g4⟩ := decParts_spec ps.toList 0 xs (fun x => ev_den hR x) hdp
                have hn := hj.code u hcode
                obtain ⟨ie', z', f1, f2, _⟩ := hj.info
                rw [hie] at f1; cases f1
                have hfill := Great.fill_whole (D.n_pos u) (ps.toList.map fun q => a.eval q.2) z.cells g2 (by simp only [List.length_map]; rw [← g3, hlen, hn, ← f2, h5, hsize])
                have hb : P.built t (ps.map fun (i, x) => (i, a.eval x)).toList = some ((ps.toList.map fun q => a.eval q.2).flatMap fun v => v.cells.toList).toArray := by
                  rw [heq, g1]
                  simp only [Program.built, h1, hu, h4, hie]
                  rw [show ie.size = C.n u by rw [f2, hn]]
                  exact hfill
                refine runOK_of hR (u := .agg ((ps.toList.map fun q => a.eval q.2).flatMap fun v => v.cells.toList).toArray) ?_ ?_
                · simp only [execOp, ho, Sem.run_bind, run_build w t _ _ hb, Result.andThen_ok, Sem.run_pure]
                · simp only [Den]
                  refine ⟨_, rfl, ?_⟩
                  simp only [DenC]
                  exact ⟨hlen, _, [], by simp, g4, rfl⟩
              · trivial
    · trivial

theorem ownTwo_spec {f : Operand → SV C} {ps : List (Nat × Operand)} {vs : List (SV C)} (h : ownTwo (ps.map fun q => (q.1, f q.2)) = some vs) : ∃ ox oy, ps = [(0, ox), (1, oy)] ∧ vs = [f ox, f oy] ∧ (f ox).one = true ∧ (f oy).one = true := by
  match ps, h with
  | [], h => simp [ownTwo] at h
  | [(i, x)], h => simp [ownTwo] at h
  | [(i, x), (j, y)], h =>
    unfold ownTwo at h
    split at h
    · rename_i u v e
      simp only [List.map_cons, List.map_nil, List.cons.injEq, Prod.mk.injEq, and_true] at e
      obtain ⟨⟨rfl, rfl⟩, rfl, rfl⟩ := e
      split at h
      · rename_i h1 h2
        injection h with h
        exact ⟨x, y, rfl, h.symm, h1, h2⟩
      · cases h
    · cases h
  | (i, x) :: (j, y) :: z :: ps, h =>
    unfold ownTwo at h
    split at h
    · rename_i u v e
      simp at e
    · cases h
theorem buildSlice_ok (hT : TabOK P D tab) (hR : Rel D B E σ H df a w) {m : Nat} (hm : H m = .fresh) {t : TypeId} {len : Nat} {ps : Array (Nat × Operand)} (ho : o.op = .buildSlice t len ps) :
    OutOK P D B σ H df a w o (doBuildSlice D tab t len (zipIx ps.toList ((ps.toList.map (·.2)).map (ev σ))) m) := by
  rw [zipIx_eq]
  unfold doBuildSlice
  cases htab : tab t with
  | none => trivial
  | some i =>
    have ht := hT t i htab
    have heq : (ps.map fun (i, x) => (i, a.eval x)).toList = ps.toList.map fun q => (q.1, a.eval q.2) := by simp
    simp only
    split
    · rename_i e hk
      have hu := slice_of ht hk
      cases hte : tab e with
      | none => trivial
      | some j =>
        simp only
        cases hcode : j.code with
        | none => trivial
        | some u =>
          simp only
          cases hdp : decParts D u 0 (ps.toList.map fun q => (q.1, ev σ q.2)) with
          | none =>
            simp only
            split
            · rename_i hs1
              split
              · rename_i vs hvs
                obtain ⟨ox, oy, hps, rfl, h1, h2⟩ := ownTwo_spec hvs
                have hj := hT e j hte
                obtain ⟨ie, z, f1, f2, f3, f4, f5, f6⟩ := hj.info
                have dx := ev_den hR ox
                have dy := ev_den hR oy
                have cx := cells_one (Den.one_of h1 dx)
                have cy := cells_one (Den.one_of h2 dy)
                have hpa : ps = #[(0, ox), (1, oy)] := by
                  apply Array.ext'
                  simpa using hps
                subst hpa
                have hk := Great.fill_whole (s := 1) (by omega) [a.eval ox, a.eval oy] ((Array.range (2 * 1)).map (z.cells[· % z.cells.size]!)) (by
                  intro v hv
                  rcases List.mem_cons.1 hv with rfl | hv
                  · rw [cx]; rfl
                  · rw [List.mem_singleton.1 hv, cy]; rfl) (by simp)
                have hcl : (([a.eval ox, a.eval oy]).flatMap fun v => v.cells.toList).toArray = #[a.eval ox, a.eval oy] := by simp [cx, cy]
                rw [hcl] at hk
                have hrun : (execOp a.eval o).run P w = .ok (.value (.slice (some ⟨w.heap.size, 0, none⟩) 2 2)) (w.alloc (.cells #[a.eval ox, a.eval oy] e)) := by
                  have hk' : Instr.fill (fun i => some (i * j.size, j.size)) ((Array.range (2 * j.size)).map (z.cells[· % z.cells.size]!)) ((#[(0, ox), (1, oy)] : Array (Nat × Operand)).map fun (i, x) => (i, a.eval x)).toList = some #[a.eval ox, a.eval oy] := by rw [hs1, heq]; exact hk
                  have hsmall : ¬ (2 ^ 24 < 2 * j.size) := by omega
                  have h0 : ¬ (2 * j.size = 0) := by omega
                  simp only [execOp, ho, Instr.buildSlice, run_underlying hu, Sem.run_bind, Result.andThen_ok, run_sizeOf hj, gt_iff_lt, if_neg hsmall, if_neg h0, Sem.run_pure, zeroValue, typeInfo, run_program, f1, f4, hk']
                  simp [newRow]
                refine ⟨_, _, E.up m (.loc w.heap.size), .inl hrun, ?_, ?_⟩
                · rw [upHs_one]
                  refine hR.alloc hm _ e ⟨_, e, ⟨Row.new (heap_alloc_new w _), fun t h => by cases h⟩, ?_⟩
                  refine DenC.mono (later_alloc (fresh_β hR.sat hm) _ hR.sat.F) _ _ ?_
                  rw [DenC_cons (one_notArr h1)]
                  refine ⟨_, _, rfl, Den.one_of h1 dx, dx, ?_⟩
                  rw [DenC_cons (one_notArr h2)]
                  exact ⟨_, _, rfl, Den.one_of h2 dy, dy, by simp [DenC]⟩
                · simp only [Den, Env.up_same]
                  exact .inr ⟨2, _, e, by simp, by omega, Row.new (heap_alloc_new w _), by simp⟩
              · trivial
            · trivial
          | some xs =>
            simp only
            rintro ⟨hlen, h24⟩
            · have hj := hT e j hte
              obtain ⟨g1, g2, g3, g4⟩ := decParts_spec ps.toList 0 xs (fun x => ev_den hR x) hdp
              have hn := hj.code u hcode
              obtain ⟨ie, z, f1, f2, f3, f4, f5, f6⟩ := hj.info
              simp only [List.length_map] at hlen
              have hsmall : ¬ (2 ^ 24 < len * j.size) := by omega
              have key : ∀ (start : Array Value), start.size = len * j.size →
                  Instr.fill (fun i => some (i * j.size, j.size)) start (ps.map fun (i, x) => (i, a.eval x)).toList = some ((ps.toList.map fun q => a.eval q.2).flatMap fun v => v.cells.toList).toArray := fun start hs => by
                rw [heq, g1, show j.size = C.n u from hn.symm]
                exact Great.fill_whole (D.n_pos u) (ps.toList.map fun q => a.eval q.2) start g2 (by simp only [List.length_map]; rw [hlen, hn, hs])
              generalize hcells : ((ps.toList.map fun q => a.eval q.2).flatMap fun v => v.cells.toList).toArray = cells at *
              have hcl : PDenL D w E.F (xs.flatMap (D.enc u)) cells.toList := by rw [← hcells]; simpa using g4
              have hrun : (execOp a.eval o).run P w = .ok (.value (.slice (some ⟨w.heap.size, 0, none⟩) len len)) (w.alloc (.cells cells e)) := by
                by_cases h0 : len * j.size = 0
                · have hl0 : len = 0 := by
                    rcases Nat.eq_zero_or_pos len with h | h
                    · exact h
                    · have := Nat.mul_pos h hj.pos; omega
                  have hps0 : ps.toList = [] := List.eq_nil_of_length_eq_zero (by rw [hlen, hl0])
                  have hps1 : ps = #[] := by simpa using hps0
                  subst hl0
                  subst hps1
                  have hc0 : cells = #[] := by rw [← hcells]; rfl
                  subst hc0
                  simp [execOp, ho, Instr.buildSlice, run_underlying hu, run_sizeOf hj, newRow, Instr.fill]
                  rw [show (Array.map (fun _ => (default : Value)) (Array.range 0)) = #[] from Array.eq_empty_of_size_eq_zero (by simp)]
                · have hk := key ((Array.range (len * j.size)).map (z.cells[· % z.cells.size]!)) (by simp)
                  simp only [execOp, ho, Instr.buildSlice, run_underlying hu, Sem.run_bind, Result.andThen_ok, run_sizeOf hj, gt_iff_lt, if_neg hsmall, if_neg h0, Sem.run_pure, zeroValue, typeInfo, run_program, f1, f4, hk]
                  simp [newRow]
              refine ⟨_, _, E.up m (.loc w.heap.size), .inl hrun, ?_, ?_⟩
              · rw [upHs_one]
                refine hR.alloc hm cells e ⟨cells, e, ⟨Row.new (heap_alloc_new w _), fun t h => (hj.ctype u t hcode h).symm⟩, ?_, ?_⟩
                · rw [← Array.length_toList, ← hcl.1, flatMap_length]; exact Nat.le_refl _
                · rw [List.take_of_length_le (by rw [← hcl.1, flatMap_length]; exact Nat.le_refl _)]
                  exact hcl.mono (later_alloc (fresh_β hR.sat hm) _ hR.sat.F).F
              · simp only [Den, Env.up_same]
                refine .inr ⟨len, cells, e, by simp, Nat.le_refl _, Row.new (heap_alloc_new w _), ?_⟩
                rw [← Array.length_toList, ← hcl.1, flatMap_length, g3, hlen, hn]
                simp
    · trivial

end
end Go.SX
